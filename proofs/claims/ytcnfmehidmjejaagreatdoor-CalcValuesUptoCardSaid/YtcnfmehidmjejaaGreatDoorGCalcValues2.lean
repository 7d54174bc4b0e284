/- Printed by a program of mine (bgen.py): plain functions, and the walks that show that the code comes to what they answer. -/
import Derived.Test.YtcnfmehidmjejaaGreatDoorGCalcValues1
namespace Go.Proofs.YtcnfmehidmjejaaGreatDoorBv
open Go
set_option linter.unusedVariables false
set_option linter.unusedSimpArgs false
set_option maxRecDepth 100000
def a21_c1 : ACode := (sr [(mV 32 5), (oP 33 (.faddr 1 (.tmp 1))), (oP 34 (.load false 1 (.tmp 33))), (oP 35 (.bin .add (.tmp 32) (.tmp 34))), (mV 2 35)]
 .ret)
def a21_c0 : ACode := (sr [(mV 15 4), (mV 16 3), (oP 17 (.bin .quo (.tmp 16) (kI 1000))), (oP 18 (.call 40 [(.tmp 17)])), (oP 19 (.bin .add (.tmp 15) (.tmp 18))), (mV 5 19)]
 (.seq (sr [(mV 20 3), (oP 21 (.bin .rem (.tmp 20) (kI 1000))), (oP 22 (.bin .add (kI 1000) (.tmp 21))), (oP 23 (.call 40 [(.tmp 22)])), (oP 24 (.slStr (.tmp 23) (some (kI 1)) none)), (oP 25 (.call 41 [(.tmp 24), (.const (.c (.str [48])))])), (mV 6 25)]
 (sr [(mV 26 6), (oP 27 (.bin .neq (.tmp 26) (.const (.c (.str [])))))]
 (.cond (.tmp 27) (.region [(mV 28 5), (mV 29 6), (oP 30 (.bin .add (.const (.c (.str [46]))) (.tmp 29))), (oP 31 (.bin .add (.tmp 28) (.tmp 30))), (mV 5 31)]) .skip)))
 a21_c1))
def a21 : AFunc := ⟨1, [(.tmp 2)], (sr [(oP 1 (.box (.tmp 0))), (oP 2 (.mov (.const (.c (.str [])))))]
 (sr [(oP 7 (.faddr 0 (.tmp 1))), (oP 8 (.load false 1 (.tmp 7))), (oP 9 (.mm true [(.tmp 8), (.const (.c (.val (.int .i64 (-1000000000)))))])), (oP 10 (.mm false [(.tmp 9), (kI 1000000000)])), (mV 3 10)]
 (sr [(oP 4 (.mov (.const (.c (.str [])))))]
 (.seq (sr [(mV 11 3), (oP 12 (.bin .lss (.tmp 11) (kI 0)))]
 (.cond (.tmp 12) (.region [(mV 13 3), (oP 14 (.un .neg (.tmp 13))), (oP 4 (.mov (.const (.c (.str [45]))))), (mV 3 14)]) .skip))
 a21_c0))))⟩
theorem c21 : compFunc Tryz.prog 21 = some a21 := by kernel_rfl
def Z5k (r : Tx) : AV → Heap → Nat → Prop := fun v h' n' => v = (S r) ∧ (h' = e0) ∧ n' = 0
noncomputable def Z41 (d_ : TSDim) (s_ : Tx) : Option Tx :=
 (cat? s_ d_.Unit).bind fun r_2 =>
 some r_2
theorem Z7i {mL : Int} {d_ : TSDim} {s_ : Tx} {o : Tx} (h : Z41 d_ s_ = some o) :
  Sv Tryz.prog (GG mL) 0 a21_c1 (Ends a21.results 0 (Z5k o)) ⟨(ue [(5, (S s_)), (1, (.c (.ref 0 2 0 0)))]), (upd e0 0 (some (.cells 2 [(e_TSDim d_)]))), 1⟩ := by
 unfold Z41 at h
 refine ssr <| un1 rfl <| un1 (v := (.c (.ref 0 2 0 1))) rfl <| un1 (v := (S d_.Unit)) rfl ?_
 obtain ⟨r_2, hx2, h⟩ := bnd h
 refine un1 (v := (S r_2)) (s_cat rfl rfl hx2) <| un1 rfl <| dnil <| Sv.ret ?_
 exact rt0 h rfl rfl ⟨rfl, rfl, rfl⟩
noncomputable def Z42 (d_ : TSDim) (n_ : Int) (sign : Tx) : Option Tx :=
 (Z5j (wi (n_.tdiv 1000))).bind fun r_ =>
 (cat? sign r_).bind fun r_1 =>
 (Z5j (wi (1000 + (n_.tmod 1000)))).bind fun r_3 =>
 (sub? r_3 1 (r_3.length : Int)).bind fun r_4 =>
 (Z7h r_4 [48]).bind fun r_5 =>
 if (!decide (r_5 = [])) then
  (cat? [46] r_5).bind fun r_6 =>
  (cat? r_1 r_6).bind fun r_7 =>
  Z41 d_ r_7
 else
  Z41 d_ r_1
theorem Z7j {mL : Int} {d_ : TSDim} {n_ : Int} {sign : Tx} {o : Tx} (h : Z42 d_ n_ sign = some o) :
  Sv Tryz.prog (GG mL) 0 a21_c0 (Ends a21.results 0 (Z5k o)) ⟨(ue [(4, (S sign)), (3, (I n_)), (1, (.c (.ref 0 2 0 0)))]), (upd e0 0 (some (.cells 2 [(e_TSDim d_)]))), 1⟩ := by
 unfold Z42 at h
 refine ssr <| un1 rfl <| un1 rfl <| un1 (v := (I (wi (n_.tdiv 1000)))) rfl ?_
 obtain ⟨r_, hr1, h⟩ := bnd h
 refine un <| ac_pure (Z7g hr1) rfl rfl rfl ?_
 obtain ⟨r_1, hx1, h⟩ := bnd h
 refine un1 (v := (S r_1)) (s_cat rfl rfl hx1) <| un1 rfl <| dnil <| Sv.seq <| ssr <| un1 rfl <| un1 (v := (I (n_.tmod 1000))) rfl <| un1 (v := (I (wi (1000 + (n_.tmod 1000))))) rfl ?_
 obtain ⟨r_3, hr2, h⟩ := bnd h
 refine un <| ac_pure (Z7g hr2) rfl rfl rfl ?_
 obtain ⟨r_4, hx3, h⟩ := bnd h
 refine un1 (v := (S r_4)) (s_slStr rfl rfl rfl hx3) ?_
 obtain ⟨r_5, hr3, h⟩ := bnd h
 refine un <| ac_pure (Zag hr3) rfl rfl rfl <| un1 rfl <| dnil <| ssr <| un1 rfl <| un1 (v := (B (!decide (r_5 = [])))) rfl <| dnil ?_
 refine Sv.cnd rfl h (fun h => ?_) fun h => ?_
 ·refine srg <| un1 rfl <| un1 rfl ?_
  obtain ⟨r_6, hx4, h⟩ := bnd h
  refine un1 (v := (S r_6)) (s_cat rfl rfl hx4) ?_
  obtain ⟨r_7, hx5, h⟩ := bnd h
  refine un1 (v := (S r_7)) (s_cat rfl rfl hx5) <| un1 rfl <| dnil ?_
  exact Sv.weak (wcn [0] rfl (.cf rfl rfl (.cr rfl rfl rfl .nil)) (.box (by decide) rfl (blkAs_cells (.sm rfl (.sm rfl .nil))) .nil)) (Z7i h)
 ·refine Sv.skip ?_
  exact Sv.weak (wcn [0] rfl (.cf rfl rfl (.cr rfl rfl rfl .nil)) (.box (by decide) rfl (blkAs_cells (.sm rfl (.sm rfl .nil))) .nil)) (Z7i h)
/-- clerestory/dim.Text -/
noncomputable def Z5l (d_ : TSDim) : Option Tx :=
 if decide ((mn (mx d_.Num (-1000000000)) 1000000000) < 0) then
  Z42 d_ (wi (0 - (mn (mx d_.Num (-1000000000)) 1000000000))) [45]
 else
  Z42 d_ (mn (mx d_.Num (-1000000000)) 1000000000) []
theorem Zah {mL : Int} {d_ : TSDim} {r : Tx} (h : Z5l d_ = some r) : CPure Tryz.prog (GG mL) 21 [(.agg (e_TSDim d_))] (S r) := by
 refine acalls_of_sv hmix c21 (R := Z5k r) ?_
 unfold Z5l at h
 refine ssr <| un <| a2v (v := (.c (.ref 0 2 0 0))) (h' := upd _ 0 (some (.cells 2 [(e_TSDim d_)]))) (n' := 1) rfl rfl hcs <| un1 rfl <| dnil <| ssr <| un1 (v := (.c (.ref 0 2 0 0))) rfl <| un1 (v := (I d_.Num)) rfl <| un1 (v := (I (mx d_.Num (-1000000000)))) (s_mx rfl rfl) <| un1 (v := (I (mn (mx d_.Num (-1000000000)) 1000000000))) (s_mn rfl rfl) <| un1 rfl <| dnil <| ssr <| un1 rfl <| dnil <| Sv.seq <| ssr <| un1 rfl <| un1 (v := (B (decide ((mn (mx d_.Num (-1000000000)) 1000000000) < 0)))) rfl <| dnil ?_
 refine Sv.cnd rfl h (fun h => ?_) fun h => ?_
 ·refine srg <| un1 rfl <| un1 (v := (I (wi (0 - (mn (mx d_.Num (-1000000000)) 1000000000))))) rfl <| un1 rfl <| un1 rfl <| dnil ?_
  exact Sv.weak (wcn [0] rfl (.cf rfl rfl (.cf rfl rfl (.cr rfl rfl rfl .nil))) (.box (by decide) rfl (blkAs_cells (.sm rfl (.sm rfl .nil))) .nil)) (Z7j h)
 ·refine Sv.skip ?_
  exact Sv.weak (wcn [0] rfl (.cf rfl rfl (.cf rfl rfl (.cr rfl rfl rfl .nil))) (.box (by decide) rfl (blkAs_cells (.sm rfl (.sm rfl .nil))) .nil)) (Z7j h)
def a22 : AFunc := ⟨1, [(.tmp 2)], (sr [(oP 2 (.mov (.const (.c (.str [])))))]
 (.seq (sr [(mV 3 0)]
 (.block 0 (sr [(oP 5 (.bin .eql (.tmp 3) (kI 6))), (mV 4 5)]
 (.cond (.tmp 4) (sr [(oP 2 (.mov (.const (.c (.str [109, 105, 110])))))]
 .ret) (sr [(oP 7 (.bin .eql (.tmp 3) (kI 7))), (mV 6 7)]
 (.cond (.tmp 6) (sr [(oP 2 (.mov (.const (.c (.str [109, 97, 120])))))]
 .ret) (sr [(oP 9 (.bin .eql (.tmp 3) (kI 8))), (mV 8 9)]
 (.cond (.tmp 8) (sr [(oP 2 (.mov (.const (.c (.str [99, 108, 97, 109, 112])))))]
 .ret) .skip))))))))
 (sr [(oP 2 (.mov (.const (.c (.str [])))))]
 .ret)))⟩
theorem c22 : compFunc Tryz.prog 22 = some a22 := by kernel_rfl
def Zai (r : Tx) : AV → Heap → Nat → Prop := fun v h' n' => v = (S r) ∧ (h' = e0) ∧ n' = 0
/-- clerestory/calc.word -/
def Z43 (kind : Int) : Tx :=
 if decide (kind = 6) then
  [109, 105, 110]
 else
  if decide (kind = 7) then
   [109, 97, 120]
  else
   if decide (kind = 8) then
    [99, 108, 97, 109, 112]
   else
    []
theorem Zaj {mL : Int} (kind : Int) : CPure Tryz.prog (GG mL) 22 [(I kind)] (S (Z43 kind)) := by
 generalize h : Z43 kind = o
 refine acalls_of_sv hmix c22 (R := Zai o) ?_
 unfold Z43 at h
 refine ssr <| un1 rfl <| dnil <| Sv.seq <| ssr <| un1 rfl <| dnil <| Sv.block <| ssr <| un1 (v := (B (decide (kind = 6)))) rfl <| un1 rfl <| dnil ?_
 refine Sv.cnd rfl h (fun h => ?_) fun h => ?_
 ·refine ssr <| un1 rfl <| dnil <| Sv.ret ?_
  subst h
  exact ⟨_, .refl _, _, rfl, ⟨upd e0 0 (some (S [109, 105, 110])), e0, 0⟩, (S [109, 105, 110]), weak_canon [] rfl ndl nll nlz (.cf rfl rfl .nil) .nil, rfl, rfl, rfl, rfl⟩
 ·refine ssr <| un1 (v := (B (decide (kind = 7)))) rfl <| un1 rfl <| dnil ?_
  refine Sv.cnd rfl h (fun h => ?_) fun h => ?_
  ·refine ssr <| un1 rfl <| dnil <| Sv.ret ?_
   subst h
   exact ⟨_, .refl _, _, rfl, ⟨upd e0 0 (some (S [109, 97, 120])), e0, 0⟩, (S [109, 97, 120]), weak_canon [] rfl ndl nll nlz (.cf rfl rfl .nil) .nil, rfl, rfl, rfl, rfl⟩
  ·refine ssr <| un1 (v := (B (decide (kind = 8)))) rfl <| un1 rfl <| dnil ?_
   refine Sv.cnd rfl h (fun h => ?_) fun h => ?_
   ·refine ssr <| un1 rfl <| dnil <| Sv.ret ?_
    subst h
    exact ⟨_, .refl _, _, rfl, ⟨upd e0 0 (some (S [99, 108, 97, 109, 112])), e0, 0⟩, (S [99, 108, 97, 109, 112]), weak_canon [] rfl ndl nll nlz (.cf rfl rfl .nil) .nil, rfl, rfl, rfl, rfl⟩
   ·refine Sv.skip <| ssr <| un1 rfl <| dnil <| Sv.ret ?_
    subst h
    exact ⟨_, .refl _, _, rfl, ⟨upd e0 0 (some (S [])), e0, 0⟩, (S []), weak_canon [] rfl ndl nll nlz (.cf rfl rfl .nil) .nil, rfl, rfl, rfl, rfl⟩
def a24 : AFunc := ⟨1, [(.tmp 2)], (sr [(oP 2 (.mov (.const (.c (.str [])))))]
 (.seq (sr [(mV 3 0)]
 (.block 0 (sr [(oP 5 (.bin .eql (.tmp 3) (kI 2))), (mV 4 5)]
 (.cond (.tmp 4) (sr [(oP 2 (.mov (.const (.c (.str [32, 43, 32])))))]
 .ret) (sr [(oP 7 (.bin .eql (.tmp 3) (kI 3))), (mV 6 7)]
 (.cond (.tmp 6) (sr [(oP 2 (.mov (.const (.c (.str [32, 45, 32])))))]
 .ret) (sr [(oP 9 (.bin .eql (.tmp 3) (kI 4))), (mV 8 9)]
 (.cond (.tmp 8) (sr [(oP 2 (.mov (.const (.c (.str [32, 42, 32])))))]
 .ret) (sr [(oP 11 (.bin .eql (.tmp 3) (kI 5))), (mV 10 11)]
 (.cond (.tmp 10) (sr [(oP 2 (.mov (.const (.c (.str [32, 47, 32])))))]
 .ret) .skip))))))))))
 (sr [(oP 2 (.mov (.const (.c (.str [44, 32])))))]
 .ret)))⟩
theorem c24 : compFunc Tryz.prog 24 = some a24 := by kernel_rfl
def Zak (r : Tx) : AV → Heap → Nat → Prop := fun v h' n' => v = (S r) ∧ (h' = e0) ∧ n' = 0
/-- clerestory/calc.sign -/
def Z44 (kind : Int) : Tx :=
 if decide (kind = 2) then
  [32, 43, 32]
 else
  if decide (kind = 3) then
   [32, 45, 32]
  else
   if decide (kind = 4) then
    [32, 42, 32]
   else
    if decide (kind = 5) then
     [32, 47, 32]
    else
     [44, 32]
theorem Zal {mL : Int} (kind : Int) : CPure Tryz.prog (GG mL) 24 [(I kind)] (S (Z44 kind)) := by
 generalize h : Z44 kind = o
 refine acalls_of_sv hmix c24 (R := Zak o) ?_
 unfold Z44 at h
 refine ssr <| un1 rfl <| dnil <| Sv.seq <| ssr <| un1 rfl <| dnil <| Sv.block <| ssr <| un1 (v := (B (decide (kind = 2)))) rfl <| un1 rfl <| dnil ?_
 refine Sv.cnd rfl h (fun h => ?_) fun h => ?_
 ·refine ssr <| un1 rfl <| dnil <| Sv.ret ?_
  subst h
  exact ⟨_, .refl _, _, rfl, ⟨upd e0 0 (some (S [32, 43, 32])), e0, 0⟩, (S [32, 43, 32]), weak_canon [] rfl ndl nll nlz (.cf rfl rfl .nil) .nil, rfl, rfl, rfl, rfl⟩
 ·refine ssr <| un1 (v := (B (decide (kind = 3)))) rfl <| un1 rfl <| dnil ?_
  refine Sv.cnd rfl h (fun h => ?_) fun h => ?_
  ·refine ssr <| un1 rfl <| dnil <| Sv.ret ?_
   subst h
   exact ⟨_, .refl _, _, rfl, ⟨upd e0 0 (some (S [32, 45, 32])), e0, 0⟩, (S [32, 45, 32]), weak_canon [] rfl ndl nll nlz (.cf rfl rfl .nil) .nil, rfl, rfl, rfl, rfl⟩
  ·refine ssr <| un1 (v := (B (decide (kind = 4)))) rfl <| un1 rfl <| dnil ?_
   refine Sv.cnd rfl h (fun h => ?_) fun h => ?_
   ·refine ssr <| un1 rfl <| dnil <| Sv.ret ?_
    subst h
    exact ⟨_, .refl _, _, rfl, ⟨upd e0 0 (some (S [32, 42, 32])), e0, 0⟩, (S [32, 42, 32]), weak_canon [] rfl ndl nll nlz (.cf rfl rfl .nil) .nil, rfl, rfl, rfl, rfl⟩
   ·refine ssr <| un1 (v := (B (decide (kind = 5)))) rfl <| un1 rfl <| dnil ?_
    refine Sv.cnd rfl h (fun h => ?_) fun h => ?_
    ·refine ssr <| un1 rfl <| dnil <| Sv.ret ?_
     subst h
     exact ⟨_, .refl _, _, rfl, ⟨upd e0 0 (some (S [32, 47, 32])), e0, 0⟩, (S [32, 47, 32]), weak_canon [] rfl ndl nll nlz (.cf rfl rfl .nil) .nil, rfl, rfl, rfl, rfl⟩
    ·refine Sv.skip <| ssr <| un1 rfl <| dnil <| Sv.ret ?_
     subst h
     exact ⟨_, .refl _, _, rfl, ⟨upd e0 0 (some (S [44, 32])), e0, 0⟩, (S [44, 32]), weak_canon [] rfl ndl nll nlz (.cf rfl rfl .nil) .nil, rfl, rfl, rfl, rfl⟩
noncomputable abbrev Z7k (l : List UInt8) (x0 : Int) : Option Tx := bGrow? x0
/-- (*strings.Builder).Grow, by my own walk of it -/
theorem Zam {mL : Int} {z : Bool} {l : List UInt8} {x0 : Int} {r : List UInt8} (hz : z = true → l = []) (h : Z7k l x0 = some r) : ACalls Tryz.prog (GG mL) 42 [.c (.ref 0 2 0 0), (I x0)] (bldH 80 5 true []) 2 (bPost 80 5 (.tup []) r) := bGrow_ok blays bL4 b165 h
noncomputable abbrev Z45 (l : List UInt8) (x0 : Tx) : Option Tx := bWriteString? l x0
/-- (*strings.Builder).WriteString, by my own walk of it -/
theorem Z5m {mL : Int} {z : Bool} {l : List UInt8} {x0 : Tx} {r : List UInt8} (hz : z = true → l = []) (h : Z45 l x0 = some r) : ACalls Tryz.prog (GG mL) 43 [.c (.ref 0 2 0 0), (S x0)] (bldH 80 5 z l) 2 (bPost 80 5 (.tup [.c (.val (.int .i64 (x0.length : Int))), .c (.val .nilIface)]) r) := bWriteString_ok blays b166 hz h
def a23_c1 : ACode := (sr [(oP 42 (.bin .lss (.tmp 41) (.tmp 40)))]
 (.seq (.cond (.tmp 42) .skip (.exit 1))
 (.seq (.block 2 (sr [(oP 43 (.iaddr 1 (.tmp 39) (.tmp 41))), (oP 44 (.load false 1 (.tmp 43))), (mV 7 44)]
 (.seq (sr [(mV 45 7), (oP 46 (.lenS (.tmp 45))), (mV 47 5), (oP 48 (.bin .sub (kI 9223372036854775807) (.tmp 47))), (oP 49 (.bin .gtr (.tmp 46) (.tmp 48)))]
 (.cond (.tmp 49) (.region [⟨(some 50), .mkif, none⟩, ⟨none, .bad, none⟩]) .skip))
 (.region [(mV 51 5), (mV 52 7), (oP 53 (.lenS (.tmp 52))), (oP 54 (.bin .add (.tmp 51) (.tmp 53))), (mV 5 54)]))))
 (.region [(oP 55 (.bin .add (.tmp 41) (kI 1))), (mV 41 55)]))))
def a23_c2 : ACode := (sr [(oP 66 (.bin .lss (.tmp 65) (.tmp 64)))]
 (.seq (.cond (.tmp 66) .skip (.exit 3))
 (.seq (.block 4 (sr [(oP 67 (.iaddr 1 (.tmp 63) (.tmp 65))), (oP 68 (.load false 1 (.tmp 67))), (mV 10 68)]
 (sr [(mV 69 1), (oP 70 (.call 43 [(.tmp 8), (.tmp 69)]))]
 (.region [(mV 71 10), (oP 72 (.call 43 [(.tmp 8), (.tmp 71)]))]))))
 (.region [(oP 73 (.bin .add (.tmp 65) (kI 1))), (mV 65 73)]))))
def a23_c0 : ACode := (.seq (sr [(mV 39 0), (oP 40 (.len (.tmp 39))), (oP 41 (.mov (kI 0)))]
 (.block 1 (.loop a23_c1)))
 (sr [(oP 8 (.boxB 80))]
 (sr [(mV 56 5), (oP 57 (.call 42 [(.tmp 8), (.tmp 56)]))]
 (sr [(mV 58 0), (oP 59 (.iaddr 1 (.tmp 58) (kI 0))), (oP 60 (.load false 1 (.tmp 59))), (oP 61 (.call 43 [(.tmp 8), (.tmp 60)]))]
 (.seq (sr [(mV 62 0), (oP 63 (.slSl 1 (.tmp 62) (some (kI 1)) none none)), (oP 64 (.len (.tmp 63))), (oP 65 (.mov (kI 0)))]
 (.block 3 (.loop a23_c2)))
 (sr [(oP 74 (.call 44 [(.tmp 8)])), (mV 4 74)]
 .ret))))))
def a23 : AFunc := ⟨2, [(.tmp 4)], (sr [(oP 4 (.mov (.const (.c (.str [])))))]
 (.seq (sr [(mV 11 0), (oP 12 (.len (.tmp 11)))]
 (.block 0 (sr [(oP 14 (.bin .eql (.tmp 12) (kI 0))), (mV 13 14)]
 (.cond (.tmp 13) (sr [(oP 4 (.mov (.const (.c (.str [])))))]
 .ret) (sr [(oP 16 (.bin .eql (.tmp 12) (kI 1))), (mV 15 16)]
 (.cond (.tmp 15) (sr [(mV 17 0), (oP 18 (.iaddr 1 (.tmp 17) (kI 0))), (oP 19 (.load false 1 (.tmp 18))), (mV 4 19)]
 .ret) .skip))))))
 (sr [(oP 5 (.mov (kI 0)))]
 (.seq (sr [(mV 20 1), (oP 21 (.lenS (.tmp 20))), (oP 22 (.bin .gtr (.tmp 21) (kI 0)))]
 (.cond (.tmp 22) (.seq (sr [(mV 23 1), (oP 24 (.lenS (.tmp 23))), (mV 25 0), (oP 26 (.len (.tmp 25))), (oP 27 (.bin .sub (.tmp 26) (kI 1))), (oP 28 (.bin .quo (kI 9223372036854775807) (.tmp 27))), (oP 29 (.bin .geq (.tmp 24) (.tmp 28)))]
 (.cond (.tmp 29) (.region [⟨(some 30), .mkif, none⟩, ⟨none, .bad, none⟩]) .skip))
 (.region [(mV 31 5), (mV 32 1), (oP 33 (.lenS (.tmp 32))), (mV 34 0), (oP 35 (.len (.tmp 34))), (oP 36 (.bin .sub (.tmp 35) (kI 1))), (oP 37 (.bin .mul (.tmp 33) (.tmp 36))), (oP 38 (.bin .add (.tmp 31) (.tmp 37))), (mV 5 38)])) .skip))
 a23_c0))))⟩
theorem c23 : compFunc Tryz.prog 23 = some a23 := by kernel_rfl
def Z46 (r : Tx) : AV → Heap → Nat → Prop := fun v h' n' => v = (S r) ∧ (h' = e0) ∧ n' = 0
abbrev Zan (elems : TT) (sep : Tx) (F_ : Int → Option Tx) (o : Tx) (R_ : St → Prop) : Prop := ∀ (n_2 : Int), F_ n_2 = some o → ∀ s, Weak 0 s ⟨(ue [(5, (I n_2)), (1, (S sep)), (0, (.c (.ro false 1 (elems.map eStr))))]), e0, 0⟩ → R_ s
abbrev Z7l (elems : TT) (sep : Tx) (F_ : Nat → Int → Int → Option Tx) (o : Tx) : Nat → St → Prop := fun k s => ∃ (n_1 : Int), ∃ (v41 : Int), F_ k n_1 v41 = some o ∧ s = ⟨(ue [(41, (I v41)), (40, (I (elems.length : Int))), (39, (.c (.ro false 1 (elems.map eStr)))), (5, (I n_1)), (1, (S sep)), (0, (.c (.ro false 1 (elems.map eStr))))]), e0, 0⟩
abbrev Zao (elems : TT) (sep : Tx) (F_ : Int → Int → Option Tx) (o : Tx) (R_ : St → Prop) : Prop := ∀ (n_1 : Int) (v41 : Int), F_ n_1 v41 = some o → ∀ s, Weak 0 s ⟨(ue [(41, (I v41)), (40, (I (elems.length : Int))), (39, (.c (.ro false 1 (elems.map eStr)))), (5, (I n_1)), (1, (S sep)), (0, (.c (.ro false 1 (elems.map eStr))))]), e0, 0⟩ → R_ s
noncomputable def Z1f (elems : TT) (sep : Tx) (K1_ : Int → Option Tx) : Nat → Int → Int → Option Tx
 | 0, _, _ => none
 | k + 1, n_1, v41 =>
  if decide (v41 < (elems.length : Int)) then
   (at? elems v41).bind fun x_1 =>
   if decide ((wi (9223372036854775807 - n_1)) < (x_1.length : Int)) then
    none
   else
    (Z1f elems sep K1_ k) (wi (n_1 + (x_1.length : Int))) (wi (v41 + 1))
  else
   K1_ n_1
theorem Zap {mL : Int} {Q : AExit → St → Prop} {elems : TT} {sep : Tx} {K1_ : Int → Option Tx} {k : Nat} {n_1 : Int} {v41 : Int} {o : Tx} (h : Z1f elems sep K1_ k n_1 v41 = some o)
  (hK1 : Zan elems sep K1_ o (Q (.exit 1)))
  (hr : ∀ s, Ends a23.results 0 (Z46 o) .ret s → Q .ret s) :
  Sv Tryz.prog (GG mL) 0 (.loop a23_c1) Q ⟨(ue [(41, (I v41)), (40, (I (elems.length : Int))), (39, (.c (.ro false 1 (elems.map eStr)))), (5, (I n_1)), (1, (S sep)), (0, (.c (.ro false 1 (elems.map eStr))))]), e0, 0⟩ := by
 refine Sv.loop (I := Z7l elems sep (Z1f elems sep K1_) o) (fun k s hI => ?_) ⟨n_1, v41, h, rfl⟩
 clear h
 clear v41 n_1
 obtain ⟨n_1, v41, h, rfl⟩ := hI
 cases k with
 | zero => cases h
 | succ k =>
 rw [Z1f] at h
 have hself : Zao elems sep (Z1f elems sep K1_ k) o (rnd 0 (Z7l elems sep (Z1f elems sep K1_) o) k Q) := fun n_1 v41 h s hw => ⟨_, k, hw, Nat.lt_succ_self k, n_1, v41, h, rfl⟩
 refine ssr <| un1 (v := (B (decide (v41 < (elems.length : Int))))) rfl <| dnil <| Sv.seq ?_
 refine Sv.cnd rfl h (fun h => ?_) fun h => ?_
 ·refine Sv.skip <| Sv.seq <| Sv.block <| ssr ?_
  obtain ⟨x_1, hx2, h⟩ := bnd h
  refine un1 (v := (.c (.rop [.str x_1]))) (s_iaddr (e := eStr) (xs := elems) rfl rfl hx2) <| un1 (v := (S x_1)) rfl <| un1 rfl <| dnil <| Sv.seq <| ssr <| un1 rfl <| un1 (v := (I (x_1.length : Int))) rfl <| un1 rfl <| un1 (v := (I (wi (9223372036854775807 - n_1)))) rfl <| un1 (v := (B (decide ((wi (9223372036854775807 - n_1)) < (x_1.length : Int))))) rfl <| dnil ?_
  refine Sv.cnd rfl h (fun h => ?_) fun h => ?_
  ·refine srg <| un1 (v := (.c (.opq))) rfl ?_
   cases h
  ·refine Sv.skip <| srg <| un1 rfl <| un1 rfl <| un1 (v := (I (x_1.length : Int))) rfl <| un1 (v := (I (wi (n_1 + (x_1.length : Int))))) rfl <| un1 rfl <| dnil <| srg <| un1 (v := (I (wi (v41 + 1)))) rfl <| un1 rfl <| dnil ?_
   exact hself (wi (n_1 + (x_1.length : Int))) (wi (v41 + 1)) h _ (wcn [] rfl (.cf rfl rfl (.cf rfl rfl (.cf rfl rfl (.cf rfl rfl (.cf rfl rfl (.cf rfl rfl .nil)))))) .nil)
 ·refine Sv.exit ?_
  exact hK1 n_1 h _ (wcn [] rfl (.cf rfl rfl (.cf rfl rfl (.cf rfl rfl .nil))) .nil)
abbrev Zaq (F_ : Tx → Option Tx) (o : Tx) (R_ : St → Prop) : Prop := ∀ (b_1 : Tx) (zb_1 : Bool) (_ : zb_1 = true → b_1 = []), F_ b_1 = some o → ∀ s, Weak 0 s ⟨(upd e0 8 (some (.c (.ref 0 2 0 0)))), (upd (upd e0 0 (some (.bld 80 zb_1 1 b_1.length))) 1 (bufB zb_1 5 b_1)), 2⟩ → R_ s
abbrev Z7m (sep : Tx) (r_2 : TT) (F_ : Nat → Tx → Int → Option Tx) (o : Tx) : Nat → St → Prop := fun k s => ∃ (b_ : Tx), ∃ (v65 : Int), ∃ (zb : Bool), (zb = true → b_ = []) ∧ F_ k b_ v65 = some o ∧ s = ⟨(ue [(65, (I v65)), (64, (I (r_2.length : Int))), (63, (.c (.ro false 1 (r_2.map eStr)))), (8, (.c (.ref 0 2 0 0))), (1, (S sep))]), (upd (upd e0 0 (some (.bld 80 zb 1 b_.length))) 1 (bufB zb 5 b_)), 2⟩
abbrev Zar (sep : Tx) (r_2 : TT) (F_ : Tx → Int → Option Tx) (o : Tx) (R_ : St → Prop) : Prop := ∀ (b_ : Tx) (v65 : Int) (zb : Bool) (_ : zb = true → b_ = []), F_ b_ v65 = some o → ∀ s, Weak 0 s ⟨(ue [(65, (I v65)), (64, (I (r_2.length : Int))), (63, (.c (.ro false 1 (r_2.map eStr)))), (8, (.c (.ref 0 2 0 0))), (1, (S sep))]), (upd (upd e0 0 (some (.bld 80 zb 1 b_.length))) 1 (bufB zb 5 b_)), 2⟩ → R_ s
noncomputable def Z1g (r_2 : TT) (sep : Tx) (K3_ : Tx → Option Tx) : Nat → Tx → Int → Option Tx
 | 0, _, _ => none
 | k + 1, b_, v65 =>
  if decide (v65 < (r_2.length : Int)) then
   (at? r_2 v65).bind fun x_3 =>
   (Z45 b_ sep).bind fun r_3 =>
   (Z45 r_3 x_3).bind fun r_4 =>
   (Z1g r_2 sep K3_ k) r_4 (wi (v65 + 1))
  else
   K3_ b_
theorem Zas {mL : Int} {Q : AExit → St → Prop} {r_2 : TT} {sep : Tx} {K3_ : Tx → Option Tx} {k : Nat} {b_ : Tx} {v65 : Int} {zb : Bool} (hzb : zb = true → b_ = []) {o : Tx} (h : Z1g r_2 sep K3_ k b_ v65 = some o)
  (hK3 : Zaq K3_ o (Q (.exit 3)))
  (hr : ∀ s, Ends a23.results 0 (Z46 o) .ret s → Q .ret s) :
  Sv Tryz.prog (GG mL) 0 (.loop a23_c2) Q ⟨(ue [(65, (I v65)), (64, (I (r_2.length : Int))), (63, (.c (.ro false 1 (r_2.map eStr)))), (8, (.c (.ref 0 2 0 0))), (1, (S sep))]), (upd (upd e0 0 (some (.bld 80 zb 1 b_.length))) 1 (bufB zb 5 b_)), 2⟩ := by
 refine Sv.loop (I := Z7m sep r_2 (Z1g r_2 sep K3_) o) (fun k s hI => ?_) ⟨b_, v65, zb, hzb, h, rfl⟩
 clear h
 clear hzb zb v65 b_
 obtain ⟨b_, v65, zb, hzb, h, rfl⟩ := hI
 cases k with
 | zero => cases h
 | succ k =>
 rw [Z1g] at h
 have hself : Zar sep r_2 (Z1g r_2 sep K3_ k) o (rnd 0 (Z7m sep r_2 (Z1g r_2 sep K3_) o) k Q) := fun b_ v65 zb hzb h s hw => ⟨_, k, hw, Nat.lt_succ_self k, b_, v65, zb, hzb, h, rfl⟩
 refine ssr <| un1 (v := (B (decide (v65 < (r_2.length : Int))))) rfl <| dnil <| Sv.seq ?_
 refine Sv.cnd rfl h (fun h => ?_) fun h => ?_
 ·refine Sv.skip <| Sv.seq <| Sv.block <| ssr ?_
  obtain ⟨x_3, hx5, h⟩ := bnd h
  refine un1 (v := (.c (.rop [.str x_3]))) (s_iaddr (e := eStr) (xs := r_2) rfl rfl hx5) <| un1 (v := (S x_3)) rfl <| un1 rfl <| dnil <| ssr <| un1 rfl ?_
  obtain ⟨r_3, hr3, h⟩ := bnd h
  refine un <| ac_gen (bs := [0, 1]) («as» := [(.c (.ref 0 2 0 0)), (S sep)]) (h2 := _) (h1 := (upd (upd e0 0 (some (.bld 80 zb 1 b_.length))) 1 (bufB zb 5 b_))) (Z5m (z := zb) (l := b_) hzb hr3) rfl (.cons (.c (.ref rfl (by decide))) (.cons (avAs_free rfl) .nil)) (hsub_refl _) (.cons rfl (.cons rfl (.nil _))) hcs (by decide) (by decide) (.cons (.c (.ref rfl (by decide))) (.cons (avAs_free rfl) .nil)) (.buf (by decide) rfl (.box (by decide) rfl (.bld rfl (by decide)) .nil)) ?_
  rintro _ _ _ hn ⟨z_2, hz_2, rfl, rfl, rfl⟩
  refine ⟨.inl rfl, (upd (upd (rem [0, 1] _) 0 (some (.bld 80 z_2 2 r_3.length))) 2 (bufB z_2 5 r_3)), fun hbd => (m3_cons (m3_buf rfl) (m3_cons (m3_box rfl rfl) (m3_rem (in_cons (by decide) (in_cons (by decide) (in_nil _))) (.cons (by decide) (.cons (by decide) .nil)) hbd))), (.tup [(I (sep.length : Int)), (.c (.val .nilIface))]), 3, (by cases z_2 <;> rfl), rfl, ?_⟩
  refine dnil <| srg <| un1 rfl ?_
  obtain ⟨r_4, hr4, h⟩ := bnd h
  refine un <| ac_gen (bs := [0, 2]) («as» := [(.c (.ref 0 2 0 0)), (S x_3)]) (h2 := _) (h1 := (upd (upd e0 0 (some (.bld 80 z_2 2 r_3.length))) 2 (bufB z_2 5 r_3))) (Z5m (z := z_2) (l := r_3) hz_2 hr4) rfl (.cons (.c (.ref rfl (by decide))) (.cons (avAs_free rfl) .nil)) (hsub_refl _) (.cons rfl (.cons rfl (.nil _))) hcs (by decide) (by decide) (.cons (.c (.ref rfl (by decide))) (.cons (avAs_free rfl) .nil)) (.buf (by decide) rfl (.box (by decide) rfl (.bld rfl (by decide)) .nil)) ?_
  rintro _ _ _ hn ⟨z_3, hz_3, rfl, rfl, rfl⟩
  refine ⟨.inl rfl, (upd (upd (rem [0, 2] _) 0 (some (.bld 80 z_3 3 r_4.length))) 3 (bufB z_3 5 r_4)), fun hbd => (m3_cons (m3_buf rfl) (m3_cons (m3_box rfl rfl) (m3_rem (in_cons (by decide) (in_cons (by decide) (in_nil _))) (.cons (by decide) (.cons (by decide) .nil)) hbd))), (.tup [(I (x_3.length : Int)), (.c (.val .nilIface))]), 4, (by cases z_3 <;> rfl), rfl, ?_⟩
  refine dnil <| srg <| un1 (v := (I (wi (v65 + 1)))) rfl <| un1 rfl <| dnil ?_
  exact hself r_4 (wi (v65 + 1)) z_3 hz_3 h _ (wcn [0, 3] rfl (.cf rfl rfl (.cf rfl rfl (.cf rfl rfl (.cr rfl rfl rfl (.cf rfl rfl .nil))))) (.buf (by decide) rfl (.box (by decide) rfl (.bld rfl (by decide)) .nil)))
 ·refine Sv.exit ?_
  exact hK3 b_ zb hzb h _ (wcn [0, 1] rfl (.cr rfl rfl rfl .nil) (.buf (by decide) rfl (.box (by decide) rfl (.bld rfl (by decide)) .nil)))
noncomputable def Z47 (elems : TT) (sep : Tx) (n_ : Int) : Option Tx :=
 limF fun kk1 => Z1f elems sep (fun (n_2 : Int) => 
   (Z7k ([] : List UInt8) n_2).bind fun r_ =>
   (at? elems 0).bind fun x_2 =>
   (Z45 r_ x_2).bind fun r_1 =>
   (sub? elems 1 (elems.length : Int)).bind fun r_2 =>
   limF fun kk => Z1g r_2 sep (fun (b_1 : Tx) => 
     some b_1) kk r_1 0) kk1 n_ 0
theorem Z7n {mL : Int} {elems : TT} {sep : Tx} {n_ : Int} {o : Tx} (h : Z47 elems sep n_ = some o) :
  Sv Tryz.prog (GG mL) 0 a23_c0 (Ends a23.results 0 (Z46 o)) ⟨(ue [(5, (I n_)), (1, (S sep)), (0, (.c (.ro false 1 (elems.map eStr))))]), e0, 0⟩ := by
 unfold Z47 at h
 refine Sv.seq <| ssr <| un1 rfl <| un1 (v := (I (elems.length : Int))) (s_len (e := eStr) (xs := elems) rfl) <| un1 rfl <| dnil <| Sv.block ?_
 obtain ⟨kk1, h⟩ := limF_some h
 refine Sv.weak (wcn [] rfl (.cf rfl rfl (.cf rfl rfl (.cf rfl rfl (.cf rfl rfl (.cf rfl rfl (.cf rfl rfl .nil)))))) .nil) (Zap h ?_ (fun s hs => hs))
 ·intro n_2 h _ hw1
  refine Sv.weak hw1 <| ssr <| un <| a2v (v := (.c (.ref 1 2 0 0))) (h' := upd _ 1 (some (.bld 80 true 0 ([] : List UInt8).length))) (n' := 2) rfl rfl hcs <| dnil <| ssr <| un1 rfl ?_
  obtain ⟨r_, hr1, h⟩ := bnd h
  refine un <| ac_gen (bs := [1, 0]) («as» := [(.c (.ref 1 2 0 0)), (I n_2)]) (h2 := _) (h1 := (upd e0 1 (some (.bld 80 true 0 ([] : List UInt8).length)))) (Zam (z := true) (l := ([] : List UInt8)) (fun _ => rfl) hr1) rfl (.cons (.c (.ref rfl (by decide))) (.cons (avAs_free rfl) .nil)) (hsub_refl _) (.cons rfl (.nil _)) hcs (by decide) (by decide) (.cons (.c (.ref rfl (by decide))) (.cons (avAs_free rfl) .nil)) (.nonB (by decide) (.box (by decide) rfl (.bldN (by decide)) .nil)) ?_
  rintro _ _ _ hn ⟨z_, hz_, rfl, rfl, rfl⟩
  refine ⟨.inl rfl, (upd (upd (rem [1, 0] _) 1 (some (.bld 80 z_ 2 r_.length))) 2 (bufB z_ 5 r_)), fun hbd => (m3_cons (m3_buf rfl) (m3_cons (m3_box rfl rfl) (m3_rem (in_cons (by decide) (in_nil _)) (.cons (by decide) (.cons (by decide) .nil)) hbd))), (.tup []), 3, (by cases z_ <;> rfl), rfl, ?_⟩
  refine dnil <| ssr <| un1 rfl ?_
  obtain ⟨x_2, hx3, h⟩ := bnd h
  refine un1 (v := (.c (.rop [.str x_2]))) (s_iaddr (e := eStr) (xs := elems) rfl rfl hx3) <| un1 (v := (S x_2)) rfl ?_
  obtain ⟨r_1, hr2, h⟩ := bnd h
  refine un <| ac_gen (bs := [1, 2]) («as» := [(.c (.ref 1 2 0 0)), (S x_2)]) (h2 := _) (h1 := (upd (upd e0 1 (some (.bld 80 z_ 2 r_.length))) 2 (bufB z_ 5 r_))) (Z5m (z := z_) (l := r_) hz_ hr2) rfl (.cons (.c (.ref rfl (by decide))) (.cons (avAs_free rfl) .nil)) (hsub_refl _) (.cons rfl (.cons rfl (.nil _))) hcs (by decide) (by decide) (.cons (.c (.ref rfl (by decide))) (.cons (avAs_free rfl) .nil)) (.buf (by decide) rfl (.box (by decide) rfl (.bld rfl (by decide)) .nil)) ?_
  rintro _ _ _ hn ⟨z_1, hz_1, rfl, rfl, rfl⟩
  refine ⟨.inl rfl, (upd (upd (rem [1, 2] _) 1 (some (.bld 80 z_1 3 r_1.length))) 3 (bufB z_1 5 r_1)), fun hbd => (m3_cons (m3_buf rfl) (m3_cons (m3_box rfl rfl) (m3_rem (in_cons (by decide) (in_cons (by decide) (in_nil _))) (.cons (by decide) (.cons (by decide) .nil)) hbd))), (.tup [(I (x_2.length : Int)), (.c (.val .nilIface))]), 4, (by cases z_1 <;> rfl), rfl, ?_⟩
  refine dnil <| Sv.seq <| ssr <| un1 rfl ?_
  obtain ⟨r_2, hx4, h⟩ := bnd h
  refine un1 (v := (.c (.ro false 1 (r_2.map eStr)))) (s_slSl (e := eStr) rfl rfl rfl hx4) <| un1 (v := (I (r_2.length : Int))) (s_len (e := eStr) (xs := r_2) rfl) <| un1 rfl <| dnil <| Sv.block ?_
  obtain ⟨kk, h⟩ := limF_some h
  refine Sv.weak (wcn [1, 3] rfl (.cf rfl rfl (.cf rfl rfl (.cf rfl rfl (.cr rfl rfl rfl (.cf rfl rfl .nil))))) (.buf (by decide) rfl (.box (by decide) rfl (.bld rfl (by decide)) .nil))) (Zas hz_1 h ?_ (fun s hs => hs))
  ·intro b_1 zb_1 hzb_1 h _ hw2
   refine Sv.weak hw2 <| ssr <| un <| ac_gen (bs := [0, 1]) («as» := [(.c (.ref 0 2 0 0))]) (h2 := _) (h1 := (upd (upd e0 0 (some (.bld 80 zb_1 1 b_1.length))) 1 (bufB zb_1 5 b_1))) (Z2z (z := zb_1) (l := b_1) hzb_1) rfl (.cons (.c (.ref rfl (by decide))) .nil) (hsub_refl _) (.cons rfl (.cons rfl (.nil _))) hcs (by decide) (by decide) (.cons (.c (.ref rfl (by decide))) .nil) (.buf (by decide) rfl (.box (by decide) rfl (.bld rfl (by decide)) .nil)) ?_
   rintro _ _ _ hn ⟨rfl, rfl, rfl⟩
   refine ⟨.inl rfl, (rem [0, 1] _), fun hbd => (m3_rem (in_cons (by decide) (in_cons (by decide) (in_nil _))) (.nil) hbd), (S b_1), 2, rfl, rfl, ?_⟩
   refine un1 rfl <| dnil <| Sv.ret ?_
   exact rt0 h rfl rfl ⟨rfl, rfl, rfl⟩
/-- strings.Join -/
noncomputable def Z5n (elems : TT) (sep : Tx) : Option Tx :=
 if decide ((elems.length : Int) = 0) then
  some []
 else
  if decide ((elems.length : Int) = 1) then
   (at? elems 0).bind fun x_ =>
   some x_
  else
   if decide (0 < (sep.length : Int)) then
    (quo? .i64 9223372036854775807 (wi ((elems.length : Int) - 1))).bind fun r_5 =>
    if decide (r_5 ≤ (sep.length : Int)) then
     none
    else
     Z47 elems sep (wi (0 + (wi ((sep.length : Int) * (wi ((elems.length : Int) - 1))))))
   else
    Z47 elems sep 0
theorem Zat {mL : Int} {elems : TT} {sep : Tx} {r : Tx} (h : Z5n elems sep = some r) : CPure Tryz.prog (GG mL) 23 [(.c (.ro false 1 (elems.map eStr))), (S sep)] (S r) := by
 refine acalls_of_sv hmix c23 (R := Z46 r) ?_
 unfold Z5n at h
 refine ssr <| un1 rfl <| dnil <| Sv.seq <| ssr <| un1 rfl <| un1 (v := (I (elems.length : Int))) (s_len (e := eStr) (xs := elems) rfl) <| dnil <| Sv.block <| ssr <| un1 (v := (B (decide ((elems.length : Int) = 0)))) rfl <| un1 rfl <| dnil ?_
 refine Sv.cnd rfl h (fun h => ?_) fun h => ?_
 ·refine ssr <| un1 rfl <| dnil <| Sv.ret ?_
  exact rt0 h rfl rfl ⟨rfl, rfl, rfl⟩
 ·refine ssr <| un1 (v := (B (decide ((elems.length : Int) = 1)))) rfl <| un1 rfl <| dnil ?_
  refine Sv.cnd rfl h (fun h => ?_) fun h => ?_
  ·refine ssr <| un1 rfl ?_
   obtain ⟨x_, hx1, h⟩ := bnd h
   refine un1 (v := (.c (.rop [.str x_]))) (s_iaddr (e := eStr) (xs := elems) rfl rfl hx1) <| un1 (v := (S x_)) rfl <| un1 rfl <| dnil <| Sv.ret ?_
   exact rt0 h rfl rfl ⟨rfl, rfl, rfl⟩
  ·refine Sv.skip <| ssr <| un1 rfl <| dnil <| Sv.seq <| ssr <| un1 rfl <| un1 (v := (I (sep.length : Int))) rfl <| un1 (v := (B (decide (0 < (sep.length : Int))))) rfl <| dnil ?_
   refine Sv.cnd rfl h (fun h => ?_) fun h => ?_
   ·refine Sv.seq <| ssr <| un1 rfl <| un1 (v := (I (sep.length : Int))) rfl <| un1 rfl <| un1 (v := (I (elems.length : Int))) (s_len (e := eStr) (xs := elems) rfl) <| un1 (v := (I (wi ((elems.length : Int) - 1)))) rfl ?_
    obtain ⟨r_5, hx6, h⟩ := bnd h
    refine un1 (v := (I r_5)) (s_quo rfl rfl hx6) <| un1 (v := (B (decide (r_5 ≤ (sep.length : Int))))) rfl <| dnil ?_
    refine Sv.cnd rfl h (fun h => ?_) fun h => ?_
    ·refine srg <| un1 (v := (.c (.opq))) rfl ?_
     cases h
    ·refine Sv.skip <| srg <| un1 rfl <| un1 rfl <| un1 (v := (I (sep.length : Int))) rfl <| un1 rfl <| un1 (v := (I (elems.length : Int))) (s_len (e := eStr) (xs := elems) rfl) <| un1 (v := (I (wi ((elems.length : Int) - 1)))) rfl <| un1 (v := (I (wi ((sep.length : Int) * (wi ((elems.length : Int) - 1)))))) rfl <| un1 (v := (I (wi (0 + (wi ((sep.length : Int) * (wi ((elems.length : Int) - 1)))))))) rfl <| un1 rfl <| dnil ?_
     exact Sv.weak (wcn [] rfl (.cf rfl rfl (.cf rfl rfl (.cf rfl rfl .nil))) .nil) (Z7n h)
   ·refine Sv.skip ?_
    exact Sv.weak (wcn [] rfl (.cf rfl rfl (.cf rfl rfl (.cf rfl rfl .nil))) .nil) (Z7n h)
def a9_c0 : ACode := (sr [(oP 19 (.bin .lss (.tmp 18) (.tmp 17)))]
 (.seq (.cond (.tmp 19) .skip (.exit 0))
 (.seq (.block 1 (sr [(oP 20 (.iaddr 4 (.tmp 16) (.tmp 18))), (oP 21 (.load true 4 (.tmp 20))), (oP 5 (.box (.const (.agg [(.val (.int .i64 0)), (.val (.int .i64 0)), (.str []), (.ro true 4 [])])))), (oN (.store 4 (.tmp 5) (.tmp 21)))]
 (.region [(mV 22 3), (oP 23 (.load true 4 (.tmp 5))), (oP 24 (.call 9 [(.tmp 23)])), (oP 25 (.bslice 1 [(.str [])] 1 [(0, (.tmp 24))])), (oP 26 (.app 1 16 (.tmp 22) (.tmp 25))), (mV 3 26)])))
 (.region [(oP 27 (.bin .add (.tmp 18) (kI 1))), (mV 18 27)]))))
def a9 : AFunc := ⟨1, [(.tmp 2)], (sr [(oP 1 (.box (.tmp 0))), (oP 2 (.mov (.const (.c (.str [])))))]
 (.seq (sr [(oP 6 (.load true 4 (.tmp 1))), (oP 7 (.call 20 [(.tmp 6)])), (oP 8 (.un .not (.tmp 7)))]
 (.cond (.tmp 8) (sr [(oP 2 (.mov (.const (.c (.str [])))))]
 .ret) .skip))
 (.seq (sr [(oP 9 (.faddr 0 (.tmp 1))), (oP 10 (.load false 1 (.tmp 9))), (oP 11 (.bin .eql (.tmp 10) (kI 1)))]
 (.cond (.tmp 11) (sr [(oP 12 (.faddr 1 (.tmp 1))), (oP 13 (.load true 2 (.tmp 12))), (oP 14 (.call 21 [(.tmp 13)])), (mV 2 14)]
 .ret) .skip))
 (sr [(oP 3 (.mov (.const (.c (.ro true 1 [])))))]
 (.seq (sr [(oP 15 (.faddr 3 (.tmp 1))), (oP 16 (.load false 1 (.tmp 15))), (oP 17 (.len (.tmp 16))), (oP 18 (.mov (kI 0)))]
 (.block 0 (.loop a9_c0)))
 (.seq (.drawn (.fin [((oP 28 (.faddr 0 (.tmp 1))), (0, 0)), ((oP 29 (.load false 1 (.tmp 28))), (0, 1)), ((mV 32 3), (0, 4)), ((oP 33 (.faddr 0 (.tmp 1))), (0, 5)), ((oP 34 (.load false 1 (.tmp 33))), (0, 6)), ((oP 30 (.call 22 [(.tmp 29)])), (1, 2)), ((oP 31 (.bin .add (.tmp 30) (.const (.c (.str [40]))))), (0, 3)), ((oP 35 (.call 24 [(.tmp 34)])), (2, 7)), ((oP 36 (.call 23 [(.tmp 32), (.tmp 35)])), (2, 8)), ((oP 37 (.bin .add (.tmp 31) (.tmp 36))), (0, 9)), ((oP 38 (.bin .add (.tmp 37) (.const (.c (.str [41]))))), (0, 10)), ((mV 2 38), (0, 11))]))
 .ret))))))⟩
theorem c9 : compFunc Tryz.prog 9 = some a9 := by kernel_rfl
def Z7o (r : Tx) : AV → Heap → Nat → Prop := fun v h' n' => v = (S r) ∧ (h' = e0) ∧ n' = 0
def Z7p (mL : Int) (recf : TSTerm → Option Tx) : Prop := ∀ (t_ : TSTerm) (r : Tx), recf t_ = some r → CPure Tryz.prog (GG mL) 9 [(.agg (e_TSTerm t_))] (S r)
abbrev Zau (t_ : TSTerm) (F_ : TT → Option Tx) (o : Tx) (R_ : St → Prop) : Prop := ∀ (subs1 : TT) (zsubs1 : Bool) (_ : zsubs1 = true → subs1 = []), F_ subs1 = some o → ∀ s, Weak 0 s ⟨(ue [(3, (lstV zsubs1 1 1 subs1.length)), (1, (.c (.ref 0 4 0 0)))]), (upd (upd e0 0 (some (.cells 4 [(e_TSTerm t_)]))) 1 (lstB zsubs1 1 (subs1.map eStr))), 2⟩ → R_ s
abbrev Z7q (t_ : TSTerm) (F_ : Nat → TT → Int → Option Tx) (o : Tx) : Nat → St → Prop := fun k s => ∃ (subs : TT), ∃ (v18 : Int), ∃ (zsubs : Bool), (zsubs = true → subs = []) ∧ F_ k subs v18 = some o ∧ s = ⟨(ue [(18, (I v18)), (17, (I (t_.Subs.length : Int))), (16, (.c (.ro false 4 (t_.Subs.map eRaw)))), (3, (lstV zsubs 1 1 subs.length)), (1, (.c (.ref 0 4 0 0)))]), (upd (upd e0 0 (some (.cells 4 [(e_TSTerm t_)]))) 1 (lstB zsubs 1 (subs.map eStr))), 2⟩
abbrev Zav (t_ : TSTerm) (F_ : TT → Int → Option Tx) (o : Tx) (R_ : St → Prop) : Prop := ∀ (subs : TT) (v18 : Int) (zsubs : Bool) (_ : zsubs = true → subs = []), F_ subs v18 = some o → ∀ s, Weak 0 s ⟨(ue [(18, (I v18)), (17, (I (t_.Subs.length : Int))), (16, (.c (.ro false 4 (t_.Subs.map eRaw)))), (3, (lstV zsubs 1 1 subs.length)), (1, (.c (.ref 0 4 0 0)))]), (upd (upd e0 0 (some (.cells 4 [(e_TSTerm t_)]))) 1 (lstB zsubs 1 (subs.map eStr))), 2⟩ → R_ s
noncomputable def Z1h (t_ : TSTerm) (recf : TSTerm → Option Tx) (K0_ : TT → Option Tx) : Nat → TT → Int → Option Tx
 | 0, _, _ => none
 | k + 1, subs, v18 =>
  if decide (v18 < (t_.Subs.length : Int)) then
   (at? t_.Subs v18).bind fun r_1 =>
   (Zp r_1.c).bind fun x_ =>
   (recf x_).bind fun r_2 =>
   (app? 16 subs [r_2]).bind fun r_3 =>
   (Z1h t_ recf K0_ k) r_3 (wi (v18 + 1))
  else
   K0_ subs
theorem Zaw {mL : Int} {Q : AExit → St → Prop} {t_ : TSTerm} {recf : TSTerm → Option Tx} {K0_ : TT → Option Tx} {k : Nat} {subs : TT} {v18 : Int} {zsubs : Bool} (hzsubs : zsubs = true → subs = []) {o : Tx} (h : Z1h t_ recf K0_ k subs v18 = some o)
  (hK0 : Zau t_ K0_ o (Q (.exit 0)))
  (hr : ∀ s, Ends a9.results 0 (Z7o o) .ret s → Q .ret s)
  (hrec : Z7p mL recf) :
  Sv Tryz.prog (GG mL) 0 (.loop a9_c0) Q ⟨(ue [(18, (I v18)), (17, (I (t_.Subs.length : Int))), (16, (.c (.ro false 4 (t_.Subs.map eRaw)))), (3, (lstV zsubs 1 1 subs.length)), (1, (.c (.ref 0 4 0 0)))]), (upd (upd e0 0 (some (.cells 4 [(e_TSTerm t_)]))) 1 (lstB zsubs 1 (subs.map eStr))), 2⟩ := by
 refine Sv.loop (I := Z7q t_ (Z1h t_ recf K0_) o) (fun k s hI => ?_) ⟨subs, v18, zsubs, hzsubs, h, rfl⟩
 clear h
 clear hzsubs zsubs v18 subs
 obtain ⟨subs, v18, zsubs, hzsubs, h, rfl⟩ := hI
 cases k with
 | zero => cases h
 | succ k =>
 rw [Z1h] at h
 have hself : Zav t_ (Z1h t_ recf K0_ k) o (rnd 0 (Z7q t_ (Z1h t_ recf K0_) o) k Q) := fun subs v18 zsubs hzsubs h s hw => ⟨_, k, hw, Nat.lt_succ_self k, subs, v18, zsubs, hzsubs, h, rfl⟩
 refine ssr <| un1 (v := (B (decide (v18 < (t_.Subs.length : Int))))) rfl <| dnil <| Sv.seq ?_
 refine Sv.cnd rfl h (fun h => ?_) fun h => ?_
 ·refine Sv.skip <| Sv.seq <| Sv.block <| ssr ?_
  obtain ⟨r_1, hr2, h⟩ := bnd h
  obtain ⟨x_, hd, h⟩ := bnd h
  have hx1 : at? t_.Subs v18 = some (⟨e_TSTerm x_, rfl⟩ : Raw) := by rw [hr2, raw_eq rfl (Z21 hd)]
  refine un1 (v := (.c (.rop (e_TSTerm x_)))) (s_iaddr (e := eRaw) (xs := t_.Subs) rfl rfl hx1) <| un1 (v := (.agg (e_TSTerm x_))) rfl <| un <| a2v (v := (.c (.ref 2 4 0 0))) (h' := upd _ 2 (some (.cells 4 [[cI 0, cI 0, .str [], .ro true 4 []]]))) (n' := 3) rfl rfl hcs <| un <| a2n (h' := upd _ 2 (some (.cells 4 [(e_TSTerm x_)]))) (n' := 3) rfl rfl hcs <| dnil <| srg <| un1 rfl <| un1 (v := (.agg (e_TSTerm x_))) rfl ?_
  obtain ⟨r_2, hr3, h⟩ := bnd h
  refine un <| ac_pure (hrec x_ _ hr3) rfl rfl rfl <| un <| a2v (v := (lstV false 3 1 [r_2].length)) (h' := upd _ 3 (lstB false 1 ([r_2].map eStr))) (n' := 4) rfl rfl hcs ?_
  obtain ⟨r_3, hr4, h⟩ := bnd h
  have hz1 : (zsubs && [r_2].isEmpty) = true → r_3 = [] := app_nil (z := zsubs) (ys := [r_2]) hzsubs hr4
  refine un <| a2v rfl (s_app (xs := subs) (ys := [r_2]) (e := eStr) (z := zsubs) (b := 1) rfl rfl hzsubs rfl rfl (slc_lst rfl (List.length_map _).symm (map_nil_of hcs)) hr4) hcs <| un1 rfl <| dnil <| srg <| un1 (v := (I (wi (v18 + 1)))) rfl <| un1 rfl <| dnil ?_
  exact hself r_3 (wi (v18 + 1)) (zsubs && [r_2].isEmpty) hz1 h _ (wcn [0, 4] rfl (.cf rfl rfl (.cf rfl rfl (.cf rfl rfl (.cons rfl (.c (lsr rfl rfl)) (.cr rfl rfl rfl .nil))))) (.row (by decide) rfl (fr_map fun _ => rfl) (.box (by decide) rfl (blkAs_cells (.sm rfl (.sm rfl (.sm rfl (.sm rfl .nil))))) .nil)))
 ·refine Sv.exit ?_
  exact hK0 subs zsubs hzsubs h _ (wcn [0, 1] rfl (.cons rfl (.c (lsr rfl rfl)) (.cr rfl rfl rfl .nil)) (.row (by decide) rfl (fr_map fun _ => rfl) (.box (by decide) rfl (blkAs_cells (.sm rfl (.sm rfl (.sm rfl (.sm rfl .nil))))) .nil)))
/-- clerestory/calc.Text -/
noncomputable def Z48 : Nat → TSTerm → Option Tx
 | 0, _ => none
 | k + 1, t_ =>
  if (!(Z9 t_)) then
   some []
  else
   if decide (t_.Kind = 1) then
    (Z5l t_.Dim).bind fun r_ =>
    some r_
   else
    limF fun kk => Z1h t_ (Z48 k) (fun (subs1 : TT) => 
      (cat? (Z43 t_.Kind) [40]).bind fun r_4 =>
      (Z5n subs1 (Z44 t_.Kind)).bind fun r_5 =>
      (cat? r_4 r_5).bind fun r_6 =>
      (cat? r_6 [41]).bind fun r_7 =>
      some r_7) kk ([] : TT) 0
noncomputable def Z5o (t_ : TSTerm) : Option Tx :=
 limF fun kr => Z48 kr t_
theorem Zax {mL : Int} (k : Nat) : Z7p mL (Z48 k) := by
 induction k with
 | zero => intro t_ r h; cases h
 | succ k hrec =>
 intro t_ r h
 refine acalls_of_sv hmix c9 (R := Z7o r) ?_
 rw [Z48] at h
 refine ssr <| un <| a2v (v := (.c (.ref 0 4 0 0))) (h' := upd _ 0 (some (.cells 4 [(e_TSTerm t_)]))) (n' := 1) rfl rfl hcs <| un1 rfl <| dnil <| Sv.seq <| ssr <| un1 (v := (.agg (e_TSTerm t_))) rfl <| un <| ac_pure (Z3z (mL := mL) t_) rfl rfl rfl <| un1 (v := (B (!(Z9 t_)))) rfl <| dnil ?_
 refine Sv.cnd rfl h (fun h => ?_) fun h => ?_
 ·refine ssr <| un1 rfl <| dnil <| Sv.ret ?_
  exact rt0 h rfl rfl ⟨rfl, rfl, rfl⟩
 ·refine Sv.skip <| Sv.seq <| ssr <| un1 (v := (.c (.ref 0 4 0 0))) rfl <| un1 (v := (I t_.Kind)) rfl <| un1 (v := (B (decide (t_.Kind = 1)))) rfl <| dnil ?_
  refine Sv.cnd rfl h (fun h => ?_) fun h => ?_
  ·refine ssr <| un1 (v := (.c (.ref 0 4 0 1))) rfl <| un1 (v := (.agg (e_TSDim t_.Dim))) rfl ?_
   obtain ⟨r_, hr1, h⟩ := bnd h
   refine un <| ac_pure (Zah hr1) rfl rfl rfl <| un1 rfl <| dnil <| Sv.ret ?_
   exact rt0 h rfl rfl ⟨rfl, rfl, rfl⟩
  ·refine Sv.skip <| ssr <| un1 rfl <| dnil <| Sv.seq <| ssr <| un1 (v := (.c (.ref 0 4 0 3))) rfl <| un1 (v := (.c (.ro false 4 (t_.Subs.map eRaw)))) rfl <| un1 (v := (I (t_.Subs.length : Int))) (s_len (e := eRaw) (xs := t_.Subs) rfl) <| un1 rfl <| dnil <| Sv.block ?_
   obtain ⟨kk, h⟩ := limF_some h
   refine Sv.weak (wcn [0, 1000] rfl (.cf rfl rfl (.cf rfl rfl (.cf rfl rfl (.cons rfl (.c (.same rfl)) (.cr rfl rfl rfl .nil))))) (.non (by decide) (.box (by decide) rfl (blkAs_cells (.sm rfl (.sm rfl (.sm rfl (.sm rfl .nil))))) .nil))) (Zaw (fun _ => rfl) h ?_ (fun s hs => hs) hrec)
   ·intro subs1 zsubs1 hzsubs1 h _ hw1
    refine Sv.weak hw1 <| Sv.seq <| Sv.drawn <| un1 (v := (.c (.ref 0 4 0 0))) rfl <| un1 (v := (I t_.Kind)) rfl <| un1 rfl <| un1 (v := (.c (.ref 0 4 0 0))) rfl <| un1 (v := (I t_.Kind)) rfl <| un <| ac_pure (Zaj (mL := mL) t_.Kind) rfl rfl rfl ?_
    obtain ⟨r_4, hx2, h⟩ := bnd h
    refine un1 (v := (S r_4)) (s_cat rfl rfl hx2) <| un <| ac_pure (Zal (mL := mL) t_.Kind) rfl rfl rfl ?_
    obtain ⟨r_5, hr5, h⟩ := bnd h
    refine un <| ac_lend (h2 := (upd _ 1 none)) (Zat hr5) rfl (.cons (.c (lstC_ro (es := List.map eStr subs1) rfl (List.length_map eStr).symm (map_nil_of hzsubs1) (gone rfl) (fr_map fun _ => rfl))) (.cons (avAs_free rfl) .nil)) (hsub_none (hsub_refl _)) rfl rfl (.inr rfl) ?_
    obtain ⟨r_6, hx3, h⟩ := bnd h
    refine un1 (v := (S r_6)) (s_cat rfl rfl hx3) ?_
    obtain ⟨r_7, hx4, h⟩ := bnd h
    refine un1 (v := (S r_7)) (s_cat rfl rfl hx4) <| un1 rfl <| dnil <| Sv.ret ?_
    exact rt0 h rfl rfl ⟨rfl, rfl, rfl⟩
theorem Zay {mL : Int} {t_ : TSTerm} {r : Tx} (h : Z5o t_ = some r) : CPure Tryz.prog (GG mL) 9 [(.agg (e_TSTerm t_))] (S r) := by
 unfold Z5o at h
 obtain ⟨k, h⟩ := limF_some h
 exact Zax k t_  r h
def a4_c0 : ACode := .ret
def a4 : AFunc := ⟨0, [(.tmp 0)], (sr [(oP 0 (.mov kF))]
 (sr [(oP 4 (.call 8 [(.const (.c (.str [99, 97, 108, 99, 40, 49, 112, 120, 32, 42, 32, 50, 41])))])), (mV 3 4), (oP 5 (.ext (.tmp 3) 0)), (oP 6 (.ext (.tmp 3) 1)), (oP 1 (.box (.const (.agg [(.val (.int .i64 0)), (.val (.int .i64 0)), (.str []), (.ro true 4 [])])))), (oN (.store 4 (.tmp 1) (.tmp 5))), (mV 2 6)]
 (sr [(mV 7 2), (oP 8 (.bin .eql (.tmp 7) (kI 0))), (mV 9 8), ⟨(some 10), (.load true 4 (.tmp 1)), (some (9, true))⟩, ⟨(some 11), (.call 9 [(.tmp 10)]), (some (9, true))⟩, ⟨(some 12), (.bin .eql (.tmp 11) (.const (.c (.str [40, 49, 112, 120, 32, 42, 32, 50, 41])))), (some (9, true))⟩, (oP 13 (.pick (.tmp 9) (.tmp 12) kF)), (mV 0 13)]
 a4_c0)))⟩
theorem c4 : compFunc Tryz.prog 4 = some a4 := by kernel_rfl
def Z7r (r : Bool) : AV → Heap → Nat → Prop := fun v h' n' => v = (B r) ∧ (h' = e0) ∧ n' = 0
noncomputable def Z49 (v0 : Bool) : Option Bool :=
 some v0
theorem Z7s {mL : Int} {v0 : Bool} {o : Bool} (h : Z49 v0 = some o) :
  Sv Tryz.prog (GG mL) 0 a4_c0 (Ends a4.results 0 (Z7r o)) ⟨(upd e0 0 (some (B v0))), e0, 0⟩ := by
 unfold Z49 at h
 refine Sv.ret ?_
 exact rt0 h rfl rfl ⟨rfl, rfl, rfl⟩
/-- clerestory/clerestorylaw2.twice -/
noncomputable def Z4a : Option Bool :=
 (Z5i [99, 97, 108, 99, 40, 49, 112, 120, 32, 42, 32, 50, 41]).bind fun r_ =>
 if decide (r_.2 = 0) then
  (Z5o r_.1).bind fun r_1 =>
  Z49 (decide (r_1 = [40, 49, 112, 120, 32, 42, 32, 50, 41]))
 else
  Z49 false
theorem Zaz {mL : Int} {r : Bool} (h : Z4a = some r) : CPure Tryz.prog (GG mL) 4 [] (B r) := by
 refine acalls_of_sv hmix c4 (R := Z7r r) ?_
 unfold Z4a at h
 refine ssr <| un1 rfl <| dnil <| ssr ?_
 obtain ⟨r_, hr1, h⟩ := bnd h
 refine un <| ac_pure (Zaf hr1) rfl rfl rfl <| un1 rfl <| un1 (v := (.agg (e_TSTerm r_.1))) rfl <| un1 (v := (I r_.2)) rfl <| un <| a2v (v := (.c (.ref 0 4 0 0))) (h' := upd _ 0 (some (.cells 4 [[cI 0, cI 0, .str [], .ro true 4 []]]))) (n' := 1) rfl rfl hcs <| un <| a2n (h' := upd _ 0 (some (.cells 4 [(e_TSTerm r_.1)]))) (n' := 1) rfl rfl hcs <| un1 rfl <| dnil <| ssr <| un1 rfl <| un1 (v := (B (decide (r_.2 = 0)))) rfl <| un1 rfl ?_
 refine spl h (fun h => ?_) fun h => ?_
 ·refine gt rfl <| a1 (v := (.agg (e_TSTerm r_.1))) rfl ?_
  obtain ⟨r_1, hr2, h⟩ := bnd h
  refine gt rfl <| ac_pure (Zay hr2) rfl rfl rfl <| gt rfl <| a1 (v := (B (decide (r_1 = [40, 49, 112, 120, 32, 42, 32, 50, 41])))) rfl <| un1 (v := (B (decide (r_1 = [40, 49, 112, 120, 32, 42, 32, 50, 41])))) rfl <| un1 rfl <| dnil ?_
  exact Sv.weak (wcn [] rfl (.cf rfl rfl .nil) .nil) (Z7s h)
 ·refine gs rfl rfl <| gs rfl rfl <| gs rfl rfl <| un1 (v := (B false)) rfl <| un1 rfl <| dnil ?_
  exact Sv.weak (wcn [] rfl (.cf rfl rfl .nil) .nil) (Z7s h)
def a20_calc_shaped1_c1 : ACode := (.cond (.tmp 20) (sr [(mV 23 3), (oP 24 (.bin .gtr (.tmp 23) (kI 0))), (mV 2 24)]
 .ret) (sr [(oP 26 (.bin .eql (.tmp 8) (kI 8))), (mV 25 26)]
 (.cond (.tmp 25) (sr [(mV 27 3), (oP 28 (.bin .eql (.tmp 27) (kI 3))), (mV 2 28)]
 .ret) .skip)))
def a20_calc_shaped1_c0 : ACode := (.cond (.tmp 13) (sr [(mV 18 3), (oP 19 (.bin .eql (.tmp 18) (kI 2))), (mV 2 19)]
 .ret) (.seq (sr [(oP 21 (.bin .eql (.tmp 8) (kI 6))), (mV 20 21)]
 (.cond (.tmp 20) .skip (.region [(oP 22 (.bin .eql (.tmp 8) (kI 7))), (mV 20 22)])))
 a20_calc_shaped1_c1))
def a20_calc_shaped1_c2 : ACode := (sr [(oP 2 (.mov kF))]
 .ret)
def Z5p (r : Bool) : AV → Heap → Nat → Prop := fun v h' n' => v = (B r) ∧ (h' = e0) ∧ n' = 0
abbrev Zb0 (mL : Int) (o : Bool) : AExit → St → Prop := AThen (Sv Tryz.prog (GG mL) 0 a20_calc_shaped1_c2 (Ends a20.results 0 (Z5p o))) (Ends a20.results 0 (Z5p o))
abbrev Z7t (mL : Int) (o : Bool) : AExit → St → Prop := ABlock 0 (Zb0 mL o)
def Z2j (t_ : TSTerm) (v20 : Bool) : Bool :=
 if v20 then
  decide (0 < (t_.Subs.length : Int))
 else
  if decide (t_.Kind = 8) then
   decide ((t_.Subs.length : Int) = 3)
  else
   false
theorem Z7u {mL : Int} {t_ : TSTerm} {v20 : Bool} {o : Bool} (h : Z2j t_ v20 = o) :
  Sv Tryz.prog (GG mL) 0 a20_calc_shaped1_c1 (Z7t mL o) ⟨(ue [(20, (B v20)), (8, (I t_.Kind)), (3, (I (t_.Subs.length : Int)))]), e0, 0⟩ := by
 unfold Z2j at h
 refine Sv.cnd rfl h (fun h => ?_) fun h => ?_
 ·refine ssr <| un1 rfl <| un1 (v := (B (decide (0 < (t_.Subs.length : Int))))) rfl <| un1 rfl <| dnil <| Sv.ret ?_
  subst h
  exact ⟨_, .refl _, _, rfl, ⟨upd e0 0 (some (B (decide (0 < (t_.Subs.length : Int))))), e0, 0⟩, (B (decide (0 < (t_.Subs.length : Int)))), weak_canon [] rfl ndl nll nlz (.cf rfl rfl .nil) .nil, rfl, rfl, rfl, rfl⟩
 ·refine ssr <| un1 (v := (B (decide (t_.Kind = 8)))) rfl <| un1 rfl <| dnil ?_
  refine Sv.cnd rfl h (fun h => ?_) fun h => ?_
  ·refine ssr <| un1 rfl <| un1 (v := (B (decide ((t_.Subs.length : Int) = 3)))) rfl <| un1 rfl <| dnil <| Sv.ret ?_
   subst h
   exact ⟨_, .refl _, _, rfl, ⟨upd e0 0 (some (B (decide ((t_.Subs.length : Int) = 3)))), e0, 0⟩, (B (decide ((t_.Subs.length : Int) = 3))), weak_canon [] rfl ndl nll nlz (.cf rfl rfl .nil) .nil, rfl, rfl, rfl, rfl⟩
  ·refine Sv.skip <| ssr <| un1 rfl <| dnil <| Sv.ret ?_
   subst h
   exact ⟨_, .refl _, _, rfl, ⟨upd e0 0 (some (B false)), e0, 0⟩, (B false), weak_canon [] rfl ndl nll nlz (.cf rfl rfl .nil) .nil, rfl, rfl, rfl, rfl⟩
def Z1i (t_ : TSTerm) (v13 : Bool) : Bool :=
 if v13 then
  decide ((t_.Subs.length : Int) = 2)
 else
  if decide (t_.Kind = 6) then
   Z2j t_ (decide (t_.Kind = 6))
  else
   Z2j t_ (decide (t_.Kind = 7))
theorem Z4b {mL : Int} {t_ : TSTerm} {v13 : Bool} {o : Bool} (h : Z1i t_ v13 = o) :
  Sv Tryz.prog (GG mL) 0 a20_calc_shaped1_c0 (Z7t mL o) ⟨(ue [(13, (B v13)), (8, (I t_.Kind)), (3, (I (t_.Subs.length : Int)))]), e0, 0⟩ := by
 unfold Z1i at h
 refine Sv.cnd rfl h (fun h => ?_) fun h => ?_
 ·refine ssr <| un1 rfl <| un1 (v := (B (decide ((t_.Subs.length : Int) = 2)))) rfl <| un1 rfl <| dnil <| Sv.ret ?_
  subst h
  exact ⟨_, .refl _, _, rfl, ⟨upd e0 0 (some (B (decide ((t_.Subs.length : Int) = 2)))), e0, 0⟩, (B (decide ((t_.Subs.length : Int) = 2))), weak_canon [] rfl ndl nll nlz (.cf rfl rfl .nil) .nil, rfl, rfl, rfl, rfl⟩
 ·refine Sv.seq <| ssr <| un1 (v := (B (decide (t_.Kind = 6)))) rfl <| un1 rfl <| dnil ?_
  refine Sv.cnd rfl h (fun h => ?_) fun h => ?_
  ·refine Sv.skip ?_
   exact Sv.weak (wcn [] rfl (.cf rfl rfl (.cf rfl rfl (.cf rfl rfl .nil))) .nil) (Z7u h)
  ·refine srg <| un1 (v := (B (decide (t_.Kind = 7)))) rfl <| un1 rfl <| dnil ?_
   exact Sv.weak (wcn [] rfl (.cf rfl rfl (.cf rfl rfl (.cf rfl rfl .nil))) .nil) (Z7u h)
/-- clerestory/calc.shaped -/
def Z17 (t_ : TSTerm) : Bool :=
 if decide (t_.Kind = 1) then
  decide ((t_.Subs.length : Int) = 0)
 else
  if decide (t_.Kind = 2) then
   Z1i t_ (decide (t_.Kind = 2))
  else
   if decide (t_.Kind = 3) then
    Z1i t_ (decide (t_.Kind = 3))
   else
    if decide (t_.Kind = 4) then
     Z1i t_ (decide (t_.Kind = 4))
    else
     Z1i t_ (decide (t_.Kind = 5))
theorem Zb1 {mL : Int} (t_ : TSTerm) : CPure Tryz.prog (GG mL) 20 [(.agg (e_TSTerm t_))] (B (Z17 t_)) := by
 generalize h : Z17 t_ = o
 refine acalls_of_sv hmix c20 (R := Z5p o) ?_
 unfold Z17 at h
 refine ssr <| un <| a2v (v := (.c (.ref 0 4 0 0))) (h' := upd _ 0 (some (.cells 4 [(e_TSTerm t_)]))) (n' := 1) rfl rfl hcs <| un1 rfl <| dnil <| ssr <| un1 (v := (.c (.ref 0 4 0 3))) rfl <| un1 (v := (.c (.ro false 4 (t_.Subs.map eRaw)))) rfl <| un1 (v := (I (t_.Subs.length : Int))) (s_len (e := eRaw) (xs := t_.Subs) rfl) <| un1 rfl <| dnil <| Sv.seq <| ssr <| un1 (v := (.c (.ref 0 4 0 0))) rfl <| un1 (v := (I t_.Kind)) rfl <| dnil <| Sv.block <| ssr <| un1 (v := (B (decide (t_.Kind = 1)))) rfl <| un1 rfl <| dnil ?_
 refine Sv.cnd rfl h (fun h => ?_) fun h => ?_
 ·refine ssr <| un1 rfl <| un1 (v := (B (decide ((t_.Subs.length : Int) = 0)))) rfl <| un1 rfl <| dnil <| Sv.ret ?_
  subst h
  exact ⟨_, .refl _, _, rfl, ⟨upd e0 0 (some (B (decide ((t_.Subs.length : Int) = 0)))), e0, 0⟩, (B (decide ((t_.Subs.length : Int) = 0))), weak_canon [] rfl ndl nll nlz (.cf rfl rfl .nil) .nil, rfl, rfl, rfl, rfl⟩
 ·refine Sv.seq <| ssr <| un1 (v := (B (decide (t_.Kind = 2)))) rfl <| un1 rfl <| dnil ?_
  refine Sv.cnd rfl h (fun h => ?_) fun h => ?_
  ·refine Sv.skip ?_
   exact Sv.weak (wcn [] rfl (.cf rfl rfl (.cf rfl rfl (.cf rfl rfl .nil))) .nil) (Z4b h)
  ·refine ssr <| un1 (v := (B (decide (t_.Kind = 3)))) rfl <| un1 rfl <| dnil ?_
   refine Sv.cnd rfl h (fun h => ?_) fun h => ?_
   ·refine Sv.skip ?_
    exact Sv.weak (wcn [] rfl (.cf rfl rfl (.cf rfl rfl (.cf rfl rfl .nil))) .nil) (Z4b h)
   ·refine ssr <| un1 (v := (B (decide (t_.Kind = 4)))) rfl <| un1 rfl <| dnil ?_
    refine Sv.cnd rfl h (fun h => ?_) fun h => ?_
    ·refine Sv.skip ?_
     exact Sv.weak (wcn [] rfl (.cf rfl rfl (.cf rfl rfl (.cf rfl rfl .nil))) .nil) (Z4b h)
    ·refine srg <| un1 (v := (B (decide (t_.Kind = 5)))) rfl <| un1 rfl <| dnil ?_
     exact Sv.weak (wcn [] rfl (.cf rfl rfl (.cf rfl rfl (.cf rfl rfl .nil))) .nil) (Z4b h)
def a10_c0 : ACode := (sr [(oP 17 (.bin .lss (.tmp 16) (.tmp 15)))]
 (.seq (.cond (.tmp 17) .skip (.exit 0))
 (.seq (.block 1 (sr [(oP 18 (.iaddr 4 (.tmp 14) (.tmp 16))), (oP 19 (.load true 4 (.tmp 18))), (oP 6 (.box (.const (.agg [(.val (.int .i64 0)), (.val (.int .i64 0)), (.str []), (.ro true 4 [])])))), (oN (.store 4 (.tmp 6) (.tmp 19)))]
 (sr [(oP 21 (.load true 4 (.tmp 6))), (oP 22 (.call 10 [(.tmp 21)])), (mV 20 22), (oP 23 (.ext (.tmp 20) 0)), (oP 24 (.ext (.tmp 20) 1)), (mV 7 23), (mV 8 24)]
 (sr [(mV 25 4), (mV 26 7), (oP 27 (.bin .add (.tmp 25) (.tmp 26))), (mV 4 27)]
 (sr [(mV 28 8), (oP 29 (.un .not (.tmp 28))), (mV 30 29), ⟨(some 31), (.mov (.tmp 4)), (some (30, false))⟩, ⟨(some 32), (.bin .gtr (.tmp 31) (kI 30)), (some (30, false))⟩, (oP 33 (.pick (.tmp 30) kT (.tmp 32)))]
 (.cond (.tmp 33) (sr [(mV 34 4), (mV 2 34), (oP 3 (.mov kF))]
 .ret) .skip))))))
 (.region [(oP 35 (.bin .add (.tmp 16) (kI 1))), (mV 16 35)]))))
def a10 : AFunc := ⟨1, [(.tmp 2), (.tmp 3)], (sr [(oP 1 (.box (.tmp 0))), (oP 2 (.mov (kI 0))), (oP 3 (.mov kF))]
 (sr [(oP 4 (.mov (kI 1)))]
 (.seq (sr [(oP 9 (.load true 4 (.tmp 1))), (oP 10 (.call 20 [(.tmp 9)])), (oP 11 (.un .not (.tmp 10)))]
 (.cond (.tmp 11) (sr [(mV 12 4), (mV 2 12), (oP 3 (.mov kF))]
 .ret) .skip))
 (.seq (sr [(oP 13 (.faddr 3 (.tmp 1))), (oP 14 (.load false 1 (.tmp 13))), (oP 15 (.len (.tmp 14))), (oP 16 (.mov (kI 0)))]
 (.block 0 (.loop a10_c0)))
 (sr [(mV 36 4), (mV 2 36), (oP 3 (.mov kT))]
 .ret)))))⟩
theorem c10 : compFunc Tryz.prog 10 = some a10 := by kernel_rfl
def Z7v (r : (Int × Bool)) : AV → Heap → Nat → Prop := fun v h' n' => v = (.tup [(I r.1), (B r.2)]) ∧ (h' = e0) ∧ n' = 0
def Z7w (mL : Int) (recf : TSTerm → Option (Int × Bool)) : Prop := ∀ (t_ : TSTerm) (r : (Int × Bool)), recf t_ = some r → CPure Tryz.prog (GG mL) 10 [(.agg (e_TSTerm t_))] (.tup [(I r.1), (B r.2)])
abbrev Zb2 (F_ : Int → Option (Int × Bool)) (o : (Int × Bool)) (R_ : St → Prop) : Prop := ∀ (n_1 : Int), F_ n_1 = some o → ∀ s, Weak 0 s ⟨(upd e0 4 (some (I n_1))), e0, 0⟩ → R_ s
abbrev Z7x (t_ : TSTerm) (F_ : Nat → Int → Int → Option (Int × Bool)) (o : (Int × Bool)) : Nat → St → Prop := fun k s => ∃ (n_ : Int), ∃ (v16 : Int), F_ k n_ v16 = some o ∧ s = ⟨(ue [(16, (I v16)), (15, (I (t_.Subs.length : Int))), (14, (.c (.ro false 4 (t_.Subs.map eRaw)))), (4, (I n_))]), e0, 0⟩
abbrev Zb3 (t_ : TSTerm) (F_ : Int → Int → Option (Int × Bool)) (o : (Int × Bool)) (R_ : St → Prop) : Prop := ∀ (n_ : Int) (v16 : Int), F_ n_ v16 = some o → ∀ s, Weak 0 s ⟨(ue [(16, (I v16)), (15, (I (t_.Subs.length : Int))), (14, (.c (.ro false 4 (t_.Subs.map eRaw)))), (4, (I n_))]), e0, 0⟩ → R_ s
noncomputable def Z3 (t_ : TSTerm) (recf : TSTerm → Option (Int × Bool)) (K0_ : Int → Option (Int × Bool)) : Nat → Int → Int → Option (Int × Bool)
 | 0, _, _ => none
 | k + 1, n_, v16 =>
  if decide (v16 < (t_.Subs.length : Int)) then
   (at? t_.Subs v16).bind fun r_ =>
   (Zp r_.c).bind fun x_ =>
   (recf x_).bind fun r_1 =>
   if ((!r_1.2) || (decide (30 < (wi (n_ + r_1.1))))) then
    some ((wi (n_ + r_1.1)), false)
   else
    (Z3 t_ recf K0_ k) (wi (n_ + r_1.1)) (wi (v16 + 1))
  else
   K0_ n_
theorem Zb4 {mL : Int} {Q : AExit → St → Prop} {t_ : TSTerm} {recf : TSTerm → Option (Int × Bool)} {K0_ : Int → Option (Int × Bool)} {k : Nat} {n_ : Int} {v16 : Int} {o : (Int × Bool)} (h : Z3 t_ recf K0_ k n_ v16 = some o)
  (hK0 : Zb2 K0_ o (Q (.exit 0)))
  (hr : ∀ s, Ends a10.results 0 (Z7v o) .ret s → Q .ret s)
  (hrec : Z7w mL recf) :
  Sv Tryz.prog (GG mL) 0 (.loop a10_c0) Q ⟨(ue [(16, (I v16)), (15, (I (t_.Subs.length : Int))), (14, (.c (.ro false 4 (t_.Subs.map eRaw)))), (4, (I n_))]), e0, 0⟩ := by
 refine Sv.loop (I := Z7x t_ (Z3 t_ recf K0_) o) (fun k s hI => ?_) ⟨n_, v16, h, rfl⟩
 clear h
 clear v16 n_
 obtain ⟨n_, v16, h, rfl⟩ := hI
 cases k with
 | zero => cases h
 | succ k =>
 rw [Z3] at h
 have hself : Zb3 t_ (Z3 t_ recf K0_ k) o (rnd 0 (Z7x t_ (Z3 t_ recf K0_) o) k Q) := fun n_ v16 h s hw => ⟨_, k, hw, Nat.lt_succ_self k, n_, v16, h, rfl⟩
 refine ssr <| un1 (v := (B (decide (v16 < (t_.Subs.length : Int))))) rfl <| dnil <| Sv.seq ?_
 refine Sv.cnd rfl h (fun h => ?_) fun h => ?_
 ·refine Sv.skip <| Sv.seq <| Sv.block <| ssr ?_
  obtain ⟨r_, hr1, h⟩ := bnd h
  obtain ⟨x_, hd, h⟩ := bnd h
  have hx1 : at? t_.Subs v16 = some (⟨e_TSTerm x_, rfl⟩ : Raw) := by rw [hr1, raw_eq rfl (Z21 hd)]
  refine un1 (v := (.c (.rop (e_TSTerm x_)))) (s_iaddr (e := eRaw) (xs := t_.Subs) rfl rfl hx1) <| un1 (v := (.agg (e_TSTerm x_))) rfl <| un <| a2v (v := (.c (.ref 0 4 0 0))) (h' := upd _ 0 (some (.cells 4 [[cI 0, cI 0, .str [], .ro true 4 []]]))) (n' := 1) rfl rfl hcs <| un <| a2n (h' := upd _ 0 (some (.cells 4 [(e_TSTerm x_)]))) (n' := 1) rfl rfl hcs <| dnil <| ssr <| un1 (v := (.agg (e_TSTerm x_))) rfl ?_
  obtain ⟨r_1, hr2, h⟩ := bnd h
  refine un <| ac_pure (hrec x_ _ hr2) rfl rfl rfl <| un1 rfl <| un1 (v := (I r_1.1)) rfl <| un1 (v := (B r_1.2)) rfl <| un1 rfl <| un1 rfl <| dnil <| ssr <| un1 rfl <| un1 rfl <| un1 (v := (I (wi (n_ + r_1.1)))) rfl <| un1 rfl <| dnil <| ssr <| un1 rfl <| un1 (v := (B (!r_1.2))) rfl <| un1 rfl ?_
  refine gjoin 3 (d := 33) (v := (B ((!r_1.2) || (decide (30 < (wi (n_ + r_1.1))))))) (fun X hX => ?_) ?_
  ·refine split2 (fun hc3 => ?_) (fun hc3 => ?_)
   ·refine gs rfl rfl <| gs rfl rfl <| un1 (v := (B true)) rfl <| dnil ?_
    exact hX _ (.putEq (by rw [hc3]; rfl) (.skp (.skp (.putEq (by rw [hc3]) (.refl _)) rfl) rfl))
   ·refine gt rfl <| a1 rfl <| gt rfl <| a1 (v := (B (decide (30 < (wi (n_ + r_1.1)))))) rfl <| un1 (v := (B (decide (30 < (wi (n_ + r_1.1)))))) rfl <| dnil ?_
    exact hX _ (.putEq (by rw [hc3]; rfl) (.skp (.skp (.putEq (by rw [hc3]) (.refl _)) rfl) rfl))
  refine dnil ?_
  refine Sv.cnd rfl h (fun h => ?_) fun h => ?_
  ·refine ssr <| un1 rfl <| un1 rfl <| un1 rfl <| dnil <| Sv.ret ?_
   exact hr _ (rt0 h rfl rfl ⟨rfl, rfl, rfl⟩)
  ·refine Sv.skip <| srg <| un1 (v := (I (wi (v16 + 1)))) rfl <| un1 rfl <| dnil ?_
   exact hself (wi (n_ + r_1.1)) (wi (v16 + 1)) h _ (wcn [] rfl (.cf rfl rfl (.cf rfl rfl (.cf rfl rfl (.cf rfl rfl .nil)))) .nil)
 ·refine Sv.exit ?_
  exact hK0 n_ h _ (wcn [] rfl (.cf rfl rfl .nil) .nil)
/-- clerestory/calc.count -/
noncomputable def Zj : Nat → TSTerm → Option (Int × Bool)
 | 0, _ => none
 | k + 1, t_ =>
  if (!(Z17 t_)) then
   some (1, false)
  else
   lim fun kk => Z3 t_ (Zj k) (fun (n_1 : Int) => 
     some (n_1, true)) kk 1 0
noncomputable def Z4c (t_ : TSTerm) : Option (Int × Bool) :=
 lim fun kr => Zj kr t_
theorem Zb5 {mL : Int} (k : Nat) : Z7w mL (Zj k) := by
 induction k with
 | zero => intro t_ r h; cases h
 | succ k hrec =>
 intro t_ r h
 refine acalls_of_sv hmix c10 (R := Z7v r) ?_
 rw [Zj] at h
 refine ssr <| un <| a2v (v := (.c (.ref 0 4 0 0))) (h' := upd _ 0 (some (.cells 4 [(e_TSTerm t_)]))) (n' := 1) rfl rfl hcs <| un1 rfl <| un1 rfl <| dnil <| ssr <| un1 rfl <| dnil <| Sv.seq <| ssr <| un1 (v := (.agg (e_TSTerm t_))) rfl <| un <| ac_pure (Zb1 (mL := mL) t_) rfl rfl rfl <| un1 (v := (B (!(Z17 t_)))) rfl <| dnil ?_
 refine Sv.cnd rfl h (fun h => ?_) fun h => ?_
 ·refine ssr <| un1 rfl <| un1 rfl <| un1 rfl <| dnil <| Sv.ret ?_
  exact rt0 h rfl rfl ⟨rfl, rfl, rfl⟩
 ·refine Sv.skip <| Sv.seq <| ssr <| un1 (v := (.c (.ref 0 4 0 3))) rfl <| un1 (v := (.c (.ro false 4 (t_.Subs.map eRaw)))) rfl <| un1 (v := (I (t_.Subs.length : Int))) (s_len (e := eRaw) (xs := t_.Subs) rfl) <| un1 rfl <| dnil <| Sv.block ?_
  obtain ⟨kk, h⟩ := lim_some h
  refine Sv.weak (wcn [] rfl (.cf rfl rfl (.cf rfl rfl (.cf rfl rfl (.cf rfl rfl .nil)))) .nil) (Zb4 h ?_ (fun s hs => hs) hrec)
  ·intro n_1 h _ hw1
   refine Sv.weak hw1 <| ssr <| un1 rfl <| un1 rfl <| un1 rfl <| dnil <| Sv.ret ?_
   exact rt0 h rfl rfl ⟨rfl, rfl, rfl⟩
theorem Zb6 {mL : Int} {t_ : TSTerm} {r : (Int × Bool)} (h : Z4c t_ = some r) : CPure Tryz.prog (GG mL) 10 [(.agg (e_TSTerm t_))] (.tup [(I r.1), (B r.2)]) := by
 unfold Z4c at h
 obtain ⟨k, h⟩ := lim_some h
 exact Zb5 k t_  r h
def a45 : AFunc := ⟨1, [(.tmp 2)], (sr [(oP 2 (.mov (kI 0)))]
 (sr [(mV 3 0), (oP 4 (.mm true [(.tmp 3), (.const (.c (.val (.int .i64 (-16777216)))))])), (oP 5 (.mm false [(.tmp 4), (kI 16777216)])), (mV 2 5)]
 .ret))⟩
theorem c45 : compFunc Tryz.prog 45 = some a45 := by kernel_rfl
def Zb7 (r : Int) : AV → Heap → Nat → Prop := fun v h' n' => v = (I r) ∧ (h' = e0) ∧ n' = 0
/-- clerestory/calc.cut -/
def Z2 (n_ : Int) : Int :=
 (mn (mx n_ (-16777216)) 16777216)
theorem Z2k {mL : Int} (n_ : Int) : CPure Tryz.prog (GG mL) 45 [(I n_)] (I (Z2 n_)) := by
 generalize h : Z2 n_ = o
 refine acalls_of_sv hmix c45 (R := Zb7 o) ?_
 unfold Z2 at h
 refine ssr <| un1 rfl <| dnil <| ssr <| un1 rfl <| un1 (v := (I (mx n_ (-16777216)))) (s_mx rfl rfl) <| un1 (v := (I (mn (mx n_ (-16777216)) 16777216))) (s_mn rfl rfl) <| un1 rfl <| dnil <| Sv.ret ?_
 subst h
 exact ⟨_, .refl _, _, rfl, ⟨upd e0 0 (some (I (mn (mx n_ (-16777216)) 16777216))), e0, 0⟩, (I (mn (mx n_ (-16777216)) 16777216)), weak_canon [] rfl ndl nll nlz (.cf rfl rfl .nil) .nil, rfl, rfl, rfl, rfl⟩
def a46_c0 : ACode := (sr [(mV 22 5), (mV 4 22)]
 .ret)
def a46 : AFunc := ⟨2, [(.tmp 4)], (sr [(oP 4 (.mov (kI 0)))]
 (sr [(mV 6 0), (mV 7 1), (oP 8 (.bin .quo (.tmp 6) (.tmp 7))), (mV 5 8)]
 (.seq (sr [(mV 9 0), (mV 10 1), (oP 11 (.bin .rem (.tmp 9) (.tmp 10))), (oP 12 (.bin .neq (.tmp 11) (kI 0))), (mV 13 12), ⟨(some 14), (.mov (.tmp 0)), (some (13, true))⟩, ⟨(some 15), (.bin .lss (.tmp 14) (kI 0)), (some (13, true))⟩, ⟨(some 16), (.mov (.tmp 1)), (some (13, true))⟩, ⟨(some 17), (.bin .lss (.tmp 16) (kI 0)), (some (13, true))⟩, ⟨(some 18), (.eqs true false [.b] (.tmp 15) (.tmp 17)), (some (13, true))⟩, (oP 19 (.pick (.tmp 13) (.tmp 18) kF))]
 (.cond (.tmp 19) (.region [(mV 20 5), (oP 21 (.bin .sub (.tmp 20) (kI 1))), (mV 5 21)]) .skip))
 a46_c0)))⟩
theorem c46 : compFunc Tryz.prog 46 = some a46 := by kernel_rfl
def Z7y (r : Int) : AV → Heap → Nat → Prop := fun v h' n' => v = (I r) ∧ (h' = e0) ∧ n' = 0
noncomputable def Z1r (q_ : Int) : Option Int :=
 some q_
theorem Z7z {mL : Int} {q_ : Int} {o : Int} (h : Z1r q_ = some o) :
  Sv Tryz.prog (GG mL) 0 a46_c0 (Ends a46.results 0 (Z7y o)) ⟨(upd e0 5 (some (I q_))), e0, 0⟩ := by
 unfold Z1r at h
 refine ssr <| un1 rfl <| un1 rfl <| dnil <| Sv.ret ?_
 exact rt0 h rfl rfl ⟨rfl, rfl, rfl⟩
/-- clerestory/calc.down -/
noncomputable def Zt (n_ : Int) (by_ : Int) : Option Int :=
 (quo? .i64 n_ by_).bind fun r_ =>
 (rem? .i64 n_ by_).bind fun r_1 =>
 if ((!decide (r_1 = 0)) && (!((decide (n_ < 0) == decide (by_ < 0)) && true))) then
  Z1r (wi (r_ - 1))
 else
  Z1r r_
theorem Z5q {mL : Int} {n_ : Int} {by_ : Int} {r : Int} (h : Zt n_ by_ = some r) : CPure Tryz.prog (GG mL) 46 [(I n_), (I by_)] (I r) := by
 refine acalls_of_sv hmix c46 (R := Z7y r) ?_
 unfold Zt at h
 refine ssr <| un1 rfl <| dnil <| ssr <| un1 rfl <| un1 rfl ?_
 obtain ⟨r_, hx1, h⟩ := bnd h
 refine un1 (v := (I r_)) (s_quo rfl rfl hx1) <| un1 rfl <| dnil <| Sv.seq <| ssr <| un1 rfl <| un1 rfl ?_
 obtain ⟨r_1, hx2, h⟩ := bnd h
 refine un1 (v := (I r_1)) (s_rem rfl rfl hx2) <| un1 (v := (B (!decide (r_1 = 0)))) rfl <| un1 rfl ?_
 refine gjoin 6 (d := 19) (v := (B ((!decide (r_1 = 0)) && (!((decide (n_ < 0) == decide (by_ < 0)) && true))))) (fun X hX => ?_) ?_
 ·refine split2 (fun hc1 => ?_) (fun hc1 => ?_)
  ·refine gt rfl <| a1 rfl <| gt rfl <| a1 (v := (B (decide (n_ < 0)))) rfl <| gt rfl <| a1 rfl <| gt rfl <| a1 (v := (B (decide (by_ < 0)))) rfl <| gt rfl <| a1 (v := (B (!((decide (n_ < 0) == decide (by_ < 0)) && true)))) rfl <| un1 (v := (B (!((decide (n_ < 0) == decide (by_ < 0)) && true)))) rfl <| dnil ?_
   exact hX _ (.putEq (by rw [hc1]; rfl) (by repeat (first | exact .putEq (by rw [hc1]) (.refl _) | refine .skp ?_ rfl)))
  ·repeat (first | refine gu rfl ?_ | refine gs rfl rfl ?_)
   refine un1 (v := (B false)) rfl <| dnil ?_
   exact hX _ (.putEq (by rw [hc1]; rfl) (by repeat (first | exact .putEq (by rw [hc1]) (.refl _) | refine .skp ?_ rfl)))
 refine dnil ?_
 refine Sv.cnd rfl h (fun h => ?_) fun h => ?_
 ·refine srg <| un1 rfl <| un1 (v := (I (wi (r_ - 1)))) rfl <| un1 rfl <| dnil ?_
  exact Sv.weak (wcn [] rfl (.cf rfl rfl .nil) .nil) (Z7z h)
 ·refine Sv.skip ?_
  exact Sv.weak (wcn [] rfl (.cf rfl rfl .nil) .nil) (Z7z h)
def a70 : AFunc := ⟨3, [(.tmp 6)], (sr [(oP 6 (.mov kF))]
 (sr [(mV 7 0), (mV 8 1), (oP 9 (.bin .geq (.tmp 7) (.tmp 8))), (mV 10 9), ⟨(some 11), (.mov (.tmp 0)), (some (10, true))⟩, ⟨(some 12), (.mov (.tmp 2)), (some (10, true))⟩, ⟨(some 13), (.bin .leq (.tmp 11) (.tmp 12)), (some (10, true))⟩, (oP 14 (.pick (.tmp 10) (.tmp 13) kF)), (mV 6 14)]
 .ret))⟩
theorem c70 : compFunc Tryz.prog 70 = some a70 := by kernel_rfl
def Zb8 (r : Bool) : AV → Heap → Nat → Prop := fun v h' n' => v = (B r) ∧ (h' = e0) ∧ n' = 0
/-- clerestory/dim.in -/
def Z1 (n_ : Int) (low : Int) (high : Int) : Bool :=
 ((decide (low ≤ n_)) && (decide (n_ ≤ high)))
theorem Z2l {mL : Int} (n_ : Int) (low : Int) (high : Int) : CPure Tryz.prog (GG mL) 70 [(I n_), (I low), (I high)] (B (Z1 n_ low high)) := by
 generalize h : Z1 n_ low high = o
 refine acalls_of_sv hmix c70 (R := Zb8 o) ?_
 unfold Z1 at h
 refine ssr <| un1 rfl <| dnil <| ssr <| un1 rfl <| un1 rfl <| un1 (v := (B (decide (low ≤ n_)))) rfl <| un1 rfl ?_
 refine gjoin 4 (d := 14) (v := (B ((decide (low ≤ n_)) && (decide (n_ ≤ high))))) (fun X hX => ?_) ?_
 ·refine split2 (fun hc1 => ?_) (fun hc1 => ?_)
  ·refine gt rfl <| a1 rfl <| gt rfl <| a1 rfl <| gt rfl <| a1 (v := (B (decide (n_ ≤ high)))) rfl <| un1 (v := (B (decide (n_ ≤ high)))) rfl <| dnil ?_
   exact hX _ (.putEq (by rw [hc1]; rfl) (.skp (.skp (.skp (.putEq (by rw [hc1]) (.refl _)) rfl) rfl) rfl))
  ·refine gs rfl rfl <| gs rfl rfl <| gs rfl rfl <| un1 (v := (B false)) rfl <| dnil ?_
   exact hX _ (.putEq (by rw [hc1]; rfl) (.skp (.skp (.skp (.putEq (by rw [hc1]) (.refl _)) rfl) rfl) rfl))
 refine un1 rfl <| dnil <| Sv.ret ?_
 subst h
 exact ⟨_, .refl _, _, rfl, ⟨upd e0 0 (some (B ((decide (low ≤ n_)) && (decide (n_ ≤ high))))), e0, 0⟩, (B ((decide (low ≤ n_)) && (decide (n_ ≤ high)))), weak_canon [] rfl ndl nll nlz (.cf rfl rfl .nil) .nil, rfl, rfl, rfl, rfl⟩
def a72_c0 : ACode := (sr [(mV 15 5), (mV 4 15)]
 .ret)
def a72 : AFunc := ⟨2, [(.tmp 4)], (sr [(oP 4 (.mov (kI 0)))]
 (sr [(mV 6 0), (mV 7 1), (oP 8 (.bin .quo (.tmp 6) (.tmp 7))), (mV 5 8)]
 (.seq (sr [(mV 9 0), (mV 10 1), (oP 11 (.bin .rem (.tmp 9) (.tmp 10))), (oP 12 (.bin .lss (.tmp 11) (kI 0)))]
 (.cond (.tmp 12) (.region [(mV 13 5), (oP 14 (.bin .sub (.tmp 13) (kI 1))), (mV 5 14)]) .skip))
 a72_c0)))⟩
theorem c72 : compFunc Tryz.prog 72 = some a72 := by kernel_rfl
def Z80 (r : Int) : AV → Heap → Nat → Prop := fun v h' n' => v = (I r) ∧ (h' = e0) ∧ n' = 0
noncomputable def Z2m (q_ : Int) : Option Int :=
 some q_
theorem Z81 {mL : Int} {q_ : Int} {o : Int} (h : Z2m q_ = some o) :
  Sv Tryz.prog (GG mL) 0 a72_c0 (Ends a72.results 0 (Z80 o)) ⟨(upd e0 5 (some (I q_))), e0, 0⟩ := by
 unfold Z2m at h
 refine ssr <| un1 rfl <| un1 rfl <| dnil <| Sv.ret ?_
 exact rt0 h rfl rfl ⟨rfl, rfl, rfl⟩
/-- clerestory/dim.down -/
noncomputable def Z1s (n_ : Int) (by_ : Int) : Option Int :=
 (quo? .i64 n_ by_).bind fun r_ =>
 (rem? .i64 n_ by_).bind fun r_1 =>
 if decide (r_1 < 0) then
  Z2m (wi (r_ - 1))
 else
  Z2m r_
theorem Zb9 {mL : Int} {n_ : Int} {by_ : Int} {r : Int} (h : Z1s n_ by_ = some r) : CPure Tryz.prog (GG mL) 72 [(I n_), (I by_)] (I r) := by
 refine acalls_of_sv hmix c72 (R := Z80 r) ?_
 unfold Z1s at h
 refine ssr <| un1 rfl <| dnil <| ssr <| un1 rfl <| un1 rfl ?_
 obtain ⟨r_, hx1, h⟩ := bnd h
 refine un1 (v := (I r_)) (s_quo rfl rfl hx1) <| un1 rfl <| dnil <| Sv.seq <| ssr <| un1 rfl <| un1 rfl ?_
 obtain ⟨r_1, hx2, h⟩ := bnd h
 refine un1 (v := (I r_1)) (s_rem rfl rfl hx2) <| un1 (v := (B (decide (r_1 < 0)))) rfl <| dnil ?_
 refine Sv.cnd rfl h (fun h => ?_) fun h => ?_
 ·refine srg <| un1 rfl <| un1 (v := (I (wi (r_ - 1)))) rfl <| un1 rfl <| dnil ?_
  exact Sv.weak (wcn [] rfl (.cf rfl rfl .nil) .nil) (Z81 h)
 ·refine Sv.skip ?_
  exact Sv.weak (wcn [] rfl (.cf rfl rfl .nil) .nil) (Z81 h)
def a71 : AFunc := ⟨1, [(.tmp 2)], (sr [(oP 2 (.mov (kI 0)))]
 (sr [(mV 3 0), (oP 4 (.mm true [(.tmp 3), (.const (.c (.val (.int .i64 (-16777216)))))])), (oP 5 (.mm false [(.tmp 4), (kI 16777216)])), (mV 2 5)]
 .ret))⟩
theorem c71 : compFunc Tryz.prog 71 = some a71 := by kernel_rfl
def Zba (r : Int) : AV → Heap → Nat → Prop := fun v h' n' => v = (I r) ∧ (h' = e0) ∧ n' = 0
/-- clerestory/dim.cut -/
def Z1t (n_ : Int) : Int :=
 (mn (mx n_ (-16777216)) 16777216)
theorem Zbb {mL : Int} (n_ : Int) : CPure Tryz.prog (GG mL) 71 [(I n_)] (I (Z1t n_)) := by
 generalize h : Z1t n_ = o
 refine acalls_of_sv hmix c71 (R := Zba o) ?_
 unfold Z1t at h
 refine ssr <| un1 rfl <| dnil <| ssr <| un1 rfl <| un1 (v := (I (mx n_ (-16777216)))) (s_mx rfl rfl) <| un1 (v := (I (mn (mx n_ (-16777216)) 16777216))) (s_mn rfl rfl) <| un1 rfl <| dnil <| Sv.ret ?_
 subst h
 exact ⟨_, .refl _, _, rfl, ⟨upd e0 0 (some (I (mn (mx n_ (-16777216)) 16777216))), e0, 0⟩, (I (mn (mx n_ (-16777216)) 16777216)), weak_canon [] rfl ndl nll nlz (.cf rfl rfl .nil) .nil, rfl, rfl, rfl, rfl⟩
def a47_c0 : ACode := (sr [(oP 66 (.faddr 0 (.tmp 2))), (oP 67 (.load false 1 (.tmp 66))), (mV 68 6), (oP 69 (.bin .mul (.tmp 67) (.tmp 68))), (mV 70 7), (oP 71 (.call 72 [(.tmp 69), (.tmp 70)])), (oP 72 (.call 71 [(.tmp 71)])), (mV 4 72), (oP 5 (.mov (kI 0)))]
 .ret)
def a47 : AFunc := ⟨2, [(.tmp 4), (.tmp 5)], (sr [(oP 2 (.box (.tmp 0))), (oP 3 (.box (.tmp 1))), (oP 4 (.mov (kI 0))), (oP 5 (.mov (kI 0)))]
 (.seq (sr [(oP 8 (.faddr 0 (.tmp 2))), (oP 9 (.load false 1 (.tmp 8))), (oP 10 (.call 70 [(.tmp 9), (.const (.c (.val (.int .i64 (-1000000000))))), (kI 1000000000)])), (oP 11 (.un .not (.tmp 10))), (mV 12 11), ⟨(some 13), (.faddr 0 (.tmp 3)), (some (12, false))⟩, ⟨(some 14), (.load false 1 (.tmp 13)), (some (12, false))⟩, ⟨(some 15), (.call 70 [(.tmp 14), (kI 0), (kI 16777216)]), (some (12, false))⟩, ⟨(some 16), (.un .not (.tmp 15)), (some (12, false))⟩, (oP 17 (.pick (.tmp 12) kT (.tmp 16))), (mV 18 17), ⟨(some 19), (.faddr 1 (.tmp 3)), (some (18, false))⟩, ⟨(some 20), (.load false 1 (.tmp 19)), (some (18, false))⟩, ⟨(some 21), (.call 70 [(.tmp 20), (kI 0), (kI 16777216)]), (some (18, false))⟩, ⟨(some 22), (.un .not (.tmp 21)), (some (18, false))⟩, (oP 23 (.pick (.tmp 18) kT (.tmp 22))), (mV 24 23), ⟨(some 25), (.faddr 2 (.tmp 3)), (some (24, false))⟩, ⟨(some 26), (.load false 1 (.tmp 25)), (some (24, false))⟩, ⟨(some 27), (.call 70 [(.tmp 26), (kI 1), (kI 4000)]), (some (24, false))⟩, ⟨(some 28), (.un .not (.tmp 27)), (some (24, false))⟩, (oP 29 (.pick (.tmp 24) kT (.tmp 28))), (mV 30 29), ⟨(some 31), (.faddr 3 (.tmp 3)), (some (30, false))⟩, ⟨(some 32), (.load false 1 (.tmp 31)), (some (30, false))⟩, ⟨(some 33), (.call 70 [(.tmp 32), (kI 1), (kI 4000)]), (some (30, false))⟩, ⟨(some 34), (.un .not (.tmp 33)), (some (30, false))⟩, (oP 35 (.pick (.tmp 30) kT (.tmp 34)))]
 (.cond (.tmp 35) (sr [(oP 4 (.mov (kI 0))), (oP 5 (.mov (kI 1)))]
 .ret) .skip))
 (sr [(oP 6 (.mov (kI 0))), (oP 7 (.mov (kI 1000)))]
 (.seq (sr [(oP 36 (.faddr 1 (.tmp 2))), (oP 37 (.load false 1 (.tmp 36)))]
 (.block 0 (sr [(oP 47 (.bin .eql (.tmp 37) (.const (.c (.str [112, 120]))))), (mV 46 47)]
 (.cond (.tmp 46) (.region [(oP 6 (.mov (kI 64)))]) (sr [(oP 49 (.bin .eql (.tmp 37) (.const (.c (.str [101, 109]))))), (mV 48 49)]
 (.cond (.tmp 48) (.region [(oP 50 (.faddr 0 (.tmp 3))), (oP 51 (.load false 1 (.tmp 50))), (mV 6 51)]) (sr [(oP 53 (.bin .eql (.tmp 37) (.const (.c (.str [114, 101, 109]))))), (mV 52 53)]
 (.cond (.tmp 52) (.region [(oP 54 (.faddr 1 (.tmp 3))), (oP 55 (.load false 1 (.tmp 54))), (mV 6 55)]) (sr [(oP 57 (.bin .eql (.tmp 37) (.const (.c (.str [118, 119]))))), (mV 56 57)]
 (.cond (.tmp 56) (.region [(oP 58 (.faddr 2 (.tmp 3))), (oP 59 (.load false 1 (.tmp 58))), (oP 60 (.bin .mul (kI 64) (.tmp 59))), (mV 6 60), (oP 7 (.mov (kI 100000)))]) (sr [(oP 62 (.bin .eql (.tmp 37) (.const (.c (.str [118, 104]))))), (mV 61 62)]
 (.cond (.tmp 61) (.region [(oP 63 (.faddr 3 (.tmp 3))), (oP 64 (.load false 1 (.tmp 63))), (oP 65 (.bin .mul (kI 64) (.tmp 64))), (mV 6 65), (oP 7 (.mov (kI 100000)))]) (sr [(oP 38 (.faddr 1 (.tmp 2))), (oP 39 (.load false 1 (.tmp 38))), (oP 40 (.bin .neq (.tmp 39) (.const (.c (.str []))))), (mV 41 40), ⟨(some 42), (.faddr 0 (.tmp 2)), (some (41, false))⟩, ⟨(some 43), (.load false 1 (.tmp 42)), (some (41, false))⟩, ⟨(some 44), (.bin .neq (.tmp 43) (kI 0)), (some (41, false))⟩, (oP 45 (.pick (.tmp 41) kT (.tmp 44)))]
 (.cond (.tmp 45) (sr [(oP 4 (.mov (kI 0))), (oP 5 (.mov (kI 7)))]
 .ret) .skip))))))))))))))
 a47_c0))))⟩
theorem c47 : compFunc Tryz.prog 47 = some a47 := by kernel_rfl
def Z82 (r : (Int × Int)) : AV → Heap → Nat → Prop := fun v h' n' => v = (.tup [(I r.1), (I r.2)]) ∧ (h' = e0) ∧ n' = 0
noncomputable def Zk (d_ : TSDim) (times : Int) (by_ : Int) : Option (Int × Int) :=
 (Z1s (wi (d_.Num * times)) by_).bind fun r_ =>
 some ((Z1t r_), 0)
theorem Z1u {mL : Int} {d_ : TSDim} {times : Int} {by_ : Int} {o : (Int × Int)} (h : Zk d_ times by_ = some o) :
  Sv Tryz.prog (GG mL) 0 a47_c0 (Ends a47.results 0 (Z82 o)) ⟨(ue [(7, (I by_)), (6, (I times)), (2, (.c (.ref 0 2 0 0)))]), (upd e0 0 (some (.cells 2 [(e_TSDim d_)]))), 1⟩ := by
 unfold Zk at h
 refine ssr <| un1 (v := (.c (.ref 0 2 0 0))) rfl <| un1 (v := (I d_.Num)) rfl <| un1 rfl <| un1 (v := (I (wi (d_.Num * times)))) rfl <| un1 rfl ?_
 obtain ⟨r_, hr1, h⟩ := bnd h
 refine un <| ac_pure (Zb9 hr1) rfl rfl rfl <| un <| ac_pure (Zbb (mL := mL) r_) rfl rfl rfl <| un1 rfl <| un1 rfl <| dnil <| Sv.ret ?_
 exact rt0 h rfl rfl ⟨rfl, rfl, rfl⟩
/-- clerestory/dim.Px -/
noncomputable def Z2n (d_ : TSDim) (k_ : TSScale) : Option (Int × Int) :=
 if (((((!(Z1 d_.Num (-1000000000) 1000000000)) || (!(Z1 k_.Em 0 16777216))) || (!(Z1 k_.Rem 0 16777216))) || (!(Z1 k_.Width 1 4000))) || (!(Z1 k_.Height 1 4000))) then
  some (0, 1)
 else
  if decide (d_.Unit = [112, 120]) then
   Zk d_ 64 1000
  else
   if decide (d_.Unit = [101, 109]) then
    Zk d_ k_.Em 1000
   else
    if decide (d_.Unit = [114, 101, 109]) then
     Zk d_ k_.Rem 1000
    else
     if decide (d_.Unit = [118, 119]) then
      Zk d_ (wi (64 * k_.Width)) 100000
     else
      if decide (d_.Unit = [118, 104]) then
       Zk d_ (wi (64 * k_.Height)) 100000
      else
       if ((!decide (d_.Unit = [])) || (!decide (d_.Num = 0))) then
        some (0, 7)
       else
        Zk d_ 0 1000
theorem Zbc {mL : Int} {d_ : TSDim} {k_ : TSScale} {r : (Int × Int)} (h : Z2n d_ k_ = some r) : CPure Tryz.prog (GG mL) 47 [(.agg (e_TSDim d_)), (.agg (e_TSScale k_))] (.tup [(I r.1), (I r.2)]) := by
 refine acalls_of_sv hmix c47 (R := Z82 r) ?_
 unfold Z2n at h
 refine ssr <| un <| a2v (v := (.c (.ref 0 2 0 0))) (h' := upd _ 0 (some (.cells 2 [(e_TSDim d_)]))) (n' := 1) rfl rfl hcs <| un <| a2v (v := (.c (.ref 1 4 0 0))) (h' := upd _ 1 (some (.cells 4 [(e_TSScale k_)]))) (n' := 2) rfl rfl hcs <| un1 rfl <| un1 rfl <| dnil <| Sv.seq <| ssr <| un1 (v := (.c (.ref 0 2 0 0))) rfl <| un1 (v := (I d_.Num)) rfl <| un <| ac_pure (Z2l (mL := mL) d_.Num (-1000000000) 1000000000) rfl rfl rfl <| un1 (v := (B (!(Z1 d_.Num (-1000000000) 1000000000)))) rfl <| un1 rfl ?_
 refine gjoin 5 (d := 17) (v := (B ((!(Z1 d_.Num (-1000000000) 1000000000)) || (!(Z1 k_.Em 0 16777216))))) (fun X hX => ?_) ?_
 ·refine split2 (fun hc1 => ?_) (fun hc1 => ?_)
  ·refine gs rfl rfl <| gs rfl rfl <| gs rfl rfl <| gs rfl rfl <| un1 (v := (B true)) rfl <| dnil ?_
   exact hX _ (.putEq (by rw [hc1]; rfl) (.skp (.skp (.skp (.skp (.putEq (by rw [hc1]) (.refl _)) rfl) rfl) rfl) rfl))
  ·refine gt rfl <| a1 (v := (.c (.ref 1 4 0 0))) rfl <| gt rfl <| a1 (v := (I k_.Em)) rfl <| gt rfl <| ac_pure (Z2l (mL := mL) k_.Em 0 16777216) rfl rfl rfl <| gt rfl <| a1 (v := (B (!(Z1 k_.Em 0 16777216)))) rfl <| un1 (v := (B (!(Z1 k_.Em 0 16777216)))) rfl <| dnil ?_
   exact hX _ (.putEq (by rw [hc1]; rfl) (.skp (.skp (.skp (.skp (.putEq (by rw [hc1]) (.refl _)) rfl) rfl) rfl) rfl))
 refine un1 rfl ?_
 refine gjoin 5 (d := 23) (v := (B (((!(Z1 d_.Num (-1000000000) 1000000000)) || (!(Z1 k_.Em 0 16777216))) || (!(Z1 k_.Rem 0 16777216))))) (fun X hX => ?_) ?_
 ·refine split2 (fun hc2 => ?_) (fun hc2 => ?_)
  ·refine gs rfl rfl <| gs rfl rfl <| gs rfl rfl <| gs rfl rfl <| un1 (v := (B true)) rfl <| dnil ?_
   exact hX _ (.putEq (by rw [hc2]; rfl) (.skp (.skp (.skp (.skp (.putEq (by rw [hc2]) (.refl _)) rfl) rfl) rfl) rfl))
  ·refine gt rfl <| a1 (v := (.c (.ref 1 4 0 1))) rfl <| gt rfl <| a1 (v := (I k_.Rem)) rfl <| gt rfl <| ac_pure (Z2l (mL := mL) k_.Rem 0 16777216) rfl rfl rfl <| gt rfl <| a1 (v := (B (!(Z1 k_.Rem 0 16777216)))) rfl <| un1 (v := (B (!(Z1 k_.Rem 0 16777216)))) rfl <| dnil ?_
   exact hX _ (.putEq (by rw [hc2]; rfl) (.skp (.skp (.skp (.skp (.putEq (by rw [hc2]) (.refl _)) rfl) rfl) rfl) rfl))
 refine un1 rfl ?_
 refine gjoin 5 (d := 29) (v := (B ((((!(Z1 d_.Num (-1000000000) 1000000000)) || (!(Z1 k_.Em 0 16777216))) || (!(Z1 k_.Rem 0 16777216))) || (!(Z1 k_.Width 1 4000))))) (fun X hX => ?_) ?_
 ·refine split2 (fun hc3 => ?_) (fun hc3 => ?_)
  ·refine gs rfl rfl <| gs rfl rfl <| gs rfl rfl <| gs rfl rfl <| un1 (v := (B true)) rfl <| dnil ?_
   exact hX _ (.putEq (by rw [hc3]; rfl) (.skp (.skp (.skp (.skp (.putEq (by rw [hc3]) (.refl _)) rfl) rfl) rfl) rfl))
  ·refine gt rfl <| a1 (v := (.c (.ref 1 4 0 2))) rfl <| gt rfl <| a1 (v := (I k_.Width)) rfl <| gt rfl <| ac_pure (Z2l (mL := mL) k_.Width 1 4000) rfl rfl rfl <| gt rfl <| a1 (v := (B (!(Z1 k_.Width 1 4000)))) rfl <| un1 (v := (B (!(Z1 k_.Width 1 4000)))) rfl <| dnil ?_
   exact hX _ (.putEq (by rw [hc3]; rfl) (.skp (.skp (.skp (.skp (.putEq (by rw [hc3]) (.refl _)) rfl) rfl) rfl) rfl))
 refine un1 rfl ?_
 refine gjoin 5 (d := 35) (v := (B (((((!(Z1 d_.Num (-1000000000) 1000000000)) || (!(Z1 k_.Em 0 16777216))) || (!(Z1 k_.Rem 0 16777216))) || (!(Z1 k_.Width 1 4000))) || (!(Z1 k_.Height 1 4000))))) (fun X hX => ?_) ?_
 ·refine split2 (fun hc4 => ?_) (fun hc4 => ?_)
  ·refine gs rfl rfl <| gs rfl rfl <| gs rfl rfl <| gs rfl rfl <| un1 (v := (B true)) rfl <| dnil ?_
   exact hX _ (.putEq (by rw [hc4]; rfl) (.skp (.skp (.skp (.skp (.putEq (by rw [hc4]) (.refl _)) rfl) rfl) rfl) rfl))
  ·refine gt rfl <| a1 (v := (.c (.ref 1 4 0 3))) rfl <| gt rfl <| a1 (v := (I k_.Height)) rfl <| gt rfl <| ac_pure (Z2l (mL := mL) k_.Height 1 4000) rfl rfl rfl <| gt rfl <| a1 (v := (B (!(Z1 k_.Height 1 4000)))) rfl <| un1 (v := (B (!(Z1 k_.Height 1 4000)))) rfl <| dnil ?_
   exact hX _ (.putEq (by rw [hc4]; rfl) (.skp (.skp (.skp (.skp (.putEq (by rw [hc4]) (.refl _)) rfl) rfl) rfl) rfl))
 refine dnil ?_
 refine Sv.cnd rfl h (fun h => ?_) fun h => ?_
 ·refine ssr <| un1 rfl <| un1 rfl <| dnil <| Sv.ret ?_
  exact rt0 h rfl rfl ⟨rfl, rfl, rfl⟩
 ·refine Sv.skip <| ssr <| un1 rfl <| un1 rfl <| dnil <| Sv.seq <| ssr <| un1 (v := (.c (.ref 0 2 0 1))) rfl <| un1 (v := (S d_.Unit)) rfl <| dnil <| Sv.block <| ssr <| un1 (v := (B (decide (d_.Unit = [112, 120])))) rfl <| un1 rfl <| dnil ?_
  refine Sv.cnd rfl h (fun h => ?_) fun h => ?_
  ·refine srg <| un1 rfl <| dnil ?_
   exact Sv.weak (wcn [0] rfl (.cf rfl rfl (.cf rfl rfl (.cr rfl rfl rfl .nil))) (.box (by decide) rfl (blkAs_cells (.sm rfl (.sm rfl .nil))) .nil)) (Z1u h)
  ·refine ssr <| un1 (v := (B (decide (d_.Unit = [101, 109])))) rfl <| un1 rfl <| dnil ?_
   refine Sv.cnd rfl h (fun h => ?_) fun h => ?_
   ·refine srg <| un1 (v := (.c (.ref 1 4 0 0))) rfl <| un1 (v := (I k_.Em)) rfl <| un1 rfl <| dnil ?_
    exact Sv.weak (wcn [0] rfl (.cf rfl rfl (.cf rfl rfl (.cr rfl rfl rfl .nil))) (.box (by decide) rfl (blkAs_cells (.sm rfl (.sm rfl .nil))) .nil)) (Z1u h)
   ·refine ssr <| un1 (v := (B (decide (d_.Unit = [114, 101, 109])))) rfl <| un1 rfl <| dnil ?_
    refine Sv.cnd rfl h (fun h => ?_) fun h => ?_
    ·refine srg <| un1 (v := (.c (.ref 1 4 0 1))) rfl <| un1 (v := (I k_.Rem)) rfl <| un1 rfl <| dnil ?_
     exact Sv.weak (wcn [0] rfl (.cf rfl rfl (.cf rfl rfl (.cr rfl rfl rfl .nil))) (.box (by decide) rfl (blkAs_cells (.sm rfl (.sm rfl .nil))) .nil)) (Z1u h)
    ·refine ssr <| un1 (v := (B (decide (d_.Unit = [118, 119])))) rfl <| un1 rfl <| dnil ?_
     refine Sv.cnd rfl h (fun h => ?_) fun h => ?_
     ·refine srg <| un1 (v := (.c (.ref 1 4 0 2))) rfl <| un1 (v := (I k_.Width)) rfl <| un1 (v := (I (wi (64 * k_.Width)))) rfl <| un1 rfl <| un1 rfl <| dnil ?_
      exact Sv.weak (wcn [0] rfl (.cf rfl rfl (.cf rfl rfl (.cr rfl rfl rfl .nil))) (.box (by decide) rfl (blkAs_cells (.sm rfl (.sm rfl .nil))) .nil)) (Z1u h)
     ·refine ssr <| un1 (v := (B (decide (d_.Unit = [118, 104])))) rfl <| un1 rfl <| dnil ?_
      refine Sv.cnd rfl h (fun h => ?_) fun h => ?_
      ·refine srg <| un1 (v := (.c (.ref 1 4 0 3))) rfl <| un1 (v := (I k_.Height)) rfl <| un1 (v := (I (wi (64 * k_.Height)))) rfl <| un1 rfl <| un1 rfl <| dnil ?_
       exact Sv.weak (wcn [0] rfl (.cf rfl rfl (.cf rfl rfl (.cr rfl rfl rfl .nil))) (.box (by decide) rfl (blkAs_cells (.sm rfl (.sm rfl .nil))) .nil)) (Z1u h)
      ·refine ssr <| un1 (v := (.c (.ref 0 2 0 1))) rfl <| un1 (v := (S d_.Unit)) rfl <| un1 (v := (B (!decide (d_.Unit = [])))) rfl <| un1 rfl ?_
       refine gjoin 4 (d := 45) (v := (B ((!decide (d_.Unit = [])) || (!decide (d_.Num = 0))))) (fun X hX => ?_) ?_
       ·refine split2 (fun hc11 => ?_) (fun hc11 => ?_)
        ·refine gs rfl rfl <| gs rfl rfl <| gs rfl rfl <| un1 (v := (B true)) rfl <| dnil ?_
         exact hX _ (.putEq (by rw [hc11]; rfl) (.skp (.skp (.skp (.putEq (by rw [hc11]) (.refl _)) rfl) rfl) rfl))
        ·refine gt rfl <| a1 (v := (.c (.ref 0 2 0 0))) rfl <| gt rfl <| a1 (v := (I d_.Num)) rfl <| gt rfl <| a1 (v := (B (!decide (d_.Num = 0)))) rfl <| un1 (v := (B (!decide (d_.Num = 0)))) rfl <| dnil ?_
         exact hX _ (.putEq (by rw [hc11]; rfl) (.skp (.skp (.skp (.putEq (by rw [hc11]) (.refl _)) rfl) rfl) rfl))
       refine dnil ?_
       refine Sv.cnd rfl h (fun h => ?_) fun h => ?_
       ·refine ssr <| un1 rfl <| un1 rfl <| dnil <| Sv.ret ?_
        exact rt0 h rfl rfl ⟨rfl, rfl, rfl⟩
       ·refine Sv.skip ?_
        exact Sv.weak (wcn [0] rfl (.cf rfl rfl (.cf rfl rfl (.cr rfl rfl rfl .nil))) (.box (by decide) rfl (blkAs_cells (.sm rfl (.sm rfl .nil))) .nil)) (Z1u h)
def a25 : AFunc := ⟨2, [(.cell true 2 4), (.tmp 5)], (sr [(oP 2 (.box (.tmp 0))), (oP 3 (.box (.tmp 1))), (oP 4 (.box (.const (.agg [(.val (.int .i64 0)), (.val (.int .i64 0))])))), (oP 5 (.mov (kI 0)))]
 (.seq (sr [(oP 8 (.faddr 1 (.tmp 2))), (oP 9 (.load false 1 (.tmp 8)))]
 (.block 0 (sr [(oP 11 (.bin .eql (.tmp 9) (.const (.c (.str []))))), (mV 10 11)]
 (.cond (.tmp 10) (sr [(oP 12 (.faddr 0 (.tmp 2))), (oP 13 (.load false 1 (.tmp 12))), (oP 14 (.call 45 [(.tmp 13)])), (oP 15 (.build [(.val (.int .i64 0)), (.val (.int .i64 0))] [(0, (1, (kI 4))), (1, (1, (.tmp 14)))])), (oN (.store 2 (.tmp 4) (.tmp 15))), (oP 5 (.mov (kI 0)))]
 .ret) (sr [(oP 17 (.bin .eql (.tmp 9) (.const (.c (.str [37]))))), (mV 16 17)]
 (.cond (.tmp 16) (sr [(oP 18 (.faddr 0 (.tmp 2))), (oP 19 (.load false 1 (.tmp 18))), (oP 20 (.call 46 [(.tmp 19), (kI 10)])), (oP 21 (.call 45 [(.tmp 20)])), (oP 22 (.build [(.val (.int .i64 0)), (.val (.int .i64 0))] [(0, (1, (kI 3))), (1, (1, (.tmp 21)))])), (oN (.store 2 (.tmp 4) (.tmp 22))), (oP 5 (.mov (kI 0)))]
 .ret) .skip))))))
 (sr [(oP 24 (.load true 2 (.tmp 2))), (oP 25 (.load true 4 (.tmp 3))), (oP 26 (.call 47 [(.tmp 24), (.tmp 25)])), (mV 23 26), (oP 27 (.ext (.tmp 23) 0)), (oP 28 (.ext (.tmp 23) 1)), (mV 6 27), (mV 7 28)]
 (.seq (sr [(mV 29 7), (oP 30 (.bin .neq (.tmp 29) (kI 0)))]
 (.cond (.tmp 30) (sr [(oP 31 (.build [(.val (.int .i64 0)), (.val (.int .i64 0))] [])), (mV 32 7), (oN (.store 2 (.tmp 4) (.tmp 31))), (mV 5 32)]
 .ret) .skip))
 (sr [(mV 33 6), (oP 34 (.build [(.val (.int .i64 0)), (.val (.int .i64 0))] [(0, (1, (kI 2))), (1, (1, (.tmp 33)))])), (oN (.store 2 (.tmp 4) (.tmp 34))), (oP 5 (.mov (kI 0)))]
 .ret)))))⟩
theorem c25 : compFunc Tryz.prog 25 = some a25 := by kernel_rfl
def Zbd (r : (TVal × Int)) : AV → Heap → Nat → Prop := fun v h' n' => v = (.tup [(.agg (e_TVal r.1)), (I r.2)]) ∧ (h' = e0) ∧ n' = 0
/-- clerestory/calc.number -/
noncomputable def Z2o (d_ : TSDim) (k_ : TSScale) : Option (TVal × Int) :=
 if decide (d_.Unit = []) then
  some ((⟨4, (Z2 d_.Num)⟩ : TVal), 0)
 else
  if decide (d_.Unit = [37]) then
   (Zt d_.Num 10).bind fun r_ =>
   some ((⟨3, (Z2 r_)⟩ : TVal), 0)
  else
   (Z2n d_ k_).bind fun r_1 =>
   if (!decide (r_1.2 = 0)) then
    some ((⟨0, 0⟩ : TVal), r_1.2)
   else
    some ((⟨2, r_1.1⟩ : TVal), 0)
theorem Zbe {mL : Int} {d_ : TSDim} {k_ : TSScale} {r : (TVal × Int)} (h : Z2o d_ k_ = some r) : CPure Tryz.prog (GG mL) 25 [(.agg (e_TSDim d_)), (.agg (e_TSScale k_))] (.tup [(.agg (e_TVal r.1)), (I r.2)]) := by
 refine acalls_of_sv hmix c25 (R := Zbd r) ?_
 unfold Z2o at h
 refine ssr <| un <| a2v (v := (.c (.ref 0 2 0 0))) (h' := upd _ 0 (some (.cells 2 [(e_TSDim d_)]))) (n' := 1) rfl rfl hcs <| un <| a2v (v := (.c (.ref 1 4 0 0))) (h' := upd _ 1 (some (.cells 4 [(e_TSScale k_)]))) (n' := 2) rfl rfl hcs <| un <| a2v (v := (.c (.ref 2 2 0 0))) (h' := upd _ 2 (some (.cells 2 [[cI 0, cI 0]]))) (n' := 3) rfl rfl hcs <| un1 rfl <| dnil <| Sv.seq <| ssr <| un1 (v := (.c (.ref 0 2 0 1))) rfl <| un1 (v := (S d_.Unit)) rfl <| dnil <| Sv.block <| ssr <| un1 (v := (B (decide (d_.Unit = [])))) rfl <| un1 rfl <| dnil ?_
 refine Sv.cnd rfl h (fun h => ?_) fun h => ?_
 ·refine ssr <| un1 (v := (.c (.ref 0 2 0 0))) rfl <| un1 (v := (I d_.Num)) rfl <| un <| ac_pure (Z2k (mL := mL) d_.Num) rfl rfl rfl <| un1 (v := (.agg [cI 4, cI (Z2 d_.Num)])) rfl <| un <| a2n (h' := upd _ 2 (some (.cells 2 [[cI 4, cI (Z2 d_.Num)]]))) (n' := 3) rfl rfl hcs <| un1 rfl <| dnil <| Sv.ret ?_
  exact rt0 h rfl rfl ⟨rfl, rfl, rfl⟩
 ·refine ssr <| un1 (v := (B (decide (d_.Unit = [37])))) rfl <| un1 rfl <| dnil ?_
  refine Sv.cnd rfl h (fun h => ?_) fun h => ?_
  ·refine ssr <| un1 (v := (.c (.ref 0 2 0 0))) rfl <| un1 (v := (I d_.Num)) rfl ?_
   obtain ⟨r_, hr1, h⟩ := bnd h
   refine un <| ac_pure (Z5q hr1) rfl rfl rfl <| un <| ac_pure (Z2k (mL := mL) r_) rfl rfl rfl <| un1 (v := (.agg [cI 3, cI (Z2 r_)])) rfl <| un <| a2n (h' := upd _ 2 (some (.cells 2 [[cI 3, cI (Z2 r_)]]))) (n' := 3) rfl rfl hcs <| un1 rfl <| dnil <| Sv.ret ?_
   exact rt0 h rfl rfl ⟨rfl, rfl, rfl⟩
  ·refine Sv.skip <| ssr <| un1 (v := (.agg (e_TSDim d_))) rfl <| un1 (v := (.agg (e_TSScale k_))) rfl ?_
   obtain ⟨r_1, hr2, h⟩ := bnd h
   refine un <| ac_pure (Zbc hr2) rfl rfl rfl <| un1 rfl <| un1 (v := (I r_1.1)) rfl <| un1 (v := (I r_1.2)) rfl <| un1 rfl <| un1 rfl <| dnil <| Sv.seq <| ssr <| un1 rfl <| un1 (v := (B (!decide (r_1.2 = 0)))) rfl <| dnil ?_
   refine Sv.cnd rfl h (fun h => ?_) fun h => ?_
   ·refine ssr <| un1 (v := (.agg [cI 0, cI 0])) rfl <| un1 rfl <| un <| a2n (h' := upd _ 2 (some (.cells 2 [[cI 0, cI 0]]))) (n' := 3) rfl rfl hcs <| un1 rfl <| dnil <| Sv.ret ?_
    exact rt0 h rfl rfl ⟨rfl, rfl, rfl⟩
   ·refine Sv.skip <| ssr <| un1 rfl <| un1 (v := (.agg [cI 2, cI r_1.1])) rfl <| un <| a2n (h' := upd _ 2 (some (.cells 2 [[cI 2, cI r_1.1]]))) (n' := 3) rfl rfl hcs <| un1 rfl <| dnil <| Sv.ret ?_
    exact rt0 h rfl rfl ⟨rfl, rfl, rfl⟩
def a26_c0 : ACode := (.seq (sr [(oP 11 (.faddr 0 (.tmp 3))), (oP 12 (.load false 1 (.tmp 11))), (oP 13 (.bin .neq (.tmp 12) (kI 4)))]
 (.cond (.tmp 13) (sr [(oP 14 (.build [(.val (.int .i64 0)), (.val (.int .i64 0))] [])), (oN (.store 2 (.tmp 4) (.tmp 14))), (oP 5 (.mov (kI 7)))]
 .ret) .skip))
 (.seq (.drawn (.fin [((oP 15 (.faddr 0 (.tmp 2))), (0, 0)), ((oP 16 (.load false 1 (.tmp 15))), (0, 1)), ((oP 17 (.faddr 1 (.tmp 2))), (0, 2)), ((oP 18 (.load false 1 (.tmp 17))), (0, 3)), ((oP 19 (.faddr 1 (.tmp 3))), (0, 4)), ((oP 20 (.load false 1 (.tmp 19))), (0, 5)), ((oP 21 (.bin .mul (.tmp 18) (.tmp 20))), (0, 6)), ((oP 22 (.call 46 [(.tmp 21), (kI 1000)])), (1, 7)), ((oP 23 (.call 45 [(.tmp 22)])), (1, 8)), ((oP 24 (.build [(.val (.int .i64 0)), (.val (.int .i64 0))] [(0, (1, (.tmp 16))), (1, (1, (.tmp 23)))])), (0, 9)), ((oN (.store 2 (.tmp 4) (.tmp 24))), (2, 10)), ((oP 5 (.mov (kI 0))), (0, 11))]))
 .ret))
def a26 : AFunc := ⟨2, [(.cell true 2 4), (.tmp 5)], (sr [(oP 2 (.box (.tmp 0))), (oP 3 (.box (.tmp 1))), (oP 4 (.box (.const (.agg [(.val (.int .i64 0)), (.val (.int .i64 0))])))), (oP 5 (.mov (kI 0)))]
 (.seq (sr [(oP 6 (.faddr 0 (.tmp 3))), (oP 7 (.load false 1 (.tmp 6))), (oP 8 (.bin .neq (.tmp 7) (kI 4)))]
 (.cond (.tmp 8) (.region [(oP 9 (.load true 2 (.tmp 3))), (oP 10 (.load true 2 (.tmp 2))), (oN (.store 2 (.tmp 2) (.tmp 9))), (oN (.store 2 (.tmp 3) (.tmp 10)))]) .skip))
 a26_c0))⟩
theorem c26 : compFunc Tryz.prog 26 = some a26 := by kernel_rfl
def Z83 (r : (TVal × Int)) : AV → Heap → Nat → Prop := fun v h' n' => v = (.tup [(.agg (e_TVal r.1)), (I r.2)]) ∧ (h' = e0) ∧ n' = 0
noncomputable def Z2p (a0 : Int) (a11 : Int) (b0 : Int) (b1 : Int) : Option (TVal × Int) :=
 if (!decide (b0 = 4)) then
  some ((⟨0, 0⟩ : TVal), 7)
 else
  (Zt (wi (a11 * b1)) 1000).bind fun r_ =>
  some ((⟨a0, (Z2 r_)⟩ : TVal), 0)
theorem Z84 {mL : Int} {a0 : Int} {a11 : Int} {b0 : Int} {b1 : Int} {o : (TVal × Int)} (h : Z2p a0 a11 b0 b1 = some o) :
  Sv Tryz.prog (GG mL) 0 a26_c0 (Ends a26.results 0 (Z83 o)) ⟨(ue [(4, (.c (.ref 2 2 0 0))), (3, (.c (.ref 1 2 0 0))), (2, (.c (.ref 0 2 0 0)))]), (upd (upd (upd e0 0 (some (.cells 2 [[cI a0, cI a11]]))) 1 (some (.cells 2 [[cI b0, cI b1]]))) 2 (some (.cells 2 [[cI 0, cI 0]]))), 3⟩ := by
 unfold Z2p at h
 refine Sv.seq <| ssr <| un1 (v := (.c (.ref 1 2 0 0))) rfl <| un1 (v := (I b0)) rfl <| un1 (v := (B (!decide (b0 = 4)))) rfl <| dnil ?_
 refine Sv.cnd rfl h (fun h => ?_) fun h => ?_
 ·refine ssr <| un1 (v := (.agg [cI 0, cI 0])) rfl <| un <| a2n (h' := upd _ 2 (some (.cells 2 [[cI 0, cI 0]]))) (n' := 3) rfl rfl hcs <| un1 rfl <| dnil <| Sv.ret ?_
  exact rt0 h rfl rfl ⟨rfl, rfl, rfl⟩
 ·refine Sv.skip <| Sv.seq <| Sv.drawn <| un1 (v := (.c (.ref 0 2 0 0))) rfl <| un1 (v := (I a0)) rfl <| un1 (v := (.c (.ref 0 2 0 1))) rfl <| un1 (v := (I a11)) rfl <| un1 (v := (.c (.ref 1 2 0 1))) rfl <| un1 (v := (I b1)) rfl <| un1 (v := (I (wi (a11 * b1)))) rfl ?_
  obtain ⟨r_, hr1, h⟩ := bnd h
  refine un <| ac_pure (Z5q hr1) rfl rfl rfl <| un <| ac_pure (Z2k (mL := mL) r_) rfl rfl rfl <| un1 (v := (.agg [cI a0, cI (Z2 r_)])) rfl <| un <| a2n (h' := upd _ 2 (some (.cells 2 [[cI a0, cI (Z2 r_)]]))) (n' := 3) rfl rfl hcs <| un1 rfl <| dnil <| Sv.ret ?_
  exact rt0 h rfl rfl ⟨rfl, rfl, rfl⟩
/-- clerestory/calc.times -/
noncomputable def Z1v (a_ : TVal) (b_ : TVal) : Option (TVal × Int) :=
 if (!decide (b_.Kind = 4)) then
  Z2p b_.Kind b_.N a_.Kind a_.N
 else
  Z2p a_.Kind a_.N b_.Kind b_.N
theorem Zbf {mL : Int} {a_ : TVal} {b_ : TVal} {r : (TVal × Int)} (h : Z1v a_ b_ = some r) : CPure Tryz.prog (GG mL) 26 [(.agg (e_TVal a_)), (.agg (e_TVal b_))] (.tup [(.agg (e_TVal r.1)), (I r.2)]) := by
 refine acalls_of_sv hmix c26 (R := Z83 r) ?_
 unfold Z1v at h
 refine ssr <| un <| a2v (v := (.c (.ref 0 2 0 0))) (h' := upd _ 0 (some (.cells 2 [(e_TVal a_)]))) (n' := 1) rfl rfl hcs <| un <| a2v (v := (.c (.ref 1 2 0 0))) (h' := upd _ 1 (some (.cells 2 [(e_TVal b_)]))) (n' := 2) rfl rfl hcs <| un <| a2v (v := (.c (.ref 2 2 0 0))) (h' := upd _ 2 (some (.cells 2 [[cI 0, cI 0]]))) (n' := 3) rfl rfl hcs <| un1 rfl <| dnil <| Sv.seq <| ssr <| un1 (v := (.c (.ref 1 2 0 0))) rfl <| un1 (v := (I b_.Kind)) rfl <| un1 (v := (B (!decide (b_.Kind = 4)))) rfl <| dnil ?_
 refine Sv.cnd rfl h (fun h => ?_) fun h => ?_
 ·refine srg <| un1 (v := (.agg (e_TVal b_))) rfl <| un1 (v := (.agg (e_TVal a_))) rfl <| un <| a2n (h' := upd _ 0 (some (.cells 2 [(e_TVal b_)]))) (n' := 3) rfl rfl hcs <| un <| a2n (h' := upd _ 1 (some (.cells 2 [(e_TVal a_)]))) (n' := 3) rfl rfl hcs <| dnil ?_
  exact Sv.weak (wcn [0, 1, 2] rfl (.cr rfl rfl rfl (.cr rfl rfl rfl (.cr rfl rfl rfl .nil))) (.box (by decide) rfl (blkAs_cells (.sm rfl (.sm rfl .nil))) (.box (by decide) rfl (blkAs_cells (.sm rfl (.sm rfl .nil))) (.box (by decide) rfl (blkAs_cells (.sm rfl (.sm rfl .nil))) .nil)))) (Z84 h)
 ·refine Sv.skip ?_
  exact Sv.weak (wcn [0, 1, 2] rfl (.cr rfl rfl rfl (.cr rfl rfl rfl (.cr rfl rfl rfl .nil))) (.box (by decide) rfl (blkAs_cells (.sm rfl (.sm rfl .nil))) (.box (by decide) rfl (blkAs_cells (.sm rfl (.sm rfl .nil))) (.box (by decide) rfl (blkAs_cells (.sm rfl (.sm rfl .nil))) .nil)))) (Z84 h)
def a27 : AFunc := ⟨2, [(.cell true 2 4), (.tmp 5)], (sr [(oP 2 (.box (.tmp 0))), (oP 3 (.box (.tmp 1))), (oP 4 (.box (.const (.agg [(.val (.int .i64 0)), (.val (.int .i64 0))])))), (oP 5 (.mov (kI 0)))]
 (.seq (.block 0 (sr [(oP 7 (.faddr 0 (.tmp 3))), (oP 8 (.load false 1 (.tmp 7))), (oP 9 (.bin .neq (.tmp 8) (kI 4))), (mV 6 9)]
 (.cond (.tmp 6) (sr [(oP 10 (.build [(.val (.int .i64 0)), (.val (.int .i64 0))] [])), (oN (.store 2 (.tmp 4) (.tmp 10))), (oP 5 (.mov (kI 7)))]
 .ret) (sr [(oP 12 (.faddr 1 (.tmp 3))), (oP 13 (.load false 1 (.tmp 12))), (oP 14 (.bin .eql (.tmp 13) (kI 0))), (mV 11 14)]
 (.cond (.tmp 11) (sr [(oP 15 (.build [(.val (.int .i64 0)), (.val (.int .i64 0))] [])), (oN (.store 2 (.tmp 4) (.tmp 15))), (oP 5 (.mov (kI 1)))]
 .ret) .skip)))))
 (.seq (.drawn (.fin [((oP 16 (.faddr 0 (.tmp 2))), (0, 0)), ((oP 17 (.load false 1 (.tmp 16))), (0, 1)), ((oP 18 (.faddr 1 (.tmp 2))), (0, 2)), ((oP 19 (.load false 1 (.tmp 18))), (0, 3)), ((oP 20 (.bin .mul (.tmp 19) (kI 1000))), (0, 4)), ((oP 21 (.faddr 1 (.tmp 3))), (0, 5)), ((oP 22 (.load false 1 (.tmp 21))), (0, 6)), ((oP 23 (.call 46 [(.tmp 20), (.tmp 22)])), (1, 7)), ((oP 24 (.call 45 [(.tmp 23)])), (1, 8)), ((oP 25 (.build [(.val (.int .i64 0)), (.val (.int .i64 0))] [(0, (1, (.tmp 17))), (1, (1, (.tmp 24)))])), (0, 9)), ((oN (.store 2 (.tmp 4) (.tmp 25))), (2, 10)), ((oP 5 (.mov (kI 0))), (0, 11))]))
 .ret)))⟩
theorem c27 : compFunc Tryz.prog 27 = some a27 := by kernel_rfl
def Zbg (r : (TVal × Int)) : AV → Heap → Nat → Prop := fun v h' n' => v = (.tup [(.agg (e_TVal r.1)), (I r.2)]) ∧ (h' = e0) ∧ n' = 0
/-- clerestory/calc.divided -/
noncomputable def Z1w (a_ : TVal) (b_ : TVal) : Option (TVal × Int) :=
 if (!decide (b_.Kind = 4)) then
  some ((⟨0, 0⟩ : TVal), 7)
 else
  if decide (b_.N = 0) then
   some ((⟨0, 0⟩ : TVal), 1)
  else
   (Zt (wi (a_.N * 1000)) b_.N).bind fun r_ =>
   some ((⟨a_.Kind, (Z2 r_)⟩ : TVal), 0)
theorem Zbh {mL : Int} {a_ : TVal} {b_ : TVal} {r : (TVal × Int)} (h : Z1w a_ b_ = some r) : CPure Tryz.prog (GG mL) 27 [(.agg (e_TVal a_)), (.agg (e_TVal b_))] (.tup [(.agg (e_TVal r.1)), (I r.2)]) := by
 refine acalls_of_sv hmix c27 (R := Zbg r) ?_
 unfold Z1w at h
 refine ssr <| un <| a2v (v := (.c (.ref 0 2 0 0))) (h' := upd _ 0 (some (.cells 2 [(e_TVal a_)]))) (n' := 1) rfl rfl hcs <| un <| a2v (v := (.c (.ref 1 2 0 0))) (h' := upd _ 1 (some (.cells 2 [(e_TVal b_)]))) (n' := 2) rfl rfl hcs <| un <| a2v (v := (.c (.ref 2 2 0 0))) (h' := upd _ 2 (some (.cells 2 [[cI 0, cI 0]]))) (n' := 3) rfl rfl hcs <| un1 rfl <| dnil <| Sv.seq <| Sv.block <| ssr <| un1 (v := (.c (.ref 1 2 0 0))) rfl <| un1 (v := (I b_.Kind)) rfl <| un1 (v := (B (!decide (b_.Kind = 4)))) rfl <| un1 rfl <| dnil ?_
 refine Sv.cnd rfl h (fun h => ?_) fun h => ?_
 ·refine ssr <| un1 (v := (.agg [cI 0, cI 0])) rfl <| un <| a2n (h' := upd _ 2 (some (.cells 2 [[cI 0, cI 0]]))) (n' := 3) rfl rfl hcs <| un1 rfl <| dnil <| Sv.ret ?_
  exact rt0 h rfl rfl ⟨rfl, rfl, rfl⟩
 ·refine ssr <| un1 (v := (.c (.ref 1 2 0 1))) rfl <| un1 (v := (I b_.N)) rfl <| un1 (v := (B (decide (b_.N = 0)))) rfl <| un1 rfl <| dnil ?_
  refine Sv.cnd rfl h (fun h => ?_) fun h => ?_
  ·refine ssr <| un1 (v := (.agg [cI 0, cI 0])) rfl <| un <| a2n (h' := upd _ 2 (some (.cells 2 [[cI 0, cI 0]]))) (n' := 3) rfl rfl hcs <| un1 rfl <| dnil <| Sv.ret ?_
   exact rt0 h rfl rfl ⟨rfl, rfl, rfl⟩
  ·refine Sv.skip <| Sv.seq <| Sv.drawn <| un1 (v := (.c (.ref 0 2 0 0))) rfl <| un1 (v := (I a_.Kind)) rfl <| un1 (v := (.c (.ref 0 2 0 1))) rfl <| un1 (v := (I a_.N)) rfl <| un1 (v := (I (wi (a_.N * 1000)))) rfl <| un1 (v := (.c (.ref 1 2 0 1))) rfl <| un1 (v := (I b_.N)) rfl ?_
   obtain ⟨r_, hr1, h⟩ := bnd h
   refine un <| ac_pure (Z5q hr1) rfl rfl rfl <| un <| ac_pure (Z2k (mL := mL) r_) rfl rfl rfl <| un1 (v := (.agg [cI a_.Kind, cI (Z2 r_)])) rfl <| un <| a2n (h' := upd _ 2 (some (.cells 2 [[cI a_.Kind, cI (Z2 r_)]]))) (n' := 3) rfl rfl hcs <| un1 rfl <| dnil <| Sv.ret ?_
   exact rt0 h rfl rfl ⟨rfl, rfl, rfl⟩
def a28_c0 : ACode := (.region [(oP 62 (.bin .add (.tmp 15) (kI 1))), (mV 15 62)])
def a28_c1 : ACode := (sr [(oP 16 (.bin .lss (.tmp 15) (.tmp 14)))]
 (.seq (.cond (.tmp 16) .skip (.exit 0))
 (.seq (.block 1 (sr [(oP 17 (.iaddr 2 (.tmp 13) (.tmp 15))), (oP 18 (.load true 2 (.tmp 17))), (oP 8 (.box (.const (.agg [(.val (.int .i64 0)), (.val (.int .i64 0))])))), (oN (.store 2 (.tmp 8) (.tmp 18)))]
 (.block 2 (sr [(oP 20 (.faddr 0 (.tmp 8))), (oP 21 (.load false 1 (.tmp 20))), (oP 22 (.faddr 0 (.tmp 6))), (oP 23 (.load false 1 (.tmp 22))), (oP 24 (.bin .neq (.tmp 21) (.tmp 23))), (mV 19 24)]
 (.cond (.tmp 19) (sr [(oP 25 (.build [(.val (.int .i64 0)), (.val (.int .i64 0))] [])), (oN (.store 2 (.tmp 4) (.tmp 25))), (oP 5 (.mov (kI 7)))]
 .ret) (sr [(mV 27 0), (oP 28 (.bin .eql (.tmp 27) (kI 2))), (mV 26 28)]
 (.cond (.tmp 26) (.region [(oP 29 (.faddr 1 (.tmp 6))), (oP 30 (.load false 1 (.tmp 29))), (oP 31 (.faddr 1 (.tmp 8))), (oP 32 (.load false 1 (.tmp 31))), (oP 33 (.bin .add (.tmp 30) (.tmp 32))), (oP 34 (.faddr 1 (.tmp 6))), (oN (.store 1 (.tmp 34) (.tmp 33)))]) (sr [(mV 36 0), (oP 37 (.bin .eql (.tmp 36) (kI 3))), (mV 35 37)]
 (.cond (.tmp 35) (.region [(oP 38 (.faddr 1 (.tmp 6))), (oP 39 (.load false 1 (.tmp 38))), (oP 40 (.faddr 1 (.tmp 8))), (oP 41 (.load false 1 (.tmp 40))), (oP 42 (.bin .sub (.tmp 39) (.tmp 41))), (oP 43 (.faddr 1 (.tmp 6))), (oN (.store 1 (.tmp 43) (.tmp 42)))]) (sr [(mV 45 0), (oP 46 (.bin .eql (.tmp 45) (kI 6))), (mV 44 46)]
 (.cond (.tmp 44) (.region [(oP 47 (.faddr 1 (.tmp 6))), (oP 48 (.load false 1 (.tmp 47))), (oP 49 (.faddr 1 (.tmp 8))), (oP 50 (.load false 1 (.tmp 49))), (oP 51 (.mm false [(.tmp 48), (.tmp 50)])), (oP 52 (.faddr 1 (.tmp 6))), (oN (.store 1 (.tmp 52) (.tmp 51)))]) (sr [(mV 54 0), (oP 55 (.bin .eql (.tmp 54) (kI 7))), (mV 53 55)]
 (.cond (.tmp 53) (.region [(oP 56 (.faddr 1 (.tmp 6))), (oP 57 (.load false 1 (.tmp 56))), (oP 58 (.faddr 1 (.tmp 8))), (oP 59 (.load false 1 (.tmp 58))), (oP 60 (.mm true [(.tmp 57), (.tmp 59)])), (oP 61 (.faddr 1 (.tmp 6))), (oN (.store 1 (.tmp 61) (.tmp 60)))]) .skip)))))))))))))
 a28_c0)))
def a28_c2 : ACode := (sr [(oP 80 (.faddr 1 (.tmp 6))), (oP 81 (.load false 1 (.tmp 80))), (oP 82 (.call 45 [(.tmp 81)])), (oP 83 (.faddr 1 (.tmp 6))), (oN (.store 1 (.tmp 83) (.tmp 82)))]
 (sr [(oP 84 (.load true 2 (.tmp 6))), (oN (.store 2 (.tmp 4) (.tmp 84))), (oP 5 (.mov (kI 0)))]
 .ret))
def a28 : AFunc := ⟨2, [(.cell true 2 4), (.tmp 5)], (sr [(oP 4 (.box (.const (.agg [(.val (.int .i64 0)), (.val (.int .i64 0))])))), (oP 5 (.mov (kI 0)))]
 (sr [(mV 9 1), (oP 10 (.iaddr 2 (.tmp 9) (kI 0))), (oP 11 (.load true 2 (.tmp 10))), (oP 6 (.box (.const (.agg [(.val (.int .i64 0)), (.val (.int .i64 0))])))), (oN (.store 2 (.tmp 6) (.tmp 11)))]
 (.seq (sr [(mV 12 1), (oP 13 (.slSl 2 (.tmp 12) (some (kI 1)) none none)), (oP 14 (.len (.tmp 13))), (oP 15 (.mov (kI 0)))]
 (.block 0 (.loop a28_c1)))
 (.seq (sr [(mV 63 0), (oP 64 (.bin .eql (.tmp 63) (kI 8)))]
 (.cond (.tmp 64) (.drawn (.fin [((mV 65 1), (0, 0)), ((oP 66 (.iaddr 2 (.tmp 65) (kI 0))), (0, 1)), ((oP 67 (.faddr 1 (.tmp 66))), (0, 2)), ((oP 68 (.load false 1 (.tmp 67))), (0, 3)), ((mV 69 1), (0, 4)), ((oP 70 (.iaddr 2 (.tmp 69) (kI 1))), (0, 5)), ((oP 71 (.faddr 1 (.tmp 70))), (0, 6)), ((oP 72 (.load false 1 (.tmp 71))), (0, 7)), ((mV 73 1), (0, 8)), ((oP 74 (.iaddr 2 (.tmp 73) (kI 2))), (0, 9)), ((oP 75 (.faddr 1 (.tmp 74))), (0, 10)), ((oP 76 (.load false 1 (.tmp 75))), (0, 11)), ((oP 77 (.mm false [(.tmp 72), (.tmp 76)])), (0, 12)), ((oP 78 (.mm true [(.tmp 68), (.tmp 77)])), (0, 13)), ((oP 79 (.faddr 1 (.tmp 6))), (0, 14)), ((oN (.store 1 (.tmp 79) (.tmp 78))), (2, 15))])) .skip))
 a28_c2))))⟩
theorem c28 : compFunc Tryz.prog 28 = some a28 := by kernel_rfl
def Z4d (r : (TVal × Int)) : AV → Heap → Nat → Prop := fun v h' n' => v = (.tup [(.agg (e_TVal r.1)), (I r.2)]) ∧ (h' = e0) ∧ n' = 0
abbrev Z85 (kind : Int) (l_ : (List TVal)) (r_ : (List TVal)) (x_ : TVal) (F_ : Int → Int → Option (TVal × Int)) (o : (TVal × Int)) (R_ : St → Prop) : Prop := ∀ (out1 : Int) (v15 : Int), F_ out1 v15 = some o → ∀ s, Weak 0 s ⟨(ue [(15, (I v15)), (14, (I (r_.length : Int))), (13, (.c (.ro false 2 (r_.map e_TVal)))), (6, (.c (.ref 1 2 0 0))), (4, (.c (.ref 0 2 0 0))), (1, (.c (.ro false 2 (l_.map e_TVal)))), (0, (I kind))]), (upd (upd e0 0 (some (.cells 2 [[cI 0, cI 0]]))) 1 (some (.cells 2 [[cI x_.Kind, cI out1]]))), 2⟩ → R_ s
abbrev Z86 (kind : Int) (l_ : (List TVal)) (x_ : TVal) (F_ : Int → Option (TVal × Int)) (o : (TVal × Int)) (R_ : St → Prop) : Prop := ∀ (out11 : Int), F_ out11 = some o → ∀ s, Weak 0 s ⟨(ue [(6, (.c (.ref 1 2 0 0))), (4, (.c (.ref 0 2 0 0))), (1, (.c (.ro false 2 (l_.map e_TVal)))), (0, (I kind))]), (upd (upd e0 0 (some (.cells 2 [[cI 0, cI 0]]))) 1 (some (.cells 2 [[cI x_.Kind, cI out11]]))), 2⟩ → R_ s
noncomputable def Z18 (v15 : Int) (kind : Int) (l_ : (List TVal)) (r_ : (List TVal)) (x_ : TVal) (self : Int → Int → Option (TVal × Int)) (K0_ : Int → Option (TVal × Int)) (out12 : Int) : Option (TVal × Int) :=
 self out12 (wi (v15 + 1))
theorem Z2q {mL : Int} {Q : AExit → St → Prop} {v15 : Int} {kind : Int} {l_ : (List TVal)} {r_ : (List TVal)} {x_ : TVal} {self : Int → Int → Option (TVal × Int)} {K0_ : Int → Option (TVal × Int)} {out12 : Int} {o : (TVal × Int)} (h : Z18 v15 kind l_ r_ x_ self K0_ out12 = some o)
  (hself : Z85 kind l_ r_ x_ self o (Q .normal))
  (hK0 : Z86 kind l_ x_ K0_ o (Q (.exit 0)))
  (hr : ∀ s, Ends a28.results 0 (Z4d o) .ret s → Q .ret s) :
  Sv Tryz.prog (GG mL) 0 a28_c0 Q ⟨(ue [(15, (I v15)), (14, (I (r_.length : Int))), (13, (.c (.ro false 2 (r_.map e_TVal)))), (6, (.c (.ref 1 2 0 0))), (4, (.c (.ref 0 2 0 0))), (1, (.c (.ro false 2 (l_.map e_TVal)))), (0, (I kind))]), (upd (upd e0 0 (some (.cells 2 [[cI 0, cI 0]]))) 1 (some (.cells 2 [[cI x_.Kind, cI out12]]))), 2⟩ := by
 unfold Z18 at h
 refine srg <| un1 (v := (I (wi (v15 + 1)))) rfl <| un1 rfl <| dnil ?_
 exact hself out12 (wi (v15 + 1)) h _ (wcn [0, 1] rfl (.cf rfl rfl (.cf rfl rfl (.cf rfl rfl (.cr rfl rfl rfl (.cr rfl rfl rfl (.cf rfl rfl (.cf rfl rfl .nil))))))) (.box (by decide) rfl (blkAs_cells (.sm rfl (.sm rfl .nil))) (.box (by decide) rfl (blkAs_cells (.sm rfl (.sm rfl .nil))) .nil)))
abbrev Z87 (kind : Int) (l_ : (List TVal)) (r_ : (List TVal)) (x_ : TVal) (F_ : Nat → Int → Int → Option (TVal × Int)) (o : (TVal × Int)) : Nat → St → Prop := fun k s => ∃ (out1 : Int), ∃ (v15 : Int), F_ k out1 v15 = some o ∧ s = ⟨(ue [(15, (I v15)), (14, (I (r_.length : Int))), (13, (.c (.ro false 2 (r_.map e_TVal)))), (6, (.c (.ref 1 2 0 0))), (4, (.c (.ref 0 2 0 0))), (1, (.c (.ro false 2 (l_.map e_TVal)))), (0, (I kind))]), (upd (upd e0 0 (some (.cells 2 [[cI 0, cI 0]]))) 1 (some (.cells 2 [[cI x_.Kind, cI out1]]))), 2⟩
noncomputable def Zd (r_ : (List TVal)) (x_ : TVal) (kind : Int) (l_ : (List TVal)) (K0_ : Int → Option (TVal × Int)) : Nat → Int → Int → Option (TVal × Int)
 | 0, _, _ => none
 | k + 1, out1, v15 =>
  if decide (v15 < (r_.length : Int)) then
   (at? r_ v15).bind fun x_1 =>
   if (!decide (x_1.Kind = x_.Kind)) then
    some ((⟨0, 0⟩ : TVal), 7)
   else
    if decide (kind = 2) then
     Z18 v15 kind l_ r_ x_ (Zd r_ x_ kind l_ K0_ k) K0_ (wi (out1 + x_1.N))
    else
     if decide (kind = 3) then
      Z18 v15 kind l_ r_ x_ (Zd r_ x_ kind l_ K0_ k) K0_ (wi (out1 - x_1.N))
     else
      if decide (kind = 6) then
       Z18 v15 kind l_ r_ x_ (Zd r_ x_ kind l_ K0_ k) K0_ (mn out1 x_1.N)
      else
       if decide (kind = 7) then
        Z18 v15 kind l_ r_ x_ (Zd r_ x_ kind l_ K0_ k) K0_ (mx out1 x_1.N)
       else
        Z18 v15 kind l_ r_ x_ (Zd r_ x_ kind l_ K0_ k) K0_ out1
  else
   K0_ out1
theorem Zbi {mL : Int} {Q : AExit → St → Prop} {r_ : (List TVal)} {x_ : TVal} {kind : Int} {l_ : (List TVal)} {K0_ : Int → Option (TVal × Int)} {k : Nat} {out1 : Int} {v15 : Int} {o : (TVal × Int)} (h : Zd r_ x_ kind l_ K0_ k out1 v15 = some o)
  (hK0 : Z86 kind l_ x_ K0_ o (Q (.exit 0)))
  (hr : ∀ s, Ends a28.results 0 (Z4d o) .ret s → Q .ret s) :
  Sv Tryz.prog (GG mL) 0 (.loop a28_c1) Q ⟨(ue [(15, (I v15)), (14, (I (r_.length : Int))), (13, (.c (.ro false 2 (r_.map e_TVal)))), (6, (.c (.ref 1 2 0 0))), (4, (.c (.ref 0 2 0 0))), (1, (.c (.ro false 2 (l_.map e_TVal)))), (0, (I kind))]), (upd (upd e0 0 (some (.cells 2 [[cI 0, cI 0]]))) 1 (some (.cells 2 [[cI x_.Kind, cI out1]]))), 2⟩ := by
 refine Sv.loop (I := Z87 kind l_ r_ x_ (Zd r_ x_ kind l_ K0_) o) (fun k s hI => ?_) ⟨out1, v15, h, rfl⟩
 clear h
 clear v15 out1
 obtain ⟨out1, v15, h, rfl⟩ := hI
 cases k with
 | zero => cases h
 | succ k =>
 rw [Zd] at h
 have hself : Z85 kind l_ r_ x_ (Zd r_ x_ kind l_ K0_ k) o (rnd 0 (Z87 kind l_ r_ x_ (Zd r_ x_ kind l_ K0_) o) k Q) := fun out1 v15 h s hw => ⟨_, k, hw, Nat.lt_succ_self k, out1, v15, h, rfl⟩
 refine ssr <| un1 (v := (B (decide (v15 < (r_.length : Int))))) rfl <| dnil <| Sv.seq ?_
 refine Sv.cnd rfl h (fun h => ?_) fun h => ?_
 ·refine Sv.skip <| Sv.seq <| Sv.block <| ssr ?_
  obtain ⟨x_1, hx3, h⟩ := bnd h
  refine un1 (v := (.c (.rop (e_TVal x_1)))) (s_iaddr (e := e_TVal) (xs := r_) rfl rfl hx3) <| un1 (v := (.agg (e_TVal x_1))) rfl <| un <| a2v (v := (.c (.ref 2 2 0 0))) (h' := upd _ 2 (some (.cells 2 [[cI 0, cI 0]]))) (n' := 3) rfl rfl hcs <| un <| a2n (h' := upd _ 2 (some (.cells 2 [(e_TVal x_1)]))) (n' := 3) rfl rfl hcs <| dnil <| Sv.block <| ssr <| un1 (v := (.c (.ref 2 2 0 0))) rfl <| un1 (v := (I x_1.Kind)) rfl <| un1 (v := (.c (.ref 1 2 0 0))) rfl <| un1 (v := (I x_.Kind)) rfl <| un1 (v := (B (!decide (x_1.Kind = x_.Kind)))) rfl <| un1 rfl <| dnil ?_
  refine Sv.cnd rfl h (fun h => ?_) fun h => ?_
  ·refine ssr <| un1 (v := (.agg [cI 0, cI 0])) rfl <| un <| a2n (h' := upd _ 0 (some (.cells 2 [[cI 0, cI 0]]))) (n' := 3) rfl rfl hcs <| un1 rfl <| dnil <| Sv.ret ?_
   exact hr _ (rt0 h rfl rfl ⟨rfl, rfl, rfl⟩)
  ·refine ssr <| un1 rfl <| un1 (v := (B (decide (kind = 2)))) rfl <| un1 rfl <| dnil ?_
   refine Sv.cnd rfl h (fun h => ?_) fun h => ?_
   ·refine srg <| un1 (v := (.c (.ref 1 2 0 1))) rfl <| un1 (v := (I out1)) rfl <| un1 (v := (.c (.ref 2 2 0 1))) rfl <| un1 (v := (I x_1.N)) rfl <| un1 (v := (I (wi (out1 + x_1.N)))) rfl <| un1 (v := (.c (.ref 1 2 0 1))) rfl <| un <| a2n (h' := upd _ 1 (some (.cells 2 [[cI x_.Kind, cI (wi (out1 + x_1.N))]]))) (n' := 3) rfl rfl hcs <| dnil ?_
    exact Sv.weak (wcn [0, 1] rfl (.cf rfl rfl (.cf rfl rfl (.cf rfl rfl (.cr rfl rfl rfl (.cr rfl rfl rfl (.cf rfl rfl (.cf rfl rfl .nil))))))) (.box (by decide) rfl (blkAs_cells (.sm rfl (.sm rfl .nil))) (.box (by decide) rfl (blkAs_cells (.sm rfl (.sm rfl .nil))) .nil))) (Z2q h hself hK0 hr)
   ·refine ssr <| un1 rfl <| un1 (v := (B (decide (kind = 3)))) rfl <| un1 rfl <| dnil ?_
    refine Sv.cnd rfl h (fun h => ?_) fun h => ?_
    ·refine srg <| un1 (v := (.c (.ref 1 2 0 1))) rfl <| un1 (v := (I out1)) rfl <| un1 (v := (.c (.ref 2 2 0 1))) rfl <| un1 (v := (I x_1.N)) rfl <| un1 (v := (I (wi (out1 - x_1.N)))) rfl <| un1 (v := (.c (.ref 1 2 0 1))) rfl <| un <| a2n (h' := upd _ 1 (some (.cells 2 [[cI x_.Kind, cI (wi (out1 - x_1.N))]]))) (n' := 3) rfl rfl hcs <| dnil ?_
     exact Sv.weak (wcn [0, 1] rfl (.cf rfl rfl (.cf rfl rfl (.cf rfl rfl (.cr rfl rfl rfl (.cr rfl rfl rfl (.cf rfl rfl (.cf rfl rfl .nil))))))) (.box (by decide) rfl (blkAs_cells (.sm rfl (.sm rfl .nil))) (.box (by decide) rfl (blkAs_cells (.sm rfl (.sm rfl .nil))) .nil))) (Z2q h hself hK0 hr)
    ·refine ssr <| un1 rfl <| un1 (v := (B (decide (kind = 6)))) rfl <| un1 rfl <| dnil ?_
     refine Sv.cnd rfl h (fun h => ?_) fun h => ?_
     ·refine srg <| un1 (v := (.c (.ref 1 2 0 1))) rfl <| un1 (v := (I out1)) rfl <| un1 (v := (.c (.ref 2 2 0 1))) rfl <| un1 (v := (I x_1.N)) rfl <| un1 (v := (I (mn out1 x_1.N))) (s_mn rfl rfl) <| un1 (v := (.c (.ref 1 2 0 1))) rfl <| un <| a2n (h' := upd _ 1 (some (.cells 2 [[cI x_.Kind, cI (mn out1 x_1.N)]]))) (n' := 3) rfl rfl hcs <| dnil ?_
      exact Sv.weak (wcn [0, 1] rfl (.cf rfl rfl (.cf rfl rfl (.cf rfl rfl (.cr rfl rfl rfl (.cr rfl rfl rfl (.cf rfl rfl (.cf rfl rfl .nil))))))) (.box (by decide) rfl (blkAs_cells (.sm rfl (.sm rfl .nil))) (.box (by decide) rfl (blkAs_cells (.sm rfl (.sm rfl .nil))) .nil))) (Z2q h hself hK0 hr)
     ·refine ssr <| un1 rfl <| un1 (v := (B (decide (kind = 7)))) rfl <| un1 rfl <| dnil ?_
      refine Sv.cnd rfl h (fun h => ?_) fun h => ?_
      ·refine srg <| un1 (v := (.c (.ref 1 2 0 1))) rfl <| un1 (v := (I out1)) rfl <| un1 (v := (.c (.ref 2 2 0 1))) rfl <| un1 (v := (I x_1.N)) rfl <| un1 (v := (I (mx out1 x_1.N))) (s_mx rfl rfl) <| un1 (v := (.c (.ref 1 2 0 1))) rfl <| un <| a2n (h' := upd _ 1 (some (.cells 2 [[cI x_.Kind, cI (mx out1 x_1.N)]]))) (n' := 3) rfl rfl hcs <| dnil ?_
       exact Sv.weak (wcn [0, 1] rfl (.cf rfl rfl (.cf rfl rfl (.cf rfl rfl (.cr rfl rfl rfl (.cr rfl rfl rfl (.cf rfl rfl (.cf rfl rfl .nil))))))) (.box (by decide) rfl (blkAs_cells (.sm rfl (.sm rfl .nil))) (.box (by decide) rfl (blkAs_cells (.sm rfl (.sm rfl .nil))) .nil))) (Z2q h hself hK0 hr)
      ·refine Sv.skip ?_
       exact Sv.weak (wcn [0, 1] rfl (.cf rfl rfl (.cf rfl rfl (.cf rfl rfl (.cr rfl rfl rfl (.cr rfl rfl rfl (.cf rfl rfl (.cf rfl rfl .nil))))))) (.box (by decide) rfl (blkAs_cells (.sm rfl (.sm rfl .nil))) (.box (by decide) rfl (blkAs_cells (.sm rfl (.sm rfl .nil))) .nil))) (Z2q h hself hK0 hr)
 ·refine Sv.exit ?_
  exact hK0 out1 h _ (wcn [0, 1] rfl (.cr rfl rfl rfl (.cr rfl rfl rfl (.cf rfl rfl (.cf rfl rfl .nil)))) (.box (by decide) rfl (blkAs_cells (.sm rfl (.sm rfl .nil))) (.box (by decide) rfl (blkAs_cells (.sm rfl (.sm rfl .nil))) .nil)))
noncomputable def Zl (x_ : TVal) (out13 : Int) : Option (TVal × Int) :=
 some ((⟨x_.Kind, (Z2 out13)⟩ : TVal), 0)
theorem Z88 {mL : Int} {x_ : TVal} {out13 : Int} {o : (TVal × Int)} (h : Zl x_ out13 = some o) :
  Sv Tryz.prog (GG mL) 0 a28_c2 (Ends a28.results 0 (Z4d o)) ⟨(ue [(6, (.c (.ref 1 2 0 0))), (4, (.c (.ref 0 2 0 0)))]), (upd (upd e0 0 (some (.cells 2 [[cI 0, cI 0]]))) 1 (some (.cells 2 [[cI x_.Kind, cI out13]]))), 2⟩ := by
 unfold Zl at h
 refine ssr <| un1 (v := (.c (.ref 1 2 0 1))) rfl <| un1 (v := (I out13)) rfl <| un <| ac_pure (Z2k (mL := mL) out13) rfl rfl rfl <| un1 (v := (.c (.ref 1 2 0 1))) rfl <| un <| a2n (h' := upd _ 1 (some (.cells 2 [[cI x_.Kind, cI (Z2 out13)]]))) (n' := 2) rfl rfl hcs <| dnil <| ssr <| un1 (v := (.agg [cI x_.Kind, cI (Z2 out13)])) rfl <| un <| a2n (h' := upd _ 0 (some (.cells 2 [[cI x_.Kind, cI (Z2 out13)]]))) (n' := 2) rfl rfl hcs <| un1 rfl <| dnil <| Sv.ret ?_
 exact rt0 h rfl rfl ⟨rfl, rfl, rfl⟩
/-- clerestory/calc.alike -/
noncomputable def Z1x (kind : Int) (l_ : (List TVal)) : Option (TVal × Int) :=
 (at? l_ 0).bind fun x_ =>
 (sub? l_ 1 (l_.length : Int)).bind fun r_ =>
 lim fun kk => Zd r_ x_ kind l_ (fun (out11 : Int) => 
   if decide (kind = 8) then
    (at? l_ 0).bind fun x_2 =>
    (at? l_ 1).bind fun x_3 =>
    (at? l_ 2).bind fun x_4 =>
    Zl x_ (mx x_2.N (mn x_3.N x_4.N))
   else
    Zl x_ out11) kk x_.N 0
theorem Zbj {mL : Int} {kind : Int} {l_ : (List TVal)} {r : (TVal × Int)} (h : Z1x kind l_ = some r) : CPure Tryz.prog (GG mL) 28 [(I kind), (.c (.ro false 2 (l_.map e_TVal)))] (.tup [(.agg (e_TVal r.1)), (I r.2)]) := by
 refine acalls_of_sv hmix c28 (R := Z4d r) ?_
 unfold Z1x at h
 refine ssr <| un <| a2v (v := (.c (.ref 0 2 0 0))) (h' := upd _ 0 (some (.cells 2 [[cI 0, cI 0]]))) (n' := 1) rfl rfl hcs <| un1 rfl <| dnil <| ssr <| un1 rfl ?_
 obtain ⟨x_, hx1, h⟩ := bnd h
 refine un1 (v := (.c (.rop (e_TVal x_)))) (s_iaddr (e := e_TVal) (xs := l_) rfl rfl hx1) <| un1 (v := (.agg (e_TVal x_))) rfl <| un <| a2v (v := (.c (.ref 1 2 0 0))) (h' := upd _ 1 (some (.cells 2 [[cI 0, cI 0]]))) (n' := 2) rfl rfl hcs <| un <| a2n (h' := upd _ 1 (some (.cells 2 [(e_TVal x_)]))) (n' := 2) rfl rfl hcs <| dnil <| Sv.seq <| ssr <| un1 rfl ?_
 obtain ⟨r_, hx2, h⟩ := bnd h
 refine un1 (v := (.c (.ro false 2 (r_.map e_TVal)))) (s_slSl (e := e_TVal) rfl rfl rfl hx2) <| un1 (v := (I (r_.length : Int))) (s_len (e := e_TVal) (xs := r_) rfl) <| un1 rfl <| dnil <| Sv.block ?_
 obtain ⟨kk, h⟩ := lim_some h
 refine Sv.weak (wcn [0, 1] rfl (.cf rfl rfl (.cf rfl rfl (.cf rfl rfl (.cr rfl rfl rfl (.cr rfl rfl rfl (.cf rfl rfl (.cf rfl rfl .nil))))))) (.box (by decide) rfl (blkAs_cells (.sm rfl (.sm rfl .nil))) (.box (by decide) rfl (blkAs_cells (.sm rfl (.sm rfl .nil))) .nil))) (Zbi h ?_ (fun s hs => hs))
 ·intro out11 h _ hw1
  refine Sv.weak hw1 <| Sv.seq <| ssr <| un1 rfl <| un1 (v := (B (decide (kind = 8)))) rfl <| dnil ?_
  refine Sv.cnd rfl h (fun h => ?_) fun h => ?_
  ·refine Sv.drawn <| un1 rfl ?_
   obtain ⟨x_2, hx4, h⟩ := bnd h
   refine un1 (v := (.c (.rop (e_TVal x_2)))) (s_iaddr (e := e_TVal) (xs := l_) rfl rfl hx4) <| un1 (v := (.c (.rop [cI x_2.N]))) rfl <| un1 (v := (I x_2.N)) rfl <| un1 rfl ?_
   obtain ⟨x_3, hx5, h⟩ := bnd h
   refine un1 (v := (.c (.rop (e_TVal x_3)))) (s_iaddr (e := e_TVal) (xs := l_) rfl rfl hx5) <| un1 (v := (.c (.rop [cI x_3.N]))) rfl <| un1 (v := (I x_3.N)) rfl <| un1 rfl ?_
   obtain ⟨x_4, hx6, h⟩ := bnd h
   refine un1 (v := (.c (.rop (e_TVal x_4)))) (s_iaddr (e := e_TVal) (xs := l_) rfl rfl hx6) <| un1 (v := (.c (.rop [cI x_4.N]))) rfl <| un1 (v := (I x_4.N)) rfl <| un1 (v := (I (mn x_3.N x_4.N))) (s_mn rfl rfl) <| un1 (v := (I (mx x_2.N (mn x_3.N x_4.N)))) (s_mx rfl rfl) <| un1 (v := (.c (.ref 1 2 0 1))) rfl <| un <| a2n (h' := upd _ 1 (some (.cells 2 [[cI x_.Kind, cI (mx x_2.N (mn x_3.N x_4.N))]]))) (n' := 2) rfl rfl hcs <| dnil ?_
   exact Sv.weak (wcn [0, 1] rfl (.cr rfl rfl rfl (.cr rfl rfl rfl .nil)) (.box (by decide) rfl (blkAs_cells (.sm rfl (.sm rfl .nil))) (.box (by decide) rfl (blkAs_cells (.sm rfl (.sm rfl .nil))) .nil))) (Z88 h)
  ·refine Sv.skip ?_
   exact Sv.weak (wcn [0, 1] rfl (.cr rfl rfl rfl (.cr rfl rfl rfl .nil)) (.box (by decide) rfl (blkAs_cells (.sm rfl (.sm rfl .nil))) (.box (by decide) rfl (blkAs_cells (.sm rfl (.sm rfl .nil))) .nil))) (Z88 h)
def a11_c0 : ACode := (sr [(oP 24 (.bin .lss (.tmp 23) (.tmp 22)))]
 (.seq (.cond (.tmp 24) .skip (.exit 0))
 (.seq (.block 1 (sr [(oP 25 (.iaddr 4 (.tmp 21) (.tmp 23))), (oP 26 (.load true 4 (.tmp 25))), (oP 8 (.box (.const (.agg [(.val (.int .i64 0)), (.val (.int .i64 0)), (.str []), (.ro true 4 [])])))), (oN (.store 4 (.tmp 8) (.tmp 26)))]
 (sr [(oP 28 (.load true 4 (.tmp 8))), (oP 29 (.load true 4 (.tmp 3))), (oP 30 (.call 11 [(.tmp 28), (.tmp 29)])), (mV 27 30), (oP 31 (.ext (.tmp 27) 0)), (oP 32 (.ext (.tmp 27) 1)), (oP 9 (.box (.const (.agg [(.val (.int .i64 0)), (.val (.int .i64 0))])))), (oN (.store 2 (.tmp 9) (.tmp 31))), (mV 10 32)]
 (.seq (sr [(mV 33 10), (oP 34 (.bin .neq (.tmp 33) (kI 0)))]
 (.cond (.tmp 34) (sr [(oP 35 (.build [(.val (.int .i64 0)), (.val (.int .i64 0))] [])), (mV 36 10), (oN (.store 2 (.tmp 4) (.tmp 35))), (mV 5 36)]
 .ret) .skip))
 (.region [(mV 37 6), (oP 38 (.load true 2 (.tmp 9))), (oP 39 (.bslice 2 [(.val (.int .i64 0)), (.val (.int .i64 0))] 1 [(0, (.tmp 38))])), (oP 40 (.app 2 16 (.tmp 37) (.tmp 39))), (mV 6 40)])))))
 (.region [(oP 41 (.bin .add (.tmp 23) (kI 1))), (mV 23 41)]))))
def a11 : AFunc := ⟨2, [(.cell true 2 4), (.tmp 5)], (sr [(oP 2 (.box (.tmp 0))), (oP 3 (.box (.tmp 1))), (oP 4 (.box (.const (.agg [(.val (.int .i64 0)), (.val (.int .i64 0))])))), (oP 5 (.mov (kI 0)))]
 (.seq (sr [(oP 11 (.faddr 0 (.tmp 2))), (oP 12 (.load false 1 (.tmp 11))), (oP 13 (.bin .eql (.tmp 12) (kI 1)))]
 (.cond (.tmp 13) (sr [(oP 14 (.faddr 1 (.tmp 2))), (oP 15 (.load true 2 (.tmp 14))), (oP 16 (.load true 4 (.tmp 3))), (oP 17 (.call 25 [(.tmp 15), (.tmp 16)])), (oP 18 (.ext (.tmp 17) 0)), (oP 19 (.ext (.tmp 17) 1)), (oN (.store 2 (.tmp 4) (.tmp 18))), (mV 5 19)]
 .ret) .skip))
 (sr [(oP 6 (.mov (.const (.c (.ro true 2 [])))))]
 (.seq (sr [(oP 20 (.faddr 3 (.tmp 2))), (oP 21 (.load false 1 (.tmp 20))), (oP 22 (.len (.tmp 21))), (oP 23 (.mov (kI 0)))]
 (.block 0 (.loop a11_c0)))
 (.seq (sr [(oP 42 (.faddr 0 (.tmp 2))), (oP 43 (.load false 1 (.tmp 42)))]
 (.block 2 (sr [(oP 45 (.bin .eql (.tmp 43) (kI 4))), (mV 44 45)]
 (.cond (.tmp 44) (.seq (.drawn (.fin [((mV 46 6), (0, 0)), ((oP 47 (.iaddr 2 (.tmp 46) (kI 0))), (0, 1)), ((oP 48 (.load true 2 (.tmp 47))), (0, 2)), ((mV 49 6), (0, 3)), ((oP 50 (.iaddr 2 (.tmp 49) (kI 1))), (0, 4)), ((oP 51 (.load true 2 (.tmp 50))), (0, 5)), ((oP 52 (.call 26 [(.tmp 48), (.tmp 51)])), (2, 6)), ((oP 53 (.ext (.tmp 52) 0)), (0, 7)), ((oP 54 (.ext (.tmp 52) 1)), (0, 8)), ((oN (.store 2 (.tmp 4) (.tmp 53))), (2, 9)), ((mV 5 54), (0, 10))]))
 .ret) (sr [(oP 56 (.bin .eql (.tmp 43) (kI 5))), (mV 55 56)]
 (.cond (.tmp 55) (.seq (.drawn (.fin [((mV 57 6), (0, 0)), ((oP 58 (.iaddr 2 (.tmp 57) (kI 0))), (0, 1)), ((oP 59 (.load true 2 (.tmp 58))), (0, 2)), ((mV 60 6), (0, 3)), ((oP 61 (.iaddr 2 (.tmp 60) (kI 1))), (0, 4)), ((oP 62 (.load true 2 (.tmp 61))), (0, 5)), ((oP 63 (.call 27 [(.tmp 59), (.tmp 62)])), (2, 6)), ((oP 64 (.ext (.tmp 63) 0)), (0, 7)), ((oP 65 (.ext (.tmp 63) 1)), (0, 8)), ((oN (.store 2 (.tmp 4) (.tmp 64))), (2, 9)), ((mV 5 65), (0, 10))]))
 .ret) .skip))))))
 (sr [(oP 66 (.faddr 0 (.tmp 2))), (oP 67 (.load false 1 (.tmp 66))), (mV 68 6), (oP 69 (.call 28 [(.tmp 67), (.tmp 68)])), (oP 70 (.ext (.tmp 69) 0)), (oP 71 (.ext (.tmp 69) 1)), (oN (.store 2 (.tmp 4) (.tmp 70))), (mV 5 71)]
 .ret))))))⟩
theorem c11 : compFunc Tryz.prog 11 = some a11 := by kernel_rfl
def Z89 (r : (TVal × Int)) : AV → Heap → Nat → Prop := fun v h' n' => v = (.tup [(.agg (e_TVal r.1)), (I r.2)]) ∧ (h' = e0) ∧ n' = 0
def Z8a (mL : Int) (recf : TSTerm → TSScale → Option (TVal × Int)) : Prop := ∀ (t_ : TSTerm) (k_ : TSScale) (r : (TVal × Int)), recf t_ k_ = some r → CPure Tryz.prog (GG mL) 11 [(.agg (e_TSTerm t_)), (.agg (e_TSScale k_))] (.tup [(.agg (e_TVal r.1)), (I r.2)])
abbrev Zbk (t_ : TSTerm) (F_ : (List TVal) → Option (TVal × Int)) (o : (TVal × Int)) (R_ : St → Prop) : Prop := ∀ (l_1 : (List TVal)) (zl_1 : Bool) (_ : zl_1 = true → l_1 = []), F_ l_1 = some o → ∀ s, Weak 0 s ⟨(ue [(6, (lstV zl_1 2 2 l_1.length)), (4, (.c (.ref 1 2 0 0))), (2, (.c (.ref 0 4 0 0)))]), (upd (upd (upd e0 0 (some (.cells 4 [(e_TSTerm t_)]))) 1 (some (.cells 2 [[cI 0, cI 0]]))) 2 (lstB zl_1 2 (l_1.map e_TVal))), 3⟩ → R_ s
abbrev Z8b (t_ : TSTerm) (k_ : TSScale) (F_ : Nat → (List TVal) → Int → Option (TVal × Int)) (o : (TVal × Int)) : Nat → St → Prop := fun k s => ∃ (l_ : (List TVal)), ∃ (v23 : Int), ∃ (zl : Bool), (zl = true → l_ = []) ∧ F_ k l_ v23 = some o ∧ s = ⟨(ue [(23, (I v23)), (22, (I (t_.Subs.length : Int))), (21, (.c (.ro false 4 (t_.Subs.map eRaw)))), (6, (lstV zl 3 2 l_.length)), (4, (.c (.ref 2 2 0 0))), (3, (.c (.ref 1 4 0 0))), (2, (.c (.ref 0 4 0 0)))]), (upd (upd (upd (upd e0 0 (some (.cells 4 [(e_TSTerm t_)]))) 1 (some (.cells 4 [(e_TSScale k_)]))) 2 (some (.cells 2 [[cI 0, cI 0]]))) 3 (lstB zl 2 (l_.map e_TVal))), 4⟩
abbrev Zbl (t_ : TSTerm) (k_ : TSScale) (F_ : (List TVal) → Int → Option (TVal × Int)) (o : (TVal × Int)) (R_ : St → Prop) : Prop := ∀ (l_ : (List TVal)) (v23 : Int) (zl : Bool) (_ : zl = true → l_ = []), F_ l_ v23 = some o → ∀ s, Weak 0 s ⟨(ue [(23, (I v23)), (22, (I (t_.Subs.length : Int))), (21, (.c (.ro false 4 (t_.Subs.map eRaw)))), (6, (lstV zl 3 2 l_.length)), (4, (.c (.ref 2 2 0 0))), (3, (.c (.ref 1 4 0 0))), (2, (.c (.ref 0 4 0 0)))]), (upd (upd (upd (upd e0 0 (some (.cells 4 [(e_TSTerm t_)]))) 1 (some (.cells 4 [(e_TSScale k_)]))) 2 (some (.cells 2 [[cI 0, cI 0]]))) 3 (lstB zl 2 (l_.map e_TVal))), 4⟩ → R_ s
noncomputable def Z4 (t_ : TSTerm) (recf : TSTerm → TSScale → Option (TVal × Int)) (k_ : TSScale) (K0_ : (List TVal) → Option (TVal × Int)) : Nat → (List TVal) → Int → Option (TVal × Int)
 | 0, _, _ => none
 | k + 1, l_, v23 =>
  if decide (v23 < (t_.Subs.length : Int)) then
   (at? t_.Subs v23).bind fun r_1 =>
   (Zp r_1.c).bind fun x_ =>
   (recf x_ k_).bind fun r_2 =>
   if (!decide (r_2.2 = 0)) then
    some ((⟨0, 0⟩ : TVal), r_2.2)
   else
    (app? 16 l_ [r_2.1]).bind fun r_3 =>
    (Z4 t_ recf k_ K0_ k) r_3 (wi (v23 + 1))
  else
   K0_ l_
theorem Zbm {mL : Int} {Q : AExit → St → Prop} {t_ : TSTerm} {recf : TSTerm → TSScale → Option (TVal × Int)} {k_ : TSScale} {K0_ : (List TVal) → Option (TVal × Int)} {k : Nat} {l_ : (List TVal)} {v23 : Int} {zl : Bool} (hzl : zl = true → l_ = []) {o : (TVal × Int)} (h : Z4 t_ recf k_ K0_ k l_ v23 = some o)
  (hK0 : Zbk t_ K0_ o (Q (.exit 0)))
  (hr : ∀ s, Ends a11.results 0 (Z89 o) .ret s → Q .ret s)
  (hrec : Z8a mL recf) :
  Sv Tryz.prog (GG mL) 0 (.loop a11_c0) Q ⟨(ue [(23, (I v23)), (22, (I (t_.Subs.length : Int))), (21, (.c (.ro false 4 (t_.Subs.map eRaw)))), (6, (lstV zl 3 2 l_.length)), (4, (.c (.ref 2 2 0 0))), (3, (.c (.ref 1 4 0 0))), (2, (.c (.ref 0 4 0 0)))]), (upd (upd (upd (upd e0 0 (some (.cells 4 [(e_TSTerm t_)]))) 1 (some (.cells 4 [(e_TSScale k_)]))) 2 (some (.cells 2 [[cI 0, cI 0]]))) 3 (lstB zl 2 (l_.map e_TVal))), 4⟩ := by
 refine Sv.loop (I := Z8b t_ k_ (Z4 t_ recf k_ K0_) o) (fun k s hI => ?_) ⟨l_, v23, zl, hzl, h, rfl⟩
 clear h
 clear hzl zl v23 l_
 obtain ⟨l_, v23, zl, hzl, h, rfl⟩ := hI
 cases k with
 | zero => cases h
 | succ k =>
 rw [Z4] at h
 have hself : Zbl t_ k_ (Z4 t_ recf k_ K0_ k) o (rnd 0 (Z8b t_ k_ (Z4 t_ recf k_ K0_) o) k Q) := fun l_ v23 zl hzl h s hw => ⟨_, k, hw, Nat.lt_succ_self k, l_, v23, zl, hzl, h, rfl⟩
 refine ssr <| un1 (v := (B (decide (v23 < (t_.Subs.length : Int))))) rfl <| dnil <| Sv.seq ?_
 refine Sv.cnd rfl h (fun h => ?_) fun h => ?_
 ·refine Sv.skip <| Sv.seq <| Sv.block <| ssr ?_
  obtain ⟨r_1, hr2, h⟩ := bnd h
  obtain ⟨x_, hd, h⟩ := bnd h
  have hx1 : at? t_.Subs v23 = some (⟨e_TSTerm x_, rfl⟩ : Raw) := by rw [hr2, raw_eq rfl (Z21 hd)]
  refine un1 (v := (.c (.rop (e_TSTerm x_)))) (s_iaddr (e := eRaw) (xs := t_.Subs) rfl rfl hx1) <| un1 (v := (.agg (e_TSTerm x_))) rfl <| un <| a2v (v := (.c (.ref 4 4 0 0))) (h' := upd _ 4 (some (.cells 4 [[cI 0, cI 0, .str [], .ro true 4 []]]))) (n' := 5) rfl rfl hcs <| un <| a2n (h' := upd _ 4 (some (.cells 4 [(e_TSTerm x_)]))) (n' := 5) rfl rfl hcs <| dnil <| ssr <| un1 (v := (.agg (e_TSTerm x_))) rfl <| un1 (v := (.agg (e_TSScale k_))) rfl ?_
  obtain ⟨r_2, hr3, h⟩ := bnd h
  refine un <| ac_pure (hrec x_ k_ _ hr3) rfl rfl rfl <| un1 rfl <| un1 (v := (.agg (e_TVal r_2.1))) rfl <| un1 (v := (I r_2.2)) rfl <| un <| a2v (v := (.c (.ref 5 2 0 0))) (h' := upd _ 5 (some (.cells 2 [[cI 0, cI 0]]))) (n' := 6) rfl rfl hcs <| un <| a2n (h' := upd _ 5 (some (.cells 2 [(e_TVal r_2.1)]))) (n' := 6) rfl rfl hcs <| un1 rfl <| dnil <| Sv.seq <| ssr <| un1 rfl <| un1 (v := (B (!decide (r_2.2 = 0)))) rfl <| dnil ?_
  refine Sv.cnd rfl h (fun h => ?_) fun h => ?_
  ·refine ssr <| un1 (v := (.agg [cI 0, cI 0])) rfl <| un1 rfl <| un <| a2n (h' := upd _ 2 (some (.cells 2 [[cI 0, cI 0]]))) (n' := 6) rfl rfl hcs <| un1 rfl <| dnil <| Sv.ret ?_
   exact hr _ (rt0 h rfl rfl ⟨rfl, rfl, rfl⟩)
  ·refine Sv.skip <| srg <| un1 rfl <| un1 (v := (.agg (e_TVal r_2.1))) rfl <| un <| a2v (v := (lstV false 6 2 [r_2.1].length)) (h' := upd _ 6 (lstB false 2 ([r_2.1].map e_TVal))) (n' := 7) rfl rfl hcs ?_
   obtain ⟨r_3, hr4, h⟩ := bnd h
   have hz1 : (zl && [r_2.1].isEmpty) = true → r_3 = [] := app_nil (z := zl) (ys := [r_2.1]) hzl hr4
   refine un <| a2v rfl (s_app (xs := l_) (ys := [r_2.1]) (e := e_TVal) (z := zl) (b := 3) rfl rfl hzl rfl rfl (slc_lst rfl (List.length_map _).symm (map_nil_of hcs)) hr4) hcs <| un1 rfl <| dnil <| srg <| un1 (v := (I (wi (v23 + 1)))) rfl <| un1 rfl <| dnil ?_
   exact hself r_3 (wi (v23 + 1)) (zl && [r_2.1].isEmpty) hz1 h _ (wcn [0, 1, 2, 7] rfl (.cf rfl rfl (.cf rfl rfl (.cf rfl rfl (.cons rfl (.c (lsr rfl rfl)) (.cr rfl rfl rfl (.cr rfl rfl rfl (.cr rfl rfl rfl .nil))))))) (.row (by decide) rfl (fr_map fun _ => rfl) (.box (by decide) rfl (blkAs_cells (.sm rfl (.sm rfl .nil))) (.box (by decide) rfl (blkAs_cells (.sm rfl (.sm rfl (.sm rfl (.sm rfl .nil))))) (.box (by decide) rfl (blkAs_cells (.sm rfl (.sm rfl (.sm rfl (.sm rfl .nil))))) .nil)))))
 ·refine Sv.exit ?_
  exact hK0 l_ zl hzl h _ (wcn [0, 2, 3] rfl (.cons rfl (.c (lsr rfl rfl)) (.cr rfl rfl rfl (.cr rfl rfl rfl .nil))) (.row (by decide) rfl (fr_map fun _ => rfl) (.box (by decide) rfl (blkAs_cells (.sm rfl (.sm rfl .nil))) (.box (by decide) rfl (blkAs_cells (.sm rfl (.sm rfl (.sm rfl (.sm rfl .nil))))) .nil))))
/-- clerestory/calc.value -/
noncomputable def Za : Nat → TSTerm → TSScale → Option (TVal × Int)
 | 0, _, _ => none
 | k + 1, t_, k_ =>
  if decide (t_.Kind = 1) then
   (Z2o t_.Dim k_).bind fun r_ =>
   some (r_.1, r_.2)
  else
   lim fun kk => Z4 t_ (Za k) k_ (fun (l_1 : (List TVal)) => 
     if decide (t_.Kind = 4) then
      (at? l_1 0).bind fun x_1 =>
      (at? l_1 1).bind fun x_2 =>
      (Z1v x_1 x_2).bind fun r_4 =>
      some (r_4.1, r_4.2)
     else
      if decide (t_.Kind = 5) then
       (at? l_1 0).bind fun x_3 =>
       (at? l_1 1).bind fun x_4 =>
       (Z1w x_3 x_4).bind fun r_5 =>
       some (r_5.1, r_5.2)
      else
       (Z1x t_.Kind l_1).bind fun r_6 =>
       some (r_6.1, r_6.2)) kk ([] : List TVal) 0
noncomputable def Z4e (t_ : TSTerm) (k_ : TSScale) : Option (TVal × Int) :=
 lim fun kr => Za kr t_ k_
theorem Zbn {mL : Int} (k : Nat) : Z8a mL (Za k) := by
 induction k with
 | zero => intro t_ k_ r h; cases h
 | succ k hrec =>
 intro t_ k_ r h
 refine acalls_of_sv hmix c11 (R := Z89 r) ?_
 rw [Za] at h
 refine ssr <| un <| a2v (v := (.c (.ref 0 4 0 0))) (h' := upd _ 0 (some (.cells 4 [(e_TSTerm t_)]))) (n' := 1) rfl rfl hcs <| un <| a2v (v := (.c (.ref 1 4 0 0))) (h' := upd _ 1 (some (.cells 4 [(e_TSScale k_)]))) (n' := 2) rfl rfl hcs <| un <| a2v (v := (.c (.ref 2 2 0 0))) (h' := upd _ 2 (some (.cells 2 [[cI 0, cI 0]]))) (n' := 3) rfl rfl hcs <| un1 rfl <| dnil <| Sv.seq <| ssr <| un1 (v := (.c (.ref 0 4 0 0))) rfl <| un1 (v := (I t_.Kind)) rfl <| un1 (v := (B (decide (t_.Kind = 1)))) rfl <| dnil ?_
 refine Sv.cnd rfl h (fun h => ?_) fun h => ?_
 ·refine ssr <| un1 (v := (.c (.ref 0 4 0 1))) rfl <| un1 (v := (.agg (e_TSDim t_.Dim))) rfl <| un1 (v := (.agg (e_TSScale k_))) rfl ?_
  obtain ⟨r_, hr1, h⟩ := bnd h
  refine un <| ac_pure (Zbe hr1) rfl rfl rfl <| un1 (v := (.agg (e_TVal r_.1))) rfl <| un1 (v := (I r_.2)) rfl <| un <| a2n (h' := upd _ 2 (some (.cells 2 [(e_TVal r_.1)]))) (n' := 3) rfl rfl hcs <| un1 rfl <| dnil <| Sv.ret ?_
  exact rt0 h rfl rfl ⟨rfl, rfl, rfl⟩
 ·refine Sv.skip <| ssr <| un1 rfl <| dnil <| Sv.seq <| ssr <| un1 (v := (.c (.ref 0 4 0 3))) rfl <| un1 (v := (.c (.ro false 4 (t_.Subs.map eRaw)))) rfl <| un1 (v := (I (t_.Subs.length : Int))) (s_len (e := eRaw) (xs := t_.Subs) rfl) <| un1 rfl <| dnil <| Sv.block ?_
  obtain ⟨kk, h⟩ := lim_some h
  refine Sv.weak (wcn [0, 1, 2, 1000] rfl (.cf rfl rfl (.cf rfl rfl (.cf rfl rfl (.cons rfl (.c (.same rfl)) (.cr rfl rfl rfl (.cr rfl rfl rfl (.cr rfl rfl rfl .nil))))))) (.non (by decide) (.box (by decide) rfl (blkAs_cells (.sm rfl (.sm rfl .nil))) (.box (by decide) rfl (blkAs_cells (.sm rfl (.sm rfl (.sm rfl (.sm rfl .nil))))) (.box (by decide) rfl (blkAs_cells (.sm rfl (.sm rfl (.sm rfl (.sm rfl .nil))))) .nil))))) (Zbm (fun _ => rfl) h ?_ (fun s hs => hs) hrec)
  ·intro l_1 zl_1 hzl_1 h _ hw1
   refine Sv.weak hw1 <| Sv.seq <| ssr <| un1 (v := (.c (.ref 0 4 0 0))) rfl <| un1 (v := (I t_.Kind)) rfl <| dnil <| Sv.block <| ssr <| un1 (v := (B (decide (t_.Kind = 4)))) rfl <| un1 rfl <| dnil ?_
   refine Sv.cnd rfl h (fun h => ?_) fun h => ?_
   ·refine Sv.seq <| Sv.drawn <| un1 rfl ?_
    obtain ⟨x_1, hx2, h⟩ := bnd h
    refine un1 (v := (.c (.ref 2 2 (0 : Int).toNat 0))) (s_iaddrL rfl rfl hzl_1 hx2) <| un1 (v := (.agg (e_TVal x_1))) (s_loadL (z := zl_1) (e := e_TVal) rfl rfl hzl_1 hx2 rfl rfl) <| un1 rfl ?_
    obtain ⟨x_2, hx3, h⟩ := bnd h
    refine un1 (v := (.c (.ref 2 2 (1 : Int).toNat 0))) (s_iaddrL rfl rfl hzl_1 hx3) <| un1 (v := (.agg (e_TVal x_2))) (s_loadL (z := zl_1) (e := e_TVal) rfl rfl hzl_1 hx3 rfl rfl) ?_
    obtain ⟨r_4, hr5, h⟩ := bnd h
    refine un <| ac_pure (Zbf hr5) rfl rfl rfl <| un1 (v := (.agg (e_TVal r_4.1))) rfl <| un1 (v := (I r_4.2)) rfl <| un <| a2n (h' := upd _ 1 (some (.cells 2 [(e_TVal r_4.1)]))) (n' := 3) rfl rfl hcs <| un1 rfl <| dnil <| Sv.ret ?_
    exact rt0 h rfl rfl ⟨rfl, rfl, rfl⟩
   ·refine ssr <| un1 (v := (B (decide (t_.Kind = 5)))) rfl <| un1 rfl <| dnil ?_
    refine Sv.cnd rfl h (fun h => ?_) fun h => ?_
    ·refine Sv.seq <| Sv.drawn <| un1 rfl ?_
     obtain ⟨x_3, hx4, h⟩ := bnd h
     refine un1 (v := (.c (.ref 2 2 (0 : Int).toNat 0))) (s_iaddrL rfl rfl hzl_1 hx4) <| un1 (v := (.agg (e_TVal x_3))) (s_loadL (z := zl_1) (e := e_TVal) rfl rfl hzl_1 hx4 rfl rfl) <| un1 rfl ?_
     obtain ⟨x_4, hx5, h⟩ := bnd h
     refine un1 (v := (.c (.ref 2 2 (1 : Int).toNat 0))) (s_iaddrL rfl rfl hzl_1 hx5) <| un1 (v := (.agg (e_TVal x_4))) (s_loadL (z := zl_1) (e := e_TVal) rfl rfl hzl_1 hx5 rfl rfl) ?_
     obtain ⟨r_5, hr6, h⟩ := bnd h
     refine un <| ac_pure (Zbh hr6) rfl rfl rfl <| un1 (v := (.agg (e_TVal r_5.1))) rfl <| un1 (v := (I r_5.2)) rfl <| un <| a2n (h' := upd _ 1 (some (.cells 2 [(e_TVal r_5.1)]))) (n' := 3) rfl rfl hcs <| un1 rfl <| dnil <| Sv.ret ?_
     exact rt0 h rfl rfl ⟨rfl, rfl, rfl⟩
    ·refine Sv.skip <| ssr <| un1 (v := (.c (.ref 0 4 0 0))) rfl <| un1 (v := (I t_.Kind)) rfl <| un1 rfl ?_
     obtain ⟨r_6, hr7, h⟩ := bnd h
     refine un <| ac_lend (h2 := (upd _ 2 none)) (Zbj hr7) rfl (.cons (avAs_free rfl) (.cons (.c (lstC_ro (es := List.map e_TVal l_1) rfl (List.length_map e_TVal).symm (map_nil_of hzl_1) (gone rfl) (fr_map fun _ => rfl))) .nil)) (hsub_none (hsub_refl _)) rfl rfl (.inr rfl) <| un1 (v := (.agg (e_TVal r_6.1))) rfl <| un1 (v := (I r_6.2)) rfl <| un <| a2n (h' := upd _ 1 (some (.cells 2 [(e_TVal r_6.1)]))) (n' := 3) rfl rfl hcs <| un1 rfl <| dnil <| Sv.ret ?_
     exact rt0 h rfl rfl ⟨rfl, rfl, rfl⟩
theorem Zbo {mL : Int} {t_ : TSTerm} {k_ : TSScale} {r : (TVal × Int)} (h : Z4e t_ k_ = some r) : CPure Tryz.prog (GG mL) 11 [(.agg (e_TSTerm t_)), (.agg (e_TSScale k_))] (.tup [(.agg (e_TVal r.1)), (I r.2)]) := by
 unfold Z4e at h
 obtain ⟨k, h⟩ := lim_some h
 exact Zbn k t_ k_  r h
def a5 : AFunc := ⟨2, [(.cell true 2 4), (.tmp 5)], (sr [(oP 2 (.box (.tmp 0))), (oP 3 (.box (.tmp 1))), (oP 4 (.box (.const (.agg [(.val (.int .i64 0)), (.val (.int .i64 0))])))), (oP 5 (.mov (kI 0)))]
 (.seq (sr [(oP 9 (.load true 4 (.tmp 2))), (oP 10 (.call 10 [(.tmp 9)])), (mV 8 10), (oP 11 (.ext (.tmp 8) 0)), (oP 12 (.ext (.tmp 8) 1)), (mV 6 11), (mV 7 12)]
 (sr [(mV 13 7), (oP 14 (.un .not (.tmp 13)))]
 (.cond (.tmp 14) (sr [(oP 15 (.build [(.val (.int .i64 0)), (.val (.int .i64 0))] [])), (oN (.store 2 (.tmp 4) (.tmp 15))), (oP 5 (.mov (kI 3)))]
 .ret) .skip)))
 (sr [(oP 16 (.load true 4 (.tmp 2))), (oP 17 (.load true 4 (.tmp 3))), (oP 18 (.call 11 [(.tmp 16), (.tmp 17)])), (oP 19 (.ext (.tmp 18) 0)), (oP 20 (.ext (.tmp 18) 1)), (oN (.store 2 (.tmp 4) (.tmp 19))), (mV 5 20)]
 .ret)))⟩
theorem c5 : compFunc Tryz.prog 5 = some a5 := by kernel_rfl
def Zbp (r : (TVal × Int)) : AV → Heap → Nat → Prop := fun v h' n' => v = (.tup [(.agg (e_TVal r.1)), (I r.2)]) ∧ (h' = e0) ∧ n' = 0
/-- clerestory/calc.Value -/
noncomputable def Z4f (t_ : TSTerm) (k_ : TSScale) : Option (TVal × Int) :=
 (Z4c t_).bind fun r_ =>
 if (!r_.2) then
  some ((⟨0, 0⟩ : TVal), 3)
 else
  (Z4e t_ k_).bind fun r_1 =>
  some (r_1.1, r_1.2)
theorem Zbq {mL : Int} {t_ : TSTerm} {k_ : TSScale} {r : (TVal × Int)} (h : Z4f t_ k_ = some r) : CPure Tryz.prog (GG mL) 5 [(.agg (e_TSTerm t_)), (.agg (e_TSScale k_))] (.tup [(.agg (e_TVal r.1)), (I r.2)]) := by
 refine acalls_of_sv hmix c5 (R := Zbp r) ?_
 unfold Z4f at h
 refine ssr <| un <| a2v (v := (.c (.ref 0 4 0 0))) (h' := upd _ 0 (some (.cells 4 [(e_TSTerm t_)]))) (n' := 1) rfl rfl hcs <| un <| a2v (v := (.c (.ref 1 4 0 0))) (h' := upd _ 1 (some (.cells 4 [(e_TSScale k_)]))) (n' := 2) rfl rfl hcs <| un <| a2v (v := (.c (.ref 2 2 0 0))) (h' := upd _ 2 (some (.cells 2 [[cI 0, cI 0]]))) (n' := 3) rfl rfl hcs <| un1 rfl <| dnil <| Sv.seq <| ssr <| un1 (v := (.agg (e_TSTerm t_))) rfl ?_
 obtain ⟨r_, hr1, h⟩ := bnd h
 refine un <| ac_pure (Zb6 hr1) rfl rfl rfl <| un1 rfl <| un1 (v := (I r_.1)) rfl <| un1 (v := (B r_.2)) rfl <| un1 rfl <| un1 rfl <| dnil <| ssr <| un1 rfl <| un1 (v := (B (!r_.2))) rfl <| dnil ?_
 refine Sv.cnd rfl h (fun h => ?_) fun h => ?_
 ·refine ssr <| un1 (v := (.agg [cI 0, cI 0])) rfl <| un <| a2n (h' := upd _ 2 (some (.cells 2 [[cI 0, cI 0]]))) (n' := 3) rfl rfl hcs <| un1 rfl <| dnil <| Sv.ret ?_
  exact rt0 h rfl rfl ⟨rfl, rfl, rfl⟩
 ·refine Sv.skip <| ssr <| un1 (v := (.agg (e_TSTerm t_))) rfl <| un1 (v := (.agg (e_TSScale k_))) rfl ?_
  obtain ⟨r_1, hr2, h⟩ := bnd h
  refine un <| ac_pure (Zbo hr2) rfl rfl rfl <| un1 (v := (.agg (e_TVal r_1.1))) rfl <| un1 (v := (I r_1.2)) rfl <| un <| a2n (h' := upd _ 2 (some (.cells 2 [(e_TVal r_1.1)]))) (n' := 3) rfl rfl hcs <| un1 rfl <| dnil <| Sv.ret ?_
  exact rt0 h rfl rfl ⟨rfl, rfl, rfl⟩
def a12 : AFunc := ⟨1, [(.tmp 2)], (sr [(oP 1 (.box (.tmp 0))), (oP 2 (.mov kF))]
 (sr [(oP 4 (.faddr 3 (.tmp 1))), (oP 5 (.load false 1 (.tmp 4))), (oP 6 (.len (.tmp 5))), (mV 3 6)]
 (.seq (sr [(oP 7 (.faddr 0 (.tmp 1))), (oP 8 (.load false 1 (.tmp 7))), (oP 9 (.bin .eql (.tmp 8) (kI 1)))]
 (.cond (.tmp 9) (sr [(mV 10 3), (oP 11 (.bin .eql (.tmp 10) (kI 0))), (mV 2 11)]
 .ret) .skip))
 (.seq (sr [(oP 12 (.faddr 0 (.tmp 1))), (oP 13 (.load false 1 (.tmp 12))), (oP 14 (.bin .geq (.tmp 13) (kI 2))), (mV 15 14), ⟨(some 16), (.faddr 0 (.tmp 1)), (some (15, true))⟩, ⟨(some 17), (.load false 1 (.tmp 16)), (some (15, true))⟩, ⟨(some 18), (.bin .leq (.tmp 17) (kI 5)), (some (15, true))⟩, (oP 19 (.pick (.tmp 15) (.tmp 18) kF))]
 (.cond (.tmp 19) (sr [(mV 20 3), (oP 21 (.bin .eql (.tmp 20) (kI 2))), (mV 2 21)]
 .ret) .skip))
 (.seq (sr [(oP 22 (.faddr 0 (.tmp 1))), (oP 23 (.load false 1 (.tmp 22))), (oP 24 (.bin .eql (.tmp 23) (kI 6))), (mV 25 24), ⟨(some 26), (.faddr 0 (.tmp 1)), (some (25, false))⟩, ⟨(some 27), (.load false 1 (.tmp 26)), (some (25, false))⟩, ⟨(some 28), (.bin .eql (.tmp 27) (kI 7)), (some (25, false))⟩, (oP 29 (.pick (.tmp 25) kT (.tmp 28)))]
 (.cond (.tmp 29) (sr [(mV 30 3), (oP 31 (.bin .geq (.tmp 30) (kI 1))), (mV 2 31)]
 .ret) .skip))
 (sr [(oP 32 (.faddr 0 (.tmp 1))), (oP 33 (.load false 1 (.tmp 32))), (oP 34 (.bin .eql (.tmp 33) (kI 8))), (mV 35 34), ⟨(some 36), (.mov (.tmp 3)), (some (35, true))⟩, ⟨(some 37), (.bin .eql (.tmp 36) (kI 3)), (some (35, true))⟩, (oP 38 (.pick (.tmp 35) (.tmp 37) kF)), (mV 2 38)]
 .ret))))))⟩
theorem c12 : compFunc Tryz.prog 12 = some a12 := by kernel_rfl
def Zbr (r : Bool) : AV → Heap → Nat → Prop := fun v h' n' => v = (B r) ∧ (h' = e0) ∧ n' = 0
/-- clerestory/clerestoryref2.TermMay -/
def Zb (t_ : TSTerm) : Bool :=
 if decide (t_.Kind = 1) then
  decide ((t_.Subs.length : Int) = 0)
 else
  if ((decide (2 ≤ t_.Kind)) && (decide (t_.Kind ≤ 5))) then
   decide ((t_.Subs.length : Int) = 2)
  else
   if ((decide (t_.Kind = 6)) || (decide (t_.Kind = 7))) then
    decide (1 ≤ (t_.Subs.length : Int))
   else
    ((decide (t_.Kind = 8)) && (decide ((t_.Subs.length : Int) = 3)))
theorem Zbs {mL : Int} (t_ : TSTerm) : CPure Tryz.prog (GG mL) 12 [(.agg (e_TSTerm t_))] (B (Zb t_)) := by
 generalize h : Zb t_ = o
 refine acalls_of_sv hmix c12 (R := Zbr o) ?_
 unfold Zb at h
 refine ssr <| un <| a2v (v := (.c (.ref 0 4 0 0))) (h' := upd _ 0 (some (.cells 4 [(e_TSTerm t_)]))) (n' := 1) rfl rfl hcs <| un1 rfl <| dnil <| ssr <| un1 (v := (.c (.ref 0 4 0 3))) rfl <| un1 (v := (.c (.ro false 4 (t_.Subs.map eRaw)))) rfl <| un1 (v := (I (t_.Subs.length : Int))) (s_len (e := eRaw) (xs := t_.Subs) rfl) <| un1 rfl <| dnil <| Sv.seq <| ssr <| un1 (v := (.c (.ref 0 4 0 0))) rfl <| un1 (v := (I t_.Kind)) rfl <| un1 (v := (B (decide (t_.Kind = 1)))) rfl <| dnil ?_
 refine Sv.cnd rfl h (fun h => ?_) fun h => ?_
 ·refine ssr <| un1 rfl <| un1 (v := (B (decide ((t_.Subs.length : Int) = 0)))) rfl <| un1 rfl <| dnil <| Sv.ret ?_
  subst h
  exact ⟨_, .refl _, _, rfl, ⟨upd e0 0 (some (B (decide ((t_.Subs.length : Int) = 0)))), e0, 0⟩, (B (decide ((t_.Subs.length : Int) = 0))), weak_canon [] rfl ndl nll nlz (.cf rfl rfl .nil) .nil, rfl, rfl, rfl, rfl⟩
 ·refine Sv.skip <| Sv.seq <| ssr <| un1 (v := (.c (.ref 0 4 0 0))) rfl <| un1 (v := (I t_.Kind)) rfl <| un1 (v := (B (decide (2 ≤ t_.Kind)))) rfl <| un1 rfl ?_
  refine gjoin 4 (d := 19) (v := (B ((decide (2 ≤ t_.Kind)) && (decide (t_.Kind ≤ 5))))) (fun X hX => ?_) ?_
  ·refine split2 (fun hc2 => ?_) (fun hc2 => ?_)
   ·refine gt rfl <| a1 (v := (.c (.ref 0 4 0 0))) rfl <| gt rfl <| a1 (v := (I t_.Kind)) rfl <| gt rfl <| a1 (v := (B (decide (t_.Kind ≤ 5)))) rfl <| un1 (v := (B (decide (t_.Kind ≤ 5)))) rfl <| dnil ?_
    exact hX _ (.putEq (by rw [hc2]; rfl) (.skp (.skp (.skp (.putEq (by rw [hc2]) (.refl _)) rfl) rfl) rfl))
   ·refine gs rfl rfl <| gs rfl rfl <| gs rfl rfl <| un1 (v := (B false)) rfl <| dnil ?_
    exact hX _ (.putEq (by rw [hc2]; rfl) (.skp (.skp (.skp (.putEq (by rw [hc2]) (.refl _)) rfl) rfl) rfl))
  refine dnil ?_
  refine Sv.cnd rfl h (fun h => ?_) fun h => ?_
  ·refine ssr <| un1 rfl <| un1 (v := (B (decide ((t_.Subs.length : Int) = 2)))) rfl <| un1 rfl <| dnil <| Sv.ret ?_
   subst h
   exact ⟨_, .refl _, _, rfl, ⟨upd e0 0 (some (B (decide ((t_.Subs.length : Int) = 2)))), e0, 0⟩, (B (decide ((t_.Subs.length : Int) = 2))), weak_canon [] rfl ndl nll nlz (.cf rfl rfl .nil) .nil, rfl, rfl, rfl, rfl⟩
  ·refine Sv.skip <| Sv.seq <| ssr <| un1 (v := (.c (.ref 0 4 0 0))) rfl <| un1 (v := (I t_.Kind)) rfl <| un1 (v := (B (decide (t_.Kind = 6)))) rfl <| un1 rfl ?_
   refine gjoin 4 (d := 29) (v := (B ((decide (t_.Kind = 6)) || (decide (t_.Kind = 7))))) (fun X hX => ?_) ?_
   ·refine split2 (fun hc4 => ?_) (fun hc4 => ?_)
    ·refine gs rfl rfl <| gs rfl rfl <| gs rfl rfl <| un1 (v := (B true)) rfl <| dnil ?_
     exact hX _ (.putEq (by rw [hc4]; rfl) (.skp (.skp (.skp (.putEq (by rw [hc4]) (.refl _)) rfl) rfl) rfl))
    ·refine gt rfl <| a1 (v := (.c (.ref 0 4 0 0))) rfl <| gt rfl <| a1 (v := (I t_.Kind)) rfl <| gt rfl <| a1 (v := (B (decide (t_.Kind = 7)))) rfl <| un1 (v := (B (decide (t_.Kind = 7)))) rfl <| dnil ?_
     exact hX _ (.putEq (by rw [hc4]; rfl) (.skp (.skp (.skp (.putEq (by rw [hc4]) (.refl _)) rfl) rfl) rfl))
   refine dnil ?_
   refine Sv.cnd rfl h (fun h => ?_) fun h => ?_
   ·refine ssr <| un1 rfl <| un1 (v := (B (decide (1 ≤ (t_.Subs.length : Int))))) rfl <| un1 rfl <| dnil <| Sv.ret ?_
    subst h
    exact ⟨_, .refl _, _, rfl, ⟨upd e0 0 (some (B (decide (1 ≤ (t_.Subs.length : Int))))), e0, 0⟩, (B (decide (1 ≤ (t_.Subs.length : Int)))), weak_canon [] rfl ndl nll nlz (.cf rfl rfl .nil) .nil, rfl, rfl, rfl, rfl⟩
   ·refine Sv.skip <| ssr <| un1 (v := (.c (.ref 0 4 0 0))) rfl <| un1 (v := (I t_.Kind)) rfl <| un1 (v := (B (decide (t_.Kind = 8)))) rfl <| un1 rfl ?_
    refine gjoin 3 (d := 38) (v := (B ((decide (t_.Kind = 8)) && (decide ((t_.Subs.length : Int) = 3))))) (fun X hX => ?_) ?_
    ·refine split2 (fun hc6 => ?_) (fun hc6 => ?_)
     ·refine gt rfl <| a1 rfl <| gt rfl <| a1 (v := (B (decide ((t_.Subs.length : Int) = 3)))) rfl <| un1 (v := (B (decide ((t_.Subs.length : Int) = 3)))) rfl <| dnil ?_
      exact hX _ (.putEq (by rw [hc6]; rfl) (.skp (.skp (.putEq (by rw [hc6]) (.refl _)) rfl) rfl))
     ·refine gs rfl rfl <| gs rfl rfl <| un1 (v := (B false)) rfl <| dnil ?_
      exact hX _ (.putEq (by rw [hc6]; rfl) (.skp (.skp (.putEq (by rw [hc6]) (.refl _)) rfl) rfl))
    refine un1 rfl <| dnil <| Sv.ret ?_
    subst h
    exact ⟨_, .refl _, _, rfl, ⟨upd e0 0 (some (B ((decide (t_.Kind = 8)) && (decide ((t_.Subs.length : Int) = 3))))), e0, 0⟩, (B ((decide (t_.Kind = 8)) && (decide ((t_.Subs.length : Int) = 3)))), weak_canon [] rfl ndl nll nlz (.cf rfl rfl .nil) .nil, rfl, rfl, rfl, rfl⟩
def a6_c0 : ACode := (.seq (sr [(mV 8 4), (oP 9 (.faddr 3 (.tmp 1))), (oP 10 (.load false 1 (.tmp 9))), (oP 11 (.len (.tmp 10))), (oP 12 (.bin .lss (.tmp 8) (.tmp 11))), (mV 13 12), ⟨(some 14), (.mov (.tmp 3)), (some (13, true))⟩, ⟨(some 15), (.bin .leq (.tmp 14) (kI 30)), (some (13, true))⟩, (oP 16 (.pick (.tmp 13) (.tmp 15) kF))]
 (.cond (.tmp 16) .skip (.exit 0)))
 (.seq (.block 1 (.region [(mV 19 3), (oP 20 (.faddr 3 (.tmp 1))), (oP 21 (.load false 1 (.tmp 20))), (mV 22 4), (oP 23 (.iaddr 4 (.tmp 21) (.tmp 22))), (oP 24 (.load true 4 (.tmp 23))), (oP 25 (.call 6 [(.tmp 24)])), (oP 26 (.bin .add (.tmp 19) (.tmp 25))), (mV 3 26)]))
 (.region [(mV 17 4), (oP 18 (.bin .add (.tmp 17) (kI 1))), (mV 4 18)])))
def a6 : AFunc := ⟨1, [(.tmp 2)], (sr [(oP 1 (.box (.tmp 0))), (oP 2 (.mov (kI 0)))]
 (.seq (sr [(oP 5 (.load true 4 (.tmp 1))), (oP 6 (.call 12 [(.tmp 5)])), (oP 7 (.un .not (.tmp 6)))]
 (.cond (.tmp 7) (sr [(oP 2 (.mov (kI 31)))]
 .ret) .skip))
 (sr [(oP 3 (.mov (kI 1)))]
 (.seq (sr [(oP 4 (.mov (kI 0)))]
 (.block 0 (.loop a6_c0)))
 (sr [(mV 27 3), (mV 2 27)]
 .ret)))))⟩
theorem c6 : compFunc Tryz.prog 6 = some a6 := by kernel_rfl
def Z8c (r : Int) : AV → Heap → Nat → Prop := fun v h' n' => v = (I r) ∧ (h' = e0) ∧ n' = 0
def Z8d (mL : Int) (recf : TSTerm → Option Int) : Prop := ∀ (t_ : TSTerm) (r : Int), recf t_ = some r → CPure Tryz.prog (GG mL) 6 [(.agg (e_TSTerm t_))] (I r)
abbrev Zbt (F_ : Int → Option Int) (o : Int) (R_ : St → Prop) : Prop := ∀ (n_1 : Int), F_ n_1 = some o → ∀ s, Weak 0 s ⟨(upd e0 3 (some (I n_1))), e0, 0⟩ → R_ s
abbrev Z8e (t_ : TSTerm) (F_ : Nat → Int → Int → Option Int) (o : Int) : Nat → St → Prop := fun k s => ∃ (n_ : Int), ∃ (i_ : Int), F_ k n_ i_ = some o ∧ s = ⟨(ue [(4, (I i_)), (3, (I n_)), (1, (.c (.ref 0 4 0 0)))]), (upd e0 0 (some (.cells 4 [(e_TSTerm t_)]))), 1⟩
abbrev Zbu (t_ : TSTerm) (F_ : Int → Int → Option Int) (o : Int) (R_ : St → Prop) : Prop := ∀ (n_ : Int) (i_ : Int), F_ n_ i_ = some o → ∀ s, Weak 0 s ⟨(ue [(4, (I i_)), (3, (I n_)), (1, (.c (.ref 0 4 0 0)))]), (upd e0 0 (some (.cells 4 [(e_TSTerm t_)]))), 1⟩ → R_ s
noncomputable def Z7 (t_ : TSTerm) (recf : TSTerm → Option Int) (K0_ : Int → Option Int) : Nat → Int → Int → Option Int
 | 0, _, _ => none
 | k + 1, n_, i_ =>
  if ((decide (i_ < (t_.Subs.length : Int))) && (decide (n_ ≤ 30))) then
   (at? t_.Subs i_).bind fun r_ =>
   (Zp r_.c).bind fun x_ =>
   (recf x_).bind fun r_1 =>
   (Z7 t_ recf K0_ k) (wi (n_ + r_1)) (wi (i_ + 1))
  else
   K0_ n_
theorem Zbv {mL : Int} {Q : AExit → St → Prop} {t_ : TSTerm} {recf : TSTerm → Option Int} {K0_ : Int → Option Int} {k : Nat} {n_ : Int} {i_ : Int} {o : Int} (h : Z7 t_ recf K0_ k n_ i_ = some o)
  (hK0 : Zbt K0_ o (Q (.exit 0)))
  (hr : ∀ s, Ends a6.results 0 (Z8c o) .ret s → Q .ret s)
  (hrec : Z8d mL recf) :
  Sv Tryz.prog (GG mL) 0 (.loop a6_c0) Q ⟨(ue [(4, (I i_)), (3, (I n_)), (1, (.c (.ref 0 4 0 0)))]), (upd e0 0 (some (.cells 4 [(e_TSTerm t_)]))), 1⟩ := by
 refine Sv.loop (I := Z8e t_ (Z7 t_ recf K0_) o) (fun k s hI => ?_) ⟨n_, i_, h, rfl⟩
 clear h
 clear i_ n_
 obtain ⟨n_, i_, h, rfl⟩ := hI
 cases k with
 | zero => cases h
 | succ k =>
 rw [Z7] at h
 have hself : Zbu t_ (Z7 t_ recf K0_ k) o (rnd 0 (Z8e t_ (Z7 t_ recf K0_) o) k Q) := fun n_ i_ h s hw => ⟨_, k, hw, Nat.lt_succ_self k, n_, i_, h, rfl⟩
 refine Sv.seq <| ssr <| un1 rfl <| un1 (v := (.c (.ref 0 4 0 3))) rfl <| un1 (v := (.c (.ro false 4 (t_.Subs.map eRaw)))) rfl <| un1 (v := (I (t_.Subs.length : Int))) (s_len (e := eRaw) (xs := t_.Subs) rfl) <| un1 (v := (B (decide (i_ < (t_.Subs.length : Int))))) rfl <| un1 rfl ?_
 refine gjoin 3 (d := 16) (v := (B ((decide (i_ < (t_.Subs.length : Int))) && (decide (n_ ≤ 30))))) (fun X hX => ?_) ?_
 ·refine split2 (fun hc2 => ?_) (fun hc2 => ?_)
  ·refine gt rfl <| a1 rfl <| gt rfl <| a1 (v := (B (decide (n_ ≤ 30)))) rfl <| un1 (v := (B (decide (n_ ≤ 30)))) rfl <| dnil ?_
   exact hX _ (.putEq (by rw [hc2]; rfl) (.skp (.skp (.putEq (by rw [hc2]) (.refl _)) rfl) rfl))
  ·refine gs rfl rfl <| gs rfl rfl <| un1 (v := (B false)) rfl <| dnil ?_
   exact hX _ (.putEq (by rw [hc2]; rfl) (.skp (.skp (.putEq (by rw [hc2]) (.refl _)) rfl) rfl))
 refine dnil ?_
 refine Sv.cnd rfl h (fun h => ?_) fun h => ?_
 ·refine Sv.skip <| Sv.seq <| Sv.block <| srg <| un1 rfl <| un1 (v := (.c (.ref 0 4 0 3))) rfl <| un1 (v := (.c (.ro false 4 (t_.Subs.map eRaw)))) rfl <| un1 rfl ?_
  obtain ⟨r_, hr1, h⟩ := bnd h
  obtain ⟨x_, hd, h⟩ := bnd h
  have hx1 : at? t_.Subs i_ = some (⟨e_TSTerm x_, rfl⟩ : Raw) := by rw [hr1, raw_eq rfl (Z21 hd)]
  refine un1 (v := (.c (.rop (e_TSTerm x_)))) (s_iaddr (e := eRaw) (xs := t_.Subs) rfl rfl hx1) <| un1 (v := (.agg (e_TSTerm x_))) rfl ?_
  obtain ⟨r_1, hr2, h⟩ := bnd h
  refine un <| ac_pure (hrec x_ _ hr2) rfl rfl rfl <| un1 (v := (I (wi (n_ + r_1)))) rfl <| un1 rfl <| dnil <| srg <| un1 rfl <| un1 (v := (I (wi (i_ + 1)))) rfl <| un1 rfl <| dnil ?_
  exact hself (wi (n_ + r_1)) (wi (i_ + 1)) h _ (wcn [0] rfl (.cf rfl rfl (.cf rfl rfl (.cr rfl rfl rfl .nil))) (.box (by decide) rfl (blkAs_cells (.sm rfl (.sm rfl (.sm rfl (.sm rfl .nil))))) .nil))
 ·refine Sv.exit ?_
  exact hK0 n_ h _ (wcn [] rfl (.cf rfl rfl .nil) .nil)
/-- clerestory/clerestoryref2.TermCount -/
noncomputable def Zu : Nat → TSTerm → Option Int
 | 0, _ => none
 | k + 1, t_ =>
  if (!(Zb t_)) then
   some 31
  else
   lim fun kk => Z7 t_ (Zu k) (fun (n_1 : Int) => 
     some n_1) kk 1 0
noncomputable def Z4g (t_ : TSTerm) : Option Int :=
 lim fun kr => Zu kr t_
theorem Zbw {mL : Int} (k : Nat) : Z8d mL (Zu k) := by
 induction k with
 | zero => intro t_ r h; cases h
 | succ k hrec =>
 intro t_ r h
 refine acalls_of_sv hmix c6 (R := Z8c r) ?_
 rw [Zu] at h
 refine ssr <| un <| a2v (v := (.c (.ref 0 4 0 0))) (h' := upd _ 0 (some (.cells 4 [(e_TSTerm t_)]))) (n' := 1) rfl rfl hcs <| un1 rfl <| dnil <| Sv.seq <| ssr <| un1 (v := (.agg (e_TSTerm t_))) rfl <| un <| ac_pure (Zbs (mL := mL) t_) rfl rfl rfl <| un1 (v := (B (!(Zb t_)))) rfl <| dnil ?_
 refine Sv.cnd rfl h (fun h => ?_) fun h => ?_
 ·refine ssr <| un1 rfl <| dnil <| Sv.ret ?_
  exact rt0 h rfl rfl ⟨rfl, rfl, rfl⟩
 ·refine Sv.skip <| ssr <| un1 rfl <| dnil <| Sv.seq <| ssr <| un1 rfl <| dnil <| Sv.block ?_
  obtain ⟨kk, h⟩ := lim_some h
  refine Sv.weak (wcn [0] rfl (.cf rfl rfl (.cf rfl rfl (.cr rfl rfl rfl .nil))) (.box (by decide) rfl (blkAs_cells (.sm rfl (.sm rfl (.sm rfl (.sm rfl .nil))))) .nil)) (Zbv h ?_ (fun s hs => hs) hrec)
  ·intro n_1 h _ hw1
   refine Sv.weak hw1 <| ssr <| un1 rfl <| un1 rfl <| dnil <| Sv.ret ?_
   exact rt0 h rfl rfl ⟨rfl, rfl, rfl⟩
theorem Zbx {mL : Int} {t_ : TSTerm} {r : Int} (h : Z4g t_ = some r) : CPure Tryz.prog (GG mL) 6 [(.agg (e_TSTerm t_))] (I r) := by
 unfold Z4g at h
 obtain ⟨k, h⟩ := lim_some h
 exact Zbw k t_  r h
def a29 : AFunc := ⟨1, [(.tmp 2)], (sr [(oP 2 (.mov (kI 0)))]
 (sr [(mV 3 0), (oP 4 (.mm false [(.tmp 3), (kI 16777216)])), (oP 5 (.mm true [(.const (.c (.val (.int .i64 (-16777216))))), (.tmp 4)])), (mV 2 5)]
 .ret))⟩
theorem c29 : compFunc Tryz.prog 29 = some a29 := by kernel_rfl
def Zby (r : Int) : AV → Heap → Nat → Prop := fun v h' n' => v = (I r) ∧ (h' = e0) ∧ n' = 0
/-- clerestory/clerestoryref2.Cut -/
def Z0 (n_ : Int) : Int :=
 (mx (-16777216) (mn n_ 16777216))
theorem Zo {mL : Int} (n_ : Int) : CPure Tryz.prog (GG mL) 29 [(I n_)] (I (Z0 n_)) := by
 generalize h : Z0 n_ = o
 refine acalls_of_sv hmix c29 (R := Zby o) ?_
 unfold Z0 at h
 refine ssr <| un1 rfl <| dnil <| ssr <| un1 rfl <| un1 (v := (I (mn n_ 16777216))) (s_mn rfl rfl) <| un1 (v := (I (mx (-16777216) (mn n_ 16777216)))) (s_mx rfl rfl) <| un1 rfl <| dnil <| Sv.ret ?_
 subst h
 exact ⟨_, .refl _, _, rfl, ⟨upd e0 0 (some (I (mx (-16777216) (mn n_ 16777216)))), e0, 0⟩, (I (mx (-16777216) (mn n_ 16777216))), weak_canon [] rfl ndl nll nlz (.cf rfl rfl .nil) .nil, rfl, rfl, rfl, rfl⟩
def a30_c0 : ACode := (sr [(mV 16 5), (mV 4 16)]
 .ret)
def a30 : AFunc := ⟨2, [(.tmp 4)], (sr [(oP 4 (.mov (kI 0)))]
 (sr [(mV 6 0), (mV 7 1), (oP 8 (.bin .quo (.tmp 6) (.tmp 7))), (mV 5 8)]
 (.seq (sr [(mV 9 5), (mV 10 1), (oP 11 (.bin .mul (.tmp 9) (.tmp 10))), (mV 12 0), (oP 13 (.bin .gtr (.tmp 11) (.tmp 12)))]
 (.cond (.tmp 13) (.region [(mV 14 5), (oP 15 (.bin .sub (.tmp 14) (kI 1))), (mV 5 15)]) .skip))
 a30_c0)))⟩
theorem c30 : compFunc Tryz.prog 30 = some a30 := by kernel_rfl
def Z8f (r : Int) : AV → Heap → Nat → Prop := fun v h' n' => v = (I r) ∧ (h' = e0) ∧ n' = 0
noncomputable def Z1j (q_ : Int) : Option Int :=
 some q_
theorem Z8g {mL : Int} {q_ : Int} {o : Int} (h : Z1j q_ = some o) :
  Sv Tryz.prog (GG mL) 0 a30_c0 (Ends a30.results 0 (Z8f o)) ⟨(upd e0 5 (some (I q_))), e0, 0⟩ := by
 unfold Z1j at h
 refine ssr <| un1 rfl <| un1 rfl <| dnil <| Sv.ret ?_
 exact rt0 h rfl rfl ⟨rfl, rfl, rfl⟩
/-- clerestory/clerestoryref2.Whole -/
noncomputable def Z6 (n_ : Int) (by_ : Int) : Option Int :=
 (quo? .i64 n_ by_).bind fun r_ =>
 if decide (n_ < (wi (r_ * by_))) then
  Z1j (wi (r_ - 1))
 else
  Z1j r_
theorem Zv {mL : Int} {n_ : Int} {by_ : Int} {r : Int} (h : Z6 n_ by_ = some r) : CPure Tryz.prog (GG mL) 30 [(I n_), (I by_)] (I r) := by
 refine acalls_of_sv hmix c30 (R := Z8f r) ?_
 unfold Z6 at h
 refine ssr <| un1 rfl <| dnil <| ssr <| un1 rfl <| un1 rfl ?_
 obtain ⟨r_, hx1, h⟩ := bnd h
 refine un1 (v := (I r_)) (s_quo rfl rfl hx1) <| un1 rfl <| dnil <| Sv.seq <| ssr <| un1 rfl <| un1 rfl <| un1 (v := (I (wi (r_ * by_)))) rfl <| un1 rfl <| un1 (v := (B (decide (n_ < (wi (r_ * by_)))))) rfl <| dnil ?_
 refine Sv.cnd rfl h (fun h => ?_) fun h => ?_
 ·refine srg <| un1 rfl <| un1 (v := (I (wi (r_ - 1)))) rfl <| un1 rfl <| dnil ?_
  exact Sv.weak (wcn [] rfl (.cf rfl rfl .nil) .nil) (Z8g h)
 ·refine Sv.skip ?_
  exact Sv.weak (wcn [] rfl (.cf rfl rfl .nil) .nil) (Z8g h)
def a48 : AFunc := ⟨2, [(.tmp 4)], (sr [(oP 2 (.box (.tmp 0))), (oP 3 (.box (.tmp 1))), (oP 4 (.mov kF))]
 (sr [(oP 5 (.faddr 0 (.tmp 2))), (oP 6 (.load false 1 (.tmp 5))), (oP 7 (.bin .lss (.tmp 6) (.const (.c (.val (.int .i64 (-1000000000))))))), (mV 8 7), ⟨(some 9), (.faddr 0 (.tmp 2)), (some (8, false))⟩, ⟨(some 10), (.load false 1 (.tmp 9)), (some (8, false))⟩, ⟨(some 11), (.bin .gtr (.tmp 10) (kI 1000000000)), (some (8, false))⟩, (oP 12 (.pick (.tmp 8) kT (.tmp 11))), (mV 13 12), ⟨(some 14), (.faddr 0 (.tmp 3)), (some (13, false))⟩, ⟨(some 15), (.load false 1 (.tmp 14)), (some (13, false))⟩, ⟨(some 16), (.bin .lss (.tmp 15) (kI 0)), (some (13, false))⟩, (oP 17 (.pick (.tmp 13) kT (.tmp 16))), (mV 18 17), ⟨(some 19), (.faddr 0 (.tmp 3)), (some (18, false))⟩, ⟨(some 20), (.load false 1 (.tmp 19)), (some (18, false))⟩, ⟨(some 21), (.bin .gtr (.tmp 20) (kI 16777216)), (some (18, false))⟩, (oP 22 (.pick (.tmp 18) kT (.tmp 21))), (mV 23 22), ⟨(some 24), (.faddr 1 (.tmp 3)), (some (23, false))⟩, ⟨(some 25), (.load false 1 (.tmp 24)), (some (23, false))⟩, ⟨(some 26), (.bin .lss (.tmp 25) (kI 0)), (some (23, false))⟩, (oP 27 (.pick (.tmp 23) kT (.tmp 26))), (mV 28 27), ⟨(some 29), (.faddr 1 (.tmp 3)), (some (28, false))⟩, ⟨(some 30), (.load false 1 (.tmp 29)), (some (28, false))⟩, ⟨(some 31), (.bin .gtr (.tmp 30) (kI 16777216)), (some (28, false))⟩, (oP 32 (.pick (.tmp 28) kT (.tmp 31))), (mV 33 32), ⟨(some 34), (.faddr 2 (.tmp 3)), (some (33, false))⟩, ⟨(some 35), (.load false 1 (.tmp 34)), (some (33, false))⟩, ⟨(some 36), (.bin .lss (.tmp 35) (kI 1)), (some (33, false))⟩, (oP 37 (.pick (.tmp 33) kT (.tmp 36))), (mV 38 37), ⟨(some 39), (.faddr 2 (.tmp 3)), (some (38, false))⟩, ⟨(some 40), (.load false 1 (.tmp 39)), (some (38, false))⟩, ⟨(some 41), (.bin .gtr (.tmp 40) (kI 4000)), (some (38, false))⟩, (oP 42 (.pick (.tmp 38) kT (.tmp 41))), (mV 43 42), ⟨(some 44), (.faddr 3 (.tmp 3)), (some (43, false))⟩, ⟨(some 45), (.load false 1 (.tmp 44)), (some (43, false))⟩, ⟨(some 46), (.bin .lss (.tmp 45) (kI 1)), (some (43, false))⟩, (oP 47 (.pick (.tmp 43) kT (.tmp 46))), (mV 48 47), ⟨(some 49), (.faddr 3 (.tmp 3)), (some (48, false))⟩, ⟨(some 50), (.load false 1 (.tmp 49)), (some (48, false))⟩, ⟨(some 51), (.bin .gtr (.tmp 50) (kI 4000)), (some (48, false))⟩, (oP 52 (.pick (.tmp 48) kT (.tmp 51))), (mV 4 52)]
 .ret))⟩
theorem c48 : compFunc Tryz.prog 48 = some a48 := by kernel_rfl
def Zbz (r : Bool) : AV → Heap → Nat → Prop := fun v h' n' => v = (B r) ∧ (h' = e0) ∧ n' = 0
/-- clerestory/clerestoryref2.ScaleFault -/
def Z19 (d_ : TSDim) (k_ : TSScale) : Bool :=
 ((((((((((decide (d_.Num < (-1000000000))) || (decide (1000000000 < d_.Num))) || (decide (k_.Em < 0))) || (decide (16777216 < k_.Em))) || (decide (k_.Rem < 0))) || (decide (16777216 < k_.Rem))) || (decide (k_.Width < 1))) || (decide (4000 < k_.Width))) || (decide (k_.Height < 1))) || (decide (4000 < k_.Height)))
theorem Zc0 {mL : Int} (d_ : TSDim) (k_ : TSScale) : CPure Tryz.prog (GG mL) 48 [(.agg (e_TSDim d_)), (.agg (e_TSScale k_))] (B (Z19 d_ k_)) := by
 generalize h : Z19 d_ k_ = o
 refine acalls_of_sv hmix c48 (R := Zbz o) ?_
 unfold Z19 at h
 refine ssr <| un <| a2v (v := (.c (.ref 0 2 0 0))) (h' := upd _ 0 (some (.cells 2 [(e_TSDim d_)]))) (n' := 1) rfl rfl hcs <| un <| a2v (v := (.c (.ref 1 4 0 0))) (h' := upd _ 1 (some (.cells 4 [(e_TSScale k_)]))) (n' := 2) rfl rfl hcs <| un1 rfl <| dnil <| ssr <| un1 (v := (.c (.ref 0 2 0 0))) rfl <| un1 (v := (I d_.Num)) rfl <| un1 (v := (B (decide (d_.Num < (-1000000000))))) rfl <| un1 rfl ?_
 refine gjoin 4 (d := 12) (v := (B ((decide (d_.Num < (-1000000000))) || (decide (1000000000 < d_.Num))))) (fun X hX => ?_) ?_
 ·refine split2 (fun hc1 => ?_) (fun hc1 => ?_)
  ·refine gs rfl rfl <| gs rfl rfl <| gs rfl rfl <| un1 (v := (B true)) rfl <| dnil ?_
   exact hX _ (.putEq (by rw [hc1]; rfl) (.skp (.skp (.skp (.putEq (by rw [hc1]) (.refl _)) rfl) rfl) rfl))
  ·refine gt rfl <| a1 (v := (.c (.ref 0 2 0 0))) rfl <| gt rfl <| a1 (v := (I d_.Num)) rfl <| gt rfl <| a1 (v := (B (decide (1000000000 < d_.Num)))) rfl <| un1 (v := (B (decide (1000000000 < d_.Num)))) rfl <| dnil ?_
   exact hX _ (.putEq (by rw [hc1]; rfl) (.skp (.skp (.skp (.putEq (by rw [hc1]) (.refl _)) rfl) rfl) rfl))
 refine un1 rfl ?_
 refine gjoin 4 (d := 17) (v := (B (((decide (d_.Num < (-1000000000))) || (decide (1000000000 < d_.Num))) || (decide (k_.Em < 0))))) (fun X hX => ?_) ?_
 ·refine split2 (fun hc2 => ?_) (fun hc2 => ?_)
  ·refine gs rfl rfl <| gs rfl rfl <| gs rfl rfl <| un1 (v := (B true)) rfl <| dnil ?_
   exact hX _ (.putEq (by rw [hc2]; rfl) (.skp (.skp (.skp (.putEq (by rw [hc2]) (.refl _)) rfl) rfl) rfl))
  ·refine gt rfl <| a1 (v := (.c (.ref 1 4 0 0))) rfl <| gt rfl <| a1 (v := (I k_.Em)) rfl <| gt rfl <| a1 (v := (B (decide (k_.Em < 0)))) rfl <| un1 (v := (B (decide (k_.Em < 0)))) rfl <| dnil ?_
   exact hX _ (.putEq (by rw [hc2]; rfl) (.skp (.skp (.skp (.putEq (by rw [hc2]) (.refl _)) rfl) rfl) rfl))
 refine un1 rfl ?_
 refine gjoin 4 (d := 22) (v := (B ((((decide (d_.Num < (-1000000000))) || (decide (1000000000 < d_.Num))) || (decide (k_.Em < 0))) || (decide (16777216 < k_.Em))))) (fun X hX => ?_) ?_
 ·refine split2 (fun hc3 => ?_) (fun hc3 => ?_)
  ·refine gs rfl rfl <| gs rfl rfl <| gs rfl rfl <| un1 (v := (B true)) rfl <| dnil ?_
   exact hX _ (.putEq (by rw [hc3]; rfl) (.skp (.skp (.skp (.putEq (by rw [hc3]) (.refl _)) rfl) rfl) rfl))
  ·refine gt rfl <| a1 (v := (.c (.ref 1 4 0 0))) rfl <| gt rfl <| a1 (v := (I k_.Em)) rfl <| gt rfl <| a1 (v := (B (decide (16777216 < k_.Em)))) rfl <| un1 (v := (B (decide (16777216 < k_.Em)))) rfl <| dnil ?_
   exact hX _ (.putEq (by rw [hc3]; rfl) (.skp (.skp (.skp (.putEq (by rw [hc3]) (.refl _)) rfl) rfl) rfl))
 refine un1 rfl ?_
 refine gjoin 4 (d := 27) (v := (B (((((decide (d_.Num < (-1000000000))) || (decide (1000000000 < d_.Num))) || (decide (k_.Em < 0))) || (decide (16777216 < k_.Em))) || (decide (k_.Rem < 0))))) (fun X hX => ?_) ?_
 ·refine split2 (fun hc4 => ?_) (fun hc4 => ?_)
  ·refine gs rfl rfl <| gs rfl rfl <| gs rfl rfl <| un1 (v := (B true)) rfl <| dnil ?_
   exact hX _ (.putEq (by rw [hc4]; rfl) (.skp (.skp (.skp (.putEq (by rw [hc4]) (.refl _)) rfl) rfl) rfl))
  ·refine gt rfl <| a1 (v := (.c (.ref 1 4 0 1))) rfl <| gt rfl <| a1 (v := (I k_.Rem)) rfl <| gt rfl <| a1 (v := (B (decide (k_.Rem < 0)))) rfl <| un1 (v := (B (decide (k_.Rem < 0)))) rfl <| dnil ?_
   exact hX _ (.putEq (by rw [hc4]; rfl) (.skp (.skp (.skp (.putEq (by rw [hc4]) (.refl _)) rfl) rfl) rfl))
 refine un1 rfl ?_
 refine gjoin 4 (d := 32) (v := (B ((((((decide (d_.Num < (-1000000000))) || (decide (1000000000 < d_.Num))) || (decide (k_.Em < 0))) || (decide (16777216 < k_.Em))) || (decide (k_.Rem < 0))) || (decide (16777216 < k_.Rem))))) (fun X hX => ?_) ?_
 ·refine split2 (fun hc5 => ?_) (fun hc5 => ?_)
  ·refine gs rfl rfl <| gs rfl rfl <| gs rfl rfl <| un1 (v := (B true)) rfl <| dnil ?_
   exact hX _ (.putEq (by rw [hc5]; rfl) (.skp (.skp (.skp (.putEq (by rw [hc5]) (.refl _)) rfl) rfl) rfl))
  ·refine gt rfl <| a1 (v := (.c (.ref 1 4 0 1))) rfl <| gt rfl <| a1 (v := (I k_.Rem)) rfl <| gt rfl <| a1 (v := (B (decide (16777216 < k_.Rem)))) rfl <| un1 (v := (B (decide (16777216 < k_.Rem)))) rfl <| dnil ?_
   exact hX _ (.putEq (by rw [hc5]; rfl) (.skp (.skp (.skp (.putEq (by rw [hc5]) (.refl _)) rfl) rfl) rfl))
 refine un1 rfl ?_
 refine gjoin 4 (d := 37) (v := (B (((((((decide (d_.Num < (-1000000000))) || (decide (1000000000 < d_.Num))) || (decide (k_.Em < 0))) || (decide (16777216 < k_.Em))) || (decide (k_.Rem < 0))) || (decide (16777216 < k_.Rem))) || (decide (k_.Width < 1))))) (fun X hX => ?_) ?_
 ·refine split2 (fun hc6 => ?_) (fun hc6 => ?_)
  ·refine gs rfl rfl <| gs rfl rfl <| gs rfl rfl <| un1 (v := (B true)) rfl <| dnil ?_
   exact hX _ (.putEq (by rw [hc6]; rfl) (.skp (.skp (.skp (.putEq (by rw [hc6]) (.refl _)) rfl) rfl) rfl))
  ·refine gt rfl <| a1 (v := (.c (.ref 1 4 0 2))) rfl <| gt rfl <| a1 (v := (I k_.Width)) rfl <| gt rfl <| a1 (v := (B (decide (k_.Width < 1)))) rfl <| un1 (v := (B (decide (k_.Width < 1)))) rfl <| dnil ?_
   exact hX _ (.putEq (by rw [hc6]; rfl) (.skp (.skp (.skp (.putEq (by rw [hc6]) (.refl _)) rfl) rfl) rfl))
 refine un1 rfl ?_
 refine gjoin 4 (d := 42) (v := (B ((((((((decide (d_.Num < (-1000000000))) || (decide (1000000000 < d_.Num))) || (decide (k_.Em < 0))) || (decide (16777216 < k_.Em))) || (decide (k_.Rem < 0))) || (decide (16777216 < k_.Rem))) || (decide (k_.Width < 1))) || (decide (4000 < k_.Width))))) (fun X hX => ?_) ?_
 ·refine split2 (fun hc7 => ?_) (fun hc7 => ?_)
  ·refine gs rfl rfl <| gs rfl rfl <| gs rfl rfl <| un1 (v := (B true)) rfl <| dnil ?_
   exact hX _ (.putEq (by rw [hc7]; rfl) (.skp (.skp (.skp (.putEq (by rw [hc7]) (.refl _)) rfl) rfl) rfl))
  ·refine gt rfl <| a1 (v := (.c (.ref 1 4 0 2))) rfl <| gt rfl <| a1 (v := (I k_.Width)) rfl <| gt rfl <| a1 (v := (B (decide (4000 < k_.Width)))) rfl <| un1 (v := (B (decide (4000 < k_.Width)))) rfl <| dnil ?_
   exact hX _ (.putEq (by rw [hc7]; rfl) (.skp (.skp (.skp (.putEq (by rw [hc7]) (.refl _)) rfl) rfl) rfl))
 refine un1 rfl ?_
 refine gjoin 4 (d := 47) (v := (B (((((((((decide (d_.Num < (-1000000000))) || (decide (1000000000 < d_.Num))) || (decide (k_.Em < 0))) || (decide (16777216 < k_.Em))) || (decide (k_.Rem < 0))) || (decide (16777216 < k_.Rem))) || (decide (k_.Width < 1))) || (decide (4000 < k_.Width))) || (decide (k_.Height < 1))))) (fun X hX => ?_) ?_
 ·refine split2 (fun hc8 => ?_) (fun hc8 => ?_)
  ·refine gs rfl rfl <| gs rfl rfl <| gs rfl rfl <| un1 (v := (B true)) rfl <| dnil ?_
   exact hX _ (.putEq (by rw [hc8]; rfl) (.skp (.skp (.skp (.putEq (by rw [hc8]) (.refl _)) rfl) rfl) rfl))
  ·refine gt rfl <| a1 (v := (.c (.ref 1 4 0 3))) rfl <| gt rfl <| a1 (v := (I k_.Height)) rfl <| gt rfl <| a1 (v := (B (decide (k_.Height < 1)))) rfl <| un1 (v := (B (decide (k_.Height < 1)))) rfl <| dnil ?_
   exact hX _ (.putEq (by rw [hc8]; rfl) (.skp (.skp (.skp (.putEq (by rw [hc8]) (.refl _)) rfl) rfl) rfl))
 refine un1 rfl ?_
 refine gjoin 4 (d := 52) (v := (B ((((((((((decide (d_.Num < (-1000000000))) || (decide (1000000000 < d_.Num))) || (decide (k_.Em < 0))) || (decide (16777216 < k_.Em))) || (decide (k_.Rem < 0))) || (decide (16777216 < k_.Rem))) || (decide (k_.Width < 1))) || (decide (4000 < k_.Width))) || (decide (k_.Height < 1))) || (decide (4000 < k_.Height))))) (fun X hX => ?_) ?_
 ·refine split2 (fun hc9 => ?_) (fun hc9 => ?_)
  ·refine gs rfl rfl <| gs rfl rfl <| gs rfl rfl <| un1 (v := (B true)) rfl <| dnil ?_
   exact hX _ (.putEq (by rw [hc9]; rfl) (.skp (.skp (.skp (.putEq (by rw [hc9]) (.refl _)) rfl) rfl) rfl))
  ·refine gt rfl <| a1 (v := (.c (.ref 1 4 0 3))) rfl <| gt rfl <| a1 (v := (I k_.Height)) rfl <| gt rfl <| a1 (v := (B (decide (4000 < k_.Height)))) rfl <| un1 (v := (B (decide (4000 < k_.Height)))) rfl <| dnil ?_
   exact hX _ (.putEq (by rw [hc9]; rfl) (.skp (.skp (.skp (.putEq (by rw [hc9]) (.refl _)) rfl) rfl) rfl))
 refine un1 rfl <| dnil <| Sv.ret ?_
 subst h
 exact ⟨_, .refl _, _, rfl, ⟨upd e0 0 (some (B ((((((((((decide (d_.Num < (-1000000000))) || (decide (1000000000 < d_.Num))) || (decide (k_.Em < 0))) || (decide (16777216 < k_.Em))) || (decide (k_.Rem < 0))) || (decide (16777216 < k_.Rem))) || (decide (k_.Width < 1))) || (decide (4000 < k_.Width))) || (decide (k_.Height < 1))) || (decide (4000 < k_.Height))))), e0, 0⟩, (B ((((((((((decide (d_.Num < (-1000000000))) || (decide (1000000000 < d_.Num))) || (decide (k_.Em < 0))) || (decide (16777216 < k_.Em))) || (decide (k_.Rem < 0))) || (decide (16777216 < k_.Rem))) || (decide (k_.Width < 1))) || (decide (4000 < k_.Width))) || (decide (k_.Height < 1))) || (decide (4000 < k_.Height)))), weak_canon [] rfl ndl nll nlz (.cf rfl rfl .nil) .nil, rfl, rfl, rfl, rfl⟩
def a31 : AFunc := ⟨2, [(.tmp 4), (.tmp 5)], (sr [(oP 2 (.box (.tmp 0))), (oP 3 (.box (.tmp 1))), (oP 4 (.mov (kI 0))), (oP 5 (.mov (kI 0)))]
 (.seq (sr [(oP 6 (.load true 2 (.tmp 2))), (oP 7 (.load true 4 (.tmp 3))), (oP 8 (.call 48 [(.tmp 6), (.tmp 7)]))]
 (.cond (.tmp 8) (sr [(oP 4 (.mov (kI 0))), (oP 5 (.mov (kI 1)))]
 .ret) .skip))
 (.seq (sr [(oP 9 (.faddr 1 (.tmp 2))), (oP 10 (.load false 1 (.tmp 9))), (oP 11 (.bin .eql (.tmp 10) (.const (.c (.str [112, 120])))))]
 (.cond (.tmp 11) (sr [(oP 12 (.faddr 0 (.tmp 2))), (oP 13 (.load false 1 (.tmp 12))), (oP 14 (.bin .mul (.tmp 13) (kI 64))), (oP 15 (.call 30 [(.tmp 14), (kI 1000)])), (oP 16 (.call 29 [(.tmp 15)])), (mV 4 16), (oP 5 (.mov (kI 0)))]
 .ret) .skip))
 (.seq (sr [(oP 17 (.faddr 1 (.tmp 2))), (oP 18 (.load false 1 (.tmp 17))), (oP 19 (.bin .eql (.tmp 18) (.const (.c (.str [101, 109])))))]
 (.cond (.tmp 19) (sr [(oP 20 (.faddr 0 (.tmp 2))), (oP 21 (.load false 1 (.tmp 20))), (oP 22 (.faddr 0 (.tmp 3))), (oP 23 (.load false 1 (.tmp 22))), (oP 24 (.bin .mul (.tmp 21) (.tmp 23))), (oP 25 (.call 30 [(.tmp 24), (kI 1000)])), (oP 26 (.call 29 [(.tmp 25)])), (mV 4 26), (oP 5 (.mov (kI 0)))]
 .ret) .skip))
 (.seq (sr [(oP 27 (.faddr 1 (.tmp 2))), (oP 28 (.load false 1 (.tmp 27))), (oP 29 (.bin .eql (.tmp 28) (.const (.c (.str [114, 101, 109])))))]
 (.cond (.tmp 29) (sr [(oP 30 (.faddr 0 (.tmp 2))), (oP 31 (.load false 1 (.tmp 30))), (oP 32 (.faddr 1 (.tmp 3))), (oP 33 (.load false 1 (.tmp 32))), (oP 34 (.bin .mul (.tmp 31) (.tmp 33))), (oP 35 (.call 30 [(.tmp 34), (kI 1000)])), (oP 36 (.call 29 [(.tmp 35)])), (mV 4 36), (oP 5 (.mov (kI 0)))]
 .ret) .skip))
 (.seq (sr [(oP 37 (.faddr 1 (.tmp 2))), (oP 38 (.load false 1 (.tmp 37))), (oP 39 (.bin .eql (.tmp 38) (.const (.c (.str [118, 119])))))]
 (.cond (.tmp 39) (sr [(oP 40 (.faddr 0 (.tmp 2))), (oP 41 (.load false 1 (.tmp 40))), (oP 42 (.bin .mul (.tmp 41) (kI 64))), (oP 43 (.faddr 2 (.tmp 3))), (oP 44 (.load false 1 (.tmp 43))), (oP 45 (.bin .mul (.tmp 42) (.tmp 44))), (oP 46 (.call 30 [(.tmp 45), (kI 100000)])), (oP 47 (.call 29 [(.tmp 46)])), (mV 4 47), (oP 5 (.mov (kI 0)))]
 .ret) .skip))
 (.seq (sr [(oP 48 (.faddr 1 (.tmp 2))), (oP 49 (.load false 1 (.tmp 48))), (oP 50 (.bin .eql (.tmp 49) (.const (.c (.str [118, 104])))))]
 (.cond (.tmp 50) (sr [(oP 51 (.faddr 0 (.tmp 2))), (oP 52 (.load false 1 (.tmp 51))), (oP 53 (.bin .mul (.tmp 52) (kI 64))), (oP 54 (.faddr 3 (.tmp 3))), (oP 55 (.load false 1 (.tmp 54))), (oP 56 (.bin .mul (.tmp 53) (.tmp 55))), (oP 57 (.call 30 [(.tmp 56), (kI 100000)])), (oP 58 (.call 29 [(.tmp 57)])), (mV 4 58), (oP 5 (.mov (kI 0)))]
 .ret) .skip))
 (.seq (sr [(oP 59 (.faddr 1 (.tmp 2))), (oP 60 (.load false 1 (.tmp 59))), (oP 61 (.bin .eql (.tmp 60) (.const (.c (.str []))))), (mV 62 61), ⟨(some 63), (.faddr 0 (.tmp 2)), (some (62, true))⟩, ⟨(some 64), (.load false 1 (.tmp 63)), (some (62, true))⟩, ⟨(some 65), (.bin .eql (.tmp 64) (kI 0)), (some (62, true))⟩, (oP 66 (.pick (.tmp 62) (.tmp 65) kF))]
 (.cond (.tmp 66) (sr [(oP 4 (.mov (kI 0))), (oP 5 (.mov (kI 0)))]
 .ret) .skip))
 (sr [(oP 4 (.mov (kI 0))), (oP 5 (.mov (kI 7)))]
 .ret)))))))))⟩
theorem c31 : compFunc Tryz.prog 31 = some a31 := by kernel_rfl
def Zc1 (r : (Int × Int)) : AV → Heap → Nat → Prop := fun v h' n' => v = (.tup [(I r.1), (I r.2)]) ∧ (h' = e0) ∧ n' = 0
/-- clerestory/clerestoryref2.PxOf -/
noncomputable def Z1k (d_ : TSDim) (k_ : TSScale) : Option (Int × Int) :=
 if (Z19 d_ k_) then
  some (0, 1)
 else
  if decide (d_.Unit = [112, 120]) then
   (Z6 (wi (d_.Num * 64)) 1000).bind fun r_ =>
   some ((Z0 r_), 0)
  else
   if decide (d_.Unit = [101, 109]) then
    (Z6 (wi (d_.Num * k_.Em)) 1000).bind fun r_1 =>
    some ((Z0 r_1), 0)
   else
    if decide (d_.Unit = [114, 101, 109]) then
     (Z6 (wi (d_.Num * k_.Rem)) 1000).bind fun r_2 =>
     some ((Z0 r_2), 0)
    else
     if decide (d_.Unit = [118, 119]) then
      (Z6 (wi ((wi (d_.Num * 64)) * k_.Width)) 100000).bind fun r_3 =>
      some ((Z0 r_3), 0)
     else
      if decide (d_.Unit = [118, 104]) then
       (Z6 (wi ((wi (d_.Num * 64)) * k_.Height)) 100000).bind fun r_4 =>
       some ((Z0 r_4), 0)
      else
       if ((decide (d_.Unit = [])) && (decide (d_.Num = 0))) then
        some (0, 0)
       else
        some (0, 7)
theorem Zc2 {mL : Int} {d_ : TSDim} {k_ : TSScale} {r : (Int × Int)} (h : Z1k d_ k_ = some r) : CPure Tryz.prog (GG mL) 31 [(.agg (e_TSDim d_)), (.agg (e_TSScale k_))] (.tup [(I r.1), (I r.2)]) := by
 refine acalls_of_sv hmix c31 (R := Zc1 r) ?_
 unfold Z1k at h
 refine ssr <| un <| a2v (v := (.c (.ref 0 2 0 0))) (h' := upd _ 0 (some (.cells 2 [(e_TSDim d_)]))) (n' := 1) rfl rfl hcs <| un <| a2v (v := (.c (.ref 1 4 0 0))) (h' := upd _ 1 (some (.cells 4 [(e_TSScale k_)]))) (n' := 2) rfl rfl hcs <| un1 rfl <| un1 rfl <| dnil <| Sv.seq <| ssr <| un1 (v := (.agg (e_TSDim d_))) rfl <| un1 (v := (.agg (e_TSScale k_))) rfl <| un <| ac_pure (Zc0 (mL := mL) d_ k_) rfl rfl rfl <| dnil ?_
 refine Sv.cnd rfl h (fun h => ?_) fun h => ?_
 ·refine ssr <| un1 rfl <| un1 rfl <| dnil <| Sv.ret ?_
  exact rt0 h rfl rfl ⟨rfl, rfl, rfl⟩
 ·refine Sv.skip <| Sv.seq <| ssr <| un1 (v := (.c (.ref 0 2 0 1))) rfl <| un1 (v := (S d_.Unit)) rfl <| un1 (v := (B (decide (d_.Unit = [112, 120])))) rfl <| dnil ?_
  refine Sv.cnd rfl h (fun h => ?_) fun h => ?_
  ·refine ssr <| un1 (v := (.c (.ref 0 2 0 0))) rfl <| un1 (v := (I d_.Num)) rfl <| un1 (v := (I (wi (d_.Num * 64)))) rfl ?_
   obtain ⟨r_, hr1, h⟩ := bnd h
   refine un <| ac_pure (Zv hr1) rfl rfl rfl <| un <| ac_pure (Zo (mL := mL) r_) rfl rfl rfl <| un1 rfl <| un1 rfl <| dnil <| Sv.ret ?_
   exact rt0 h rfl rfl ⟨rfl, rfl, rfl⟩
  ·refine Sv.skip <| Sv.seq <| ssr <| un1 (v := (.c (.ref 0 2 0 1))) rfl <| un1 (v := (S d_.Unit)) rfl <| un1 (v := (B (decide (d_.Unit = [101, 109])))) rfl <| dnil ?_
   refine Sv.cnd rfl h (fun h => ?_) fun h => ?_
   ·refine ssr <| un1 (v := (.c (.ref 0 2 0 0))) rfl <| un1 (v := (I d_.Num)) rfl <| un1 (v := (.c (.ref 1 4 0 0))) rfl <| un1 (v := (I k_.Em)) rfl <| un1 (v := (I (wi (d_.Num * k_.Em)))) rfl ?_
    obtain ⟨r_1, hr2, h⟩ := bnd h
    refine un <| ac_pure (Zv hr2) rfl rfl rfl <| un <| ac_pure (Zo (mL := mL) r_1) rfl rfl rfl <| un1 rfl <| un1 rfl <| dnil <| Sv.ret ?_
    exact rt0 h rfl rfl ⟨rfl, rfl, rfl⟩
   ·refine Sv.skip <| Sv.seq <| ssr <| un1 (v := (.c (.ref 0 2 0 1))) rfl <| un1 (v := (S d_.Unit)) rfl <| un1 (v := (B (decide (d_.Unit = [114, 101, 109])))) rfl <| dnil ?_
    refine Sv.cnd rfl h (fun h => ?_) fun h => ?_
    ·refine ssr <| un1 (v := (.c (.ref 0 2 0 0))) rfl <| un1 (v := (I d_.Num)) rfl <| un1 (v := (.c (.ref 1 4 0 1))) rfl <| un1 (v := (I k_.Rem)) rfl <| un1 (v := (I (wi (d_.Num * k_.Rem)))) rfl ?_
     obtain ⟨r_2, hr3, h⟩ := bnd h
     refine un <| ac_pure (Zv hr3) rfl rfl rfl <| un <| ac_pure (Zo (mL := mL) r_2) rfl rfl rfl <| un1 rfl <| un1 rfl <| dnil <| Sv.ret ?_
     exact rt0 h rfl rfl ⟨rfl, rfl, rfl⟩
    ·refine Sv.skip <| Sv.seq <| ssr <| un1 (v := (.c (.ref 0 2 0 1))) rfl <| un1 (v := (S d_.Unit)) rfl <| un1 (v := (B (decide (d_.Unit = [118, 119])))) rfl <| dnil ?_
     refine Sv.cnd rfl h (fun h => ?_) fun h => ?_
     ·refine ssr <| un1 (v := (.c (.ref 0 2 0 0))) rfl <| un1 (v := (I d_.Num)) rfl <| un1 (v := (I (wi (d_.Num * 64)))) rfl <| un1 (v := (.c (.ref 1 4 0 2))) rfl <| un1 (v := (I k_.Width)) rfl <| un1 (v := (I (wi ((wi (d_.Num * 64)) * k_.Width)))) rfl ?_
      obtain ⟨r_3, hr4, h⟩ := bnd h
      refine un <| ac_pure (Zv hr4) rfl rfl rfl <| un <| ac_pure (Zo (mL := mL) r_3) rfl rfl rfl <| un1 rfl <| un1 rfl <| dnil <| Sv.ret ?_
      exact rt0 h rfl rfl ⟨rfl, rfl, rfl⟩
     ·refine Sv.skip <| Sv.seq <| ssr <| un1 (v := (.c (.ref 0 2 0 1))) rfl <| un1 (v := (S d_.Unit)) rfl <| un1 (v := (B (decide (d_.Unit = [118, 104])))) rfl <| dnil ?_
      refine Sv.cnd rfl h (fun h => ?_) fun h => ?_
      ·refine ssr <| un1 (v := (.c (.ref 0 2 0 0))) rfl <| un1 (v := (I d_.Num)) rfl <| un1 (v := (I (wi (d_.Num * 64)))) rfl <| un1 (v := (.c (.ref 1 4 0 3))) rfl <| un1 (v := (I k_.Height)) rfl <| un1 (v := (I (wi ((wi (d_.Num * 64)) * k_.Height)))) rfl ?_
       obtain ⟨r_4, hr5, h⟩ := bnd h
       refine un <| ac_pure (Zv hr5) rfl rfl rfl <| un <| ac_pure (Zo (mL := mL) r_4) rfl rfl rfl <| un1 rfl <| un1 rfl <| dnil <| Sv.ret ?_
       exact rt0 h rfl rfl ⟨rfl, rfl, rfl⟩
      ·refine Sv.skip <| Sv.seq <| ssr <| un1 (v := (.c (.ref 0 2 0 1))) rfl <| un1 (v := (S d_.Unit)) rfl <| un1 (v := (B (decide (d_.Unit = [])))) rfl <| un1 rfl ?_
       refine gjoin 4 (d := 66) (v := (B ((decide (d_.Unit = [])) && (decide (d_.Num = 0))))) (fun X hX => ?_) ?_
       ·refine split2 (fun hc7 => ?_) (fun hc7 => ?_)
        ·refine gt rfl <| a1 (v := (.c (.ref 0 2 0 0))) rfl <| gt rfl <| a1 (v := (I d_.Num)) rfl <| gt rfl <| a1 (v := (B (decide (d_.Num = 0)))) rfl <| un1 (v := (B (decide (d_.Num = 0)))) rfl <| dnil ?_
         exact hX _ (.putEq (by rw [hc7]; rfl) (.skp (.skp (.skp (.putEq (by rw [hc7]) (.refl _)) rfl) rfl) rfl))
        ·refine gs rfl rfl <| gs rfl rfl <| gs rfl rfl <| un1 (v := (B false)) rfl <| dnil ?_
         exact hX _ (.putEq (by rw [hc7]; rfl) (.skp (.skp (.skp (.putEq (by rw [hc7]) (.refl _)) rfl) rfl) rfl))
       refine dnil ?_
       refine Sv.cnd rfl h (fun h => ?_) fun h => ?_
       ·refine ssr <| un1 rfl <| un1 rfl <| dnil <| Sv.ret ?_
        exact rt0 h rfl rfl ⟨rfl, rfl, rfl⟩
       ·refine Sv.skip <| ssr <| un1 rfl <| un1 rfl <| dnil <| Sv.ret ?_
        exact rt0 h rfl rfl ⟨rfl, rfl, rfl⟩
def a13 : AFunc := ⟨2, [(.cell true 2 4), (.tmp 5)], (sr [(oP 2 (.box (.tmp 0))), (oP 3 (.box (.tmp 1))), (oP 4 (.box (.const (.agg [(.val (.int .i64 0)), (.val (.int .i64 0))])))), (oP 5 (.mov (kI 0)))]
 (.seq (sr [(oP 8 (.faddr 1 (.tmp 2))), (oP 9 (.load false 1 (.tmp 8))), (oP 10 (.bin .eql (.tmp 9) (.const (.c (.str [])))))]
 (.cond (.tmp 10) (sr [(oP 11 (.faddr 0 (.tmp 2))), (oP 12 (.load false 1 (.tmp 11))), (oP 13 (.call 29 [(.tmp 12)])), (oP 14 (.build [(.val (.int .i64 0)), (.val (.int .i64 0))] [(0, (1, (kI 4))), (1, (1, (.tmp 13)))])), (oN (.store 2 (.tmp 4) (.tmp 14))), (oP 5 (.mov (kI 0)))]
 .ret) .skip))
 (.seq (sr [(oP 15 (.faddr 1 (.tmp 2))), (oP 16 (.load false 1 (.tmp 15))), (oP 17 (.bin .eql (.tmp 16) (.const (.c (.str [37])))))]
 (.cond (.tmp 17) (sr [(oP 18 (.faddr 0 (.tmp 2))), (oP 19 (.load false 1 (.tmp 18))), (oP 20 (.call 30 [(.tmp 19), (kI 10)])), (oP 21 (.call 29 [(.tmp 20)])), (oP 22 (.build [(.val (.int .i64 0)), (.val (.int .i64 0))] [(0, (1, (kI 3))), (1, (1, (.tmp 21)))])), (oN (.store 2 (.tmp 4) (.tmp 22))), (oP 5 (.mov (kI 0)))]
 .ret) .skip))
 (sr [(oP 24 (.load true 2 (.tmp 2))), (oP 25 (.load true 4 (.tmp 3))), (oP 26 (.call 31 [(.tmp 24), (.tmp 25)])), (mV 23 26), (oP 27 (.ext (.tmp 23) 0)), (oP 28 (.ext (.tmp 23) 1)), (mV 6 27), (mV 7 28)]
 (.seq (sr [(mV 29 7), (oP 30 (.bin .neq (.tmp 29) (kI 0)))]
 (.cond (.tmp 30) (sr [(oP 31 (.build [(.val (.int .i64 0)), (.val (.int .i64 0))] [])), (mV 32 7), (oN (.store 2 (.tmp 4) (.tmp 31))), (mV 5 32)]
 .ret) .skip))
 (sr [(mV 33 6), (oP 34 (.build [(.val (.int .i64 0)), (.val (.int .i64 0))] [(0, (1, (kI 2))), (1, (1, (.tmp 33)))])), (oN (.store 2 (.tmp 4) (.tmp 34))), (oP 5 (.mov (kI 0)))]
 .ret))))))⟩
theorem c13 : compFunc Tryz.prog 13 = some a13 := by kernel_rfl
def Zc3 (r : (TVal × Int)) : AV → Heap → Nat → Prop := fun v h' n' => v = (.tup [(.agg (e_TVal r.1)), (I r.2)]) ∧ (h' = e0) ∧ n' = 0
/-- clerestory/clerestoryref2.numberValue -/
noncomputable def Z2r (d_ : TSDim) (k_ : TSScale) : Option (TVal × Int) :=
 if decide (d_.Unit = []) then
  some ((⟨4, (Z0 d_.Num)⟩ : TVal), 0)
 else
  if decide (d_.Unit = [37]) then
   (Z6 d_.Num 10).bind fun r_ =>
   some ((⟨3, (Z0 r_)⟩ : TVal), 0)
  else
   (Z1k d_ k_).bind fun r_1 =>
   if (!decide (r_1.2 = 0)) then
    some ((⟨0, 0⟩ : TVal), r_1.2)
   else
    some ((⟨2, r_1.1⟩ : TVal), 0)
theorem Zc4 {mL : Int} {d_ : TSDim} {k_ : TSScale} {r : (TVal × Int)} (h : Z2r d_ k_ = some r) : CPure Tryz.prog (GG mL) 13 [(.agg (e_TSDim d_)), (.agg (e_TSScale k_))] (.tup [(.agg (e_TVal r.1)), (I r.2)]) := by
 refine acalls_of_sv hmix c13 (R := Zc3 r) ?_
 unfold Z2r at h
 refine ssr <| un <| a2v (v := (.c (.ref 0 2 0 0))) (h' := upd _ 0 (some (.cells 2 [(e_TSDim d_)]))) (n' := 1) rfl rfl hcs <| un <| a2v (v := (.c (.ref 1 4 0 0))) (h' := upd _ 1 (some (.cells 4 [(e_TSScale k_)]))) (n' := 2) rfl rfl hcs <| un <| a2v (v := (.c (.ref 2 2 0 0))) (h' := upd _ 2 (some (.cells 2 [[cI 0, cI 0]]))) (n' := 3) rfl rfl hcs <| un1 rfl <| dnil <| Sv.seq <| ssr <| un1 (v := (.c (.ref 0 2 0 1))) rfl <| un1 (v := (S d_.Unit)) rfl <| un1 (v := (B (decide (d_.Unit = [])))) rfl <| dnil ?_
 refine Sv.cnd rfl h (fun h => ?_) fun h => ?_
 ·refine ssr <| un1 (v := (.c (.ref 0 2 0 0))) rfl <| un1 (v := (I d_.Num)) rfl <| un <| ac_pure (Zo (mL := mL) d_.Num) rfl rfl rfl <| un1 (v := (.agg [cI 4, cI (Z0 d_.Num)])) rfl <| un <| a2n (h' := upd _ 2 (some (.cells 2 [[cI 4, cI (Z0 d_.Num)]]))) (n' := 3) rfl rfl hcs <| un1 rfl <| dnil <| Sv.ret ?_
  exact rt0 h rfl rfl ⟨rfl, rfl, rfl⟩
 ·refine Sv.skip <| Sv.seq <| ssr <| un1 (v := (.c (.ref 0 2 0 1))) rfl <| un1 (v := (S d_.Unit)) rfl <| un1 (v := (B (decide (d_.Unit = [37])))) rfl <| dnil ?_
  refine Sv.cnd rfl h (fun h => ?_) fun h => ?_
  ·refine ssr <| un1 (v := (.c (.ref 0 2 0 0))) rfl <| un1 (v := (I d_.Num)) rfl ?_
   obtain ⟨r_, hr1, h⟩ := bnd h
   refine un <| ac_pure (Zv hr1) rfl rfl rfl <| un <| ac_pure (Zo (mL := mL) r_) rfl rfl rfl <| un1 (v := (.agg [cI 3, cI (Z0 r_)])) rfl <| un <| a2n (h' := upd _ 2 (some (.cells 2 [[cI 3, cI (Z0 r_)]]))) (n' := 3) rfl rfl hcs <| un1 rfl <| dnil <| Sv.ret ?_
   exact rt0 h rfl rfl ⟨rfl, rfl, rfl⟩
  ·refine Sv.skip <| ssr <| un1 (v := (.agg (e_TSDim d_))) rfl <| un1 (v := (.agg (e_TSScale k_))) rfl ?_
   obtain ⟨r_1, hr2, h⟩ := bnd h
   refine un <| ac_pure (Zc2 hr2) rfl rfl rfl <| un1 rfl <| un1 (v := (I r_1.1)) rfl <| un1 (v := (I r_1.2)) rfl <| un1 rfl <| un1 rfl <| dnil <| Sv.seq <| ssr <| un1 rfl <| un1 (v := (B (!decide (r_1.2 = 0)))) rfl <| dnil ?_
   refine Sv.cnd rfl h (fun h => ?_) fun h => ?_
   ·refine ssr <| un1 (v := (.agg [cI 0, cI 0])) rfl <| un1 rfl <| un <| a2n (h' := upd _ 2 (some (.cells 2 [[cI 0, cI 0]]))) (n' := 3) rfl rfl hcs <| un1 rfl <| dnil <| Sv.ret ?_
    exact rt0 h rfl rfl ⟨rfl, rfl, rfl⟩
   ·refine Sv.skip <| ssr <| un1 rfl <| un1 (v := (.agg [cI 2, cI r_1.1])) rfl <| un <| a2n (h' := upd _ 2 (some (.cells 2 [[cI 2, cI r_1.1]]))) (n' := 3) rfl rfl hcs <| un1 rfl <| dnil <| Sv.ret ?_
    exact rt0 h rfl rfl ⟨rfl, rfl, rfl⟩
def a32 : AFunc := ⟨2, [(.tmp 4)], (sr [(oP 4 (.mov (kI 0)))]
 (.seq (sr [(mV 5 1), (oP 6 (.bin .lss (.tmp 5) (kI 0)))]
 (.cond (.tmp 6) (sr [(mV 7 0), (oP 8 (.bin .sub (kI 0) (.tmp 7))), (mV 9 1), (oP 10 (.bin .sub (kI 0) (.tmp 9))), (oP 11 (.call 30 [(.tmp 8), (.tmp 10)])), (mV 4 11)]
 .ret) .skip))
 (sr [(mV 12 0), (mV 13 1), (oP 14 (.call 30 [(.tmp 12), (.tmp 13)])), (mV 4 14)]
 .ret)))⟩
theorem c32 : compFunc Tryz.prog 32 = some a32 := by kernel_rfl
def Zc5 (r : Int) : AV → Heap → Nat → Prop := fun v h' n' => v = (I r) ∧ (h' = e0) ∧ n' = 0
/-- clerestory/clerestoryref2.floor -/
noncomputable def Z1y (n_ : Int) (by_ : Int) : Option Int :=
 if decide (by_ < 0) then
  (Z6 (wi (0 - n_)) (wi (0 - by_))).bind fun r_ =>
  some r_
 else
  (Z6 n_ by_).bind fun r_1 =>
  some r_1
theorem Zc6 {mL : Int} {n_ : Int} {by_ : Int} {r : Int} (h : Z1y n_ by_ = some r) : CPure Tryz.prog (GG mL) 32 [(I n_), (I by_)] (I r) := by
 refine acalls_of_sv hmix c32 (R := Zc5 r) ?_
 unfold Z1y at h
 refine ssr <| un1 rfl <| dnil <| Sv.seq <| ssr <| un1 rfl <| un1 (v := (B (decide (by_ < 0)))) rfl <| dnil ?_
 refine Sv.cnd rfl h (fun h => ?_) fun h => ?_
 ·refine ssr <| un1 rfl <| un1 (v := (I (wi (0 - n_)))) rfl <| un1 rfl <| un1 (v := (I (wi (0 - by_)))) rfl ?_
  obtain ⟨r_, hr1, h⟩ := bnd h
  refine un <| ac_pure (Zv hr1) rfl rfl rfl <| un1 rfl <| dnil <| Sv.ret ?_
  exact rt0 h rfl rfl ⟨rfl, rfl, rfl⟩
 ·refine Sv.skip <| ssr <| un1 rfl <| un1 rfl ?_
  obtain ⟨r_1, hr2, h⟩ := bnd h
  refine un <| ac_pure (Zv hr2) rfl rfl rfl <| un1 rfl <| dnil <| Sv.ret ?_
  exact rt0 h rfl rfl ⟨rfl, rfl, rfl⟩
def a14_c0 : ACode := (sr [(mV 28 8), (oP 29 (.faddr 1 (.tmp 4))), (oP 30 (.load false 1 (.tmp 29))), (oP 31 (.faddr 1 (.tmp 5))), (oP 32 (.load false 1 (.tmp 31))), (oP 33 (.bin .mul (.tmp 30) (.tmp 32))), (oP 34 (.call 30 [(.tmp 33), (kI 1000)])), (oP 35 (.call 29 [(.tmp 34)])), (oP 36 (.build [(.val (.int .i64 0)), (.val (.int .i64 0))] [(0, (1, (.tmp 28))), (1, (1, (.tmp 35)))])), (oN (.store 2 (.tmp 6) (.tmp 36))), (oP 7 (.mov (kI 0)))]
 .ret)
def a14_c4 : ACode := (.seq (.drawn (.fin [((oP 89 (.faddr 0 (.tmp 4))), (0, 0)), ((oP 90 (.load false 1 (.tmp 89))), (0, 1)), ((mV 91 9), (0, 2)), ((oP 92 (.call 29 [(.tmp 91)])), (1, 3)), ((oP 93 (.build [(.val (.int .i64 0)), (.val (.int .i64 0))] [(0, (1, (.tmp 90))), (1, (1, (.tmp 92)))])), (0, 4)), ((oN (.store 2 (.tmp 6) (.tmp 93))), (2, 5)), ((oP 7 (.mov (kI 0))), (0, 6))]))
 .ret)
def a14_c3 : ACode := (.seq (sr [(mV 82 0), (oP 83 (.bin .eql (.tmp 82) (kI 7)))]
 (.cond (.tmp 83) (.region [(oP 84 (.faddr 1 (.tmp 4))), (oP 85 (.load false 1 (.tmp 84))), (oP 86 (.faddr 1 (.tmp 5))), (oP 87 (.load false 1 (.tmp 86))), (oP 88 (.mm true [(.tmp 85), (.tmp 87)])), (mV 9 88)]) .skip))
 a14_c4)
def a14_c2 : ACode := (.seq (sr [(mV 75 0), (oP 76 (.bin .eql (.tmp 75) (kI 6)))]
 (.cond (.tmp 76) (.region [(oP 77 (.faddr 1 (.tmp 4))), (oP 78 (.load false 1 (.tmp 77))), (oP 79 (.faddr 1 (.tmp 5))), (oP 80 (.load false 1 (.tmp 79))), (oP 81 (.mm false [(.tmp 78), (.tmp 80)])), (mV 9 81)]) .skip))
 a14_c3)
def a14_c1 : ACode := (.seq (sr [(mV 37 0), (oP 38 (.bin .eql (.tmp 37) (kI 5)))]
 (.cond (.tmp 38) (.seq (sr [(oP 39 (.faddr 0 (.tmp 5))), (oP 40 (.load false 1 (.tmp 39))), (oP 41 (.bin .neq (.tmp 40) (kI 4)))]
 (.cond (.tmp 41) (sr [(oP 42 (.build [(.val (.int .i64 0)), (.val (.int .i64 0))] [])), (oN (.store 2 (.tmp 6) (.tmp 42))), (oP 7 (.mov (kI 7)))]
 .ret) .skip))
 (.seq (sr [(oP 43 (.faddr 1 (.tmp 5))), (oP 44 (.load false 1 (.tmp 43))), (oP 45 (.bin .eql (.tmp 44) (kI 0)))]
 (.cond (.tmp 45) (sr [(oP 46 (.build [(.val (.int .i64 0)), (.val (.int .i64 0))] [])), (oN (.store 2 (.tmp 6) (.tmp 46))), (oP 7 (.mov (kI 1)))]
 .ret) .skip))
 (.seq (.drawn (.fin [((oP 47 (.faddr 0 (.tmp 4))), (0, 0)), ((oP 48 (.load false 1 (.tmp 47))), (0, 1)), ((oP 49 (.faddr 1 (.tmp 4))), (0, 2)), ((oP 50 (.load false 1 (.tmp 49))), (0, 3)), ((oP 51 (.bin .mul (.tmp 50) (kI 1000))), (0, 4)), ((oP 52 (.faddr 1 (.tmp 5))), (0, 5)), ((oP 53 (.load false 1 (.tmp 52))), (0, 6)), ((oP 54 (.call 32 [(.tmp 51), (.tmp 53)])), (1, 7)), ((oP 55 (.call 29 [(.tmp 54)])), (1, 8)), ((oP 56 (.build [(.val (.int .i64 0)), (.val (.int .i64 0))] [(0, (1, (.tmp 48))), (1, (1, (.tmp 55)))])), (0, 9)), ((oN (.store 2 (.tmp 6) (.tmp 56))), (2, 10)), ((oP 7 (.mov (kI 0))), (0, 11))]))
 .ret))) .skip))
 (.seq (sr [(oP 57 (.faddr 0 (.tmp 4))), (oP 58 (.load false 1 (.tmp 57))), (oP 59 (.faddr 0 (.tmp 5))), (oP 60 (.load false 1 (.tmp 59))), (oP 61 (.bin .neq (.tmp 58) (.tmp 60)))]
 (.cond (.tmp 61) (sr [(oP 62 (.build [(.val (.int .i64 0)), (.val (.int .i64 0))] [])), (oN (.store 2 (.tmp 6) (.tmp 62))), (oP 7 (.mov (kI 7)))]
 .ret) .skip))
 (sr [(oP 63 (.faddr 1 (.tmp 4))), (oP 64 (.load false 1 (.tmp 63))), (oP 65 (.faddr 1 (.tmp 5))), (oP 66 (.load false 1 (.tmp 65))), (oP 67 (.bin .add (.tmp 64) (.tmp 66))), (mV 9 67)]
 (.seq (sr [(mV 68 0), (oP 69 (.bin .eql (.tmp 68) (kI 3)))]
 (.cond (.tmp 69) (.region [(oP 70 (.faddr 1 (.tmp 4))), (oP 71 (.load false 1 (.tmp 70))), (oP 72 (.faddr 1 (.tmp 5))), (oP 73 (.load false 1 (.tmp 72))), (oP 74 (.bin .sub (.tmp 71) (.tmp 73))), (mV 9 74)]) .skip))
 a14_c2))))
def a14 : AFunc := ⟨3, [(.cell true 2 6), (.tmp 7)], (sr [(oP 4 (.box (.tmp 1))), (oP 5 (.box (.tmp 2))), (oP 6 (.box (.const (.agg [(.val (.int .i64 0)), (.val (.int .i64 0))])))), (oP 7 (.mov (kI 0)))]
 (.seq (sr [(mV 10 0), (oP 11 (.bin .eql (.tmp 10) (kI 4)))]
 (.cond (.tmp 11) (.seq (sr [(oP 12 (.faddr 0 (.tmp 4))), (oP 13 (.load false 1 (.tmp 12))), (oP 14 (.bin .neq (.tmp 13) (kI 4))), (mV 15 14), ⟨(some 16), (.faddr 0 (.tmp 5)), (some (15, true))⟩, ⟨(some 17), (.load false 1 (.tmp 16)), (some (15, true))⟩, ⟨(some 18), (.bin .neq (.tmp 17) (kI 4)), (some (15, true))⟩, (oP 19 (.pick (.tmp 15) (.tmp 18) kF))]
 (.cond (.tmp 19) (sr [(oP 20 (.build [(.val (.int .i64 0)), (.val (.int .i64 0))] [])), (oN (.store 2 (.tmp 6) (.tmp 20))), (oP 7 (.mov (kI 7)))]
 .ret) .skip))
 (sr [(oP 21 (.faddr 0 (.tmp 4))), (oP 22 (.load false 1 (.tmp 21))), (mV 8 22)]
 (.seq (sr [(oP 23 (.faddr 0 (.tmp 4))), (oP 24 (.load false 1 (.tmp 23))), (oP 25 (.bin .eql (.tmp 24) (kI 4)))]
 (.cond (.tmp 25) (.region [(oP 26 (.faddr 0 (.tmp 5))), (oP 27 (.load false 1 (.tmp 26))), (mV 8 27)]) .skip))
 a14_c0))) .skip))
 a14_c1))⟩
theorem c14 : compFunc Tryz.prog 14 = some a14 := by kernel_rfl
def Z1z (r : (TVal × Int)) : AV → Heap → Nat → Prop := fun v h' n' => v = (.tup [(.agg (e_TVal r.1)), (I r.2)]) ∧ (h' = e0) ∧ n' = 0
abbrev Zc7 (mL : Int) (o : (TVal × Int)) : AExit → St → Prop := AThen (Sv Tryz.prog (GG mL) 0 a14_c1 (Ends a14.results 0 (Z1z o))) (Ends a14.results 0 (Z1z o))
noncomputable def Z20 (a_ : TVal) (b_ : TVal) (out : Int) : Option (TVal × Int) :=
 (Z6 (wi (a_.N * b_.N)) 1000).bind fun r_ =>
 some ((⟨out, (Z0 r_)⟩ : TVal), 0)
theorem Z8h {mL : Int} {a_ : TVal} {b_ : TVal} {out : Int} {o : (TVal × Int)} (h : Z20 a_ b_ out = some o) :
  Sv Tryz.prog (GG mL) 0 a14_c0 (Zc7 mL o) ⟨(ue [(8, (I out)), (6, (.c (.ref 2 2 0 0))), (5, (.c (.ref 1 2 0 0))), (4, (.c (.ref 0 2 0 0)))]), (upd (upd (upd e0 0 (some (.cells 2 [(e_TVal a_)]))) 1 (some (.cells 2 [(e_TVal b_)]))) 2 (some (.cells 2 [[cI 0, cI 0]]))), 3⟩ := by
 unfold Z20 at h
 refine ssr <| un1 rfl <| un1 (v := (.c (.ref 0 2 0 1))) rfl <| un1 (v := (I a_.N)) rfl <| un1 (v := (.c (.ref 1 2 0 1))) rfl <| un1 (v := (I b_.N)) rfl <| un1 (v := (I (wi (a_.N * b_.N)))) rfl ?_
 obtain ⟨r_, hr1, h⟩ := bnd h
 refine un <| ac_pure (Zv hr1) rfl rfl rfl <| un <| ac_pure (Zo (mL := mL) r_) rfl rfl rfl <| un1 (v := (.agg [cI out, cI (Z0 r_)])) rfl <| un <| a2n (h' := upd _ 2 (some (.cells 2 [[cI out, cI (Z0 r_)]]))) (n' := 3) rfl rfl hcs <| un1 rfl <| dnil <| Sv.ret ?_
 exact rt0 h rfl rfl ⟨rfl, rfl, rfl⟩
noncomputable def Z2s (a_ : TVal) (n_2 : Int) : Option (TVal × Int) :=
 some ((⟨a_.Kind, (Z0 n_2)⟩ : TVal), 0)
theorem Z8i {mL : Int} {a_ : TVal} {n_2 : Int} {o : (TVal × Int)} (h : Z2s a_ n_2 = some o) :
  Sv Tryz.prog (GG mL) 0 a14_c4 (Ends a14.results 0 (Z1z o)) ⟨(ue [(9, (I n_2)), (6, (.c (.ref 1 2 0 0))), (4, (.c (.ref 0 2 0 0)))]), (upd (upd e0 0 (some (.cells 2 [(e_TVal a_)]))) 1 (some (.cells 2 [[cI 0, cI 0]]))), 2⟩ := by
 unfold Z2s at h
 refine Sv.seq <| Sv.drawn <| un1 (v := (.c (.ref 0 2 0 0))) rfl <| un1 (v := (I a_.Kind)) rfl <| un1 rfl <| un <| ac_pure (Zo (mL := mL) n_2) rfl rfl rfl <| un1 (v := (.agg [cI a_.Kind, cI (Z0 n_2)])) rfl <| un <| a2n (h' := upd _ 1 (some (.cells 2 [[cI a_.Kind, cI (Z0 n_2)]]))) (n' := 2) rfl rfl hcs <| un1 rfl <| dnil <| Sv.ret ?_
 exact rt0 h rfl rfl ⟨rfl, rfl, rfl⟩
noncomputable def Z2t (kind : Int) (a_ : TVal) (b_ : TVal) (n_1 : Int) : Option (TVal × Int) :=
 if decide (kind = 7) then
  Z2s a_ (mx a_.N b_.N)
 else
  Z2s a_ n_1
theorem Z8j {mL : Int} {kind : Int} {a_ : TVal} {b_ : TVal} {n_1 : Int} {o : (TVal × Int)} (h : Z2t kind a_ b_ n_1 = some o) :
  Sv Tryz.prog (GG mL) 0 a14_c3 (Ends a14.results 0 (Z1z o)) ⟨(ue [(9, (I n_1)), (6, (.c (.ref 2 2 0 0))), (5, (.c (.ref 1 2 0 0))), (4, (.c (.ref 0 2 0 0))), (0, (I kind))]), (upd (upd (upd e0 0 (some (.cells 2 [(e_TVal a_)]))) 1 (some (.cells 2 [(e_TVal b_)]))) 2 (some (.cells 2 [[cI 0, cI 0]]))), 3⟩ := by
 unfold Z2t at h
 refine Sv.seq <| ssr <| un1 rfl <| un1 (v := (B (decide (kind = 7)))) rfl <| dnil ?_
 refine Sv.cnd rfl h (fun h => ?_) fun h => ?_
 ·refine srg <| un1 (v := (.c (.ref 0 2 0 1))) rfl <| un1 (v := (I a_.N)) rfl <| un1 (v := (.c (.ref 1 2 0 1))) rfl <| un1 (v := (I b_.N)) rfl <| un1 (v := (I (mx a_.N b_.N))) (s_mx rfl rfl) <| un1 rfl <| dnil ?_
  exact Sv.weak (wcn [0, 2] rfl (.cf rfl rfl (.cr rfl rfl rfl (.cr rfl rfl rfl .nil))) (.box (by decide) rfl (blkAs_cells (.sm rfl (.sm rfl .nil))) (.box (by decide) rfl (blkAs_cells (.sm rfl (.sm rfl .nil))) .nil))) (Z8i h)
 ·refine Sv.skip ?_
  exact Sv.weak (wcn [0, 2] rfl (.cf rfl rfl (.cr rfl rfl rfl (.cr rfl rfl rfl .nil))) (.box (by decide) rfl (blkAs_cells (.sm rfl (.sm rfl .nil))) (.box (by decide) rfl (blkAs_cells (.sm rfl (.sm rfl .nil))) .nil))) (Z8i h)
noncomputable def Z2u (kind : Int) (a_ : TVal) (b_ : TVal) (n_ : Int) : Option (TVal × Int) :=
 if decide (kind = 6) then
  Z2t kind a_ b_ (mn a_.N b_.N)
 else
  Z2t kind a_ b_ n_
theorem Z8k {mL : Int} {kind : Int} {a_ : TVal} {b_ : TVal} {n_ : Int} {o : (TVal × Int)} (h : Z2u kind a_ b_ n_ = some o) :
  Sv Tryz.prog (GG mL) 0 a14_c2 (Ends a14.results 0 (Z1z o)) ⟨(ue [(9, (I n_)), (6, (.c (.ref 2 2 0 0))), (5, (.c (.ref 1 2 0 0))), (4, (.c (.ref 0 2 0 0))), (0, (I kind))]), (upd (upd (upd e0 0 (some (.cells 2 [(e_TVal a_)]))) 1 (some (.cells 2 [(e_TVal b_)]))) 2 (some (.cells 2 [[cI 0, cI 0]]))), 3⟩ := by
 unfold Z2u at h
 refine Sv.seq <| ssr <| un1 rfl <| un1 (v := (B (decide (kind = 6)))) rfl <| dnil ?_
 refine Sv.cnd rfl h (fun h => ?_) fun h => ?_
 ·refine srg <| un1 (v := (.c (.ref 0 2 0 1))) rfl <| un1 (v := (I a_.N)) rfl <| un1 (v := (.c (.ref 1 2 0 1))) rfl <| un1 (v := (I b_.N)) rfl <| un1 (v := (I (mn a_.N b_.N))) (s_mn rfl rfl) <| un1 rfl <| dnil ?_
  exact Sv.weak (wcn [0, 1, 2] rfl (.cf rfl rfl (.cr rfl rfl rfl (.cr rfl rfl rfl (.cr rfl rfl rfl (.cf rfl rfl .nil))))) (.box (by decide) rfl (blkAs_cells (.sm rfl (.sm rfl .nil))) (.box (by decide) rfl (blkAs_cells (.sm rfl (.sm rfl .nil))) (.box (by decide) rfl (blkAs_cells (.sm rfl (.sm rfl .nil))) .nil)))) (Z8j h)
 ·refine Sv.skip ?_
  exact Sv.weak (wcn [0, 1, 2] rfl (.cf rfl rfl (.cr rfl rfl rfl (.cr rfl rfl rfl (.cr rfl rfl rfl (.cf rfl rfl .nil))))) (.box (by decide) rfl (blkAs_cells (.sm rfl (.sm rfl .nil))) (.box (by decide) rfl (blkAs_cells (.sm rfl (.sm rfl .nil))) (.box (by decide) rfl (blkAs_cells (.sm rfl (.sm rfl .nil))) .nil)))) (Z8j h)
/-- clerestory/clerestoryref2.pairValue -/
noncomputable def Z8 (kind : Int) (a_ : TVal) (b_ : TVal) : Option (TVal × Int) :=
 if decide (kind = 4) then
  if ((!decide (a_.Kind = 4)) && (!decide (b_.Kind = 4))) then
   some ((⟨0, 0⟩ : TVal), 7)
  else
   if decide (a_.Kind = 4) then
    Z20 a_ b_ b_.Kind
   else
    Z20 a_ b_ a_.Kind
 else
  if decide (kind = 5) then
   if (!decide (b_.Kind = 4)) then
    some ((⟨0, 0⟩ : TVal), 7)
   else
    if decide (b_.N = 0) then
     some ((⟨0, 0⟩ : TVal), 1)
    else
     (Z1y (wi (a_.N * 1000)) b_.N).bind fun r_1 =>
     some ((⟨a_.Kind, (Z0 r_1)⟩ : TVal), 0)
  else
   if (!decide (a_.Kind = b_.Kind)) then
    some ((⟨0, 0⟩ : TVal), 7)
   else
    if decide (kind = 3) then
     Z2u kind a_ b_ (wi (a_.N - b_.N))
    else
     Z2u kind a_ b_ (wi (a_.N + b_.N))
theorem Z2v {mL : Int} {kind : Int} {a_ : TVal} {b_ : TVal} {r : (TVal × Int)} (h : Z8 kind a_ b_ = some r) : CPure Tryz.prog (GG mL) 14 [(I kind), (.agg (e_TVal a_)), (.agg (e_TVal b_))] (.tup [(.agg (e_TVal r.1)), (I r.2)]) := by
 refine acalls_of_sv hmix c14 (R := Z1z r) ?_
 unfold Z8 at h
 refine ssr <| un <| a2v (v := (.c (.ref 0 2 0 0))) (h' := upd _ 0 (some (.cells 2 [(e_TVal a_)]))) (n' := 1) rfl rfl hcs <| un <| a2v (v := (.c (.ref 1 2 0 0))) (h' := upd _ 1 (some (.cells 2 [(e_TVal b_)]))) (n' := 2) rfl rfl hcs <| un <| a2v (v := (.c (.ref 2 2 0 0))) (h' := upd _ 2 (some (.cells 2 [[cI 0, cI 0]]))) (n' := 3) rfl rfl hcs <| un1 rfl <| dnil <| Sv.seq <| ssr <| un1 rfl <| un1 (v := (B (decide (kind = 4)))) rfl <| dnil ?_
 refine Sv.cnd rfl h (fun h => ?_) fun h => ?_
 ·refine Sv.seq <| ssr <| un1 (v := (.c (.ref 0 2 0 0))) rfl <| un1 (v := (I a_.Kind)) rfl <| un1 (v := (B (!decide (a_.Kind = 4)))) rfl <| un1 rfl ?_
  refine gjoin 4 (d := 19) (v := (B ((!decide (a_.Kind = 4)) && (!decide (b_.Kind = 4))))) (fun X hX => ?_) ?_
  ·refine split2 (fun hc2 => ?_) (fun hc2 => ?_)
   ·refine gt rfl <| a1 (v := (.c (.ref 1 2 0 0))) rfl <| gt rfl <| a1 (v := (I b_.Kind)) rfl <| gt rfl <| a1 (v := (B (!decide (b_.Kind = 4)))) rfl <| un1 (v := (B (!decide (b_.Kind = 4)))) rfl <| dnil ?_
    exact hX _ (.putEq (by rw [hc2]; rfl) (.skp (.skp (.skp (.putEq (by rw [hc2]) (.refl _)) rfl) rfl) rfl))
   ·refine gs rfl rfl <| gs rfl rfl <| gs rfl rfl <| un1 (v := (B false)) rfl <| dnil ?_
    exact hX _ (.putEq (by rw [hc2]; rfl) (.skp (.skp (.skp (.putEq (by rw [hc2]) (.refl _)) rfl) rfl) rfl))
  refine dnil ?_
  refine Sv.cnd rfl h (fun h => ?_) fun h => ?_
  ·refine ssr <| un1 (v := (.agg [cI 0, cI 0])) rfl <| un <| a2n (h' := upd _ 2 (some (.cells 2 [[cI 0, cI 0]]))) (n' := 3) rfl rfl hcs <| un1 rfl <| dnil <| Sv.ret ?_
   exact rt0 h rfl rfl ⟨rfl, rfl, rfl⟩
  ·refine Sv.skip <| ssr <| un1 (v := (.c (.ref 0 2 0 0))) rfl <| un1 (v := (I a_.Kind)) rfl <| un1 rfl <| dnil <| Sv.seq <| ssr <| un1 (v := (.c (.ref 0 2 0 0))) rfl <| un1 (v := (I a_.Kind)) rfl <| un1 (v := (B (decide (a_.Kind = 4)))) rfl <| dnil ?_
   refine Sv.cnd rfl h (fun h => ?_) fun h => ?_
   ·refine srg <| un1 (v := (.c (.ref 1 2 0 0))) rfl <| un1 (v := (I b_.Kind)) rfl <| un1 rfl <| dnil ?_
    exact Sv.weak (wcn [0, 1, 2] rfl (.cf rfl rfl (.cr rfl rfl rfl (.cr rfl rfl rfl (.cr rfl rfl rfl .nil)))) (.box (by decide) rfl (blkAs_cells (.sm rfl (.sm rfl .nil))) (.box (by decide) rfl (blkAs_cells (.sm rfl (.sm rfl .nil))) (.box (by decide) rfl (blkAs_cells (.sm rfl (.sm rfl .nil))) .nil)))) (Z8h h)
   ·refine Sv.skip ?_
    exact Sv.weak (wcn [0, 1, 2] rfl (.cf rfl rfl (.cr rfl rfl rfl (.cr rfl rfl rfl (.cr rfl rfl rfl .nil)))) (.box (by decide) rfl (blkAs_cells (.sm rfl (.sm rfl .nil))) (.box (by decide) rfl (blkAs_cells (.sm rfl (.sm rfl .nil))) (.box (by decide) rfl (blkAs_cells (.sm rfl (.sm rfl .nil))) .nil)))) (Z8h h)
 ·refine Sv.skip <| Sv.seq <| ssr <| un1 rfl <| un1 (v := (B (decide (kind = 5)))) rfl <| dnil ?_
  refine Sv.cnd rfl h (fun h => ?_) fun h => ?_
  ·refine Sv.seq <| ssr <| un1 (v := (.c (.ref 1 2 0 0))) rfl <| un1 (v := (I b_.Kind)) rfl <| un1 (v := (B (!decide (b_.Kind = 4)))) rfl <| dnil ?_
   refine Sv.cnd rfl h (fun h => ?_) fun h => ?_
   ·refine ssr <| un1 (v := (.agg [cI 0, cI 0])) rfl <| un <| a2n (h' := upd _ 2 (some (.cells 2 [[cI 0, cI 0]]))) (n' := 3) rfl rfl hcs <| un1 rfl <| dnil <| Sv.ret ?_
    exact rt0 h rfl rfl ⟨rfl, rfl, rfl⟩
   ·refine Sv.skip <| Sv.seq <| ssr <| un1 (v := (.c (.ref 1 2 0 1))) rfl <| un1 (v := (I b_.N)) rfl <| un1 (v := (B (decide (b_.N = 0)))) rfl <| dnil ?_
    refine Sv.cnd rfl h (fun h => ?_) fun h => ?_
    ·refine ssr <| un1 (v := (.agg [cI 0, cI 0])) rfl <| un <| a2n (h' := upd _ 2 (some (.cells 2 [[cI 0, cI 0]]))) (n' := 3) rfl rfl hcs <| un1 rfl <| dnil <| Sv.ret ?_
     exact rt0 h rfl rfl ⟨rfl, rfl, rfl⟩
    ·refine Sv.skip <| Sv.seq <| Sv.drawn <| un1 (v := (.c (.ref 0 2 0 0))) rfl <| un1 (v := (I a_.Kind)) rfl <| un1 (v := (.c (.ref 0 2 0 1))) rfl <| un1 (v := (I a_.N)) rfl <| un1 (v := (I (wi (a_.N * 1000)))) rfl <| un1 (v := (.c (.ref 1 2 0 1))) rfl <| un1 (v := (I b_.N)) rfl ?_
     obtain ⟨r_1, hr2, h⟩ := bnd h
     refine un <| ac_pure (Zc6 hr2) rfl rfl rfl <| un <| ac_pure (Zo (mL := mL) r_1) rfl rfl rfl <| un1 (v := (.agg [cI a_.Kind, cI (Z0 r_1)])) rfl <| un <| a2n (h' := upd _ 2 (some (.cells 2 [[cI a_.Kind, cI (Z0 r_1)]]))) (n' := 3) rfl rfl hcs <| un1 rfl <| dnil <| Sv.ret ?_
     exact rt0 h rfl rfl ⟨rfl, rfl, rfl⟩
  ·refine Sv.skip <| Sv.seq <| ssr <| un1 (v := (.c (.ref 0 2 0 0))) rfl <| un1 (v := (I a_.Kind)) rfl <| un1 (v := (.c (.ref 1 2 0 0))) rfl <| un1 (v := (I b_.Kind)) rfl <| un1 (v := (B (!decide (a_.Kind = b_.Kind)))) rfl <| dnil ?_
   refine Sv.cnd rfl h (fun h => ?_) fun h => ?_
   ·refine ssr <| un1 (v := (.agg [cI 0, cI 0])) rfl <| un <| a2n (h' := upd _ 2 (some (.cells 2 [[cI 0, cI 0]]))) (n' := 3) rfl rfl hcs <| un1 rfl <| dnil <| Sv.ret ?_
    exact rt0 h rfl rfl ⟨rfl, rfl, rfl⟩
   ·refine Sv.skip <| ssr <| un1 (v := (.c (.ref 0 2 0 1))) rfl <| un1 (v := (I a_.N)) rfl <| un1 (v := (.c (.ref 1 2 0 1))) rfl <| un1 (v := (I b_.N)) rfl <| un1 (v := (I (wi (a_.N + b_.N)))) rfl <| un1 rfl <| dnil <| Sv.seq <| ssr <| un1 rfl <| un1 (v := (B (decide (kind = 3)))) rfl <| dnil ?_
    refine Sv.cnd rfl h (fun h => ?_) fun h => ?_
    ·refine srg <| un1 (v := (.c (.ref 0 2 0 1))) rfl <| un1 (v := (I a_.N)) rfl <| un1 (v := (.c (.ref 1 2 0 1))) rfl <| un1 (v := (I b_.N)) rfl <| un1 (v := (I (wi (a_.N - b_.N)))) rfl <| un1 rfl <| dnil ?_
     exact Sv.weak (wcn [0, 1, 2] rfl (.cf rfl rfl (.cr rfl rfl rfl (.cr rfl rfl rfl (.cr rfl rfl rfl (.cf rfl rfl .nil))))) (.box (by decide) rfl (blkAs_cells (.sm rfl (.sm rfl .nil))) (.box (by decide) rfl (blkAs_cells (.sm rfl (.sm rfl .nil))) (.box (by decide) rfl (blkAs_cells (.sm rfl (.sm rfl .nil))) .nil)))) (Z8k h)
    ·refine Sv.skip ?_
     exact Sv.weak (wcn [0, 1, 2] rfl (.cf rfl rfl (.cr rfl rfl rfl (.cr rfl rfl rfl (.cr rfl rfl rfl (.cf rfl rfl .nil))))) (.box (by decide) rfl (blkAs_cells (.sm rfl (.sm rfl .nil))) (.box (by decide) rfl (blkAs_cells (.sm rfl (.sm rfl .nil))) (.box (by decide) rfl (blkAs_cells (.sm rfl (.sm rfl .nil))) .nil)))) (Z8k h)
def a7_c0 : ACode := (.seq (sr [(mV 25 7), (oP 26 (.faddr 3 (.tmp 2))), (oP 27 (.load false 1 (.tmp 26))), (oP 28 (.len (.tmp 27))), (oP 29 (.bin .lss (.tmp 25) (.tmp 28)))]
 (.cond (.tmp 29) .skip (.exit 0)))
 (.seq (.block 1 (.seq (.drawn (.alt [((oP 33 (.faddr 3 (.tmp 2))), (0, 0)), ((oP 34 (.load false 1 (.tmp 33))), (0, 1)), ((mV 35 7), (0, 2)), ((oP 36 (.iaddr 4 (.tmp 34) (.tmp 35))), (0, 3)), ((oP 37 (.load true 4 (.tmp 36))), (0, 4)), ((oP 38 (.load true 4 (.tmp 3))), (0, 5))] (.fin [((oP 39 (.call 7 [(.tmp 37), (.tmp 38)])), (1, 6)), ((mV 32 39), (0, 7)), ((oP 40 (.ext (.tmp 32) 0)), (0, 8)), ((oP 41 (.ext (.tmp 32) 1)), (0, 9)), ((oP 8 (.box (.const (.agg [(.val (.int .i64 0)), (.val (.int .i64 0))])))), (1, 10)), ((oN (.store 2 (.tmp 8) (.tmp 40))), (2, 11)), ((mV 9 41), (0, 12))]) (.fin [((oP 8 (.box (.const (.agg [(.val (.int .i64 0)), (.val (.int .i64 0))])))), (1, 10)), ((oP 39 (.call 7 [(.tmp 37), (.tmp 38)])), (1, 6)), ((mV 32 39), (0, 7)), ((oP 40 (.ext (.tmp 32) 0)), (0, 8)), ((oP 41 (.ext (.tmp 32) 1)), (0, 9)), ((oN (.store 2 (.tmp 8) (.tmp 40))), (2, 11)), ((mV 9 41), (0, 12))])))
 (.seq (sr [(mV 42 9), (oP 43 (.bin .neq (.tmp 42) (kI 0)))]
 (.cond (.tmp 43) (sr [(oP 44 (.build [(.val (.int .i64 0)), (.val (.int .i64 0))] [])), (mV 45 9), (oN (.store 2 (.tmp 4) (.tmp 44))), (mV 5 45)]
 .ret) .skip))
 (.region [(mV 46 6), (oP 47 (.load true 2 (.tmp 8))), (oP 48 (.bslice 2 [(.val (.int .i64 0)), (.val (.int .i64 0))] 1 [(0, (.tmp 47))])), (oP 49 (.app 2 16 (.tmp 46) (.tmp 48))), (mV 6 49)]))))
 (.region [(mV 30 7), (oP 31 (.bin .add (.tmp 30) (kI 1))), (mV 7 31)])))
def a7_c1 : ACode := (.cond (.tmp 75) (sr [(oP 76 (.build [(.val (.int .i64 0)), (.val (.int .i64 0))] [])), (oN (.store 2 (.tmp 4) (.tmp 76))), (oP 5 (.mov (kI 7)))]
 .ret) .skip)
def a7_c3 : ACode := (.seq (.drawn (.fin [((mV 77 6), (0, 0)), ((oP 78 (.iaddr 2 (.tmp 77) (kI 0))), (0, 1)), ((oP 79 (.load true 2 (.tmp 78))), (0, 2)), ((oP 80 (.load true 2 (.tmp 10))), (0, 3)), ((oP 81 (.call 14 [(kI 7), (.tmp 79), (.tmp 80)])), (2, 4)), ((oP 82 (.ext (.tmp 81) 0)), (0, 5)), ((oP 83 (.ext (.tmp 81) 1)), (0, 6)), ((oN (.store 2 (.tmp 4) (.tmp 82))), (2, 7)), ((mV 5 83), (0, 8))]))
 .ret)
def a7_c4 : ACode := (.seq (sr [(mV 87 13), (mV 88 6), (oP 89 (.len (.tmp 88))), (oP 90 (.bin .lss (.tmp 87) (.tmp 89)))]
 (.cond (.tmp 90) .skip (.exit 2)))
 (.seq (.block 3 (.seq (.drawn (.alt [((oP 94 (.faddr 0 (.tmp 2))), (0, 0)), ((oP 95 (.load false 1 (.tmp 94))), (0, 1)), ((oP 96 (.load true 2 (.tmp 12))), (0, 2)), ((mV 97 6), (0, 3)), ((mV 98 13), (0, 4)), ((oP 99 (.iaddr 2 (.tmp 97) (.tmp 98))), (0, 5)), ((oP 100 (.load true 2 (.tmp 99))), (0, 6))] (.fin [((oP 101 (.call 14 [(.tmp 95), (.tmp 96), (.tmp 100)])), (1, 7)), ((mV 93 101), (0, 8)), ((oP 102 (.ext (.tmp 93) 0)), (0, 9)), ((oP 103 (.ext (.tmp 93) 1)), (0, 10)), ((oP 14 (.box (.const (.agg [(.val (.int .i64 0)), (.val (.int .i64 0))])))), (1, 11)), ((oN (.store 2 (.tmp 14) (.tmp 102))), (2, 12)), ((mV 15 103), (0, 13))]) (.fin [((oP 14 (.box (.const (.agg [(.val (.int .i64 0)), (.val (.int .i64 0))])))), (1, 11)), ((oP 101 (.call 14 [(.tmp 95), (.tmp 96), (.tmp 100)])), (1, 7)), ((mV 93 101), (0, 8)), ((oP 102 (.ext (.tmp 93) 0)), (0, 9)), ((oP 103 (.ext (.tmp 93) 1)), (0, 10)), ((oN (.store 2 (.tmp 14) (.tmp 102))), (2, 12)), ((mV 15 103), (0, 13))])))
 (.seq (sr [(mV 104 15), (oP 105 (.bin .neq (.tmp 104) (kI 0)))]
 (.cond (.tmp 105) (sr [(oP 106 (.build [(.val (.int .i64 0)), (.val (.int .i64 0))] [])), (mV 107 15), (oN (.store 2 (.tmp 4) (.tmp 106))), (mV 5 107)]
 .ret) .skip))
 (.region [(oP 108 (.load true 2 (.tmp 14))), (oN (.store 2 (.tmp 12) (.tmp 108)))]))))
 (.region [(mV 91 13), (oP 92 (.bin .add (.tmp 91) (kI 1))), (mV 13 92)])))
def a7_c2 : ACode := (sr [(mV 84 6), (oP 85 (.iaddr 2 (.tmp 84) (kI 0))), (oP 86 (.load true 2 (.tmp 85))), (oP 12 (.box (.const (.agg [(.val (.int .i64 0)), (.val (.int .i64 0))])))), (oN (.store 2 (.tmp 12) (.tmp 86)))]
 (.seq (sr [(oP 13 (.mov (kI 1)))]
 (.block 2 (.loop a7_c4)))
 (sr [(oP 109 (.load true 2 (.tmp 12))), (oN (.store 2 (.tmp 4) (.tmp 109))), (oP 5 (.mov (kI 0)))]
 .ret)))
def a7 : AFunc := ⟨2, [(.cell true 2 4), (.tmp 5)], (sr [(oP 2 (.box (.tmp 0))), (oP 3 (.box (.tmp 1))), (oP 4 (.box (.const (.agg [(.val (.int .i64 0)), (.val (.int .i64 0))])))), (oP 5 (.mov (kI 0)))]
 (.seq (sr [(oP 16 (.faddr 0 (.tmp 2))), (oP 17 (.load false 1 (.tmp 16))), (oP 18 (.bin .eql (.tmp 17) (kI 1)))]
 (.cond (.tmp 18) (sr [(oP 19 (.faddr 1 (.tmp 2))), (oP 20 (.load true 2 (.tmp 19))), (oP 21 (.load true 4 (.tmp 3))), (oP 22 (.call 13 [(.tmp 20), (.tmp 21)])), (oP 23 (.ext (.tmp 22) 0)), (oP 24 (.ext (.tmp 22) 1)), (oN (.store 2 (.tmp 4) (.tmp 23))), (mV 5 24)]
 .ret) .skip))
 (sr [(oP 6 (.mov (.const (.c (.ro true 2 [])))))]
 (.seq (sr [(oP 7 (.mov (kI 0)))]
 (.block 0 (.loop a7_c0)))
 (.seq (sr [(oP 50 (.faddr 0 (.tmp 2))), (oP 51 (.load false 1 (.tmp 50))), (oP 52 (.bin .eql (.tmp 51) (kI 8)))]
 (.cond (.tmp 52) (.seq (.drawn (.alt [((mV 54 6), (0, 0)), ((oP 55 (.iaddr 2 (.tmp 54) (kI 1))), (0, 1)), ((oP 56 (.load true 2 (.tmp 55))), (0, 2)), ((mV 57 6), (0, 3)), ((oP 58 (.iaddr 2 (.tmp 57) (kI 2))), (0, 4)), ((oP 59 (.load true 2 (.tmp 58))), (0, 5))] (.fin [((oP 60 (.call 14 [(kI 6), (.tmp 56), (.tmp 59)])), (1, 6)), ((mV 53 60), (0, 7)), ((oP 61 (.ext (.tmp 53) 0)), (0, 8)), ((oP 62 (.ext (.tmp 53) 1)), (0, 9)), ((oP 10 (.box (.const (.agg [(.val (.int .i64 0)), (.val (.int .i64 0))])))), (1, 10)), ((oN (.store 2 (.tmp 10) (.tmp 61))), (2, 11)), ((mV 11 62), (0, 12))]) (.fin [((oP 10 (.box (.const (.agg [(.val (.int .i64 0)), (.val (.int .i64 0))])))), (1, 10)), ((oP 60 (.call 14 [(kI 6), (.tmp 56), (.tmp 59)])), (1, 6)), ((mV 53 60), (0, 7)), ((oP 61 (.ext (.tmp 53) 0)), (0, 8)), ((oP 62 (.ext (.tmp 53) 1)), (0, 9)), ((oN (.store 2 (.tmp 10) (.tmp 61))), (2, 11)), ((mV 11 62), (0, 12))])))
 (.seq (.seq (.drawn (.fin [((mV 63 11), (0, 0)), ((oP 64 (.bin .neq (.tmp 63) (kI 0))), (0, 1)), ((mV 65 64), (0, 2)), (⟨(some 66), (.mov (.tmp 6)), (some (65, false))⟩, (0, 3)), (⟨(some 67), (.iaddr 2 (.tmp 66) (kI 0)), (some (65, false))⟩, (0, 4)), (⟨(some 68), (.faddr 0 (.tmp 67)), (some (65, false))⟩, (0, 5)), (⟨(some 69), (.load false 1 (.tmp 68)), (some (65, false))⟩, (0, 6)), (⟨(some 70), (.mov (.tmp 6)), (some (65, false))⟩, (0, 7)), (⟨(some 71), (.iaddr 2 (.tmp 70) (kI 1)), (some (65, false))⟩, (0, 8)), (⟨(some 72), (.faddr 0 (.tmp 71)), (some (65, false))⟩, (0, 9)), (⟨(some 73), (.load false 1 (.tmp 72)), (some (65, false))⟩, (0, 10)), (⟨(some 74), (.bin .neq (.tmp 69) (.tmp 73)), (some (65, false))⟩, (0, 11)), ((oP 75 (.pick (.tmp 65) kT (.tmp 74))), (0, 12))]))
 a7_c1)
 a7_c3)) .skip))
 a7_c2)))))⟩
theorem c7 : compFunc Tryz.prog 7 = some a7 := by kernel_rfl
def Z2w (r : (TVal × Int)) : AV → Heap → Nat → Prop := fun v h' n' => v = (.tup [(.agg (e_TVal r.1)), (I r.2)]) ∧ (h' = e0) ∧ n' = 0
def Z8l (mL : Int) (recf : TSTerm → TSScale → Option (TVal × Int)) : Prop := ∀ (t_ : TSTerm) (k_ : TSScale) (r : (TVal × Int)), recf t_ k_ = some r → CPure Tryz.prog (GG mL) 7 [(.agg (e_TSTerm t_)), (.agg (e_TSScale k_))] (.tup [(.agg (e_TVal r.1)), (I r.2)])
abbrev Zc8 (t_ : TSTerm) (F_ : (List TVal) → Option (TVal × Int)) (o : (TVal × Int)) (R_ : St → Prop) : Prop := ∀ (l_1 : (List TVal)) (zl_1 : Bool) (_ : zl_1 = true → l_1 = []), F_ l_1 = some o → ∀ s, Weak 0 s ⟨(ue [(6, (lstV zl_1 2 2 l_1.length)), (4, (.c (.ref 1 2 0 0))), (2, (.c (.ref 0 4 0 0)))]), (upd (upd (upd e0 0 (some (.cells 4 [(e_TSTerm t_)]))) 1 (some (.cells 2 [[cI 0, cI 0]]))) 2 (lstB zl_1 2 (l_1.map e_TVal))), 3⟩ → R_ s
abbrev Z8m (t_ : TSTerm) (k_ : TSScale) (F_ : Nat → (List TVal) → Int → Option (TVal × Int)) (o : (TVal × Int)) : Nat → St → Prop := fun k s => ∃ (l_ : (List TVal)), ∃ (i_ : Int), ∃ (zl : Bool), (zl = true → l_ = []) ∧ F_ k l_ i_ = some o ∧ s = ⟨(ue [(7, (I i_)), (6, (lstV zl 3 2 l_.length)), (4, (.c (.ref 2 2 0 0))), (3, (.c (.ref 1 4 0 0))), (2, (.c (.ref 0 4 0 0)))]), (upd (upd (upd (upd e0 0 (some (.cells 4 [(e_TSTerm t_)]))) 1 (some (.cells 4 [(e_TSScale k_)]))) 2 (some (.cells 2 [[cI 0, cI 0]]))) 3 (lstB zl 2 (l_.map e_TVal))), 4⟩
abbrev Zc9 (t_ : TSTerm) (k_ : TSScale) (F_ : (List TVal) → Int → Option (TVal × Int)) (o : (TVal × Int)) (R_ : St → Prop) : Prop := ∀ (l_ : (List TVal)) (i_ : Int) (zl : Bool) (_ : zl = true → l_ = []), F_ l_ i_ = some o → ∀ s, Weak 0 s ⟨(ue [(7, (I i_)), (6, (lstV zl 3 2 l_.length)), (4, (.c (.ref 2 2 0 0))), (3, (.c (.ref 1 4 0 0))), (2, (.c (.ref 0 4 0 0)))]), (upd (upd (upd (upd e0 0 (some (.cells 4 [(e_TSTerm t_)]))) 1 (some (.cells 4 [(e_TSScale k_)]))) 2 (some (.cells 2 [[cI 0, cI 0]]))) 3 (lstB zl 2 (l_.map e_TVal))), 4⟩ → R_ s
noncomputable def Z5 (t_ : TSTerm) (recf : TSTerm → TSScale → Option (TVal × Int)) (k_ : TSScale) (K0_ : (List TVal) → Option (TVal × Int)) : Nat → (List TVal) → Int → Option (TVal × Int)
 | 0, _, _ => none
 | k + 1, l_, i_ =>
  if decide (i_ < (t_.Subs.length : Int)) then
   (at? t_.Subs i_).bind fun r_1 =>
   (Zp r_1.c).bind fun x_ =>
   (recf x_ k_).bind fun r_2 =>
   if (!decide (r_2.2 = 0)) then
    some ((⟨0, 0⟩ : TVal), r_2.2)
   else
    (app? 16 l_ [r_2.1]).bind fun r_3 =>
    (Z5 t_ recf k_ K0_ k) r_3 (wi (i_ + 1))
  else
   K0_ l_
theorem Zca {mL : Int} {Q : AExit → St → Prop} {t_ : TSTerm} {recf : TSTerm → TSScale → Option (TVal × Int)} {k_ : TSScale} {K0_ : (List TVal) → Option (TVal × Int)} {k : Nat} {l_ : (List TVal)} {i_ : Int} {zl : Bool} (hzl : zl = true → l_ = []) {o : (TVal × Int)} (h : Z5 t_ recf k_ K0_ k l_ i_ = some o)
  (hK0 : Zc8 t_ K0_ o (Q (.exit 0)))
  (hr : ∀ s, Ends a7.results 0 (Z2w o) .ret s → Q .ret s)
  (hrec : Z8l mL recf) :
  Sv Tryz.prog (GG mL) 0 (.loop a7_c0) Q ⟨(ue [(7, (I i_)), (6, (lstV zl 3 2 l_.length)), (4, (.c (.ref 2 2 0 0))), (3, (.c (.ref 1 4 0 0))), (2, (.c (.ref 0 4 0 0)))]), (upd (upd (upd (upd e0 0 (some (.cells 4 [(e_TSTerm t_)]))) 1 (some (.cells 4 [(e_TSScale k_)]))) 2 (some (.cells 2 [[cI 0, cI 0]]))) 3 (lstB zl 2 (l_.map e_TVal))), 4⟩ := by
 refine Sv.loop (I := Z8m t_ k_ (Z5 t_ recf k_ K0_) o) (fun k s hI => ?_) ⟨l_, i_, zl, hzl, h, rfl⟩
 clear h
 clear hzl zl i_ l_
 obtain ⟨l_, i_, zl, hzl, h, rfl⟩ := hI
 cases k with
 | zero => cases h
 | succ k =>
 rw [Z5] at h
 have hself : Zc9 t_ k_ (Z5 t_ recf k_ K0_ k) o (rnd 0 (Z8m t_ k_ (Z5 t_ recf k_ K0_) o) k Q) := fun l_ i_ zl hzl h s hw => ⟨_, k, hw, Nat.lt_succ_self k, l_, i_, zl, hzl, h, rfl⟩
 refine Sv.seq <| ssr <| un1 rfl <| un1 (v := (.c (.ref 0 4 0 3))) rfl <| un1 (v := (.c (.ro false 4 (t_.Subs.map eRaw)))) rfl <| un1 (v := (I (t_.Subs.length : Int))) (s_len (e := eRaw) (xs := t_.Subs) rfl) <| un1 (v := (B (decide (i_ < (t_.Subs.length : Int))))) rfl <| dnil ?_
 refine Sv.cnd rfl h (fun h => ?_) fun h => ?_
 ·refine Sv.skip <| Sv.seq <| Sv.block <| Sv.seq <| Sv.drawn2 <| un1 (v := (.c (.ref 0 4 0 3))) rfl <| un1 (v := (.c (.ro false 4 (t_.Subs.map eRaw)))) rfl <| un1 rfl ?_
  obtain ⟨r_1, hr2, h⟩ := bnd h
  obtain ⟨x_, hd, h⟩ := bnd h
  have hx1 : at? t_.Subs i_ = some (⟨e_TSTerm x_, rfl⟩ : Raw) := by rw [hr2, raw_eq rfl (Z21 hd)]
  refine un1 (v := (.c (.rop (e_TSTerm x_)))) (s_iaddr (e := eRaw) (xs := t_.Subs) rfl rfl hx1) <| un1 (v := (.agg (e_TSTerm x_))) rfl <| un1 (v := (.agg (e_TSScale k_))) rfl <| dnil ?_
  refine ⟨?_, ?_⟩
  ·obtain ⟨r_2, hr3, h⟩ := bnd h
   refine un <| ac_pure (hrec x_ k_ _ hr3) rfl rfl rfl <| un1 rfl <| un1 (v := (.agg (e_TVal r_2.1))) rfl <| un1 (v := (I r_2.2)) rfl <| un <| a2v (v := (.c (.ref 4 2 0 0))) (h' := upd _ 4 (some (.cells 2 [[cI 0, cI 0]]))) (n' := 5) rfl rfl (fun _ => rfl) <| un <| a2n (h' := upd _ 4 (some (.cells 2 [(e_TVal r_2.1)]))) (n' := 5) rfl rfl hcs <| un1 rfl <| dnil <| Sv.seq <| ssr <| un1 rfl <| un1 (v := (B (!decide (r_2.2 = 0)))) rfl <| dnil ?_
   refine Sv.cnd rfl h (fun h => ?_) fun h => ?_
   ·refine ssr <| un1 (v := (.agg [cI 0, cI 0])) rfl <| un1 rfl <| un <| a2n (h' := upd _ 2 (some (.cells 2 [[cI 0, cI 0]]))) (n' := 5) rfl rfl hcs <| un1 rfl <| dnil <| Sv.ret ?_
    exact hr _ (rt0 h rfl rfl ⟨rfl, rfl, rfl⟩)
   ·refine Sv.skip <| srg <| un1 rfl <| un1 (v := (.agg (e_TVal r_2.1))) rfl <| un <| a2v (v := (lstV false 5 2 [r_2.1].length)) (h' := upd _ 5 (lstB false 2 ([r_2.1].map e_TVal))) (n' := 6) rfl rfl hcs ?_
    obtain ⟨r_3, hr4, h⟩ := bnd h
    have hz1 : (zl && [r_2.1].isEmpty) = true → r_3 = [] := app_nil (z := zl) (ys := [r_2.1]) hzl hr4
    refine un <| a2v rfl (s_app (xs := l_) (ys := [r_2.1]) (e := e_TVal) (z := zl) (b := 3) rfl rfl hzl rfl rfl (slc_lst rfl (List.length_map _).symm (map_nil_of hcs)) hr4) hcs <| un1 rfl <| dnil <| srg <| un1 rfl <| un1 (v := (I (wi (i_ + 1)))) rfl <| un1 rfl <| dnil ?_
    exact hself r_3 (wi (i_ + 1)) (zl && [r_2.1].isEmpty) hz1 h _ (wcn [0, 1, 2, 6] rfl (.cf rfl rfl (.cons rfl (.c (lsr rfl rfl)) (.cr rfl rfl rfl (.cr rfl rfl rfl (.cr rfl rfl rfl .nil))))) (.row (by decide) rfl (fr_map fun _ => rfl) (.box (by decide) rfl (blkAs_cells (.sm rfl (.sm rfl .nil))) (.box (by decide) rfl (blkAs_cells (.sm rfl (.sm rfl (.sm rfl (.sm rfl .nil))))) (.box (by decide) rfl (blkAs_cells (.sm rfl (.sm rfl (.sm rfl (.sm rfl .nil))))) .nil)))))
  ·refine un <| a2v (v := (.c (.ref 4 2 0 0))) (h' := upd _ 4 (some (.cells 2 [[cI 0, cI 0]]))) (n' := 5) rfl rfl (fun _ => rfl) ?_
   obtain ⟨r_2, hr3, h⟩ := bnd h
   refine un <| ac_pure (hrec x_ k_ _ hr3) rfl rfl rfl <| un1 rfl <| un1 (v := (.agg (e_TVal r_2.1))) rfl <| un1 (v := (I r_2.2)) rfl <| un <| a2n (h' := upd _ 4 (some (.cells 2 [(e_TVal r_2.1)]))) (n' := 5) rfl rfl hcs <| un1 rfl <| dnil <| Sv.seq <| ssr <| un1 rfl <| un1 (v := (B (!decide (r_2.2 = 0)))) rfl <| dnil ?_
   refine Sv.cnd rfl h (fun h => ?_) fun h => ?_
   ·refine ssr <| un1 (v := (.agg [cI 0, cI 0])) rfl <| un1 rfl <| un <| a2n (h' := upd _ 2 (some (.cells 2 [[cI 0, cI 0]]))) (n' := 5) rfl rfl hcs <| un1 rfl <| dnil <| Sv.ret ?_
    exact hr _ (rt0 h rfl rfl ⟨rfl, rfl, rfl⟩)
   ·refine Sv.skip <| srg <| un1 rfl <| un1 (v := (.agg (e_TVal r_2.1))) rfl <| un <| a2v (v := (lstV false 5 2 [r_2.1].length)) (h' := upd _ 5 (lstB false 2 ([r_2.1].map e_TVal))) (n' := 6) rfl rfl hcs ?_
    obtain ⟨r_3, hr4, h⟩ := bnd h
    have hz1 : (zl && [r_2.1].isEmpty) = true → r_3 = [] := app_nil (z := zl) (ys := [r_2.1]) hzl hr4
    refine un <| a2v rfl (s_app (xs := l_) (ys := [r_2.1]) (e := e_TVal) (z := zl) (b := 3) rfl rfl hzl rfl rfl (slc_lst rfl (List.length_map _).symm (map_nil_of hcs)) hr4) hcs <| un1 rfl <| dnil <| srg <| un1 rfl <| un1 (v := (I (wi (i_ + 1)))) rfl <| un1 rfl <| dnil ?_
    exact hself r_3 (wi (i_ + 1)) (zl && [r_2.1].isEmpty) hz1 h _ (wcn [0, 1, 2, 6] rfl (.cf rfl rfl (.cons rfl (.c (lsr rfl rfl)) (.cr rfl rfl rfl (.cr rfl rfl rfl (.cr rfl rfl rfl .nil))))) (.row (by decide) rfl (fr_map fun _ => rfl) (.box (by decide) rfl (blkAs_cells (.sm rfl (.sm rfl .nil))) (.box (by decide) rfl (blkAs_cells (.sm rfl (.sm rfl (.sm rfl (.sm rfl .nil))))) (.box (by decide) rfl (blkAs_cells (.sm rfl (.sm rfl (.sm rfl (.sm rfl .nil))))) .nil)))))
 ·refine Sv.exit ?_
  exact hK0 l_ zl hzl h _ (wcn [0, 2, 3] rfl (.cons rfl (.c (lsr rfl rfl)) (.cr rfl rfl rfl (.cr rfl rfl rfl .nil))) (.row (by decide) rfl (fr_map fun _ => rfl) (.box (by decide) rfl (blkAs_cells (.sm rfl (.sm rfl .nil))) (.box (by decide) rfl (blkAs_cells (.sm rfl (.sm rfl (.sm rfl (.sm rfl .nil))))) .nil))))
abbrev Z8n (mL : Int) (o : (TVal × Int)) : AExit → St → Prop := AThen (Sv Tryz.prog (GG mL) 0 a7_c2 (Ends a7.results 0 (Z2w o))) (Ends a7.results 0 (Z2w o))
abbrev Zcb (mL : Int) (o : (TVal × Int)) : AExit → St → Prop := AThen (Sv Tryz.prog (GG mL) 0 a7_c3 (Z8n mL o)) (Z8n mL o)
noncomputable def Zw (r_4 : (TVal × Int)) (l_2 : (List TVal)) (v75 : Bool) : Option (TVal × Int) :=
 if v75 then
  some ((⟨0, 0⟩ : TVal), 7)
 else
  (at? l_2 0).bind fun x_3 =>
  (Z8 7 x_3 r_4.1).bind fun r_5 =>
  some (r_5.1, r_5.2)
theorem Z4h {mL : Int} {r_4 : (TVal × Int)} {l_2 : (List TVal)} {v75 : Bool} {zl_2 : Bool} (hzl_2 : zl_2 = true → l_2 = []) {o : (TVal × Int)} (h : Zw r_4 l_2 v75 = some o) :
  Sv Tryz.prog (GG mL) 0 a7_c1 (Zcb mL o) ⟨(ue [(75, (B v75)), (10, (.c (.ref 2 2 0 0))), (6, (lstV zl_2 1 2 l_2.length)), (4, (.c (.ref 0 2 0 0)))]), (upd (upd (upd e0 0 (some (.cells 2 [[cI 0, cI 0]]))) 1 (lstB zl_2 2 (l_2.map e_TVal))) 2 (some (.cells 2 [(e_TVal r_4.1)]))), 3⟩ := by
 unfold Zw at h
 refine Sv.cnd rfl h (fun h => ?_) fun h => ?_
 ·refine ssr <| un1 (v := (.agg [cI 0, cI 0])) rfl <| un <| a2n (h' := upd _ 0 (some (.cells 2 [[cI 0, cI 0]]))) (n' := 3) rfl rfl hcs <| un1 rfl <| dnil <| Sv.ret ?_
  exact rt0 h rfl rfl ⟨rfl, rfl, rfl⟩
 ·refine Sv.skip <| Sv.seq <| Sv.drawn <| un1 rfl ?_
  obtain ⟨x_3, hx4, h⟩ := bnd h
  refine un1 (v := (.c (.ref 1 2 (0 : Int).toNat 0))) (s_iaddrL rfl rfl hzl_2 hx4) <| un1 (v := (.agg (e_TVal x_3))) (s_loadL (z := zl_2) (e := e_TVal) rfl rfl hzl_2 hx4 rfl rfl) <| un1 (v := (.agg (e_TVal r_4.1))) rfl ?_
  obtain ⟨r_5, hr6, h⟩ := bnd h
  refine un <| ac_pure (Z2v hr6) rfl rfl rfl <| un1 (v := (.agg (e_TVal r_5.1))) rfl <| un1 (v := (I r_5.2)) rfl <| un <| a2n (h' := upd _ 0 (some (.cells 2 [(e_TVal r_5.1)]))) (n' := 3) rfl rfl hcs <| un1 rfl <| dnil <| Sv.ret ?_
  exact rt0 h rfl rfl ⟨rfl, rfl, rfl⟩
abbrev Zcc (F_ : Int → Int → Option (TVal × Int)) (o : (TVal × Int)) (R_ : St → Prop) : Prop := ∀ (v01 : Int) (v11 : Int), F_ v01 v11 = some o → ∀ s, Weak 0 s ⟨(ue [(12, (.c (.ref 1 2 0 0))), (4, (.c (.ref 0 2 0 0)))]), (upd (upd e0 0 (some (.cells 2 [[cI 0, cI 0]]))) 1 (some (.cells 2 [[cI v01, cI v11]]))), 2⟩ → R_ s
abbrev Z8o (zl_1 : Bool) (l_1 : (List TVal)) (t_ : TSTerm) (F_ : Nat → Int → Int → Int → Option (TVal × Int)) (o : (TVal × Int)) : Nat → St → Prop := fun k s => ∃ (v0 : Int), ∃ (v1 : Int), ∃ (i_1 : Int), F_ k v0 v1 i_1 = some o ∧ s = ⟨(ue [(13, (I i_1)), (12, (.c (.ref 3 2 0 0))), (6, (lstV zl_1 2 2 l_1.length)), (4, (.c (.ref 1 2 0 0))), (2, (.c (.ref 0 4 0 0)))]), (upd (upd (upd (upd e0 0 (some (.cells 4 [(e_TSTerm t_)]))) 1 (some (.cells 2 [[cI 0, cI 0]]))) 2 (lstB zl_1 2 (l_1.map e_TVal))) 3 (some (.cells 2 [[cI v0, cI v1]]))), 4⟩
abbrev Zcd (zl_1 : Bool) (l_1 : (List TVal)) (t_ : TSTerm) (F_ : Int → Int → Int → Option (TVal × Int)) (o : (TVal × Int)) (R_ : St → Prop) : Prop := ∀ (v0 : Int) (v1 : Int) (i_1 : Int), F_ v0 v1 i_1 = some o → ∀ s, Weak 0 s ⟨(ue [(13, (I i_1)), (12, (.c (.ref 3 2 0 0))), (6, (lstV zl_1 2 2 l_1.length)), (4, (.c (.ref 1 2 0 0))), (2, (.c (.ref 0 4 0 0)))]), (upd (upd (upd (upd e0 0 (some (.cells 4 [(e_TSTerm t_)]))) 1 (some (.cells 2 [[cI 0, cI 0]]))) 2 (lstB zl_1 2 (l_1.map e_TVal))) 3 (some (.cells 2 [[cI v0, cI v1]]))), 4⟩ → R_ s
noncomputable def Zg (l_1 : (List TVal)) (t_ : TSTerm) (K2_ : Int → Int → Option (TVal × Int)) : Nat → Int → Int → Int → Option (TVal × Int)
 | 0, _, _, _ => none
 | k + 1, v0, v1, i_1 =>
  if decide (i_1 < (l_1.length : Int)) then
   (at? l_1 i_1).bind fun x_7 =>
   (Z8 t_.Kind (⟨v0, v1⟩ : TVal) x_7).bind fun r_6 =>
   if (!decide (r_6.2 = 0)) then
    some ((⟨0, 0⟩ : TVal), r_6.2)
   else
    (Zg l_1 t_ K2_ k) r_6.1.Kind r_6.1.N (wi (i_1 + 1))
  else
   K2_ v0 v1
theorem Zce {mL : Int} {Q : AExit → St → Prop} {l_1 : (List TVal)} {t_ : TSTerm} {K2_ : Int → Int → Option (TVal × Int)} {zl_1 : Bool} (hzl_1 : zl_1 = true → l_1 = []) {k : Nat} {v0 : Int} {v1 : Int} {i_1 : Int} {o : (TVal × Int)} (h : Zg l_1 t_ K2_ k v0 v1 i_1 = some o)
  (hK2 : Zcc K2_ o (Q (.exit 2)))
  (hr : ∀ s, Ends a7.results 0 (Z2w o) .ret s → Q .ret s) :
  Sv Tryz.prog (GG mL) 0 (.loop a7_c4) Q ⟨(ue [(13, (I i_1)), (12, (.c (.ref 3 2 0 0))), (6, (lstV zl_1 2 2 l_1.length)), (4, (.c (.ref 1 2 0 0))), (2, (.c (.ref 0 4 0 0)))]), (upd (upd (upd (upd e0 0 (some (.cells 4 [(e_TSTerm t_)]))) 1 (some (.cells 2 [[cI 0, cI 0]]))) 2 (lstB zl_1 2 (l_1.map e_TVal))) 3 (some (.cells 2 [[cI v0, cI v1]]))), 4⟩ := by
 refine Sv.loop (I := Z8o zl_1 l_1 t_ (Zg l_1 t_ K2_) o) (fun k s hI => ?_) ⟨v0, v1, i_1, h, rfl⟩
 clear h
 clear i_1 v1 v0
 obtain ⟨v0, v1, i_1, h, rfl⟩ := hI
 cases k with
 | zero => cases h
 | succ k =>
 rw [Zg] at h
 have hself : Zcd zl_1 l_1 t_ (Zg l_1 t_ K2_ k) o (rnd 0 (Z8o zl_1 l_1 t_ (Zg l_1 t_ K2_) o) k Q) := fun v0 v1 i_1 h s hw => ⟨_, k, hw, Nat.lt_succ_self k, v0, v1, i_1, h, rfl⟩
 refine Sv.seq <| ssr <| un1 rfl <| un1 rfl <| un1 (v := (I (l_1.length : Int))) (s_lenL rfl (len_nil_of hzl_1)) <| un1 (v := (B (decide (i_1 < (l_1.length : Int))))) rfl <| dnil ?_
 refine Sv.cnd rfl h (fun h => ?_) fun h => ?_
 ·refine Sv.skip <| Sv.seq <| Sv.block <| Sv.seq <| Sv.drawn2 <| un1 (v := (.c (.ref 0 4 0 0))) rfl <| un1 (v := (I t_.Kind)) rfl <| un1 (v := (.agg [cI v0, cI v1])) rfl <| un1 rfl <| un1 rfl ?_
  obtain ⟨x_7, hx8, h⟩ := bnd h
  refine un1 (v := (.c (.ref 2 2 i_1.toNat 0))) (s_iaddrL rfl rfl hzl_1 hx8) <| un1 (v := (.agg (e_TVal x_7))) (s_loadL (z := zl_1) (e := e_TVal) rfl rfl hzl_1 hx8 rfl rfl) <| dnil ?_
  refine ⟨?_, ?_⟩
  ·obtain ⟨r_6, hr7, h⟩ := bnd h
   refine un <| ac_pure (Z2v hr7) rfl rfl rfl <| un1 rfl <| un1 (v := (.agg (e_TVal r_6.1))) rfl <| un1 (v := (I r_6.2)) rfl <| un <| a2v (v := (.c (.ref 4 2 0 0))) (h' := upd _ 4 (some (.cells 2 [[cI 0, cI 0]]))) (n' := 5) rfl rfl (fun _ => rfl) <| un <| a2n (h' := upd _ 4 (some (.cells 2 [(e_TVal r_6.1)]))) (n' := 5) rfl rfl hcs <| un1 rfl <| dnil <| Sv.seq <| ssr <| un1 rfl <| un1 (v := (B (!decide (r_6.2 = 0)))) rfl <| dnil ?_
   refine Sv.cnd rfl h (fun h => ?_) fun h => ?_
   ·refine ssr <| un1 (v := (.agg [cI 0, cI 0])) rfl <| un1 rfl <| un <| a2n (h' := upd _ 1 (some (.cells 2 [[cI 0, cI 0]]))) (n' := 5) rfl rfl hcs <| un1 rfl <| dnil <| Sv.ret ?_
    exact hr _ (rt0 h rfl rfl ⟨rfl, rfl, rfl⟩)
   ·refine Sv.skip <| srg <| un1 (v := (.agg (e_TVal r_6.1))) rfl <| un <| a2n (h' := upd _ 3 (some (.cells 2 [(e_TVal r_6.1)]))) (n' := 5) rfl rfl hcs <| dnil <| srg <| un1 rfl <| un1 (v := (I (wi (i_1 + 1)))) rfl <| un1 rfl <| dnil ?_
    exact hself r_6.1.Kind r_6.1.N (wi (i_1 + 1)) h _ (wcn [0, 1, 2, 3] rfl (.cf rfl rfl (.cr rfl rfl rfl (.cons rfl (.c (lsr rfl rfl)) (.cr rfl rfl rfl (.cr rfl rfl rfl .nil))))) (.box (by decide) rfl (blkAs_cells (.sm rfl (.sm rfl .nil))) (.row (by decide) rfl (fr_map fun _ => rfl) (.box (by decide) rfl (blkAs_cells (.sm rfl (.sm rfl .nil))) (.box (by decide) rfl (blkAs_cells (.sm rfl (.sm rfl (.sm rfl (.sm rfl .nil))))) .nil)))))
  ·refine un <| a2v (v := (.c (.ref 4 2 0 0))) (h' := upd _ 4 (some (.cells 2 [[cI 0, cI 0]]))) (n' := 5) rfl rfl (fun _ => rfl) ?_
   obtain ⟨r_6, hr7, h⟩ := bnd h
   refine un <| ac_pure (Z2v hr7) rfl rfl rfl <| un1 rfl <| un1 (v := (.agg (e_TVal r_6.1))) rfl <| un1 (v := (I r_6.2)) rfl <| un <| a2n (h' := upd _ 4 (some (.cells 2 [(e_TVal r_6.1)]))) (n' := 5) rfl rfl hcs <| un1 rfl <| dnil <| Sv.seq <| ssr <| un1 rfl <| un1 (v := (B (!decide (r_6.2 = 0)))) rfl <| dnil ?_
   refine Sv.cnd rfl h (fun h => ?_) fun h => ?_
   ·refine ssr <| un1 (v := (.agg [cI 0, cI 0])) rfl <| un1 rfl <| un <| a2n (h' := upd _ 1 (some (.cells 2 [[cI 0, cI 0]]))) (n' := 5) rfl rfl hcs <| un1 rfl <| dnil <| Sv.ret ?_
    exact hr _ (rt0 h rfl rfl ⟨rfl, rfl, rfl⟩)
   ·refine Sv.skip <| srg <| un1 (v := (.agg (e_TVal r_6.1))) rfl <| un <| a2n (h' := upd _ 3 (some (.cells 2 [(e_TVal r_6.1)]))) (n' := 5) rfl rfl hcs <| dnil <| srg <| un1 rfl <| un1 (v := (I (wi (i_1 + 1)))) rfl <| un1 rfl <| dnil ?_
    exact hself r_6.1.Kind r_6.1.N (wi (i_1 + 1)) h _ (wcn [0, 1, 2, 3] rfl (.cf rfl rfl (.cr rfl rfl rfl (.cons rfl (.c (lsr rfl rfl)) (.cr rfl rfl rfl (.cr rfl rfl rfl .nil))))) (.box (by decide) rfl (blkAs_cells (.sm rfl (.sm rfl .nil))) (.row (by decide) rfl (fr_map fun _ => rfl) (.box (by decide) rfl (blkAs_cells (.sm rfl (.sm rfl .nil))) (.box (by decide) rfl (blkAs_cells (.sm rfl (.sm rfl (.sm rfl (.sm rfl .nil))))) .nil)))))
 ·refine Sv.exit ?_
  exact hK2 v0 v1 h _ (wcn [1, 3] rfl (.cr rfl rfl rfl (.cr rfl rfl rfl .nil)) (.box (by decide) rfl (blkAs_cells (.sm rfl (.sm rfl .nil))) (.box (by decide) rfl (blkAs_cells (.sm rfl (.sm rfl .nil))) .nil)))
/-- clerestory/clerestoryref2.TermValue -/
noncomputable def Zc : Nat → TSTerm → TSScale → Option (TVal × Int)
 | 0, _, _ => none
 | k + 1, t_, k_ =>
  if decide (t_.Kind = 1) then
   (Z2r t_.Dim k_).bind fun r_ =>
   some (r_.1, r_.2)
  else
   lim fun kk1 => Z5 t_ (Zc k) k_ (fun (l_1 : (List TVal)) => 
     if decide (t_.Kind = 8) then
      (at? l_1 1).bind fun x_1 =>
      (at? l_1 2).bind fun x_2 =>
      (Z8 6 x_1 x_2).bind fun r_4 =>
      if (!decide (r_4.2 = 0)) then
       Zw r_4 l_1 true
      else
       (at? l_1 0).bind fun x_4 =>
       (at? l_1 1).bind fun x_5 =>
       Zw r_4 l_1 (!decide (x_4.Kind = x_5.Kind))
     else
      (at? l_1 0).bind fun x_6 =>
      lim fun kk => Zg l_1 t_ (fun (v01 : Int) (v11 : Int) => 
        some ((⟨v01, v11⟩ : TVal), 0)) kk x_6.Kind x_6.N 1) kk1 ([] : List TVal) 0
noncomputable def Z4i (t_ : TSTerm) (k_ : TSScale) : Option (TVal × Int) :=
 lim fun kr => Zc kr t_ k_
theorem Zcf {mL : Int} (k : Nat) : Z8l mL (Zc k) := by
 induction k with
 | zero => intro t_ k_ r h; cases h
 | succ k hrec =>
 intro t_ k_ r h
 refine acalls_of_sv hmix c7 (R := Z2w r) ?_
 rw [Zc] at h
 refine ssr <| un <| a2v (v := (.c (.ref 0 4 0 0))) (h' := upd _ 0 (some (.cells 4 [(e_TSTerm t_)]))) (n' := 1) rfl rfl hcs <| un <| a2v (v := (.c (.ref 1 4 0 0))) (h' := upd _ 1 (some (.cells 4 [(e_TSScale k_)]))) (n' := 2) rfl rfl hcs <| un <| a2v (v := (.c (.ref 2 2 0 0))) (h' := upd _ 2 (some (.cells 2 [[cI 0, cI 0]]))) (n' := 3) rfl rfl hcs <| un1 rfl <| dnil <| Sv.seq <| ssr <| un1 (v := (.c (.ref 0 4 0 0))) rfl <| un1 (v := (I t_.Kind)) rfl <| un1 (v := (B (decide (t_.Kind = 1)))) rfl <| dnil ?_
 refine Sv.cnd rfl h (fun h => ?_) fun h => ?_
 ·refine ssr <| un1 (v := (.c (.ref 0 4 0 1))) rfl <| un1 (v := (.agg (e_TSDim t_.Dim))) rfl <| un1 (v := (.agg (e_TSScale k_))) rfl ?_
  obtain ⟨r_, hr1, h⟩ := bnd h
  refine un <| ac_pure (Zc4 hr1) rfl rfl rfl <| un1 (v := (.agg (e_TVal r_.1))) rfl <| un1 (v := (I r_.2)) rfl <| un <| a2n (h' := upd _ 2 (some (.cells 2 [(e_TVal r_.1)]))) (n' := 3) rfl rfl hcs <| un1 rfl <| dnil <| Sv.ret ?_
  exact rt0 h rfl rfl ⟨rfl, rfl, rfl⟩
 ·refine Sv.skip <| ssr <| un1 rfl <| dnil <| Sv.seq <| ssr <| un1 rfl <| dnil <| Sv.block ?_
  obtain ⟨kk1, h⟩ := lim_some h
  refine Sv.weak (wcn [0, 1, 2, 1000] rfl (.cf rfl rfl (.cons rfl (.c (.same rfl)) (.cr rfl rfl rfl (.cr rfl rfl rfl (.cr rfl rfl rfl .nil))))) (.non (by decide) (.box (by decide) rfl (blkAs_cells (.sm rfl (.sm rfl .nil))) (.box (by decide) rfl (blkAs_cells (.sm rfl (.sm rfl (.sm rfl (.sm rfl .nil))))) (.box (by decide) rfl (blkAs_cells (.sm rfl (.sm rfl (.sm rfl (.sm rfl .nil))))) .nil))))) (Zca (fun _ => rfl) h ?_ (fun s hs => hs) hrec)
  ·intro l_1 zl_1 hzl_1 h _ hw1
   refine Sv.weak hw1 <| Sv.seq <| ssr <| un1 (v := (.c (.ref 0 4 0 0))) rfl <| un1 (v := (I t_.Kind)) rfl <| un1 (v := (B (decide (t_.Kind = 8)))) rfl <| dnil ?_
   refine Sv.cnd rfl h (fun h => ?_) fun h => ?_
   ·refine Sv.seq <| Sv.drawn2 <| un1 rfl ?_
    obtain ⟨x_1, hx2, h⟩ := bnd h
    refine un1 (v := (.c (.ref 2 2 (1 : Int).toNat 0))) (s_iaddrL rfl rfl hzl_1 hx2) <| un1 (v := (.agg (e_TVal x_1))) (s_loadL (z := zl_1) (e := e_TVal) rfl rfl hzl_1 hx2 rfl rfl) <| un1 rfl ?_
    obtain ⟨x_2, hx3, h⟩ := bnd h
    refine un1 (v := (.c (.ref 2 2 (2 : Int).toNat 0))) (s_iaddrL rfl rfl hzl_1 hx3) <| un1 (v := (.agg (e_TVal x_2))) (s_loadL (z := zl_1) (e := e_TVal) rfl rfl hzl_1 hx3 rfl rfl) <| dnil ?_
    refine ⟨?_, ?_⟩
    ·obtain ⟨r_4, hr5, h⟩ := bnd h
     refine un <| ac_pure (Z2v hr5) rfl rfl rfl <| un1 rfl <| un1 (v := (.agg (e_TVal r_4.1))) rfl <| un1 (v := (I r_4.2)) rfl <| un <| a2v (v := (.c (.ref 3 2 0 0))) (h' := upd _ 3 (some (.cells 2 [[cI 0, cI 0]]))) (n' := 4) rfl rfl (fun _ => rfl) <| un <| a2n (h' := upd _ 3 (some (.cells 2 [(e_TVal r_4.1)]))) (n' := 4) rfl rfl hcs <| un1 rfl <| dnil <| Sv.seq <| Sv.seq <| Sv.drawn <| un1 rfl <| un1 (v := (B (!decide (r_4.2 = 0)))) rfl <| un1 rfl ?_
     refine spl h (fun h => ?_) fun h => ?_
     ·repeat (first | refine gu rfl ?_ | refine gs rfl rfl ?_)
      refine un1 (v := (B true)) rfl <| dnil ?_
      exact Sv.weak (wcn [1, 2, 3] rfl (.cf rfl rfl (.cr rfl rfl rfl (.cons rfl (.c (lsr rfl rfl)) (.cr rfl rfl rfl .nil)))) (.box (by decide) rfl (blkAs_cells (.sm rfl (.sm rfl .nil))) (.row (by decide) rfl (fr_map fun _ => rfl) (.box (by decide) rfl (blkAs_cells (.sm rfl (.sm rfl .nil))) .nil)))) (Z4h hzl_1 h)
     ·refine gt rfl <| a1 rfl ?_
      obtain ⟨x_4, hx5, h⟩ := bnd h
      refine gt rfl <| a1 (v := (.c (.ref 2 2 (0 : Int).toNat 0))) (s_iaddrL rfl rfl hzl_1 hx5) <| gt rfl <| a1 (v := (.c (.ref 2 2 (0 : Int).toNat 0))) rfl <| gt rfl <| a1 (v := (I x_4.Kind)) (s_loadL (z := zl_1) (e := e_TVal) rfl rfl hzl_1 hx5 rfl rfl) <| gt rfl <| a1 rfl ?_
      obtain ⟨x_5, hx6, h⟩ := bnd h
      refine gt rfl <| a1 (v := (.c (.ref 2 2 (1 : Int).toNat 0))) (s_iaddrL rfl rfl hzl_1 hx6) <| gt rfl <| a1 (v := (.c (.ref 2 2 (1 : Int).toNat 0))) rfl <| gt rfl <| a1 (v := (I x_5.Kind)) (s_loadL (z := zl_1) (e := e_TVal) rfl rfl hzl_1 hx6 rfl rfl) <| gt rfl <| a1 (v := (B (!decide (x_4.Kind = x_5.Kind)))) rfl <| un1 (v := (B (!decide (x_4.Kind = x_5.Kind)))) rfl <| dnil ?_
      exact Sv.weak (wcn [1, 2, 3] rfl (.cf rfl rfl (.cr rfl rfl rfl (.cons rfl (.c (lsr rfl rfl)) (.cr rfl rfl rfl .nil)))) (.box (by decide) rfl (blkAs_cells (.sm rfl (.sm rfl .nil))) (.row (by decide) rfl (fr_map fun _ => rfl) (.box (by decide) rfl (blkAs_cells (.sm rfl (.sm rfl .nil))) .nil)))) (Z4h hzl_1 h)
    ·refine un <| a2v (v := (.c (.ref 3 2 0 0))) (h' := upd _ 3 (some (.cells 2 [[cI 0, cI 0]]))) (n' := 4) rfl rfl (fun _ => rfl) ?_
     obtain ⟨r_4, hr5, h⟩ := bnd h
     refine un <| ac_pure (Z2v hr5) rfl rfl rfl <| un1 rfl <| un1 (v := (.agg (e_TVal r_4.1))) rfl <| un1 (v := (I r_4.2)) rfl <| un <| a2n (h' := upd _ 3 (some (.cells 2 [(e_TVal r_4.1)]))) (n' := 4) rfl rfl hcs <| un1 rfl <| dnil <| Sv.seq <| Sv.seq <| Sv.drawn <| un1 rfl <| un1 (v := (B (!decide (r_4.2 = 0)))) rfl <| un1 rfl ?_
     refine spl h (fun h => ?_) fun h => ?_
     ·repeat (first | refine gu rfl ?_ | refine gs rfl rfl ?_)
      refine un1 (v := (B true)) rfl <| dnil ?_
      exact Sv.weak (wcn [1, 2, 3] rfl (.cf rfl rfl (.cr rfl rfl rfl (.cons rfl (.c (lsr rfl rfl)) (.cr rfl rfl rfl .nil)))) (.box (by decide) rfl (blkAs_cells (.sm rfl (.sm rfl .nil))) (.row (by decide) rfl (fr_map fun _ => rfl) (.box (by decide) rfl (blkAs_cells (.sm rfl (.sm rfl .nil))) .nil)))) (Z4h hzl_1 h)
     ·refine gt rfl <| a1 rfl ?_
      obtain ⟨x_4, hx5, h⟩ := bnd h
      refine gt rfl <| a1 (v := (.c (.ref 2 2 (0 : Int).toNat 0))) (s_iaddrL rfl rfl hzl_1 hx5) <| gt rfl <| a1 (v := (.c (.ref 2 2 (0 : Int).toNat 0))) rfl <| gt rfl <| a1 (v := (I x_4.Kind)) (s_loadL (z := zl_1) (e := e_TVal) rfl rfl hzl_1 hx5 rfl rfl) <| gt rfl <| a1 rfl ?_
      obtain ⟨x_5, hx6, h⟩ := bnd h
      refine gt rfl <| a1 (v := (.c (.ref 2 2 (1 : Int).toNat 0))) (s_iaddrL rfl rfl hzl_1 hx6) <| gt rfl <| a1 (v := (.c (.ref 2 2 (1 : Int).toNat 0))) rfl <| gt rfl <| a1 (v := (I x_5.Kind)) (s_loadL (z := zl_1) (e := e_TVal) rfl rfl hzl_1 hx6 rfl rfl) <| gt rfl <| a1 (v := (B (!decide (x_4.Kind = x_5.Kind)))) rfl <| un1 (v := (B (!decide (x_4.Kind = x_5.Kind)))) rfl <| dnil ?_
      exact Sv.weak (wcn [1, 2, 3] rfl (.cf rfl rfl (.cr rfl rfl rfl (.cons rfl (.c (lsr rfl rfl)) (.cr rfl rfl rfl .nil)))) (.box (by decide) rfl (blkAs_cells (.sm rfl (.sm rfl .nil))) (.row (by decide) rfl (fr_map fun _ => rfl) (.box (by decide) rfl (blkAs_cells (.sm rfl (.sm rfl .nil))) .nil)))) (Z4h hzl_1 h)
   ·refine Sv.skip <| ssr <| un1 rfl ?_
    obtain ⟨x_6, hx7, h⟩ := bnd h
    refine un1 (v := (.c (.ref 2 2 (0 : Int).toNat 0))) (s_iaddrL rfl rfl hzl_1 hx7) <| un1 (v := (.agg (e_TVal x_6))) (s_loadL (z := zl_1) (e := e_TVal) rfl rfl hzl_1 hx7 rfl rfl) <| un <| a2v (v := (.c (.ref 3 2 0 0))) (h' := upd _ 3 (some (.cells 2 [[cI 0, cI 0]]))) (n' := 4) rfl rfl hcs <| un <| a2n (h' := upd _ 3 (some (.cells 2 [(e_TVal x_6)]))) (n' := 4) rfl rfl hcs <| dnil <| Sv.seq <| ssr <| un1 rfl <| dnil <| Sv.block ?_
    obtain ⟨kk, h⟩ := lim_some h
    refine Sv.weak (wcn [0, 1, 2, 3] rfl (.cf rfl rfl (.cr rfl rfl rfl (.cons rfl (.c (lsr rfl rfl)) (.cr rfl rfl rfl (.cr rfl rfl rfl .nil))))) (.box (by decide) rfl (blkAs_cells (.sm rfl (.sm rfl .nil))) (.row (by decide) rfl (fr_map fun _ => rfl) (.box (by decide) rfl (blkAs_cells (.sm rfl (.sm rfl .nil))) (.box (by decide) rfl (blkAs_cells (.sm rfl (.sm rfl (.sm rfl (.sm rfl .nil))))) .nil))))) (Zce hzl_1 h ?_ (fun s hs => hs))
    ·intro v01 v11 h _ hw2
     refine Sv.weak hw2 <| ssr <| un1 (v := (.agg [cI v01, cI v11])) rfl <| un <| a2n (h' := upd _ 0 (some (.cells 2 [[cI v01, cI v11]]))) (n' := 2) rfl rfl hcs <| un1 rfl <| dnil <| Sv.ret ?_
     exact rt0 h rfl rfl ⟨rfl, rfl, rfl⟩
theorem Zcg {mL : Int} {t_ : TSTerm} {k_ : TSScale} {r : (TVal × Int)} (h : Z4i t_ k_ = some r) : CPure Tryz.prog (GG mL) 7 [(.agg (e_TSTerm t_)), (.agg (e_TSScale k_))] (.tup [(.agg (e_TVal r.1)), (I r.2)]) := by
 unfold Z4i at h
 obtain ⟨k, h⟩ := lim_some h
 exact Zcf k t_ k_  r h
def a3 : AFunc := ⟨2, [(.tmp 4)], (sr [(oP 2 (.box (.tmp 0))), (oP 3 (.box (.tmp 1))), (oP 4 (.mov kF))]
 (sr [(oP 10 (.call 4 [])), (mV 5 10)]
 (sr [(oP 12 (.load true 4 (.tmp 2))), (oP 13 (.load true 4 (.tmp 3))), (oP 14 (.call 5 [(.tmp 12), (.tmp 13)])), (mV 11 14), (oP 15 (.ext (.tmp 11) 0)), (oP 16 (.ext (.tmp 11) 1)), (oP 6 (.box (.const (.agg [(.val (.int .i64 0)), (.val (.int .i64 0))])))), (oN (.store 2 (.tmp 6) (.tmp 15))), (mV 7 16)]
 (.seq (sr [(oP 17 (.load true 4 (.tmp 2))), (oP 18 (.call 6 [(.tmp 17)])), (oP 19 (.bin .gtr (.tmp 18) (kI 30)))]
 (.cond (.tmp 19) (sr [(mV 20 5), (mV 21 20), ⟨(some 22), (.mov (.tmp 7)), (some (21, true))⟩, ⟨(some 23), (.bin .eql (.tmp 22) (kI 3)), (some (21, true))⟩, (oP 24 (.pick (.tmp 21) (.tmp 23) kF)), (mV 25 24), ⟨(some 26), (.load true 2 (.tmp 6)), (some (25, true))⟩, ⟨(some 27), (.build [(.val (.int .i64 0)), (.val (.int .i64 0))] []), (some (25, true))⟩, ⟨(some 28), (.eqs false true [.i, .i] (.tmp 26) (.tmp 27)), (some (25, true))⟩, (oP 29 (.pick (.tmp 25) (.tmp 28) kF)), (mV 4 29)]
 .ret) .skip))
 (sr [(oP 31 (.load true 4 (.tmp 2))), (oP 32 (.load true 4 (.tmp 3))), (oP 33 (.call 7 [(.tmp 31), (.tmp 32)])), (mV 30 33), (oP 34 (.ext (.tmp 30) 0)), (oP 35 (.ext (.tmp 30) 1)), (oP 8 (.box (.const (.agg [(.val (.int .i64 0)), (.val (.int .i64 0))])))), (oN (.store 2 (.tmp 8) (.tmp 34))), (mV 9 35)]
 (sr [(mV 36 5), (mV 37 36), ⟨(some 38), (.load true 2 (.tmp 6)), (some (37, true))⟩, ⟨(some 39), (.load true 2 (.tmp 8)), (some (37, true))⟩, ⟨(some 40), (.eqs false true [.i, .i] (.tmp 38) (.tmp 39)), (some (37, true))⟩, (oP 41 (.pick (.tmp 37) (.tmp 40) kF)), (mV 42 41), ⟨(some 43), (.mov (.tmp 7)), (some (42, true))⟩, ⟨(some 44), (.mov (.tmp 9)), (some (42, true))⟩, ⟨(some 45), (.bin .eql (.tmp 43) (.tmp 44)), (some (42, true))⟩, (oP 46 (.pick (.tmp 42) (.tmp 45) kF)), (mV 4 46)]
 .ret))))))⟩
theorem c3 : compFunc Tryz.prog 3 = some a3 := by kernel_rfl
def Zch (r : Bool) : AV → Heap → Nat → Prop := fun v h' n' => v = (B r) ∧ (h' = e0) ∧ n' = 0
/-- clerestory/clerestorylaw2.CalcValues -/
noncomputable def Z4j (t_ : TSTerm) (k_ : TSScale) : Option Bool :=
 (Z4a).bind fun r_ =>
 (Z4f t_ k_).bind fun r_1 =>
 (Z4g t_).bind fun r_2 =>
 if decide (30 < r_2) then
  some ((r_ && (decide (r_1.2 = 3))) && (decide (r_1.1.Kind = 0) && (decide (r_1.1.N = 0) && true)))
 else
  (Z4i t_ k_).bind fun r_3 =>
  some ((r_ && (decide (r_1.1.Kind = r_3.1.Kind) && (decide (r_1.1.N = r_3.1.N) && true))) && (decide (r_1.2 = r_3.2)))
theorem Zci {mL : Int} {t_ : TSTerm} {k_ : TSScale} {r : Bool} (h : Z4j t_ k_ = some r) : CPure Tryz.prog (GG mL) 3 [(.agg (e_TSTerm t_)), (.agg (e_TSScale k_))] (B r) := by
 refine acalls_of_sv hmix c3 (R := Zch r) ?_
 unfold Z4j at h
 refine ssr <| un <| a2v (v := (.c (.ref 0 4 0 0))) (h' := upd _ 0 (some (.cells 4 [(e_TSTerm t_)]))) (n' := 1) rfl rfl hcs <| un <| a2v (v := (.c (.ref 1 4 0 0))) (h' := upd _ 1 (some (.cells 4 [(e_TSScale k_)]))) (n' := 2) rfl rfl hcs <| un1 rfl <| dnil <| ssr ?_
 obtain ⟨r_, hr1, h⟩ := bnd h
 refine un <| ac_pure (Zaz hr1) rfl rfl rfl <| un1 rfl <| dnil <| ssr <| un1 (v := (.agg (e_TSTerm t_))) rfl <| un1 (v := (.agg (e_TSScale k_))) rfl ?_
 obtain ⟨r_1, hr2, h⟩ := bnd h
 refine un <| ac_pure (Zbq hr2) rfl rfl rfl <| un1 rfl <| un1 (v := (.agg (e_TVal r_1.1))) rfl <| un1 (v := (I r_1.2)) rfl <| un <| a2v (v := (.c (.ref 2 2 0 0))) (h' := upd _ 2 (some (.cells 2 [[cI 0, cI 0]]))) (n' := 3) rfl rfl hcs <| un <| a2n (h' := upd _ 2 (some (.cells 2 [(e_TVal r_1.1)]))) (n' := 3) rfl rfl hcs <| un1 rfl <| dnil <| Sv.seq <| ssr <| un1 (v := (.agg (e_TSTerm t_))) rfl ?_
 obtain ⟨r_2, hr3, h⟩ := bnd h
 refine un <| ac_pure (Zbx hr3) rfl rfl rfl <| un1 (v := (B (decide (30 < r_2)))) rfl <| dnil ?_
 refine Sv.cnd rfl h (fun h => ?_) fun h => ?_
 ·refine ssr <| un1 rfl <| un1 rfl ?_
  refine gjoin 3 (d := 24) (v := (B (r_ && (decide (r_1.2 = 3))))) (fun X hX => ?_) ?_
  ·refine split2 (fun hc2 => ?_) (fun hc2 => ?_)
   ·refine gt rfl <| a1 rfl <| gt rfl <| a1 (v := (B (decide (r_1.2 = 3)))) rfl <| un1 (v := (B (decide (r_1.2 = 3)))) rfl <| dnil ?_
    exact hX _ (.putEq (by rw [hc2]; rfl) (.skp (.skp (.putEq (by rw [hc2]) (.refl _)) rfl) rfl))
   ·refine gs rfl rfl <| gs rfl rfl <| un1 (v := (B false)) rfl <| dnil ?_
    exact hX _ (.putEq (by rw [hc2]; rfl) (.skp (.skp (.putEq (by rw [hc2]) (.refl _)) rfl) rfl))
  refine un1 rfl ?_
  refine gjoin 4 (d := 29) (v := (B ((r_ && (decide (r_1.2 = 3))) && (decide (r_1.1.Kind = 0) && (decide (r_1.1.N = 0) && true))))) (fun X hX => ?_) ?_
  ·refine split2 (fun hc3 => ?_) (fun hc3 => ?_)
   ·refine gt rfl <| a1 (v := (.agg (e_TVal r_1.1))) rfl <| gt rfl <| a1 (v := (.agg [cI 0, cI 0])) rfl <| gt rfl <| a1 (v := (B (decide (r_1.1.Kind = 0) && (decide (r_1.1.N = 0) && true)))) rfl <| un1 (v := (B (decide (r_1.1.Kind = 0) && (decide (r_1.1.N = 0) && true)))) rfl <| dnil ?_
    exact hX _ (.putEq (by rw [hc3]; rfl) (.skp (.skp (.skp (.putEq (by rw [hc3]) (.refl _)) rfl) rfl) rfl))
   ·refine gs rfl rfl <| gs rfl rfl <| gs rfl rfl <| un1 (v := (B false)) rfl <| dnil ?_
    exact hX _ (.putEq (by rw [hc3]; rfl) (.skp (.skp (.skp (.putEq (by rw [hc3]) (.refl _)) rfl) rfl) rfl))
  refine un1 rfl <| dnil <| Sv.ret ?_
  exact rt0 h rfl rfl ⟨rfl, rfl, rfl⟩
 ·refine Sv.skip <| ssr <| un1 (v := (.agg (e_TSTerm t_))) rfl <| un1 (v := (.agg (e_TSScale k_))) rfl ?_
  obtain ⟨r_3, hr4, h⟩ := bnd h
  refine un <| ac_pure (Zcg hr4) rfl rfl rfl <| un1 rfl <| un1 (v := (.agg (e_TVal r_3.1))) rfl <| un1 (v := (I r_3.2)) rfl <| un <| a2v (v := (.c (.ref 3 2 0 0))) (h' := upd _ 3 (some (.cells 2 [[cI 0, cI 0]]))) (n' := 4) rfl rfl hcs <| un <| a2n (h' := upd _ 3 (some (.cells 2 [(e_TVal r_3.1)]))) (n' := 4) rfl rfl hcs <| un1 rfl <| dnil <| ssr <| un1 rfl <| un1 rfl ?_
  refine gjoin 4 (d := 41) (v := (B (r_ && (decide (r_1.1.Kind = r_3.1.Kind) && (decide (r_1.1.N = r_3.1.N) && true))))) (fun X hX => ?_) ?_
  ·refine split2 (fun hc4 => ?_) (fun hc4 => ?_)
   ·refine gt rfl <| a1 (v := (.agg (e_TVal r_1.1))) rfl <| gt rfl <| a1 (v := (.agg (e_TVal r_3.1))) rfl <| gt rfl <| a1 (v := (B (decide (r_1.1.Kind = r_3.1.Kind) && (decide (r_1.1.N = r_3.1.N) && true)))) rfl <| un1 (v := (B (decide (r_1.1.Kind = r_3.1.Kind) && (decide (r_1.1.N = r_3.1.N) && true)))) rfl <| dnil ?_
    exact hX _ (.putEq (by rw [hc4]; rfl) (.skp (.skp (.skp (.putEq (by rw [hc4]) (.refl _)) rfl) rfl) rfl))
   ·refine gs rfl rfl <| gs rfl rfl <| gs rfl rfl <| un1 (v := (B false)) rfl <| dnil ?_
    exact hX _ (.putEq (by rw [hc4]; rfl) (.skp (.skp (.skp (.putEq (by rw [hc4]) (.refl _)) rfl) rfl) rfl))
  refine un1 rfl ?_
  refine gjoin 4 (d := 46) (v := (B ((r_ && (decide (r_1.1.Kind = r_3.1.Kind) && (decide (r_1.1.N = r_3.1.N) && true))) && (decide (r_1.2 = r_3.2))))) (fun X hX => ?_) ?_
  ·refine split2 (fun hc5 => ?_) (fun hc5 => ?_)
   ·refine gt rfl <| a1 rfl <| gt rfl <| a1 rfl <| gt rfl <| a1 (v := (B (decide (r_1.2 = r_3.2)))) rfl <| un1 (v := (B (decide (r_1.2 = r_3.2)))) rfl <| dnil ?_
    exact hX _ (.putEq (by rw [hc5]; rfl) (.skp (.skp (.skp (.putEq (by rw [hc5]) (.refl _)) rfl) rfl) rfl))
   ·refine gs rfl rfl <| gs rfl rfl <| gs rfl rfl <| un1 (v := (B false)) rfl <| dnil ?_
    exact hX _ (.putEq (by rw [hc5]; rfl) (.skp (.skp (.skp (.putEq (by rw [hc5]) (.refl _)) rfl) rfl) rfl))
  refine un1 rfl <| dnil <| Sv.ret ?_
  exact rt0 h rfl rfl ⟨rfl, rfl, rfl⟩
end Go.Proofs.YtcnfmehidmjejaaGreatDoorBv
