/- Printed by a program of mine (bgen.py): plain functions, and the walks that show that the code comes to what they answer. -/
import Derived.Test.YtoomjemboekooaaRows
import Derived.Test.YtoomjemboekooaaBv40
import Derived.Test.YtoomjemboekooaaBv35
import Derived.Test.YtoomjemboekooaaSlDelOk
import Derived.Test.YtoomjemboekooaaSlDel69
import Derived.Test.YtoomjemboekooaaSlDel70
import Derived.Test.YtoomjemboekooaaSlInsOk
import Derived.Test.YtoomjemboekooaaSlInsB
import Derived.Test.YtoomjemboekooaaSlInsD
namespace Go.Proofs.YtoomjemboekooaaBv
open Go
set_option linter.unusedVariables false
set_option linter.unusedSimpArgs false
set_option maxRecDepth 100000
theorem hmix : Try.prog.follows .mixedOrders = true := by kernel_rfl
structure TJVal where
 Kind : Int
 N : Int
 S : Tx
def e_TJVal (x : TJVal) : List Cel := [cI x.Kind, cI x.N, .str x.S]
structure TJAsk where
 Do : Int
 Source : Int
 N : Int
 Call : Tx
 Arg : TJVal
def e_TJAsk (x : TJAsk) : List Cel := [cI x.Do, cI x.Source, cI x.N, .str x.Call, cI x.Arg.Kind, cI x.Arg.N, .str x.Arg.S]
structure TJJob where
 ID : Int
 Source : Int
 Small : Bool
 Call : Tx
 Arg : TJVal
def e_TJJob (x : TJJob) : List Cel := [cI x.ID, cI x.Source, cB x.Small, .str x.Call, cI x.Arg.Kind, cI x.Arg.N, .str x.Arg.S]
structure TJTimer where
 ID : Int
 At : Int
 Every : Int
 Turn : Int
 Call : Tx
def e_TJTimer (x : TJTimer) : List Cel := [cI x.ID, cI x.At, cI x.Every, cI x.Turn, .str x.Call]
structure TJLoop where
 Now : Int
 Next : Int
 Tasks : (List TJJob)
 Smalls : (List TJJob)
 Timers : (List TJTimer)
structure Tasked where
 f_q : TJLoop
 f_a : TJAsk
def a32 : AFunc := ⟨3, [(.tmp 6)], (sr [(oP 6 (.mov kF))]
 (sr [(mV 7 0), (mV 8 1), (oP 9 (.bin .geq (.tmp 7) (.tmp 8))), (mV 10 9), ⟨(some 11), (.mov (.tmp 0)), (some (10, true))⟩, ⟨(some 12), (.mov (.tmp 2)), (some (10, true))⟩, ⟨(some 13), (.bin .leq (.tmp 11) (.tmp 12)), (some (10, true))⟩, (oP 14 (.pick (.tmp 10) (.tmp 13) kF)), (mV 6 14)]
 .ret))⟩
theorem c32 : compFunc Try.prog 32 = some a32 := by kernel_rfl
def Z52 (r : Bool) : AV → Heap → Nat → Prop := fun v h' n' => v = (B r) ∧ (h' = e0) ∧ n' = 0
/-- clerestory/loop.within -/
def Z1 (n_ : Int) (low : Int) (high : Int) : Bool :=
 ((decide (low ≤ n_)) && (decide (n_ ≤ high)))
theorem Zf {Γ : Glob} (n_ : Int) (low : Int) (high : Int) : CPure Try.prog Γ 32 [(I n_), (I low), (I high)] (B (Z1 n_ low high)) := by
 generalize h : Z1 n_ low high = o
 refine acalls_of_sv hmix c32 (R := Z52 o) ?_
 unfold Z1 at h
 refine ssr <| un1 rfl <| dnil <| ssr <| un1 rfl <| un1 rfl <| un1 (v := (B (decide (low ≤ n_)))) rfl <| un1 rfl ?_
 refine gjoin 4 (d := 14) (v := (B ((decide (low ≤ n_)) && (decide (n_ ≤ high))))) (fun X hX => ?_) ?_
 ·refine split2 (fun hc1 => ?_) (fun hc1 => ?_)
  ·refine gt rfl <| a1 rfl <| gt rfl <| a1 rfl <| gt rfl <| a1 (v := (B (decide (n_ ≤ high)))) rfl <| un1 (v := (B (decide (n_ ≤ high)))) rfl <| dnil ?_
   exact hX _ (.putEq (by rw [hc1]; rfl) (.skp (.skp (.skp (.putEq (by rw [hc1]) (.refl _)) rfl) rfl) rfl))
  ·refine gs rfl rfl <| gs rfl rfl <| gs rfl rfl <| un1 (v := (B false)) rfl <| dnil ?_
   exact hX _ (.putEq (by rw [hc1]; rfl) (.skp (.skp (.skp (.putEq (by rw [hc1]) (.refl _)) rfl) rfl) rfl))
 refine un1 rfl <| dnil <| Sv.ret ?_
 subst h
 exact ⟨_, .refl _, _, rfl, ⟨upd e0 0 (some (B ((decide (low ≤ n_)) && (decide (n_ ≤ high))))), e0, 0⟩, (B ((decide (low ≤ n_)) && (decide (n_ ≤ high)))), weak_canon [] rfl ndl nll nlz (.cf rfl rfl .nil) .nil, rfl, rfl, rfl, rfl⟩
def a38_c0 : ACode := (sr [(oP 21 (.bin .lss (.tmp 20) (.tmp 19)))]
 (.seq (.cond (.tmp 21) .skip (.exit 2))
 (.seq (.block 3 (sr [(oP 22 (.iaddr 7 (.tmp 18) (.tmp 20))), (oP 23 (.load true 7 (.tmp 22))), (oP 7 (.box (.const (.agg [(.val (.int .i64 0)), (.val (.int .i64 0)), (.val (.bool false)), (.str []), (.val (.int .i64 0)), (.val (.int .i64 0)), (.str [])])))), (oN (.store 7 (.tmp 7) (.tmp 23)))]
 (.region [(mV 24 3), (oP 25 (.faddr 0 (.tmp 7))), (oP 26 (.load false 1 (.tmp 25))), (oP 27 (.bslice 1 [(.val (.int .i64 0))] 1 [(0, (.tmp 26))])), (oP 28 (.app 1 8 (.tmp 24) (.tmp 27))), (mV 3 28)])))
 (.region [(oP 29 (.bin .add (.tmp 20) (kI 1))), (mV 20 29)]))))
def a38_c1 : ACode := (sr [(oP 16 (.bin .lss (.tmp 15) (kI 2)))]
 (.seq (.cond (.tmp 16) .skip (.exit 0))
 (.seq (.block 1 (sr [(oP 17 (.idxA false 2 1 (.tmp 14) (.tmp 15))), (mV 5 17)]
 (sr [(mV 18 5), (oP 19 (.len (.tmp 18))), (oP 20 (.mov (kI 0)))]
 (.block 2 (.loop a38_c0)))))
 (.region [(oP 30 (.bin .add (.tmp 15) (kI 1))), (mV 15 30)]))))
def a38_c2 : ACode := (sr [(oP 35 (.bin .lss (.tmp 34) (.tmp 33)))]
 (.seq (.cond (.tmp 35) .skip (.exit 4))
 (.seq (.block 5 (sr [(oP 36 (.iaddr 5 (.tmp 32) (.tmp 34))), (oP 37 (.load true 5 (.tmp 36))), (oP 9 (.box (.const (.agg [(.val (.int .i64 0)), (.val (.int .i64 0)), (.val (.int .i64 0)), (.val (.int .i64 0)), (.str [])])))), (oN (.store 5 (.tmp 9) (.tmp 37)))]
 (.region [(mV 38 3), (oP 39 (.faddr 0 (.tmp 9))), (oP 40 (.load false 1 (.tmp 39))), (oP 41 (.bslice 1 [(.val (.int .i64 0))] 1 [(0, (.tmp 40))])), (oP 42 (.app 1 8 (.tmp 38) (.tmp 41))), (mV 3 42)])))
 (.region [(oP 43 (.bin .add (.tmp 34) (kI 1))), (mV 34 43)]))))
def a38 : AFunc := ⟨1, [(.tmp 2)], (sr [(oP 1 (.box (.tmp 0))), (oP 2 (.mov (.const (.c (.ro true 1 [])))))]
 (sr [(oP 3 (.mov (.const (.c (.ro true 1 [])))))]
 (.seq (sr [(oP 10 (.faddr 2 (.tmp 1))), (oP 11 (.load false 1 (.tmp 10))), (oP 12 (.faddr 3 (.tmp 1))), (oP 13 (.load false 1 (.tmp 12))), (oP 14 (.build [(.ro true 7 []), (.ro true 7 [])] [(0, (1, (.tmp 11))), (1, (1, (.tmp 13)))])), (oP 15 (.mov (kI 0)))]
 (.block 0 (.loop a38_c1)))
 (.seq (sr [(oP 31 (.faddr 4 (.tmp 1))), (oP 32 (.load false 1 (.tmp 31))), (oP 33 (.len (.tmp 32))), (oP 34 (.mov (kI 0)))]
 (.block 4 (.loop a38_c2)))
 (sr [(mV 44 3), (mV 2 44)]
 .ret)))))⟩
theorem c38 : compFunc Try.prog 38 = some a38 := by kernel_rfl
def Z1u (r : (List Int)) : AV → Heap → Nat → Prop := fun v h' n' => ∃ z0 : Bool, (z0 = true → r = []) ∧ v = (lstV z0 0 1 r.length) ∧ (h' = (upd e0 0 (lstB z0 1 (r.map eI)))) ∧ n' = 1
abbrev Z53 (q_ : TJLoop) (v15 : Int) (F_ : (List Int) → Option (List Int)) (o : (List Int)) (R_ : St → Prop) : Prop := ∀ (out3 : (List Int)) (zout3 : Bool) (_ : zout3 = true → out3 = []), F_ out3 = some o → ∀ s, Weak 0 s ⟨(ue [(15, (I v15)), (14, (.agg [.ro false 7 (q_.Tasks.map e_TJJob), .ro false 7 (q_.Smalls.map e_TJJob)])), (3, (lstV zout3 1 1 out3.length)), (1, (.c (.ref 0 5 0 0)))]), (upd (upd e0 0 (some (.cells 5 [[cI q_.Now, cI q_.Next, .ro false 7 (q_.Tasks.map e_TJJob), .ro false 7 (q_.Smalls.map e_TJJob), .ro false 5 (q_.Timers.map e_TJTimer)]]))) 1 (lstB zout3 1 (out3.map eI))), 2⟩ → R_ s
abbrev Z36 (q_ : TJLoop) (v15 : Int) (x_ : (List TJJob)) (F_ : Nat → (List Int) → Int → Option (List Int)) (o : (List Int)) : Nat → St → Prop := fun k s => ∃ (out2 : (List Int)), ∃ (v20 : Int), ∃ (zout2 : Bool), (zout2 = true → out2 = []) ∧ F_ k out2 v20 = some o ∧ s = ⟨(ue [(20, (I v20)), (19, (I (x_.length : Int))), (18, (.c (.ro false 7 (x_.map e_TJJob)))), (15, (I v15)), (14, (.agg [.ro false 7 (q_.Tasks.map e_TJJob), .ro false 7 (q_.Smalls.map e_TJJob)])), (3, (lstV zout2 1 1 out2.length)), (1, (.c (.ref 0 5 0 0)))]), (upd (upd e0 0 (some (.cells 5 [[cI q_.Now, cI q_.Next, .ro false 7 (q_.Tasks.map e_TJJob), .ro false 7 (q_.Smalls.map e_TJJob), .ro false 5 (q_.Timers.map e_TJTimer)]]))) 1 (lstB zout2 1 (out2.map eI))), 2⟩
abbrev Z54 (q_ : TJLoop) (v15 : Int) (x_ : (List TJJob)) (F_ : (List Int) → Int → Option (List Int)) (o : (List Int)) (R_ : St → Prop) : Prop := ∀ (out2 : (List Int)) (v20 : Int) (zout2 : Bool) (_ : zout2 = true → out2 = []), F_ out2 v20 = some o → ∀ s, Weak 0 s ⟨(ue [(20, (I v20)), (19, (I (x_.length : Int))), (18, (.c (.ro false 7 (x_.map e_TJJob)))), (15, (I v15)), (14, (.agg [.ro false 7 (q_.Tasks.map e_TJJob), .ro false 7 (q_.Smalls.map e_TJJob)])), (3, (lstV zout2 1 1 out2.length)), (1, (.c (.ref 0 5 0 0)))]), (upd (upd e0 0 (some (.cells 5 [[cI q_.Now, cI q_.Next, .ro false 7 (q_.Tasks.map e_TJJob), .ro false 7 (q_.Smalls.map e_TJJob), .ro false 5 (q_.Timers.map e_TJTimer)]]))) 1 (lstB zout2 1 (out2.map eI))), 2⟩ → R_ s
noncomputable def Zi (x_ : (List TJJob)) (q_ : TJLoop) (v15 : Int) (K2_ : (List Int) → Option (List Int)) : Nat → (List Int) → Int → Option (List Int)
 | 0, _, _ => none
 | k + 1, out2, v20 =>
  if decide (v20 < (x_.length : Int)) then
   (at? x_ v20).bind fun x_1 =>
   (app? 8 out2 [x_1.ID]).bind fun r_ =>
   (Zi x_ q_ v15 K2_ k) r_ (wi (v20 + 1))
  else
   K2_ out2
theorem Z55 {Γ : Glob} {Q : AExit → St → Prop} {x_ : (List TJJob)} {q_ : TJLoop} {v15 : Int} {K2_ : (List Int) → Option (List Int)} {k : Nat} {out2 : (List Int)} {v20 : Int} {zout2 : Bool} (hzout2 : zout2 = true → out2 = []) {o : (List Int)} (h : Zi x_ q_ v15 K2_ k out2 v20 = some o)
  (hK2 : Z53 q_ v15 K2_ o (Q (.exit 2)))
  (hr : ∀ s, Ends a38.results 0 (Z1u o) .ret s → Q .ret s) :
  Sv Try.prog Γ 0 (.loop a38_c0) Q ⟨(ue [(20, (I v20)), (19, (I (x_.length : Int))), (18, (.c (.ro false 7 (x_.map e_TJJob)))), (15, (I v15)), (14, (.agg [.ro false 7 (q_.Tasks.map e_TJJob), .ro false 7 (q_.Smalls.map e_TJJob)])), (3, (lstV zout2 1 1 out2.length)), (1, (.c (.ref 0 5 0 0)))]), (upd (upd e0 0 (some (.cells 5 [[cI q_.Now, cI q_.Next, .ro false 7 (q_.Tasks.map e_TJJob), .ro false 7 (q_.Smalls.map e_TJJob), .ro false 5 (q_.Timers.map e_TJTimer)]]))) 1 (lstB zout2 1 (out2.map eI))), 2⟩ := by
 refine Sv.loop (I := Z36 q_ v15 x_ (Zi x_ q_ v15 K2_) o) (fun k s hI => ?_) ⟨out2, v20, zout2, hzout2, h, rfl⟩
 clear h
 clear hzout2 zout2 v20 out2
 obtain ⟨out2, v20, zout2, hzout2, h, rfl⟩ := hI
 cases k with
 | zero => cases h
 | succ k =>
 rw [Zi] at h
 have hself : Z54 q_ v15 x_ (Zi x_ q_ v15 K2_ k) o (rnd 0 (Z36 q_ v15 x_ (Zi x_ q_ v15 K2_) o) k Q) := fun out2 v20 zout2 hzout2 h s hw => ⟨_, k, hw, Nat.lt_succ_self k, out2, v20, zout2, hzout2, h, rfl⟩
 refine ssr <| un1 (v := (B (decide (v20 < (x_.length : Int))))) rfl <| dnil <| Sv.seq ?_
 refine Sv.cnd rfl h (fun h => ?_) fun h => ?_
 ·refine Sv.skip <| Sv.seq <| Sv.block <| ssr ?_
  obtain ⟨x_1, hx2, h⟩ := bnd h
  refine un1 (v := (.c (.rop (e_TJJob x_1)))) (s_iaddr (e := e_TJJob) (xs := x_) rfl rfl hx2) <| un1 (v := (.agg (e_TJJob x_1))) rfl <| un <| a2v (v := (.c (.ref 2 7 0 0))) (h' := upd _ 2 (some (.cells 7 [[cI 0, cI 0, cB false, .str [], cI 0, cI 0, .str []]]))) (n' := 3) rfl rfl hcs <| un <| a2n (h' := upd _ 2 (some (.cells 7 [(e_TJJob x_1)]))) (n' := 3) rfl rfl hcs <| dnil <| srg <| un1 rfl <| un1 (v := (.c (.ref 2 7 0 0))) rfl <| un1 (v := (I x_1.ID)) rfl <| un <| a2v (v := (lstV false 3 1 [x_1.ID].length)) (h' := upd _ 3 (lstB false 1 ([x_1.ID].map eI))) (n' := 4) rfl rfl hcs ?_
  obtain ⟨r_, hr1, h⟩ := bnd h
  have hz1 : (zout2 && [x_1.ID].isEmpty) = true → r_ = [] := app_nil (z := zout2) (ys := [x_1.ID]) hzout2 hr1
  refine un <| a2v rfl (s_app (xs := out2) (ys := [x_1.ID]) (e := eI) (z := zout2) (b := 1) rfl rfl hzout2 rfl rfl (slc_lst rfl (List.length_map _).symm (map_nil_of hcs)) hr1) hcs <| un1 rfl <| dnil <| srg <| un1 (v := (I (wi (v20 + 1)))) rfl <| un1 rfl <| dnil ?_
  exact hself r_ (wi (v20 + 1)) (zout2 && [x_1.ID].isEmpty) hz1 h _ (wcn [0, 4] rfl (.cf rfl rfl (.cf rfl rfl (.cf rfl rfl (.cf rfl rfl (.cf rfl rfl (.cons rfl (.c (lsr rfl rfl)) (.cr rfl rfl rfl .nil))))))) (.row (by decide) rfl (fr_map fun _ => rfl) (.box (by decide) rfl (blkAs_cells (.sm rfl (.sm rfl (.sm rfl (.sm rfl (.sm rfl .nil)))))) .nil)))
 ·refine Sv.exit ?_
  exact hK2 out2 zout2 hzout2 h _ (wcn [0, 1] rfl (.cf rfl rfl (.cf rfl rfl (.cons rfl (.c (lsr rfl rfl)) (.cr rfl rfl rfl .nil)))) (.row (by decide) rfl (fr_map fun _ => rfl) (.box (by decide) rfl (blkAs_cells (.sm rfl (.sm rfl (.sm rfl (.sm rfl (.sm rfl .nil)))))) .nil)))
abbrev Z56 (q_ : TJLoop) (F_ : (List Int) → Option (List Int)) (o : (List Int)) (R_ : St → Prop) : Prop := ∀ (out1 : (List Int)) (zout1 : Bool) (_ : zout1 = true → out1 = []), F_ out1 = some o → ∀ s, Weak 0 s ⟨(ue [(3, (lstV zout1 1 1 out1.length)), (1, (.c (.ref 0 5 0 0)))]), (upd (upd e0 0 (some (.cells 5 [[cI q_.Now, cI q_.Next, .ro false 7 (q_.Tasks.map e_TJJob), .ro false 7 (q_.Smalls.map e_TJJob), .ro false 5 (q_.Timers.map e_TJTimer)]]))) 1 (lstB zout1 1 (out1.map eI))), 2⟩ → R_ s
abbrev Z37 (q_ : TJLoop) (F_ : Nat → (List Int) → Int → Option (List Int)) (o : (List Int)) : Nat → St → Prop := fun k s => ∃ (out : (List Int)), ∃ (v15 : Int), ∃ (zout : Bool), (zout = true → out = []) ∧ F_ k out v15 = some o ∧ s = ⟨(ue [(15, (I v15)), (14, (.agg [.ro false 7 (q_.Tasks.map e_TJJob), .ro false 7 (q_.Smalls.map e_TJJob)])), (3, (lstV zout 1 1 out.length)), (1, (.c (.ref 0 5 0 0)))]), (upd (upd e0 0 (some (.cells 5 [[cI q_.Now, cI q_.Next, .ro false 7 (q_.Tasks.map e_TJJob), .ro false 7 (q_.Smalls.map e_TJJob), .ro false 5 (q_.Timers.map e_TJTimer)]]))) 1 (lstB zout 1 (out.map eI))), 2⟩
abbrev Z57 (q_ : TJLoop) (F_ : (List Int) → Int → Option (List Int)) (o : (List Int)) (R_ : St → Prop) : Prop := ∀ (out : (List Int)) (v15 : Int) (zout : Bool) (_ : zout = true → out = []), F_ out v15 = some o → ∀ s, Weak 0 s ⟨(ue [(15, (I v15)), (14, (.agg [.ro false 7 (q_.Tasks.map e_TJJob), .ro false 7 (q_.Smalls.map e_TJJob)])), (3, (lstV zout 1 1 out.length)), (1, (.c (.ref 0 5 0 0)))]), (upd (upd e0 0 (some (.cells 5 [[cI q_.Now, cI q_.Next, .ro false 7 (q_.Tasks.map e_TJJob), .ro false 7 (q_.Smalls.map e_TJJob), .ro false 5 (q_.Timers.map e_TJTimer)]]))) 1 (lstB zout 1 (out.map eI))), 2⟩ → R_ s
noncomputable def Zr (q_ : TJLoop) (K0_ : (List Int) → Option (List Int)) : Nat → (List Int) → Int → Option (List Int)
 | 0, _, _ => none
 | k + 1, out, v15 =>
  if decide (v15 < 2) then
   (at? [q_.Tasks, q_.Smalls] v15).bind fun x_ =>
   lim fun kk => Zi x_ q_ v15 (fun (out3 : (List Int)) => 
     (Zr q_ K0_ k) out3 (wi (v15 + 1))) kk out 0
  else
   K0_ out
theorem Z58 {Γ : Glob} {Q : AExit → St → Prop} {q_ : TJLoop} {K0_ : (List Int) → Option (List Int)} {k : Nat} {out : (List Int)} {v15 : Int} {zout : Bool} (hzout : zout = true → out = []) {o : (List Int)} (h : Zr q_ K0_ k out v15 = some o)
  (hK0 : Z56 q_ K0_ o (Q (.exit 0)))
  (hr : ∀ s, Ends a38.results 0 (Z1u o) .ret s → Q .ret s) :
  Sv Try.prog Γ 0 (.loop a38_c1) Q ⟨(ue [(15, (I v15)), (14, (.agg [.ro false 7 (q_.Tasks.map e_TJJob), .ro false 7 (q_.Smalls.map e_TJJob)])), (3, (lstV zout 1 1 out.length)), (1, (.c (.ref 0 5 0 0)))]), (upd (upd e0 0 (some (.cells 5 [[cI q_.Now, cI q_.Next, .ro false 7 (q_.Tasks.map e_TJJob), .ro false 7 (q_.Smalls.map e_TJJob), .ro false 5 (q_.Timers.map e_TJTimer)]]))) 1 (lstB zout 1 (out.map eI))), 2⟩ := by
 refine Sv.loop (I := Z37 q_ (Zr q_ K0_) o) (fun k s hI => ?_) ⟨out, v15, zout, hzout, h, rfl⟩
 clear h
 clear hzout zout v15 out
 obtain ⟨out, v15, zout, hzout, h, rfl⟩ := hI
 cases k with
 | zero => cases h
 | succ k =>
 rw [Zr] at h
 have hself : Z57 q_ (Zr q_ K0_ k) o (rnd 0 (Z37 q_ (Zr q_ K0_) o) k Q) := fun out v15 zout hzout h s hw => ⟨_, k, hw, Nat.lt_succ_self k, out, v15, zout, hzout, h, rfl⟩
 refine ssr <| un1 (v := (B (decide (v15 < 2)))) rfl <| dnil <| Sv.seq ?_
 refine Sv.cnd rfl h (fun h => ?_) fun h => ?_
 ·refine Sv.skip <| Sv.seq <| Sv.block <| ssr ?_
  obtain ⟨x_, hx1, h⟩ := bnd h
  refine un1 (v := (.c (.ro false 7 (x_.map e_TJJob)))) (s_idxA (L := [q_.Tasks, q_.Smalls]) (v := fun q => (.c (.ro false 7 (q.map e_TJJob)))) rfl rfl rfl (.cons rfl (.cons rfl .nil)) hx1) <| un1 rfl <| dnil <| ssr <| un1 rfl <| un1 (v := (I (x_.length : Int))) (s_len (e := e_TJJob) (xs := x_) rfl) <| un1 rfl <| dnil <| Sv.block ?_
  obtain ⟨kk, h⟩ := lim_some h
  refine Sv.weak (wcn [0, 1] rfl (.cf rfl rfl (.cf rfl rfl (.cf rfl rfl (.cf rfl rfl (.cf rfl rfl (.cons rfl (.c (lsr rfl rfl)) (.cr rfl rfl rfl .nil))))))) (.row (by decide) rfl (fr_map fun _ => rfl) (.box (by decide) rfl (blkAs_cells (.sm rfl (.sm rfl (.sm rfl (.sm rfl (.sm rfl .nil)))))) .nil))) (Z55 hzout h ?_ hr)
  ·intro out3 zout3 hzout3 h _ hw1
   refine Sv.weak hw1 <| srg <| un1 (v := (I (wi (v15 + 1)))) rfl <| un1 rfl <| dnil ?_
   exact hself out3 (wi (v15 + 1)) zout3 hzout3 h _ (wcn [0, 1] rfl (.cf rfl rfl (.cf rfl rfl (.cons rfl (.c (lsr rfl rfl)) (.cr rfl rfl rfl .nil)))) (.row (by decide) rfl (fr_map fun _ => rfl) (.box (by decide) rfl (blkAs_cells (.sm rfl (.sm rfl (.sm rfl (.sm rfl (.sm rfl .nil)))))) .nil)))
 ·refine Sv.exit ?_
  exact hK0 out zout hzout h _ (wcn [0, 1] rfl (.cons rfl (.c (lsr rfl rfl)) (.cr rfl rfl rfl .nil)) (.row (by decide) rfl (fr_map fun _ => rfl) (.box (by decide) rfl (blkAs_cells (.sm rfl (.sm rfl (.sm rfl (.sm rfl (.sm rfl .nil)))))) .nil)))
abbrev Z59 (F_ : (List Int) → Option (List Int)) (o : (List Int)) (R_ : St → Prop) : Prop := ∀ (out5 : (List Int)) (zout5 : Bool) (_ : zout5 = true → out5 = []), F_ out5 = some o → ∀ s, Weak 0 s ⟨(upd e0 3 (some (lstV zout5 0 1 out5.length))), (upd e0 0 (lstB zout5 1 (out5.map eI))), 1⟩ → R_ s
abbrev Z38 (q_ : TJLoop) (F_ : Nat → (List Int) → Int → Option (List Int)) (o : (List Int)) : Nat → St → Prop := fun k s => ∃ (out4 : (List Int)), ∃ (v34 : Int), ∃ (zout4 : Bool), (zout4 = true → out4 = []) ∧ F_ k out4 v34 = some o ∧ s = ⟨(ue [(34, (I v34)), (33, (I (q_.Timers.length : Int))), (32, (.c (.ro false 5 (q_.Timers.map e_TJTimer)))), (3, (lstV zout4 0 1 out4.length))]), (upd e0 0 (lstB zout4 1 (out4.map eI))), 1⟩
abbrev Z5a (q_ : TJLoop) (F_ : (List Int) → Int → Option (List Int)) (o : (List Int)) (R_ : St → Prop) : Prop := ∀ (out4 : (List Int)) (v34 : Int) (zout4 : Bool) (_ : zout4 = true → out4 = []), F_ out4 v34 = some o → ∀ s, Weak 0 s ⟨(ue [(34, (I v34)), (33, (I (q_.Timers.length : Int))), (32, (.c (.ro false 5 (q_.Timers.map e_TJTimer)))), (3, (lstV zout4 0 1 out4.length))]), (upd e0 0 (lstB zout4 1 (out4.map eI))), 1⟩ → R_ s
noncomputable def Zj (q_ : TJLoop) (K4_ : (List Int) → Option (List Int)) : Nat → (List Int) → Int → Option (List Int)
 | 0, _, _ => none
 | k + 1, out4, v34 =>
  if decide (v34 < (q_.Timers.length : Int)) then
   (at? q_.Timers v34).bind fun x_2 =>
   (app? 8 out4 [x_2.ID]).bind fun r_1 =>
   (Zj q_ K4_ k) r_1 (wi (v34 + 1))
  else
   K4_ out4
theorem Z5b {Γ : Glob} {Q : AExit → St → Prop} {q_ : TJLoop} {K4_ : (List Int) → Option (List Int)} {k : Nat} {out4 : (List Int)} {v34 : Int} {zout4 : Bool} (hzout4 : zout4 = true → out4 = []) {o : (List Int)} (h : Zj q_ K4_ k out4 v34 = some o)
  (hK4 : Z59 K4_ o (Q (.exit 4)))
  (hr : ∀ s, Ends a38.results 0 (Z1u o) .ret s → Q .ret s) :
  Sv Try.prog Γ 0 (.loop a38_c2) Q ⟨(ue [(34, (I v34)), (33, (I (q_.Timers.length : Int))), (32, (.c (.ro false 5 (q_.Timers.map e_TJTimer)))), (3, (lstV zout4 0 1 out4.length))]), (upd e0 0 (lstB zout4 1 (out4.map eI))), 1⟩ := by
 refine Sv.loop (I := Z38 q_ (Zj q_ K4_) o) (fun k s hI => ?_) ⟨out4, v34, zout4, hzout4, h, rfl⟩
 clear h
 clear hzout4 zout4 v34 out4
 obtain ⟨out4, v34, zout4, hzout4, h, rfl⟩ := hI
 cases k with
 | zero => cases h
 | succ k =>
 rw [Zj] at h
 have hself : Z5a q_ (Zj q_ K4_ k) o (rnd 0 (Z38 q_ (Zj q_ K4_) o) k Q) := fun out4 v34 zout4 hzout4 h s hw => ⟨_, k, hw, Nat.lt_succ_self k, out4, v34, zout4, hzout4, h, rfl⟩
 refine ssr <| un1 (v := (B (decide (v34 < (q_.Timers.length : Int))))) rfl <| dnil <| Sv.seq ?_
 refine Sv.cnd rfl h (fun h => ?_) fun h => ?_
 ·refine Sv.skip <| Sv.seq <| Sv.block <| ssr ?_
  obtain ⟨x_2, hx3, h⟩ := bnd h
  refine un1 (v := (.c (.rop (e_TJTimer x_2)))) (s_iaddr (e := e_TJTimer) (xs := q_.Timers) rfl rfl hx3) <| un1 (v := (.agg (e_TJTimer x_2))) rfl <| un <| a2v (v := (.c (.ref 1 5 0 0))) (h' := upd _ 1 (some (.cells 5 [[cI 0, cI 0, cI 0, cI 0, .str []]]))) (n' := 2) rfl rfl hcs <| un <| a2n (h' := upd _ 1 (some (.cells 5 [(e_TJTimer x_2)]))) (n' := 2) rfl rfl hcs <| dnil <| srg <| un1 rfl <| un1 (v := (.c (.ref 1 5 0 0))) rfl <| un1 (v := (I x_2.ID)) rfl <| un <| a2v (v := (lstV false 2 1 [x_2.ID].length)) (h' := upd _ 2 (lstB false 1 ([x_2.ID].map eI))) (n' := 3) rfl rfl hcs ?_
  obtain ⟨r_1, hr2, h⟩ := bnd h
  have hz2 : (zout4 && [x_2.ID].isEmpty) = true → r_1 = [] := app_nil (z := zout4) (ys := [x_2.ID]) hzout4 hr2
  refine un <| a2v rfl (s_app (xs := out4) (ys := [x_2.ID]) (e := eI) (z := zout4) (b := 0) rfl rfl hzout4 rfl rfl (slc_lst rfl (List.length_map _).symm (map_nil_of hcs)) hr2) hcs <| un1 rfl <| dnil <| srg <| un1 (v := (I (wi (v34 + 1)))) rfl <| un1 rfl <| dnil ?_
  exact hself r_1 (wi (v34 + 1)) (zout4 && [x_2.ID].isEmpty) hz2 h _ (wcn [3] rfl (.cf rfl rfl (.cf rfl rfl (.cf rfl rfl (.cons rfl (.c (lsr rfl rfl)) .nil)))) (.row (by decide) rfl (fr_map fun _ => rfl) .nil))
 ·refine Sv.exit ?_
  exact hK4 out4 zout4 hzout4 h _ (wcn [0] rfl (.cons rfl (.c (lsr rfl rfl)) .nil) (.row (by decide) rfl (fr_map fun _ => rfl) .nil))
/-- clerestory/loop.numbers -/
noncomputable def Z1v (q_ : TJLoop) : Option (List Int) :=
 lim fun kk2 => Zr q_ (fun (out1 : (List Int)) => 
   lim fun kk1 => Zj q_ (fun (out5 : (List Int)) => 
     some out5) kk1 out1 0) kk2 ([] : List Int) 0
theorem Z5c {Γ : Glob} {q_ : TJLoop} {r : (List Int)} (h : Z1v q_ = some r) : ACalls Try.prog Γ 38 [(.agg [cI q_.Now, cI q_.Next, .ro false 7 (q_.Tasks.map e_TJJob), .ro false 7 (q_.Smalls.map e_TJJob), .ro false 5 (q_.Timers.map e_TJTimer)])] e0 0 (Z1u r) := by
 refine acalls_of_sv hmix c38 (R := Z1u r) ?_
 unfold Z1v at h
 refine ssr <| un <| a2v (v := (.c (.ref 0 5 0 0))) (h' := upd _ 0 (some (.cells 5 [[cI q_.Now, cI q_.Next, .ro false 7 (q_.Tasks.map e_TJJob), .ro false 7 (q_.Smalls.map e_TJJob), .ro false 5 (q_.Timers.map e_TJTimer)]]))) (n' := 1) rfl rfl hcs <| un1 rfl <| dnil <| ssr <| un1 rfl <| dnil <| Sv.seq <| ssr <| un1 (v := (.c (.ref 0 5 0 2))) rfl <| un1 (v := (.c (.ro false 7 (q_.Tasks.map e_TJJob)))) rfl <| un1 (v := (.c (.ref 0 5 0 3))) rfl <| un1 (v := (.c (.ro false 7 (q_.Smalls.map e_TJJob)))) rfl <| un1 (v := (.agg [.ro false 7 (q_.Tasks.map e_TJJob), .ro false 7 (q_.Smalls.map e_TJJob)])) rfl <| un1 rfl <| dnil <| Sv.block ?_
 obtain ⟨kk2, h⟩ := lim_some h
 refine Sv.weak (wcn [0, 1000] rfl (.cf rfl rfl (.cf rfl rfl (.cons rfl (.c (.same rfl)) (.cr rfl rfl rfl .nil)))) (.non (by decide) (.box (by decide) rfl (blkAs_cells (.sm rfl (.sm rfl (.sm rfl (.sm rfl (.sm rfl .nil)))))) .nil))) (Z58 (fun _ => rfl) h ?_ (fun s hs => hs))
 ·intro out1 zout1 hzout1 h _ hw2
  refine Sv.weak hw2 <| Sv.seq <| ssr <| un1 (v := (.c (.ref 0 5 0 4))) rfl <| un1 (v := (.c (.ro false 5 (q_.Timers.map e_TJTimer)))) rfl <| un1 (v := (I (q_.Timers.length : Int))) (s_len (e := e_TJTimer) (xs := q_.Timers) rfl) <| un1 rfl <| dnil <| Sv.block ?_
  obtain ⟨kk1, h⟩ := lim_some h
  refine Sv.weak (wcn [1] rfl (.cf rfl rfl (.cf rfl rfl (.cf rfl rfl (.cons rfl (.c (lsr rfl rfl)) .nil)))) (.row (by decide) rfl (fr_map fun _ => rfl) .nil)) (Z5b hzout1 h ?_ (fun s hs => hs))
  ·intro out5 zout5 hzout5 h _ hw3
   refine Sv.weak hw3 <| ssr <| un1 rfl <| un1 rfl <| dnil <| Sv.ret ?_
   replace h := Option.some.inj h
   subst h
   exact ⟨_, .refl _, _, rfl, ⟨upd e0 0 (some (lstV zout5 0 1 out5.length)), (upd e0 0 (lstB zout5 1 (out5.map eI))), 1⟩, (lstV zout5 0 1 out5.length), weak_canon2 [0] [0] (by decide) (by decide) nlz (.cons (by decide) .nil) (.cons rfl (.c (lsr rfl rfl)) .nil) (.row (by decide) rfl (fr_map fun _ => rfl) .nil), rfl, zout5, hzout5, rfl, rfl, rfl⟩
def a40 : AFunc := ⟨1, [(.tmp 2)], (sr [(oP 1 (.box (.tmp 0))), (oP 2 (.mov kF))]
 (sr [(oP 3 (.faddr 2 (.tmp 1))), (oP 4 (.load false 1 (.tmp 3))), (mV 5 4), ⟨(some 6), (.faddr 1 (.tmp 1)), (some (5, false))⟩, ⟨(some 7), (.load false 1 (.tmp 6)), (some (5, false))⟩, ⟨(some 8), (.call 32 [(.tmp 7), (kI 1), (kI 4)]), (some (5, false))⟩, ⟨(some 9), (.un .not (.tmp 8)), (some (5, false))⟩, (oP 10 (.pick (.tmp 5) kT (.tmp 9))), (mV 2 10)]
 .ret))⟩
theorem c40 : compFunc Try.prog 40 = some a40 := by kernel_rfl
def Z5d (r : Bool) : AV → Heap → Nat → Prop := fun v h' n' => v = (B r) ∧ (h' = e0) ∧ n' = 0
/-- clerestory/loop.Check$1 -/
def Z15 (j_ : TJJob) : Bool :=
 (j_.Small || (!(Z1 j_.Source 1 4)))
theorem Z5e {Γ : Glob} (j_ : TJJob) : CPure Try.prog Γ 40 [(.agg (e_TJJob j_))] (B (Z15 j_)) := by
 generalize h : Z15 j_ = o
 refine acalls_of_sv hmix c40 (R := Z5d o) ?_
 unfold Z15 at h
 refine ssr <| un <| a2v (v := (.c (.ref 0 7 0 0))) (h' := upd _ 0 (some (.cells 7 [(e_TJJob j_)]))) (n' := 1) rfl rfl hcs <| un1 rfl <| dnil <| ssr <| un1 (v := (.c (.ref 0 7 0 2))) rfl <| un1 (v := (B j_.Small)) rfl <| un1 rfl ?_
 refine gjoin 5 (d := 10) (v := (B (j_.Small || (!(Z1 j_.Source 1 4))))) (fun X hX => ?_) ?_
 ·refine split2 (fun hc1 => ?_) (fun hc1 => ?_)
  ·refine gs rfl rfl <| gs rfl rfl <| gs rfl rfl <| gs rfl rfl <| un1 (v := (B true)) rfl <| dnil ?_
   exact hX _ (.putEq (by rw [hc1]; rfl) (.skp (.skp (.skp (.skp (.putEq (by rw [hc1]) (.refl _)) rfl) rfl) rfl) rfl))
  ·refine gt rfl <| a1 (v := (.c (.ref 0 7 0 1))) rfl <| gt rfl <| a1 (v := (I j_.Source)) rfl <| gt rfl <| ac_pure (Zf (Γ := Γ) j_.Source 1 4) rfl rfl rfl <| gt rfl <| a1 (v := (B (!(Z1 j_.Source 1 4)))) rfl <| un1 (v := (B (!(Z1 j_.Source 1 4)))) rfl <| dnil ?_
   exact hX _ (.putEq (by rw [hc1]; rfl) (.skp (.skp (.skp (.skp (.putEq (by rw [hc1]) (.refl _)) rfl) rfl) rfl) rfl))
 refine un1 rfl <| dnil <| Sv.ret ?_
 subst h
 exact ⟨_, .refl _, _, rfl, ⟨upd e0 0 (some (B (j_.Small || (!(Z1 j_.Source 1 4))))), e0, 0⟩, (B (j_.Small || (!(Z1 j_.Source 1 4)))), weak_canon [] rfl ndl nll nlz (.cf rfl rfl .nil) .nil, rfl, rfl, rfl, rfl⟩
def a73_c0 : ACode := (sr [(oP 9 (.bin .lss (.tmp 8) (.tmp 7)))]
 (.seq (.cond (.tmp 9) .skip (.exit 0))
 (.seq (.block 1 (sr [(mV 10 8), (mV 5 10)]
 (sr [(mV 11 1), (mV 12 0), (mV 13 5), (oP 14 (.iaddr 7 (.tmp 12) (.tmp 13))), (oP 15 (.load true 7 (.tmp 14))), (oP 16 (.callv (.tmp 11) [(.tmp 15)]))]
 (.cond (.tmp 16) (sr [(mV 17 5), (mV 4 17)]
 .ret) .skip))))
 (.region [(oP 18 (.bin .add (.tmp 8) (kI 1))), (mV 8 18)]))))
def a73 : AFunc := ⟨2, [(.tmp 4)], (sr [(oP 4 (.mov (kI 0)))]
 (.seq (sr [(mV 6 0), (oP 7 (.len (.tmp 6))), (oP 8 (.mov (kI 0)))]
 (.block 0 (.loop a73_c0)))
 (sr [(oP 4 (.mov (.const (.c (.val (.int .i64 (-1)))))))]
 .ret)))⟩
theorem c73 : compFunc Try.prog 73 = some a73 := by kernel_rfl
def Z39 (r : Int) : AV → Heap → Nat → Prop := fun v h' n' => v = (I r) ∧ (h' = e0) ∧ n' = 0
abbrev Z5f (F_ : Unit → Option Int) (o : Int) (R_ : St → Prop) : Prop := ∀ (_ : Unit), F_ () = some o → ∀ s, Weak 0 s ⟨e0, e0, 0⟩ → R_ s
abbrev Z3a (s_ : (List TJJob)) (F_ : Nat → Int → Option Int) (o : Int) : Nat → St → Prop := fun k s => ∃ (v8 : Int), F_ k v8 = some o ∧ s = ⟨(ue [(8, (I v8)), (7, (I (s_.length : Int))), (1, (.c (.fn (.func 40) [] []))), (0, (.c (.ro false 7 (s_.map e_TJJob))))]), e0, 0⟩
abbrev Z5g (s_ : (List TJJob)) (F_ : Int → Option Int) (o : Int) (R_ : St → Prop) : Prop := ∀ (v8 : Int), F_ v8 = some o → ∀ s, Weak 0 s ⟨(ue [(8, (I v8)), (7, (I (s_.length : Int))), (1, (.c (.fn (.func 40) [] []))), (0, (.c (.ro false 7 (s_.map e_TJJob))))]), e0, 0⟩ → R_ s
noncomputable def Zk (s_ : (List TJJob)) (K0_ : Unit → Option Int) : Nat → Int → Option Int
 | 0, _ => none
 | k + 1, v8 =>
  if decide (v8 < (s_.length : Int)) then
   (at? s_ v8).bind fun x_ =>
   if (Z15 x_) then
    some v8
   else
    (Zk s_ K0_ k) (wi (v8 + 1))
  else
   K0_ ()
theorem Z5h {Γ : Glob} {Q : AExit → St → Prop} {s_ : (List TJJob)} {K0_ : Unit → Option Int} {k : Nat} {v8 : Int} {o : Int} (h : Zk s_ K0_ k v8 = some o)
  (hK0 : Z5f K0_ o (Q (.exit 0)))
  (hr : ∀ s, Ends a73.results 0 (Z39 o) .ret s → Q .ret s) :
  Sv Try.prog Γ 0 (.loop a73_c0) Q ⟨(ue [(8, (I v8)), (7, (I (s_.length : Int))), (1, (.c (.fn (.func 40) [] []))), (0, (.c (.ro false 7 (s_.map e_TJJob))))]), e0, 0⟩ := by
 refine Sv.loop (I := Z3a s_ (Zk s_ K0_) o) (fun k s hI => ?_) ⟨v8, h, rfl⟩
 clear h
 clear v8
 obtain ⟨v8, h, rfl⟩ := hI
 cases k with
 | zero => cases h
 | succ k =>
 rw [Zk] at h
 have hself : Z5g s_ (Zk s_ K0_ k) o (rnd 0 (Z3a s_ (Zk s_ K0_) o) k Q) := fun v8 h s hw => ⟨_, k, hw, Nat.lt_succ_self k, v8, h, rfl⟩
 refine ssr <| un1 (v := (B (decide (v8 < (s_.length : Int))))) rfl <| dnil <| Sv.seq ?_
 refine Sv.cnd rfl h (fun h => ?_) fun h => ?_
 ·refine Sv.skip <| Sv.seq <| Sv.block <| ssr <| un1 rfl <| un1 rfl <| dnil <| ssr <| un1 rfl <| un1 rfl <| un1 rfl ?_
  obtain ⟨x_, hx1, h⟩ := bnd h
  refine un1 (v := (.c (.rop (e_TJJob x_)))) (s_iaddr (e := e_TJJob) (xs := s_) rfl rfl hx1) <| un1 (v := (.agg (e_TJJob x_))) rfl <| un <| acv_gen (bs := []) («as» := [(.agg (e_TJJob x_))]) (h2 := _) (h1 := e0) rfl (by kernel_rfl) (Z5e (Γ := Γ) x_) rfl (.cons (avAs_free rfl) .nil) (hsub_refl _) (.nil _) (fun _ => rfl) (by decide) (by decide) (.cons (avAs_free rfl) .nil) .nil ?_
  rintro _ _ _ hn ⟨rfl, rfl, rfl⟩
  refine ⟨.inl rfl, (rem [] _), fun hbd => (m3_rem (in_nil _) (.nil) hbd), (B (Z15 x_)), 0, rfl, rfl, ?_⟩
  refine dnil ?_
  refine Sv.cnd rfl h (fun h => ?_) fun h => ?_
  ·refine ssr <| un1 rfl <| un1 rfl <| dnil <| Sv.ret ?_
   exact hr _ (rt0 h rfl rfl ⟨rfl, rfl, rfl⟩)
  ·refine Sv.skip <| srg <| un1 (v := (I (wi (v8 + 1)))) rfl <| un1 rfl <| dnil ?_
   exact hself (wi (v8 + 1)) h _ (wcn [] rfl (.cf rfl rfl (.cf rfl rfl (.cf rfl rfl (.cf rfl rfl .nil)))) .nil)
 ·refine Sv.exit ?_
  exact hK0 () h _ (wcn [] rfl .nil .nil)
/-- slices.IndexFunc(()clerestory/api.JJob,clerestory/api.JJob) -/
noncomputable def Z2f (s_ : (List TJJob)) : Option Int :=
 lim fun kk => Zk s_ (fun (_ : Unit) => 
   some (-1)) kk 0
theorem Z5i {Γ : Glob} {s_ : (List TJJob)} {r : Int} (h : Z2f s_ = some r) : CPure Try.prog Γ 73 [(.c (.ro false 7 (s_.map e_TJJob))), (.c (.fn (.func 40) [] []))] (I r) := by
 refine acalls_of_sv hmix c73 (R := Z39 r) ?_
 unfold Z2f at h
 refine ssr <| un1 rfl <| dnil <| Sv.seq <| ssr <| un1 rfl <| un1 (v := (I (s_.length : Int))) (s_len (e := e_TJJob) (xs := s_) rfl) <| un1 rfl <| dnil <| Sv.block ?_
 obtain ⟨kk, h⟩ := lim_some h
 refine Sv.weak (wcn [] rfl (.cf rfl rfl (.cf rfl rfl (.cf rfl rfl (.cf rfl rfl .nil)))) .nil) (Z5h h ?_ (fun s hs => hs))
 ·intro _ h _ hw1
  refine Sv.weak hw1 <| ssr <| un1 rfl <| dnil <| Sv.ret ?_
  exact rt0 h rfl rfl ⟨rfl, rfl, rfl⟩
def a39 : AFunc := ⟨2, [(.tmp 4)], (sr [(oP 4 (.mov kF))]
 (sr [(mV 5 0), (mV 6 1), (oP 7 (.call 73 [(.tmp 5), (.tmp 6)])), (oP 8 (.bin .geq (.tmp 7) (kI 0))), (mV 4 8)]
 .ret))⟩
theorem c39 : compFunc Try.prog 39 = some a39 := by kernel_rfl
def Z5j (r : Bool) : AV → Heap → Nat → Prop := fun v h' n' => v = (B r) ∧ (h' = e0) ∧ n' = 0
/-- slices.ContainsFunc(()clerestory/api.JJob,clerestory/api.JJob) -/
noncomputable def Z1f (s_ : (List TJJob)) : Option Bool :=
 (Z2f s_).bind fun r_ =>
 some (decide (0 ≤ r_))
theorem Z5k {Γ : Glob} {s_ : (List TJJob)} {r : Bool} (h : Z1f s_ = some r) : CPure Try.prog Γ 39 [(.c (.ro false 7 (s_.map e_TJJob))), (.c (.fn (.func 40) [] []))] (B r) := by
 refine acalls_of_sv hmix c39 (R := Z5j r) ?_
 unfold Z1f at h
 refine ssr <| un1 rfl <| dnil <| ssr <| un1 rfl <| un1 rfl ?_
 obtain ⟨r_, hr1, h⟩ := bnd h
 refine un <| ac_pure (Z5i hr1) rfl rfl rfl <| un1 (v := (B (decide (0 ≤ r_)))) rfl <| un1 rfl <| dnil <| Sv.ret ?_
 exact rt0 h rfl rfl ⟨rfl, rfl, rfl⟩
def a41 : AFunc := ⟨1, [(.tmp 2)], (sr [(oP 1 (.box (.tmp 0))), (oP 2 (.mov kF))]
 (sr [(oP 3 (.faddr 2 (.tmp 1))), (oP 4 (.load false 1 (.tmp 3))), (oP 5 (.un .not (.tmp 4))), (mV 6 5), ⟨(some 7), (.faddr 1 (.tmp 1)), (some (6, false))⟩, ⟨(some 8), (.load false 1 (.tmp 7)), (some (6, false))⟩, ⟨(some 9), (.bin .neq (.tmp 8) (kI 0)), (some (6, false))⟩, (oP 10 (.pick (.tmp 6) kT (.tmp 9))), (mV 2 10)]
 .ret))⟩
theorem c41 : compFunc Try.prog 41 = some a41 := by kernel_rfl
def Z5l (r : Bool) : AV → Heap → Nat → Prop := fun v h' n' => v = (B r) ∧ (h' = e0) ∧ n' = 0
/-- clerestory/loop.Check$2 -/
def Z16 (j_ : TJJob) : Bool :=
 ((!j_.Small) || (!decide (j_.Source = 0)))
theorem Z5m {Γ : Glob} (j_ : TJJob) : CPure Try.prog Γ 41 [(.agg (e_TJJob j_))] (B (Z16 j_)) := by
 generalize h : Z16 j_ = o
 refine acalls_of_sv hmix c41 (R := Z5l o) ?_
 unfold Z16 at h
 refine ssr <| un <| a2v (v := (.c (.ref 0 7 0 0))) (h' := upd _ 0 (some (.cells 7 [(e_TJJob j_)]))) (n' := 1) rfl rfl hcs <| un1 rfl <| dnil <| ssr <| un1 (v := (.c (.ref 0 7 0 2))) rfl <| un1 (v := (B j_.Small)) rfl <| un1 (v := (B (!j_.Small))) rfl <| un1 rfl ?_
 refine gjoin 4 (d := 10) (v := (B ((!j_.Small) || (!decide (j_.Source = 0))))) (fun X hX => ?_) ?_
 ·refine split2 (fun hc1 => ?_) (fun hc1 => ?_)
  ·refine gs rfl rfl <| gs rfl rfl <| gs rfl rfl <| un1 (v := (B true)) rfl <| dnil ?_
   exact hX _ (.putEq (by rw [hc1]; rfl) (.skp (.skp (.skp (.putEq (by rw [hc1]) (.refl _)) rfl) rfl) rfl))
  ·refine gt rfl <| a1 (v := (.c (.ref 0 7 0 1))) rfl <| gt rfl <| a1 (v := (I j_.Source)) rfl <| gt rfl <| a1 (v := (B (!decide (j_.Source = 0)))) rfl <| un1 (v := (B (!decide (j_.Source = 0)))) rfl <| dnil ?_
   exact hX _ (.putEq (by rw [hc1]; rfl) (.skp (.skp (.skp (.putEq (by rw [hc1]) (.refl _)) rfl) rfl) rfl))
 refine un1 rfl <| dnil <| Sv.ret ?_
 subst h
 exact ⟨_, .refl _, _, rfl, ⟨upd e0 0 (some (B ((!j_.Small) || (!decide (j_.Source = 0))))), e0, 0⟩, (B ((!j_.Small) || (!decide (j_.Source = 0)))), weak_canon [] rfl ndl nll nlz (.cf rfl rfl .nil) .nil, rfl, rfl, rfl, rfl⟩
def a73_slices_IndexFunc_JJob1_c0 : ACode := (sr [(oP 9 (.bin .lss (.tmp 8) (.tmp 7)))]
 (.seq (.cond (.tmp 9) .skip (.exit 0))
 (.seq (.block 1 (sr [(mV 10 8), (mV 5 10)]
 (sr [(mV 11 1), (mV 12 0), (mV 13 5), (oP 14 (.iaddr 7 (.tmp 12) (.tmp 13))), (oP 15 (.load true 7 (.tmp 14))), (oP 16 (.callv (.tmp 11) [(.tmp 15)]))]
 (.cond (.tmp 16) (sr [(mV 17 5), (mV 4 17)]
 .ret) .skip))))
 (.region [(oP 18 (.bin .add (.tmp 8) (kI 1))), (mV 8 18)]))))
def Z3b (r : Int) : AV → Heap → Nat → Prop := fun v h' n' => v = (I r) ∧ (h' = e0) ∧ n' = 0
abbrev Z5n (F_ : Unit → Option Int) (o : Int) (R_ : St → Prop) : Prop := ∀ (_ : Unit), F_ () = some o → ∀ s, Weak 0 s ⟨e0, e0, 0⟩ → R_ s
abbrev Z3c (s_ : (List TJJob)) (F_ : Nat → Int → Option Int) (o : Int) : Nat → St → Prop := fun k s => ∃ (v8 : Int), F_ k v8 = some o ∧ s = ⟨(ue [(8, (I v8)), (7, (I (s_.length : Int))), (1, (.c (.fn (.func 41) [] []))), (0, (.c (.ro false 7 (s_.map e_TJJob))))]), e0, 0⟩
abbrev Z5o (s_ : (List TJJob)) (F_ : Int → Option Int) (o : Int) (R_ : St → Prop) : Prop := ∀ (v8 : Int), F_ v8 = some o → ∀ s, Weak 0 s ⟨(ue [(8, (I v8)), (7, (I (s_.length : Int))), (1, (.c (.fn (.func 41) [] []))), (0, (.c (.ro false 7 (s_.map e_TJJob))))]), e0, 0⟩ → R_ s
noncomputable def Zl (s_ : (List TJJob)) (K0_ : Unit → Option Int) : Nat → Int → Option Int
 | 0, _ => none
 | k + 1, v8 =>
  if decide (v8 < (s_.length : Int)) then
   (at? s_ v8).bind fun x_ =>
   if (Z16 x_) then
    some v8
   else
    (Zl s_ K0_ k) (wi (v8 + 1))
  else
   K0_ ()
theorem Z5p {Γ : Glob} {Q : AExit → St → Prop} {s_ : (List TJJob)} {K0_ : Unit → Option Int} {k : Nat} {v8 : Int} {o : Int} (h : Zl s_ K0_ k v8 = some o)
  (hK0 : Z5n K0_ o (Q (.exit 0)))
  (hr : ∀ s, Ends a73.results 0 (Z3b o) .ret s → Q .ret s) :
  Sv Try.prog Γ 0 (.loop a73_slices_IndexFunc_JJob1_c0) Q ⟨(ue [(8, (I v8)), (7, (I (s_.length : Int))), (1, (.c (.fn (.func 41) [] []))), (0, (.c (.ro false 7 (s_.map e_TJJob))))]), e0, 0⟩ := by
 refine Sv.loop (I := Z3c s_ (Zl s_ K0_) o) (fun k s hI => ?_) ⟨v8, h, rfl⟩
 clear h
 clear v8
 obtain ⟨v8, h, rfl⟩ := hI
 cases k with
 | zero => cases h
 | succ k =>
 rw [Zl] at h
 have hself : Z5o s_ (Zl s_ K0_ k) o (rnd 0 (Z3c s_ (Zl s_ K0_) o) k Q) := fun v8 h s hw => ⟨_, k, hw, Nat.lt_succ_self k, v8, h, rfl⟩
 refine ssr <| un1 (v := (B (decide (v8 < (s_.length : Int))))) rfl <| dnil <| Sv.seq ?_
 refine Sv.cnd rfl h (fun h => ?_) fun h => ?_
 ·refine Sv.skip <| Sv.seq <| Sv.block <| ssr <| un1 rfl <| un1 rfl <| dnil <| ssr <| un1 rfl <| un1 rfl <| un1 rfl ?_
  obtain ⟨x_, hx1, h⟩ := bnd h
  refine un1 (v := (.c (.rop (e_TJJob x_)))) (s_iaddr (e := e_TJJob) (xs := s_) rfl rfl hx1) <| un1 (v := (.agg (e_TJJob x_))) rfl <| un <| acv_gen (bs := []) («as» := [(.agg (e_TJJob x_))]) (h2 := _) (h1 := e0) rfl (by kernel_rfl) (Z5m (Γ := Γ) x_) rfl (.cons (avAs_free rfl) .nil) (hsub_refl _) (.nil _) (fun _ => rfl) (by decide) (by decide) (.cons (avAs_free rfl) .nil) .nil ?_
  rintro _ _ _ hn ⟨rfl, rfl, rfl⟩
  refine ⟨.inl rfl, (rem [] _), fun hbd => (m3_rem (in_nil _) (.nil) hbd), (B (Z16 x_)), 0, rfl, rfl, ?_⟩
  refine dnil ?_
  refine Sv.cnd rfl h (fun h => ?_) fun h => ?_
  ·refine ssr <| un1 rfl <| un1 rfl <| dnil <| Sv.ret ?_
   exact hr _ (rt0 h rfl rfl ⟨rfl, rfl, rfl⟩)
  ·refine Sv.skip <| srg <| un1 (v := (I (wi (v8 + 1)))) rfl <| un1 rfl <| dnil ?_
   exact hself (wi (v8 + 1)) h _ (wcn [] rfl (.cf rfl rfl (.cf rfl rfl (.cf rfl rfl (.cf rfl rfl .nil)))) .nil)
 ·refine Sv.exit ?_
  exact hK0 () h _ (wcn [] rfl .nil .nil)
/-- slices.IndexFunc(()clerestory/api.JJob,clerestory/api.JJob) -/
noncomputable def Z2g (s_ : (List TJJob)) : Option Int :=
 lim fun kk => Zl s_ (fun (_ : Unit) => 
   some (-1)) kk 0
theorem Z5q {Γ : Glob} {s_ : (List TJJob)} {r : Int} (h : Z2g s_ = some r) : CPure Try.prog Γ 73 [(.c (.ro false 7 (s_.map e_TJJob))), (.c (.fn (.func 41) [] []))] (I r) := by
 refine acalls_of_sv hmix c73 (R := Z3b r) ?_
 unfold Z2g at h
 refine ssr <| un1 rfl <| dnil <| Sv.seq <| ssr <| un1 rfl <| un1 (v := (I (s_.length : Int))) (s_len (e := e_TJJob) (xs := s_) rfl) <| un1 rfl <| dnil <| Sv.block ?_
 obtain ⟨kk, h⟩ := lim_some h
 refine Sv.weak (wcn [] rfl (.cf rfl rfl (.cf rfl rfl (.cf rfl rfl (.cf rfl rfl .nil)))) .nil) (Z5p h ?_ (fun s hs => hs))
 ·intro _ h _ hw1
  refine Sv.weak hw1 <| ssr <| un1 rfl <| dnil <| Sv.ret ?_
  exact rt0 h rfl rfl ⟨rfl, rfl, rfl⟩
def Z5r (r : Bool) : AV → Heap → Nat → Prop := fun v h' n' => v = (B r) ∧ (h' = e0) ∧ n' = 0
/-- slices.ContainsFunc(()clerestory/api.JJob,clerestory/api.JJob) -/
noncomputable def Z1g (s_ : (List TJJob)) : Option Bool :=
 (Z2g s_).bind fun r_ =>
 some (decide (0 ≤ r_))
theorem Z5s {Γ : Glob} {s_ : (List TJJob)} {r : Bool} (h : Z1g s_ = some r) : CPure Try.prog Γ 39 [(.c (.ro false 7 (s_.map e_TJJob))), (.c (.fn (.func 41) [] []))] (B r) := by
 refine acalls_of_sv hmix c39 (R := Z5r r) ?_
 unfold Z1g at h
 refine ssr <| un1 rfl <| dnil <| ssr <| un1 rfl <| un1 rfl ?_
 obtain ⟨r_, hr1, h⟩ := bnd h
 refine un <| ac_pure (Z5q hr1) rfl rfl rfl <| un1 (v := (B (decide (0 ≤ r_)))) rfl <| un1 rfl <| dnil <| Sv.ret ?_
 exact rt0 h rfl rfl ⟨rfl, rfl, rfl⟩
def a89 : AFunc := ⟨1, [(.tmp 2)], (sr [(oP 2 (.mov kF))]
 (sr [(mV 3 0), (mV 4 0), (oP 5 (.bin .neq (.tmp 3) (.tmp 4))), (mV 2 5)]
 .ret))⟩
theorem c89 : compFunc Try.prog 89 = some a89 := by kernel_rfl
def Z5t (r : Bool) : AV → Heap → Nat → Prop := fun v h' n' => v = (B r) ∧ (h' = e0) ∧ n' = 0
/-- cmp.isNaN(int) -/
def Z17 (x_ : Int) : Bool :=
 (!decide (x_ = x_))
theorem Z3d {Γ : Glob} (x_ : Int) : CPure Try.prog Γ 89 [(I x_)] (B (Z17 x_)) := by
 generalize h : Z17 x_ = o
 refine acalls_of_sv hmix c89 (R := Z5t o) ?_
 unfold Z17 at h
 refine ssr <| un1 rfl <| dnil <| ssr <| un1 rfl <| un1 rfl <| un1 (v := (B (!decide (x_ = x_)))) rfl <| un1 rfl <| dnil <| Sv.ret ?_
 subst h
 exact ⟨_, .refl _, _, rfl, ⟨upd e0 0 (some (B (!decide (x_ = x_)))), e0, 0⟩, (B (!decide (x_ = x_))), weak_canon [] rfl ndl nll nlz (.cf rfl rfl .nil) .nil, rfl, rfl, rfl, rfl⟩
def a75 : AFunc := ⟨2, [(.tmp 4)], (sr [(oP 4 (.mov (kI 0)))]
 (sr [(mV 7 0), (oP 8 (.call 89 [(.tmp 7)])), (mV 5 8)]
 (sr [(mV 9 1), (oP 10 (.call 89 [(.tmp 9)])), (mV 6 10)]
 (.seq (sr [(mV 11 5)]
 (.cond (.tmp 11) (.seq (sr [(mV 12 6)]
 (.cond (.tmp 12) (sr [(oP 4 (.mov (kI 0)))]
 .ret) .skip))
 (sr [(oP 4 (.mov (.const (.c (.val (.int .i64 (-1)))))))]
 .ret)) .skip))
 (.seq (sr [(mV 13 6)]
 (.cond (.tmp 13) (sr [(oP 4 (.mov (kI 1)))]
 .ret) .skip))
 (.seq (sr [(mV 14 0), (mV 15 1), (oP 16 (.bin .lss (.tmp 14) (.tmp 15)))]
 (.cond (.tmp 16) (sr [(oP 4 (.mov (.const (.c (.val (.int .i64 (-1)))))))]
 .ret) .skip))
 (.seq (sr [(mV 17 0), (mV 18 1), (oP 19 (.bin .gtr (.tmp 17) (.tmp 18)))]
 (.cond (.tmp 19) (sr [(oP 4 (.mov (kI 1)))]
 .ret) .skip))
 (sr [(oP 4 (.mov (kI 0)))]
 .ret))))))))⟩
theorem c75 : compFunc Try.prog 75 = some a75 := by kernel_rfl
def Z5u (r : Int) : AV → Heap → Nat → Prop := fun v h' n' => v = (I r) ∧ (h' = e0) ∧ n' = 0
/-- cmp.Compare(int) -/
def Z9 (x_ : Int) (y_ : Int) : Int :=
 if (Z17 x_) then
  if (Z17 y_) then
   0
  else
   (-1)
 else
  if (Z17 y_) then
   1
  else
   if decide (x_ < y_) then
    (-1)
   else
    if decide (y_ < x_) then
     1
    else
     0
theorem Z3e {Γ : Glob} (x_ : Int) (y_ : Int) : CPure Try.prog Γ 75 [(I x_), (I y_)] (I (Z9 x_ y_)) := by
 generalize h : Z9 x_ y_ = o
 refine acalls_of_sv hmix c75 (R := Z5u o) ?_
 unfold Z9 at h
 refine ssr <| un1 rfl <| dnil <| ssr <| un1 rfl <| un <| ac_pure (Z3d (Γ := Γ) x_) rfl rfl rfl <| un1 rfl <| dnil <| ssr <| un1 rfl <| un <| ac_pure (Z3d (Γ := Γ) y_) rfl rfl rfl <| un1 rfl <| dnil <| Sv.seq <| ssr <| un1 rfl <| dnil ?_
 refine Sv.cnd rfl h (fun h => ?_) fun h => ?_
 ·refine Sv.seq <| ssr <| un1 rfl <| dnil ?_
  refine Sv.cnd rfl h (fun h => ?_) fun h => ?_
  ·refine ssr <| un1 rfl <| dnil <| Sv.ret ?_
   subst h
   exact ⟨_, .refl _, _, rfl, ⟨upd e0 0 (some (I 0)), e0, 0⟩, (I 0), weak_canon [] rfl ndl nll nlz (.cf rfl rfl .nil) .nil, rfl, rfl, rfl, rfl⟩
  ·refine Sv.skip <| ssr <| un1 rfl <| dnil <| Sv.ret ?_
   subst h
   exact ⟨_, .refl _, _, rfl, ⟨upd e0 0 (some (I (-1))), e0, 0⟩, (I (-1)), weak_canon [] rfl ndl nll nlz (.cf rfl rfl .nil) .nil, rfl, rfl, rfl, rfl⟩
 ·refine Sv.skip <| Sv.seq <| ssr <| un1 rfl <| dnil ?_
  refine Sv.cnd rfl h (fun h => ?_) fun h => ?_
  ·refine ssr <| un1 rfl <| dnil <| Sv.ret ?_
   subst h
   exact ⟨_, .refl _, _, rfl, ⟨upd e0 0 (some (I 1)), e0, 0⟩, (I 1), weak_canon [] rfl ndl nll nlz (.cf rfl rfl .nil) .nil, rfl, rfl, rfl, rfl⟩
  ·refine Sv.skip <| Sv.seq <| ssr <| un1 rfl <| un1 rfl <| un1 (v := (B (decide (x_ < y_)))) rfl <| dnil ?_
   refine Sv.cnd rfl h (fun h => ?_) fun h => ?_
   ·refine ssr <| un1 rfl <| dnil <| Sv.ret ?_
    subst h
    exact ⟨_, .refl _, _, rfl, ⟨upd e0 0 (some (I (-1))), e0, 0⟩, (I (-1)), weak_canon [] rfl ndl nll nlz (.cf rfl rfl .nil) .nil, rfl, rfl, rfl, rfl⟩
   ·refine Sv.skip <| Sv.seq <| ssr <| un1 rfl <| un1 rfl <| un1 (v := (B (decide (y_ < x_)))) rfl <| dnil ?_
    refine Sv.cnd rfl h (fun h => ?_) fun h => ?_
    ·refine ssr <| un1 rfl <| dnil <| Sv.ret ?_
     subst h
     exact ⟨_, .refl _, _, rfl, ⟨upd e0 0 (some (I 1)), e0, 0⟩, (I 1), weak_canon [] rfl ndl nll nlz (.cf rfl rfl .nil) .nil, rfl, rfl, rfl, rfl⟩
    ·refine Sv.skip <| ssr <| un1 rfl <| dnil <| Sv.ret ?_
     subst h
     exact ⟨_, .refl _, _, rfl, ⟨upd e0 0 (some (I 0)), e0, 0⟩, (I 0), weak_canon [] rfl ndl nll nlz (.cf rfl rfl .nil) .nil, rfl, rfl, rfl, rfl⟩
def a74_c0 : ACode := (sr [(oP 9 (.bin .lss (.tmp 8) (.tmp 7)))]
 (.seq (.cond (.tmp 9) .skip (.exit 0))
 (.seq (.block 1 (sr [(oP 10 (.iaddr 1 (.tmp 6) (.tmp 8))), (oP 11 (.load false 1 (.tmp 10))), (mV 5 11)]
 (sr [(mV 12 5), (mV 13 3), (oP 14 (.bin .neq (.tmp 12) (.tmp 13)))]
 (.cond (.tmp 14) (sr [(mV 15 5), (mV 2 15)]
 .ret) .skip))))
 (.region [(oP 16 (.bin .add (.tmp 8) (kI 1))), (mV 8 16)]))))
def a74 : AFunc := ⟨1, [(.tmp 2)], (sr [(oP 2 (.mov (kI 0)))]
 (sr [(oP 3 (.mov (kI 0)))]
 (.seq (sr [(mV 6 0), (oP 7 (.len (.tmp 6))), (oP 8 (.mov (kI 0)))]
 (.block 0 (.loop a74_c0)))
 (sr [(mV 17 3), (mV 2 17)]
 .ret))))⟩
theorem c74 : compFunc Try.prog 74 = some a74 := by kernel_rfl
def Z3f (r : Int) : AV → Heap → Nat → Prop := fun v h' n' => v = (I r) ∧ (h' = e0) ∧ n' = 0
abbrev Z5v (F_ : Unit → Option Int) (o : Int) (R_ : St → Prop) : Prop := ∀ (_ : Unit), F_ () = some o → ∀ s, Weak 0 s ⟨(upd e0 3 (some (I 0))), e0, 0⟩ → R_ s
abbrev Z3g (vals : (List Int)) (F_ : Nat → Int → Option Int) (o : Int) : Nat → St → Prop := fun k s => ∃ (v8 : Int), F_ k v8 = some o ∧ s = ⟨(ue [(8, (I v8)), (7, (I (vals.length : Int))), (6, (.c (.ro false 1 (vals.map eI)))), (3, (I 0))]), e0, 0⟩
abbrev Z5w (vals : (List Int)) (F_ : Int → Option Int) (o : Int) (R_ : St → Prop) : Prop := ∀ (v8 : Int), F_ v8 = some o → ∀ s, Weak 0 s ⟨(ue [(8, (I v8)), (7, (I (vals.length : Int))), (6, (.c (.ro false 1 (vals.map eI)))), (3, (I 0))]), e0, 0⟩ → R_ s
noncomputable def Zg (vals : (List Int)) (K0_ : Unit → Option Int) : Nat → Int → Option Int
 | 0, _ => none
 | k + 1, v8 =>
  if decide (v8 < (vals.length : Int)) then
   (at? vals v8).bind fun x_ =>
   if (!decide (x_ = 0)) then
    some x_
   else
    (Zg vals K0_ k) (wi (v8 + 1))
  else
   K0_ ()
theorem Z5x {Γ : Glob} {Q : AExit → St → Prop} {vals : (List Int)} {K0_ : Unit → Option Int} {k : Nat} {v8 : Int} {o : Int} (h : Zg vals K0_ k v8 = some o)
  (hK0 : Z5v K0_ o (Q (.exit 0)))
  (hr : ∀ s, Ends a74.results 0 (Z3f o) .ret s → Q .ret s) :
  Sv Try.prog Γ 0 (.loop a74_c0) Q ⟨(ue [(8, (I v8)), (7, (I (vals.length : Int))), (6, (.c (.ro false 1 (vals.map eI)))), (3, (I 0))]), e0, 0⟩ := by
 refine Sv.loop (I := Z3g vals (Zg vals K0_) o) (fun k s hI => ?_) ⟨v8, h, rfl⟩
 clear h
 clear v8
 obtain ⟨v8, h, rfl⟩ := hI
 cases k with
 | zero => cases h
 | succ k =>
 rw [Zg] at h
 have hself : Z5w vals (Zg vals K0_ k) o (rnd 0 (Z3g vals (Zg vals K0_) o) k Q) := fun v8 h s hw => ⟨_, k, hw, Nat.lt_succ_self k, v8, h, rfl⟩
 refine ssr <| un1 (v := (B (decide (v8 < (vals.length : Int))))) rfl <| dnil <| Sv.seq ?_
 refine Sv.cnd rfl h (fun h => ?_) fun h => ?_
 ·refine Sv.skip <| Sv.seq <| Sv.block <| ssr ?_
  obtain ⟨x_, hx1, h⟩ := bnd h
  refine un1 (v := (.c (.rop [cI x_]))) (s_iaddr (e := eI) (xs := vals) rfl rfl hx1) <| un1 (v := (I x_)) rfl <| un1 rfl <| dnil <| ssr <| un1 rfl <| un1 rfl <| un1 (v := (B (!decide (x_ = 0)))) rfl <| dnil ?_
  refine Sv.cnd rfl h (fun h => ?_) fun h => ?_
  ·refine ssr <| un1 rfl <| un1 rfl <| dnil <| Sv.ret ?_
   exact hr _ (rt0 h rfl rfl ⟨rfl, rfl, rfl⟩)
  ·refine Sv.skip <| srg <| un1 (v := (I (wi (v8 + 1)))) rfl <| un1 rfl <| dnil ?_
   exact hself (wi (v8 + 1)) h _ (wcn [] rfl (.cf rfl rfl (.cf rfl rfl (.cf rfl rfl (.cf rfl rfl .nil)))) .nil)
 ·refine Sv.exit ?_
  exact hK0 () h _ (wcn [] rfl (.cf rfl rfl .nil) .nil)
/-- cmp.Or(int) -/
noncomputable def Z1w (vals : (List Int)) : Option Int :=
 lim fun kk => Zg vals (fun (_ : Unit) => 
   some 0) kk 0
theorem Z5y {Γ : Glob} {vals : (List Int)} {r : Int} (h : Z1w vals = some r) : CPure Try.prog Γ 74 [(.c (.ro false 1 (vals.map eI)))] (I r) := by
 refine acalls_of_sv hmix c74 (R := Z3f r) ?_
 unfold Z1w at h
 refine ssr <| un1 rfl <| dnil <| ssr <| un1 rfl <| dnil <| Sv.seq <| ssr <| un1 rfl <| un1 (v := (I (vals.length : Int))) (s_len (e := eI) (xs := vals) rfl) <| un1 rfl <| dnil <| Sv.block ?_
 obtain ⟨kk, h⟩ := lim_some h
 refine Sv.weak (wcn [] rfl (.cf rfl rfl (.cf rfl rfl (.cf rfl rfl (.cf rfl rfl .nil)))) .nil) (Z5x h ?_ (fun s hs => hs))
 ·intro _ h _ hw1
  refine Sv.weak hw1 <| ssr <| un1 rfl <| un1 rfl <| dnil <| Sv.ret ?_
  exact rt0 h rfl rfl ⟨rfl, rfl, rfl⟩
def a42 : AFunc := ⟨2, [(.tmp 4)], (sr [(oP 2 (.box (.tmp 0))), (oP 3 (.box (.tmp 1))), (oP 4 (.mov (kI 0)))]
 (.seq (.drawn (.fin [((oP 5 (.faddr 1 (.tmp 2))), (0, 0)), ((oP 6 (.load false 1 (.tmp 5))), (0, 1)), ((oP 7 (.faddr 1 (.tmp 3))), (0, 2)), ((oP 8 (.load false 1 (.tmp 7))), (0, 3)), ((oP 10 (.faddr 0 (.tmp 2))), (0, 5)), ((oP 11 (.load false 1 (.tmp 10))), (0, 6)), ((oP 12 (.faddr 0 (.tmp 3))), (0, 7)), ((oP 13 (.load false 1 (.tmp 12))), (0, 8)), ((oP 9 (.call 75 [(.tmp 6), (.tmp 8)])), (1, 4)), ((oP 14 (.call 75 [(.tmp 11), (.tmp 13)])), (2, 9)), ((oP 15 (.bslice 1 [(.val (.int .i64 0))] 2 [(0, (.tmp 9)), (1, (.tmp 14))])), (2, 10)), ((oP 16 (.call 74 [(.tmp 15)])), (2, 11)), ((mV 4 16), (0, 12))]))
 .ret))⟩
theorem c42 : compFunc Try.prog 42 = some a42 := by kernel_rfl
def Z5z (r : Int) : AV → Heap → Nat → Prop := fun v h' n' => v = (I r) ∧ (h' = e0) ∧ n' = 0
/-- clerestory/loop.before -/
noncomputable def Zm (a_ : TJTimer) (b_ : TJTimer) : Option Int :=
 (Z1w [(Z9 a_.At b_.At), (Z9 a_.ID b_.ID)]).bind fun r_ =>
 some r_
theorem Z2s {Γ : Glob} {a_ : TJTimer} {b_ : TJTimer} {r : Int} (h : Zm a_ b_ = some r) : CPure Try.prog Γ 42 [(.agg (e_TJTimer a_)), (.agg (e_TJTimer b_))] (I r) := by
 refine acalls_of_sv hmix c42 (R := Z5z r) ?_
 unfold Zm at h
 refine ssr <| un <| a2v (v := (.c (.ref 0 5 0 0))) (h' := upd _ 0 (some (.cells 5 [(e_TJTimer a_)]))) (n' := 1) rfl rfl hcs <| un <| a2v (v := (.c (.ref 1 5 0 0))) (h' := upd _ 1 (some (.cells 5 [(e_TJTimer b_)]))) (n' := 2) rfl rfl hcs <| un1 rfl <| dnil <| Sv.seq <| Sv.drawn <| un1 (v := (.c (.ref 0 5 0 1))) rfl <| un1 (v := (I a_.At)) rfl <| un1 (v := (.c (.ref 1 5 0 1))) rfl <| un1 (v := (I b_.At)) rfl <| un1 (v := (.c (.ref 0 5 0 0))) rfl <| un1 (v := (I a_.ID)) rfl <| un1 (v := (.c (.ref 1 5 0 0))) rfl <| un1 (v := (I b_.ID)) rfl <| un <| ac_pure (Z3e (Γ := Γ) a_.At b_.At) rfl rfl rfl <| un <| ac_pure (Z3e (Γ := Γ) a_.ID b_.ID) rfl rfl rfl <| un <| a2v (v := (lstV false 2 1 [(Z9 a_.At b_.At), (Z9 a_.ID b_.ID)].length)) (h' := upd _ 2 (lstB false 1 ([(Z9 a_.At b_.At), (Z9 a_.ID b_.ID)].map eI))) (n' := 3) rfl rfl hcs ?_
 obtain ⟨r_, hr1, h⟩ := bnd h
 refine un <| ac_lend (h2 := (upd _ 2 none)) (Z5y hr1) rfl (.cons (.c (lstC_ro (es := List.map eI [(Z9 a_.At b_.At), (Z9 a_.ID b_.ID)]) rfl (List.length_map eI).symm (map_nil_of hcs) (gone rfl) (fr_map fun _ => rfl))) .nil) (hsub_none (hsub_refl _)) rfl rfl (.inr rfl) <| un1 rfl <| dnil <| Sv.ret ?_
 exact rt0 h rfl rfl ⟨rfl, rfl, rfl⟩
def a9_c0 : ACode := (sr [(oP 34 (.bin .lss (.tmp 33) (.tmp 32)))]
 (.seq (.cond (.tmp 34) .skip (.exit 0))
 (.seq (.block 1 (sr [(oP 35 (.iaddr 1 (.tmp 31) (.tmp 33))), (oP 36 (.load false 1 (.tmp 35))), (mV 5 36)]
 (.seq (sr [(mV 37 5), (oP 38 (.faddr 1 (.tmp 1))), (oP 39 (.load false 1 (.tmp 38))), (oP 40 (.bin .sub (.tmp 39) (kI 1))), (oP 41 (.call 32 [(.tmp 37), (kI 0), (.tmp 40)])), (oP 42 (.un .not (.tmp 41))), (mV 43 42), ⟨(some 44), (.mov (.tmp 3)), (some (43, false))⟩, ⟨(some 45), (.mov (.tmp 5)), (some (43, false))⟩, ⟨(some 46), (.mlook (.i .i64) (.c (.val (.int .i64 0))) false (.tmp 44) (.tmp 45)), (some (43, false))⟩, ⟨(some 47), (.bin .eql (.tmp 46) (kI 1)), (some (43, false))⟩, (oP 48 (.pick (.tmp 43) kT (.tmp 47)))]
 (.cond (.tmp 48) (sr [(oP 2 (.mov (kI 3)))]
 .ret) .skip))
 (.region [(mV 49 3), (mV 50 5), (oN (.mput (.i .i64) (.tmp 49) (.tmp 50) (kI 1)))]))))
 (.region [(oP 51 (.bin .add (.tmp 33) (kI 1))), (mV 33 51)]))))
def a9_c1 : ACode := (.cond (.tmp 98) (sr [(oP 2 (.mov (kI 3)))]
 .ret) .skip)
def a9_c2 : ACode := (.region [(oP 99 (.bin .add (.tmp 61) (kI 1))), (mV 61 99)])
def a9_c3 : ACode := (sr [(oP 62 (.bin .lss (.tmp 61) (.tmp 60)))]
 (.seq (.cond (.tmp 62) .skip (.exit 2))
 (.seq (.block 3 (sr [(mV 63 61), (oP 64 (.iaddr 5 (.tmp 59) (.tmp 61))), (oP 65 (.load true 5 (.tmp 64))), (oP 7 (.box (.const (.agg [(.val (.int .i64 0)), (.val (.int .i64 0)), (.val (.int .i64 0)), (.val (.int .i64 0)), (.str [])])))), (mV 6 63), (oN (.store 5 (.tmp 7) (.tmp 65)))]
 (.seq (.drawn (.fin [((oP 66 (.faddr 1 (.tmp 7))), (0, 0)), ((oP 67 (.load false 1 (.tmp 66))), (0, 1)), ((oP 68 (.faddr 0 (.tmp 1))), (0, 2)), ((oP 69 (.load false 1 (.tmp 68))), (0, 3)), ((oP 70 (.call 32 [(.tmp 67), (.tmp 69), (kI 1000000000)])), (1, 4)), ((oP 71 (.un .not (.tmp 70))), (0, 5)), ((mV 72 71), (0, 6)), (⟨(some 73), (.faddr 2 (.tmp 7)), (some (72, false))⟩, (0, 7)), (⟨(some 74), (.load false 1 (.tmp 73)), (some (72, false))⟩, (0, 8)), (⟨(some 75), (.call 32 [(.tmp 74), (kI 0), (kI 1000000000)]), (some (72, false))⟩, (1, 9)), (⟨(some 76), (.un .not (.tmp 75)), (some (72, false))⟩, (0, 10)), ((oP 77 (.pick (.tmp 72) kT (.tmp 76))), (0, 11)), ((mV 78 77), (0, 12)), (⟨(some 79), (.faddr 3 (.tmp 7)), (some (78, false))⟩, (0, 13)), (⟨(some 80), (.load false 1 (.tmp 79)), (some (78, false))⟩, (0, 14)), (⟨(some 81), (.call 32 [(.tmp 80), (kI 0), (kI 1000000000)]), (some (78, false))⟩, (1, 15)), (⟨(some 82), (.un .not (.tmp 81)), (some (78, false))⟩, (0, 16)), ((oP 83 (.pick (.tmp 78) kT (.tmp 82))), (0, 17)), ((mV 84 83), (0, 18)), (⟨(some 85), (.mov (.tmp 6)), (some (84, false))⟩, (0, 19)), (⟨(some 86), (.bin .gtr (.tmp 85) (kI 0)), (some (84, false))⟩, (0, 20)), (⟨(some 87), (.mov (.tmp 86)), (some (84, false))⟩, (0, 21)), (⟨(some 88), (.faddr 4 (.tmp 1)), (some (87, true))⟩, (0, 22)), (⟨(some 89), (.load false 1 (.tmp 88)), (some (87, true))⟩, (0, 23)), (⟨(some 90), (.mov (.tmp 6)), (some (87, true))⟩, (0, 24)), (⟨(some 91), (.bin .sub (.tmp 90) (kI 1)), (some (87, true))⟩, (0, 25)), (⟨(some 92), (.iaddr 5 (.tmp 89) (.tmp 91)), (some (87, true))⟩, (0, 26)), (⟨(some 93), (.load true 5 (.tmp 92)), (some (87, true))⟩, (0, 27)), (⟨(some 94), (.load true 5 (.tmp 7)), (some (87, true))⟩, (0, 28)), (⟨(some 95), (.call 42 [(.tmp 93), (.tmp 94)]), (some (87, true))⟩, (2, 29)), (⟨(some 96), (.bin .geq (.tmp 95) (kI 0)), (some (87, true))⟩, (0, 30)), (⟨(some 97), (.pick (.tmp 87) (.tmp 96) kF), (some (84, false))⟩, (0, 31)), ((oP 98 (.pick (.tmp 84) kT (.tmp 97))), (0, 32))]))
 a9_c1)))
 a9_c2)))
def a9 : AFunc := ⟨1, [(.tmp 2)], (sr [(oP 1 (.box (.tmp 0))), (oP 2 (.mov (kI 0)))]
 (.seq (sr [(oP 8 (.faddr 2 (.tmp 1))), (oP 9 (.load false 1 (.tmp 8))), (oP 10 (.len (.tmp 9))), (oP 11 (.faddr 3 (.tmp 1))), (oP 12 (.load false 1 (.tmp 11))), (oP 13 (.len (.tmp 12))), (oP 14 (.faddr 4 (.tmp 1))), (oP 15 (.load false 1 (.tmp 14))), (oP 16 (.len (.tmp 15))), (oP 17 (.mm true [(.tmp 10), (.tmp 13), (.tmp 16)])), (oP 18 (.bin .gtr (.tmp 17) (kI 100)))]
 (.cond (.tmp 18) (sr [(oP 2 (.mov (kI 2)))]
 .ret) .skip))
 (.seq (sr [(oP 19 (.faddr 0 (.tmp 1))), (oP 20 (.load false 1 (.tmp 19))), (oP 21 (.call 32 [(.tmp 20), (kI 0), (kI 1000000000)])), (oP 22 (.un .not (.tmp 21))), (mV 23 22), ⟨(some 24), (.faddr 1 (.tmp 1)), (some (23, false))⟩, ⟨(some 25), (.load false 1 (.tmp 24)), (some (23, false))⟩, ⟨(some 26), (.call 32 [(.tmp 25), (kI 0), (kI 1000000000)]), (some (23, false))⟩, ⟨(some 27), (.un .not (.tmp 26)), (some (23, false))⟩, (oP 28 (.pick (.tmp 23) kT (.tmp 27)))]
 (.cond (.tmp 28) (sr [(oP 2 (.mov (kI 3)))]
 .ret) .skip))
 (sr [(oP 29 (.mkmap (.i .i64))), (mV 3 29)]
 (.seq (sr [(oP 30 (.load true 5 (.tmp 1))), (oP 31 (.call 38 [(.tmp 30)])), (oP 32 (.len (.tmp 31))), (oP 33 (.mov (kI 0)))]
 (.block 0 (.loop a9_c0)))
 (.seq (sr [(oP 52 (.faddr 2 (.tmp 1))), (oP 53 (.load false 1 (.tmp 52))), (oP 54 (.call 39 [(.tmp 53), (.const (.c (.fn (.func 40) [] [])))]))]
 (.cond (.tmp 54) (sr [(oP 2 (.mov (kI 3)))]
 .ret) .skip))
 (.seq (sr [(oP 55 (.faddr 3 (.tmp 1))), (oP 56 (.load false 1 (.tmp 55))), (oP 57 (.call 39 [(.tmp 56), (.const (.c (.fn (.func 41) [] [])))]))]
 (.cond (.tmp 57) (sr [(oP 2 (.mov (kI 3)))]
 .ret) .skip))
 (.seq (sr [(oP 58 (.faddr 4 (.tmp 1))), (oP 59 (.load false 1 (.tmp 58))), (oP 60 (.len (.tmp 59))), (oP 61 (.mov (kI 0)))]
 (.block 2 (.loop a9_c3)))
 (sr [(oP 2 (.mov (kI 0)))]
 .ret)))))))))⟩
theorem c9 : compFunc Try.prog 9 = some a9 := by kernel_rfl
def Z2h (r : Int) : AV → Heap → Nat → Prop := fun v h' n' => v = (I r) ∧ (h' = e0) ∧ n' = 0
abbrev Z60 (q_ : TJLoop) (F_ : Unit → Option Int) (o : Int) (R_ : St → Prop) : Prop := ∀ (_ : Unit), F_ () = some o → ∀ s, Weak 0 s ⟨(upd e0 1 (some (.c (.ref 0 5 0 0)))), (upd e0 0 (some (.cells 5 [[cI q_.Now, cI q_.Next, .ro false 7 (q_.Tasks.map e_TJJob), .ro false 7 (q_.Smalls.map e_TJJob), .ro false 5 (q_.Timers.map e_TJTimer)]]))), 1⟩ → R_ s
abbrev Z3h (r_ : (List Int)) (q_ : TJLoop) (F_ : Nat → (List (Int × Int)) → (List Int) → Int → Option Int) (o : Int) : Nat → St → Prop := fun k s => ∃ (seen : (List (Int × Int))), ∃ (v31 : (List Int)), ∃ (v33 : Int), ∃ (zv31 : Bool), (zv31 = true → v31 = []) ∧ F_ k seen v31 v33 = some o ∧ s = ⟨(ue [(33, (I v33)), (32, (I (r_.length : Int))), (31, (lstV zv31 2 1 v31.length)), (3, (.c (.mp 1))), (1, (.c (.ref 0 5 0 0)))]), (upd (upd (upd e0 0 (some (.cells 5 [[cI q_.Now, cI q_.Next, .ro false 7 (q_.Tasks.map e_TJJob), .ro false 7 (q_.Smalls.map e_TJJob), .ro false 5 (q_.Timers.map e_TJTimer)]]))) 1 (mapB (.i .i64) (fun x => cI x) (fun (x : Int) => (I x)) seen)) 2 (lstB zv31 1 (v31.map eI))), 3⟩
abbrev Z61 (r_ : (List Int)) (q_ : TJLoop) (F_ : (List (Int × Int)) → (List Int) → Int → Option Int) (o : Int) (R_ : St → Prop) : Prop := ∀ (seen : (List (Int × Int))) (v31 : (List Int)) (v33 : Int) (zv31 : Bool) (_ : zv31 = true → v31 = []), F_ seen v31 v33 = some o → ∀ s, Weak 0 s ⟨(ue [(33, (I v33)), (32, (I (r_.length : Int))), (31, (lstV zv31 2 1 v31.length)), (3, (.c (.mp 1))), (1, (.c (.ref 0 5 0 0)))]), (upd (upd (upd e0 0 (some (.cells 5 [[cI q_.Now, cI q_.Next, .ro false 7 (q_.Tasks.map e_TJJob), .ro false 7 (q_.Smalls.map e_TJJob), .ro false 5 (q_.Timers.map e_TJTimer)]]))) 1 (mapB (.i .i64) (fun x => cI x) (fun (x : Int) => (I x)) seen)) 2 (lstB zv31 1 (v31.map eI))), 3⟩ → R_ s
noncomputable def Za (r_ : (List Int)) (q_ : TJLoop) (K0_ : Unit → Option Int) : Nat → (List (Int × Int)) → (List Int) → Int → Option Int
 | 0, _, _, _ => none
 | k + 1, seen, v31, v33 =>
  if decide (v33 < (r_.length : Int)) then
   (at? v31 v33).bind fun x_ =>
   if ((!(Z1 x_ 0 (wi (q_.Next - 1)))) || (decide (((mget seen x_).getD (0 : Int)) = 1))) then
    some 3
   else
    letIn (mset seen x_ 1) fun mp : (List (Int × Int)) =>
    (Za r_ q_ K0_ k) mp v31 (wi (v33 + 1))
  else
   K0_ ()
theorem Z62 {Γ : Glob} {Q : AExit → St → Prop} {r_ : (List Int)} {q_ : TJLoop} {K0_ : Unit → Option Int} {k : Nat} {seen : (List (Int × Int))} {v31 : (List Int)} {v33 : Int} {zv31 : Bool} (hzv31 : zv31 = true → v31 = []) {o : Int} (h : Za r_ q_ K0_ k seen v31 v33 = some o)
  (hK0 : Z60 q_ K0_ o (Q (.exit 0)))
  (hr : ∀ s, Ends a9.results 0 (Z2h o) .ret s → Q .ret s) :
  Sv Try.prog Γ 0 (.loop a9_c0) Q ⟨(ue [(33, (I v33)), (32, (I (r_.length : Int))), (31, (lstV zv31 2 1 v31.length)), (3, (.c (.mp 1))), (1, (.c (.ref 0 5 0 0)))]), (upd (upd (upd e0 0 (some (.cells 5 [[cI q_.Now, cI q_.Next, .ro false 7 (q_.Tasks.map e_TJJob), .ro false 7 (q_.Smalls.map e_TJJob), .ro false 5 (q_.Timers.map e_TJTimer)]]))) 1 (mapB (.i .i64) (fun x => cI x) (fun (x : Int) => (I x)) seen)) 2 (lstB zv31 1 (v31.map eI))), 3⟩ := by
 refine Sv.loop (I := Z3h r_ q_ (Za r_ q_ K0_) o) (fun k s hI => ?_) ⟨seen, v31, v33, zv31, hzv31, h, rfl⟩
 clear h
 clear hzv31 zv31 v33 v31 seen
 obtain ⟨seen, v31, v33, zv31, hzv31, h, rfl⟩ := hI
 cases k with
 | zero => cases h
 | succ k =>
 rw [Za] at h
 have hself : Z61 r_ q_ (Za r_ q_ K0_ k) o (rnd 0 (Z3h r_ q_ (Za r_ q_ K0_) o) k Q) := fun seen v31 v33 zv31 hzv31 h s hw => ⟨_, k, hw, Nat.lt_succ_self k, seen, v31, v33, zv31, hzv31, h, rfl⟩
 refine ssr <| un1 (v := (B (decide (v33 < (r_.length : Int))))) rfl <| dnil <| Sv.seq ?_
 refine Sv.cnd rfl h (fun h => ?_) fun h => ?_
 ·refine Sv.skip <| Sv.seq <| Sv.block <| ssr ?_
  obtain ⟨x_, hx1, h⟩ := bnd h
  refine un1 (v := (.c (.ref 2 1 v33.toNat 0))) (s_iaddrL rfl rfl hzv31 hx1) <| un1 (v := (I x_)) (s_loadL (z := zv31) (e := eI) rfl rfl hzv31 hx1 rfl rfl) <| un1 rfl <| dnil <| Sv.seq <| ssr <| un1 rfl <| un1 (v := (.c (.ref 0 5 0 1))) rfl <| un1 (v := (I q_.Next)) rfl <| un1 (v := (I (wi (q_.Next - 1)))) rfl <| un <| ac_pure (Zf (Γ := Γ) x_ 0 (wi (q_.Next - 1))) rfl rfl rfl <| un1 (v := (B (!(Z1 x_ 0 (wi (q_.Next - 1)))))) rfl <| un1 rfl ?_
  refine gjoin 5 (d := 48) (v := (B ((!(Z1 x_ 0 (wi (q_.Next - 1)))) || (decide (((mget seen x_).getD (0 : Int)) = 1))))) (fun X hX => ?_) ?_
  ·refine split2 (fun hc5 => ?_) (fun hc5 => ?_)
   ·refine gs rfl rfl <| gs rfl rfl <| gs rfl rfl <| gs rfl rfl <| un1 (v := (B true)) rfl <| dnil ?_
    exact hX _ (.putEq (by rw [hc5]; rfl) (.skp (.skp (.skp (.skp (.putEq (by rw [hc5]) (.refl _)) rfl) rfl) rfl) rfl))
   ·refine gt rfl <| a1 rfl <| gt rfl <| a1 rfl <| gt rfl <| a1 (v := (I ((mget seen x_).getD (0 : Int)))) (s_mlook (ek := (fun x => cI x)) (ev := (fun (x : Int) => (I x))) (l := seen) (key := x_) (z := 0) (fun _ _ => rfl) rfl rfl rfl rfl rfl) <| gt rfl <| a1 (v := (B (decide (((mget seen x_).getD (0 : Int)) = 1)))) rfl <| un1 (v := (B (decide (((mget seen x_).getD (0 : Int)) = 1)))) rfl <| dnil ?_
    exact hX _ (.putEq (by rw [hc5]; rfl) (.skp (.skp (.skp (.skp (.putEq (by rw [hc5]) (.refl _)) rfl) rfl) rfl) rfl))
  refine dnil ?_
  refine Sv.cnd rfl h (fun h => ?_) fun h => ?_
  ·refine ssr <| un1 rfl <| dnil <| Sv.ret ?_
   exact hr _ (rt0 h rfl rfl ⟨rfl, rfl, rfl⟩)
  ·refine Sv.skip <| srg <| un1 rfl <| un1 rfl ?_
   obtain ⟨mp, hmp⟩ : ∃ mp : (List (Int × Int)), mp = (mset seen x_ 1) := ⟨_, rfl⟩
   replace h := letAt hmp h
   refine un <| a2n (h' := upd _ 1 (mapB (.i .i64) (fun x => cI x) (fun (x : Int) => (I x)) mp)) (n' := 3) rfl (by rw [hmp]; exact s_mput (ek := (fun x => cI x)) (ev := (fun (x : Int) => (I x))) (l := seen) (key := x_) (val := 1) (fun _ _ => rfl) rfl rfl rfl rfl rfl rfl) hcs ?_
   clear hmp
   refine dnil <| srg <| un1 (v := (I (wi (v33 + 1)))) rfl <| un1 rfl <| dnil ?_
   exact hself mp v31 (wi (v33 + 1)) zv31 hzv31 h _ (wcn [0, 1, 2] rfl (.cf rfl rfl (.cf rfl rfl (.cons rfl (.c (lsr rfl rfl)) (.cons rfl (.c (.mp rfl (by decide))) (.cr rfl rfl rfl .nil))))) (.row (by decide) rfl (fr_map fun _ => rfl) (.box (by decide) rfl .map (.box (by decide) rfl (blkAs_cells (.sm rfl (.sm rfl (.sm rfl (.sm rfl (.sm rfl .nil)))))) .nil))))
 ·refine Sv.exit ?_
  exact hK0 () h _ (wcn [0] rfl (.cr rfl rfl rfl .nil) (.box (by decide) rfl (blkAs_cells (.sm rfl (.sm rfl (.sm rfl (.sm rfl (.sm rfl .nil)))))) .nil))
abbrev Z3i (q_ : TJLoop) (F_ : Int → Option Int) (o : Int) (R_ : St → Prop) : Prop := ∀ (v61 : Int), F_ v61 = some o → ∀ s, Weak 0 s ⟨(ue [(61, (I v61)), (60, (I (q_.Timers.length : Int))), (59, (.c (.ro false 5 (q_.Timers.map e_TJTimer)))), (1, (.c (.ref 0 5 0 0)))]), (upd e0 0 (some (.cells 5 [[cI q_.Now, cI q_.Next, .ro false 7 (q_.Tasks.map e_TJJob), .ro false 7 (q_.Smalls.map e_TJJob), .ro false 5 (q_.Timers.map e_TJTimer)]]))), 1⟩ → R_ s
abbrev Z3j (F_ : Unit → Option Int) (o : Int) (R_ : St → Prop) : Prop := ∀ (_ : Unit), F_ () = some o → ∀ s, Weak 0 s ⟨e0, e0, 0⟩ → R_ s
abbrev Z63 (Γ : Glob) (Q : AExit → St → Prop) : AExit → St → Prop := AThen (Sv Try.prog Γ 0 a9_c2 Q) Q
abbrev Z64 (Γ : Glob) (Q : AExit → St → Prop) : AExit → St → Prop := ABlock 3 (Z63 Γ Q)
noncomputable def Zn (v61 : Int) (q_ : TJLoop) (self : Int → Option Int) (K2_ : Unit → Option Int) (v98 : Bool) : Option Int :=
 if v98 then
  some 3
 else
  self (wi (v61 + 1))
theorem Z2t {Γ : Glob} {Q : AExit → St → Prop} {v61 : Int} {q_ : TJLoop} {self : Int → Option Int} {K2_ : Unit → Option Int} {v98 : Bool} {o : Int} (h : Zn v61 q_ self K2_ v98 = some o)
  (hself : Z3i q_ self o (Q .normal))
  (hK2 : Z3j K2_ o (Q (.exit 2)))
  (hr : ∀ s, Ends a9.results 0 (Z2h o) .ret s → Q .ret s) :
  Sv Try.prog Γ 0 a9_c1 (Z64 Γ Q) ⟨(ue [(98, (B v98)), (61, (I v61)), (60, (I (q_.Timers.length : Int))), (59, (.c (.ro false 5 (q_.Timers.map e_TJTimer)))), (1, (.c (.ref 0 5 0 0)))]), (upd e0 0 (some (.cells 5 [[cI q_.Now, cI q_.Next, .ro false 7 (q_.Tasks.map e_TJJob), .ro false 7 (q_.Smalls.map e_TJJob), .ro false 5 (q_.Timers.map e_TJTimer)]]))), 1⟩ := by
 unfold Zn at h
 refine Sv.cnd rfl h (fun h => ?_) fun h => ?_
 ·refine ssr <| un1 rfl <| dnil <| Sv.ret ?_
  exact hr _ (rt0 h rfl rfl ⟨rfl, rfl, rfl⟩)
 ·refine Sv.skip <| srg <| un1 (v := (I (wi (v61 + 1)))) rfl <| un1 rfl <| dnil ?_
  exact hself (wi (v61 + 1)) h _ (wcn [0] rfl (.cf rfl rfl (.cf rfl rfl (.cf rfl rfl (.cr rfl rfl rfl .nil)))) (.box (by decide) rfl (blkAs_cells (.sm rfl (.sm rfl (.sm rfl (.sm rfl (.sm rfl .nil)))))) .nil))
abbrev Z3k (q_ : TJLoop) (F_ : Nat → Int → Option Int) (o : Int) : Nat → St → Prop := fun k s => ∃ (v61 : Int), F_ k v61 = some o ∧ s = ⟨(ue [(61, (I v61)), (60, (I (q_.Timers.length : Int))), (59, (.c (.ro false 5 (q_.Timers.map e_TJTimer)))), (1, (.c (.ref 0 5 0 0)))]), (upd e0 0 (some (.cells 5 [[cI q_.Now, cI q_.Next, .ro false 7 (q_.Tasks.map e_TJJob), .ro false 7 (q_.Smalls.map e_TJJob), .ro false 5 (q_.Timers.map e_TJTimer)]]))), 1⟩
noncomputable def Z2 (q_ : TJLoop) (K2_ : Unit → Option Int) : Nat → Int → Option Int
 | 0, _ => none
 | k + 1, v61 =>
  if decide (v61 < (q_.Timers.length : Int)) then
   (at? q_.Timers v61).bind fun x_1 =>
   if (((!(Z1 x_1.At q_.Now 1000000000)) || (!(Z1 x_1.Every 0 1000000000))) || (!(Z1 x_1.Turn 0 1000000000))) then
    Zn v61 q_ (Z2 q_ K2_ k) K2_ true
   else
    if decide (0 < v61) then
     (at? q_.Timers (wi (v61 - 1))).bind fun x_2 =>
     (Zm x_2 x_1).bind fun r_3 =>
     Zn v61 q_ (Z2 q_ K2_ k) K2_ (decide (0 ≤ r_3))
    else
     Zn v61 q_ (Z2 q_ K2_ k) K2_ false
  else
   K2_ ()
theorem Z65 {Γ : Glob} {Q : AExit → St → Prop} {q_ : TJLoop} {K2_ : Unit → Option Int} {k : Nat} {v61 : Int} {o : Int} (h : Z2 q_ K2_ k v61 = some o)
  (hK2 : Z3j K2_ o (Q (.exit 2)))
  (hr : ∀ s, Ends a9.results 0 (Z2h o) .ret s → Q .ret s) :
  Sv Try.prog Γ 0 (.loop a9_c3) Q ⟨(ue [(61, (I v61)), (60, (I (q_.Timers.length : Int))), (59, (.c (.ro false 5 (q_.Timers.map e_TJTimer)))), (1, (.c (.ref 0 5 0 0)))]), (upd e0 0 (some (.cells 5 [[cI q_.Now, cI q_.Next, .ro false 7 (q_.Tasks.map e_TJJob), .ro false 7 (q_.Smalls.map e_TJJob), .ro false 5 (q_.Timers.map e_TJTimer)]]))), 1⟩ := by
 refine Sv.loop (I := Z3k q_ (Z2 q_ K2_) o) (fun k s hI => ?_) ⟨v61, h, rfl⟩
 clear h
 clear v61
 obtain ⟨v61, h, rfl⟩ := hI
 cases k with
 | zero => cases h
 | succ k =>
 rw [Z2] at h
 have hself : Z3i q_ (Z2 q_ K2_ k) o (rnd 0 (Z3k q_ (Z2 q_ K2_) o) k Q) := fun v61 h s hw => ⟨_, k, hw, Nat.lt_succ_self k, v61, h, rfl⟩
 refine ssr <| un1 (v := (B (decide (v61 < (q_.Timers.length : Int))))) rfl <| dnil <| Sv.seq ?_
 refine Sv.cnd rfl h (fun h => ?_) fun h => ?_
 ·refine Sv.skip <| Sv.seq <| Sv.block <| ssr <| un1 rfl ?_
  obtain ⟨x_1, hx2, h⟩ := bnd h
  refine un1 (v := (.c (.rop (e_TJTimer x_1)))) (s_iaddr (e := e_TJTimer) (xs := q_.Timers) rfl rfl hx2) <| un1 (v := (.agg (e_TJTimer x_1))) rfl <| un <| a2v (v := (.c (.ref 1 5 0 0))) (h' := upd _ 1 (some (.cells 5 [[cI 0, cI 0, cI 0, cI 0, .str []]]))) (n' := 2) rfl rfl hcs <| un1 rfl <| un <| a2n (h' := upd _ 1 (some (.cells 5 [(e_TJTimer x_1)]))) (n' := 2) rfl rfl hcs <| dnil <| Sv.seq <| Sv.drawn <| un1 (v := (.c (.ref 1 5 0 1))) rfl <| un1 (v := (I x_1.At)) rfl <| un1 (v := (.c (.ref 0 5 0 0))) rfl <| un1 (v := (I q_.Now)) rfl <| un <| ac_pure (Zf (Γ := Γ) x_1.At q_.Now 1000000000) rfl rfl rfl <| un1 (v := (B (!(Z1 x_1.At q_.Now 1000000000)))) rfl <| un1 rfl ?_
  refine gjoin 5 (d := 77) (v := (B ((!(Z1 x_1.At q_.Now 1000000000)) || (!(Z1 x_1.Every 0 1000000000))))) (fun X hX => ?_) ?_
  ·refine split2 (fun hc11 => ?_) (fun hc11 => ?_)
   ·refine gs rfl rfl <| gs rfl rfl <| gs rfl rfl <| gs rfl rfl <| un1 (v := (B true)) rfl <| dnil ?_
    exact hX _ (.putEq (by rw [hc11]; rfl) (.skp (.skp (.skp (.skp (.putEq (by rw [hc11]) (.refl _)) rfl) rfl) rfl) rfl))
   ·refine gt rfl <| a1 (v := (.c (.ref 1 5 0 2))) rfl <| gt rfl <| a1 (v := (I x_1.Every)) rfl <| gt rfl <| ac_pure (Zf (Γ := Γ) x_1.Every 0 1000000000) rfl rfl rfl <| gt rfl <| a1 (v := (B (!(Z1 x_1.Every 0 1000000000)))) rfl <| un1 (v := (B (!(Z1 x_1.Every 0 1000000000)))) rfl <| dnil ?_
    exact hX _ (.putEq (by rw [hc11]; rfl) (.skp (.skp (.skp (.skp (.putEq (by rw [hc11]) (.refl _)) rfl) rfl) rfl) rfl))
  refine un1 rfl ?_
  refine gjoin 5 (d := 83) (v := (B (((!(Z1 x_1.At q_.Now 1000000000)) || (!(Z1 x_1.Every 0 1000000000))) || (!(Z1 x_1.Turn 0 1000000000))))) (fun X hX => ?_) ?_
  ·refine split2 (fun hc12 => ?_) (fun hc12 => ?_)
   ·refine gs rfl rfl <| gs rfl rfl <| gs rfl rfl <| gs rfl rfl <| un1 (v := (B true)) rfl <| dnil ?_
    exact hX _ (.putEq (by rw [hc12]; rfl) (.skp (.skp (.skp (.skp (.putEq (by rw [hc12]) (.refl _)) rfl) rfl) rfl) rfl))
   ·refine gt rfl <| a1 (v := (.c (.ref 1 5 0 3))) rfl <| gt rfl <| a1 (v := (I x_1.Turn)) rfl <| gt rfl <| ac_pure (Zf (Γ := Γ) x_1.Turn 0 1000000000) rfl rfl rfl <| gt rfl <| a1 (v := (B (!(Z1 x_1.Turn 0 1000000000)))) rfl <| un1 (v := (B (!(Z1 x_1.Turn 0 1000000000)))) rfl <| dnil ?_
    exact hX _ (.putEq (by rw [hc12]; rfl) (.skp (.skp (.skp (.skp (.putEq (by rw [hc12]) (.refl _)) rfl) rfl) rfl) rfl))
  refine un1 rfl ?_
  refine spl h (fun h => ?_) fun h => ?_
  ·repeat (first | refine gu rfl ?_ | refine gs rfl rfl ?_)
   refine un1 (v := (B true)) rfl <| dnil ?_
   exact Sv.weak (wcn [0] rfl (.cf rfl rfl (.cf rfl rfl (.cf rfl rfl (.cf rfl rfl (.cr rfl rfl rfl .nil))))) (.box (by decide) rfl (blkAs_cells (.sm rfl (.sm rfl (.sm rfl (.sm rfl (.sm rfl .nil)))))) .nil)) (Z2t h hself hK2 hr)
  ·refine gt rfl <| a1 rfl <| gt rfl <| a1 (v := (B (decide (0 < v61)))) rfl <| gt rfl <| a1 rfl ?_
   refine spl h (fun h => ?_) fun h => ?_
   ·refine gt rfl <| a1 (v := (.c (.ref 0 5 0 4))) rfl <| gt rfl <| a1 (v := (.c (.ro false 5 (q_.Timers.map e_TJTimer)))) rfl <| gt rfl <| a1 rfl <| gt rfl <| a1 (v := (I (wi (v61 - 1)))) rfl ?_
    obtain ⟨x_2, hx3, h⟩ := bnd h
    refine gt rfl <| a1 (v := (.c (.rop (e_TJTimer x_2)))) (s_iaddr (e := e_TJTimer) (xs := q_.Timers) rfl rfl hx3) <| gt rfl <| a1 (v := (.agg (e_TJTimer x_2))) rfl <| gt rfl <| a1 (v := (.agg (e_TJTimer x_1))) rfl ?_
    obtain ⟨r_3, hr4, h⟩ := bnd h
    refine gt rfl <| ac_pure (Z2s hr4) rfl rfl rfl <| gt rfl <| a1 (v := (B (decide (0 ≤ r_3)))) rfl <| gt rfl <| a1 (v := (B (decide (0 ≤ r_3)))) rfl <| un1 (v := (B (decide (0 ≤ r_3)))) rfl <| dnil ?_
    exact Sv.weak (wcn [0] rfl (.cf rfl rfl (.cf rfl rfl (.cf rfl rfl (.cf rfl rfl (.cr rfl rfl rfl .nil))))) (.box (by decide) rfl (blkAs_cells (.sm rfl (.sm rfl (.sm rfl (.sm rfl (.sm rfl .nil)))))) .nil)) (Z2t h hself hK2 hr)
   ·repeat (first | refine gu rfl ?_ | refine gs rfl rfl ?_)
    refine gt rfl <| a1 (v := (B false)) rfl <| un1 (v := (B false)) rfl <| dnil ?_
    exact Sv.weak (wcn [0] rfl (.cf rfl rfl (.cf rfl rfl (.cf rfl rfl (.cf rfl rfl (.cr rfl rfl rfl .nil))))) (.box (by decide) rfl (blkAs_cells (.sm rfl (.sm rfl (.sm rfl (.sm rfl (.sm rfl .nil)))))) .nil)) (Z2t h hself hK2 hr)
 ·refine Sv.exit ?_
  exact hK2 () h _ (wcn [] rfl .nil .nil)
/-- clerestory/loop.Check -/
noncomputable def Z1h (q_ : TJLoop) : Option Int :=
 letIn (decide (100 < (mx (mx (q_.Tasks.length : Int) (q_.Smalls.length : Int)) (q_.Timers.length : Int)))) fun v18 : Bool =>
 if v18 then
  some 2
 else
  if ((!(Z1 q_.Now 0 1000000000)) || (!(Z1 q_.Next 0 1000000000))) then
   some 3
  else
   (Z1v q_).bind fun r_ =>
   lim fun kk1 => Za r_ q_ (fun (_ : Unit) => 
     (Z1f q_.Tasks).bind fun r_1 =>
     if r_1 then
      some 3
     else
      (Z1g q_.Smalls).bind fun r_2 =>
      if r_2 then
       some 3
      else
       lim fun kk => Z2 q_ (fun (_ : Unit) => 
         some 0) kk 0) kk1 ([] : List (Int × Int)) r_ 0
theorem Z66 {Γ : Glob} {q_ : TJLoop} {r : Int} (h : Z1h q_ = some r) : CPure Try.prog Γ 9 [(.agg [cI q_.Now, cI q_.Next, .ro false 7 (q_.Tasks.map e_TJJob), .ro false 7 (q_.Smalls.map e_TJJob), .ro false 5 (q_.Timers.map e_TJTimer)])] (I r) := by
 refine acalls_of_sv hmix c9 (R := Z2h r) ?_
 unfold Z1h at h
 refine ssr <| un <| a2v (v := (.c (.ref 0 5 0 0))) (h' := upd _ 0 (some (.cells 5 [[cI q_.Now, cI q_.Next, .ro false 7 (q_.Tasks.map e_TJJob), .ro false 7 (q_.Smalls.map e_TJJob), .ro false 5 (q_.Timers.map e_TJTimer)]]))) (n' := 1) rfl rfl hcs <| un1 rfl <| dnil <| Sv.seq <| ssr <| un1 (v := (.c (.ref 0 5 0 2))) rfl <| un1 (v := (.c (.ro false 7 (q_.Tasks.map e_TJJob)))) rfl <| un1 (v := (I (q_.Tasks.length : Int))) (s_len (e := e_TJJob) (xs := q_.Tasks) rfl) <| un1 (v := (.c (.ref 0 5 0 3))) rfl <| un1 (v := (.c (.ro false 7 (q_.Smalls.map e_TJJob)))) rfl <| un1 (v := (I (q_.Smalls.length : Int))) (s_len (e := e_TJJob) (xs := q_.Smalls) rfl) <| un1 (v := (.c (.ref 0 5 0 4))) rfl <| un1 (v := (.c (.ro false 5 (q_.Timers.map e_TJTimer)))) rfl <| un1 (v := (I (q_.Timers.length : Int))) (s_len (e := e_TJTimer) (xs := q_.Timers) rfl) <| un1 (v := (I (mx (mx (q_.Tasks.length : Int) (q_.Smalls.length : Int)) (q_.Timers.length : Int)))) (s_mx3 rfl rfl rfl) ?_
 obtain ⟨v18, hv18⟩ : ∃ v18 : Bool, v18 = decide (100 < (mx (mx (q_.Tasks.length : Int) (q_.Smalls.length : Int)) (q_.Timers.length : Int))) := ⟨_, rfl⟩
 replace h := letAt hv18 h
 refine un1 (v := (B v18)) (by rw [hv18]; rfl) ?_
 clear hv18
 refine dnil ?_
 refine Sv.cnd rfl h (fun h => ?_) fun h => ?_
 ·refine ssr <| un1 rfl <| dnil <| Sv.ret ?_
  exact rt0 h rfl rfl ⟨rfl, rfl, rfl⟩
 ·refine Sv.skip <| Sv.seq <| ssr <| un1 (v := (.c (.ref 0 5 0 0))) rfl <| un1 (v := (I q_.Now)) rfl <| un <| ac_pure (Zf (Γ := Γ) q_.Now 0 1000000000) rfl rfl rfl <| un1 (v := (B (!(Z1 q_.Now 0 1000000000)))) rfl <| un1 rfl ?_
  refine gjoin 5 (d := 28) (v := (B ((!(Z1 q_.Now 0 1000000000)) || (!(Z1 q_.Next 0 1000000000))))) (fun X hX => ?_) ?_
  ·refine split2 (fun hc2 => ?_) (fun hc2 => ?_)
   ·refine gs rfl rfl <| gs rfl rfl <| gs rfl rfl <| gs rfl rfl <| un1 (v := (B true)) rfl <| dnil ?_
    exact hX _ (.putEq (by rw [hc2]; rfl) (.skp (.skp (.skp (.skp (.putEq (by rw [hc2]) (.refl _)) rfl) rfl) rfl) rfl))
   ·refine gt rfl <| a1 (v := (.c (.ref 0 5 0 1))) rfl <| gt rfl <| a1 (v := (I q_.Next)) rfl <| gt rfl <| ac_pure (Zf (Γ := Γ) q_.Next 0 1000000000) rfl rfl rfl <| gt rfl <| a1 (v := (B (!(Z1 q_.Next 0 1000000000)))) rfl <| un1 (v := (B (!(Z1 q_.Next 0 1000000000)))) rfl <| dnil ?_
    exact hX _ (.putEq (by rw [hc2]; rfl) (.skp (.skp (.skp (.skp (.putEq (by rw [hc2]) (.refl _)) rfl) rfl) rfl) rfl))
  refine dnil ?_
  refine Sv.cnd rfl h (fun h => ?_) fun h => ?_
  ·refine ssr <| un1 rfl <| dnil <| Sv.ret ?_
   exact rt0 h rfl rfl ⟨rfl, rfl, rfl⟩
  ·refine Sv.skip <| ssr <| un <| a2v (v := (.c (.mp 1))) (h' := upd _ 1 (mapB (.i .i64) (fun x => cI x) (fun (x : Int) => (I x)) ([] : List (Int × Int)))) (n' := 2) rfl rfl hcs <| un1 rfl <| dnil <| Sv.seq <| ssr <| un1 (v := (.agg [cI q_.Now, cI q_.Next, .ro false 7 (q_.Tasks.map e_TJJob), .ro false 7 (q_.Smalls.map e_TJJob), .ro false 5 (q_.Timers.map e_TJTimer)])) rfl ?_
   obtain ⟨r_, hr1, h⟩ := bnd h
   refine un <| ac_gen (bs := []) («as» := [(.agg [cI q_.Now, cI q_.Next, .ro false 7 (q_.Tasks.map e_TJJob), .ro false 7 (q_.Smalls.map e_TJJob), .ro false 5 (q_.Timers.map e_TJTimer)])]) (h2 := _) (h1 := e0) (Z5c hr1) rfl (.cons (avAs_free rfl) .nil) (hsub_refl _) (.nil _) (fun _ => rfl) (by decide) (by decide) (.cons (avAs_free rfl) .nil) .nil ?_
   rintro _ _ _ hn ⟨z_, hz_, rfl, rfl, rfl⟩
   refine ⟨.inl rfl, (upd (rem [] _) 2 (lstB z_ 1 (r_.map eI))), fun hbd => (m3_cons (m3_row rfl (fr_map fun _ => rfl)) (m3_rem (in_nil _) (.cons (by decide) .nil) hbd)), (lstV z_ 2 1 r_.length), 3, (by cases z_ <;> rfl), rfl, ?_⟩
   refine un1 (v := (I (r_.length : Int))) (s_lenL rfl (len_nil_of hz_)) <| un1 rfl <| dnil <| Sv.block ?_
   obtain ⟨kk1, h⟩ := lim_some h
   refine Sv.weak (wcn [0, 1, 2] rfl (.cf rfl rfl (.cf rfl rfl (.cons rfl (.c (lsr rfl rfl)) (.cons rfl (.c (.mp rfl (by decide))) (.cr rfl rfl rfl .nil))))) (.row (by decide) rfl (fr_map fun _ => rfl) (.box (by decide) rfl .map (.box (by decide) rfl (blkAs_cells (.sm rfl (.sm rfl (.sm rfl (.sm rfl (.sm rfl .nil)))))) .nil)))) (Z62 hz_ h ?_ (fun s hs => hs))
   ·intro _ h _ hw1
    refine Sv.weak hw1 <| Sv.seq <| ssr <| un1 (v := (.c (.ref 0 5 0 2))) rfl <| un1 (v := (.c (.ro false 7 (q_.Tasks.map e_TJJob)))) rfl ?_
    obtain ⟨r_1, hr2, h⟩ := bnd h
    refine un <| ac_pure (Z5k hr2) rfl rfl rfl <| dnil ?_
    refine Sv.cnd rfl h (fun h => ?_) fun h => ?_
    ·refine ssr <| un1 rfl <| dnil <| Sv.ret ?_
     exact rt0 h rfl rfl ⟨rfl, rfl, rfl⟩
    ·refine Sv.skip <| Sv.seq <| ssr <| un1 (v := (.c (.ref 0 5 0 3))) rfl <| un1 (v := (.c (.ro false 7 (q_.Smalls.map e_TJJob)))) rfl ?_
     obtain ⟨r_2, hr3, h⟩ := bnd h
     refine un <| ac_pure (Z5s hr3) rfl rfl rfl <| dnil ?_
     refine Sv.cnd rfl h (fun h => ?_) fun h => ?_
     ·refine ssr <| un1 rfl <| dnil <| Sv.ret ?_
      exact rt0 h rfl rfl ⟨rfl, rfl, rfl⟩
     ·refine Sv.skip <| Sv.seq <| ssr <| un1 (v := (.c (.ref 0 5 0 4))) rfl <| un1 (v := (.c (.ro false 5 (q_.Timers.map e_TJTimer)))) rfl <| un1 (v := (I (q_.Timers.length : Int))) (s_len (e := e_TJTimer) (xs := q_.Timers) rfl) <| un1 rfl <| dnil <| Sv.block ?_
      obtain ⟨kk, h⟩ := lim_some h
      refine Sv.weak (wcn [0] rfl (.cf rfl rfl (.cf rfl rfl (.cf rfl rfl (.cr rfl rfl rfl .nil)))) (.box (by decide) rfl (blkAs_cells (.sm rfl (.sm rfl (.sm rfl (.sm rfl (.sm rfl .nil)))))) .nil)) (Z65 h ?_ (fun s hs => hs))
      ·intro _ h _ hw2
       refine Sv.weak hw2 <| ssr <| un1 rfl <| dnil <| Sv.ret ?_
       exact rt0 h rfl rfl ⟨rfl, rfl, rfl⟩
def a46 : AFunc := ⟨1, [(.tmp 2)], (sr [(oP 2 (.mov (.const (.c (.ro true 7 [])))))]
 (.seq (sr [(mV 3 0), (oP 4 (.eqn false (.tmp 3)))]
 (.cond (.tmp 4) (sr [(oP 2 (.mov (.const (.c (.ro true 7 [])))))]
 .ret) .skip))
 (sr [(oP 5 (.bslice 7 [(.val (.int .i64 0)), (.val (.int .i64 0)), (.val (.bool false)), (.str []), (.val (.int .i64 0)), (.val (.int .i64 0)), (.str [])] 0 [])), (mV 6 0), (oP 7 (.app 7 72 (.tmp 5) (.tmp 6))), (mV 2 7)]
 .ret)))⟩
theorem c46 : compFunc Try.prog 46 = some a46 := by kernel_rfl
def Z3l (r : (List TJJob)) : AV → Heap → Nat → Prop := fun v h' n' => ∃ z0 : Bool, (z0 = true → r = []) ∧ v = (lstV z0 0 7 r.length) ∧ (h' = (upd e0 0 (lstB z0 7 (r.map e_TJJob)))) ∧ n' = 1
/-- slices.Clone(()clerestory/api.JJob,clerestory/api.JJob) -/
noncomputable def Zz (s_ : (List TJJob)) : Option (List TJJob) :=
 (app? 72 ([] : List TJJob) s_).bind fun r_ =>
 some r_
theorem Z1i {Γ : Glob} {s_ : (List TJJob)} {r : (List TJJob)} (h : Zz s_ = some r) : ACalls Try.prog Γ 46 [(.c (.ro false 7 (s_.map e_TJJob)))] e0 0 (Z3l r) := by
 refine acalls_of_sv hmix c46 (R := Z3l r) ?_
 unfold Zz at h
 refine ssr <| un1 rfl <| dnil <| Sv.seq <| ssr <| un1 rfl ?_
 refine un (a1n (e := e_TJJob) (xs := s_) rfl (fun hn1 => ?_) ?_)
 ·replace h : (some ([] : List TJJob)) = some r := by rw [hn1] at h; exact h
  refine dnil <| Sv.condT rfl <| ssr <| un1 rfl <| dnil <| Sv.ret ?_
  replace h := Option.some.inj h
  subst h
  exact ⟨_, .refl _, _, rfl, ⟨upd e0 0 (some (lstV true 0 7 ([] : List TJJob).length)), (upd e0 0 (lstB true 7 (([] : List TJJob).map e_TJJob))), 1⟩, (lstV true 0 7 ([] : List TJJob).length), weak_canon2 [1000] [0] (by decide) (by decide) nlz (.cons (by decide) .nil) (.cons rfl (.c (.same rfl)) .nil) (.non (by decide) .nil), rfl, true, (fun _ => rfl), rfl, rfl, rfl⟩
 ·refine dnil <| Sv.condF rfl <| Sv.skip <| ssr <| un <| a2v (v := (lstV false 0 7 ([] : List TJJob).length)) (h' := upd _ 0 (lstB false 7 (([] : List TJJob).map e_TJJob))) (n' := 1) rfl rfl hcs <| un1 rfl ?_
  obtain ⟨r_, hr1, h⟩ := bnd h
  have hz1 : (false && s_.isEmpty) = true → r_ = [] := app_nil (z := false) (ys := s_) hcs hr1
  replace hz1 : false = true → r_ = [] := hz1
  refine un <| a2v rfl (s_app (xs := ([] : List TJJob)) (ys := s_) (e := e_TJJob) (z := false) (b := 0) rfl rfl hcs rfl rfl (slc_ro) hr1) hcs <| un1 rfl <| dnil <| Sv.ret ?_
  replace h := Option.some.inj h
  subst h
  exact ⟨_, .refl _, _, rfl, ⟨upd e0 0 (some (lstV false 0 7 r_.length)), (upd e0 0 (lstB false 7 (r_.map e_TJJob))), 1⟩, (lstV false 0 7 r_.length), weak_canon2 [1] [0] (by decide) (by decide) nlz (.cons (by decide) .nil) (.cons rfl (.c (lsr rfl rfl)) .nil) (.row (by decide) rfl (fr_map fun _ => rfl) .nil), rfl, false, hz1, rfl, rfl, rfl⟩
def a64 : AFunc := ⟨1, [(.tmp 2)], (sr [(oP 2 (.mov (.const (.c (.ro true 5 [])))))]
 (.seq (sr [(mV 3 0), (oP 4 (.eqn false (.tmp 3)))]
 (.cond (.tmp 4) (sr [(oP 2 (.mov (.const (.c (.ro true 5 [])))))]
 .ret) .skip))
 (sr [(oP 5 (.bslice 5 [(.val (.int .i64 0)), (.val (.int .i64 0)), (.val (.int .i64 0)), (.val (.int .i64 0)), (.str [])] 0 [])), (mV 6 0), (oP 7 (.app 5 48 (.tmp 5) (.tmp 6))), (mV 2 7)]
 .ret)))⟩
theorem c64 : compFunc Try.prog 64 = some a64 := by kernel_rfl
def Z3m (r : (List TJTimer)) : AV → Heap → Nat → Prop := fun v h' n' => ∃ z0 : Bool, (z0 = true → r = []) ∧ v = (lstV z0 0 5 r.length) ∧ (h' = (upd e0 0 (lstB z0 5 (r.map e_TJTimer)))) ∧ n' = 1
/-- slices.Clone(()clerestory/api.JTimer,clerestory/api.JTimer) -/
noncomputable def Z1x (s_ : (List TJTimer)) : Option (List TJTimer) :=
 (app? 48 ([] : List TJTimer) s_).bind fun r_ =>
 some r_
theorem Z67 {Γ : Glob} {s_ : (List TJTimer)} {r : (List TJTimer)} (h : Z1x s_ = some r) : ACalls Try.prog Γ 64 [(.c (.ro false 5 (s_.map e_TJTimer)))] e0 0 (Z3m r) := by
 refine acalls_of_sv hmix c64 (R := Z3m r) ?_
 unfold Z1x at h
 refine ssr <| un1 rfl <| dnil <| Sv.seq <| ssr <| un1 rfl ?_
 refine un (a1n (e := e_TJTimer) (xs := s_) rfl (fun hn1 => ?_) ?_)
 ·replace h : (some ([] : List TJTimer)) = some r := by rw [hn1] at h; exact h
  refine dnil <| Sv.condT rfl <| ssr <| un1 rfl <| dnil <| Sv.ret ?_
  replace h := Option.some.inj h
  subst h
  exact ⟨_, .refl _, _, rfl, ⟨upd e0 0 (some (lstV true 0 5 ([] : List TJTimer).length)), (upd e0 0 (lstB true 5 (([] : List TJTimer).map e_TJTimer))), 1⟩, (lstV true 0 5 ([] : List TJTimer).length), weak_canon2 [1000] [0] (by decide) (by decide) nlz (.cons (by decide) .nil) (.cons rfl (.c (.same rfl)) .nil) (.non (by decide) .nil), rfl, true, (fun _ => rfl), rfl, rfl, rfl⟩
 ·refine dnil <| Sv.condF rfl <| Sv.skip <| ssr <| un <| a2v (v := (lstV false 0 5 ([] : List TJTimer).length)) (h' := upd _ 0 (lstB false 5 (([] : List TJTimer).map e_TJTimer))) (n' := 1) rfl rfl hcs <| un1 rfl ?_
  obtain ⟨r_, hr1, h⟩ := bnd h
  have hz1 : (false && s_.isEmpty) = true → r_ = [] := app_nil (z := false) (ys := s_) hcs hr1
  replace hz1 : false = true → r_ = [] := hz1
  refine un <| a2v rfl (s_app (xs := ([] : List TJTimer)) (ys := s_) (e := e_TJTimer) (z := false) (b := 0) rfl rfl hcs rfl rfl (slc_ro) hr1) hcs <| un1 rfl <| dnil <| Sv.ret ?_
  replace h := Option.some.inj h
  subst h
  exact ⟨_, .refl _, _, rfl, ⟨upd e0 0 (some (lstV false 0 5 r_.length)), (upd e0 0 (lstB false 5 (r_.map e_TJTimer))), 1⟩, (lstV false 0 5 r_.length), weak_canon2 [1] [0] (by decide) (by decide) nlz (.cons (by decide) .nil) (.cons rfl (.c (lsr rfl rfl)) .nil) (.row (by decide) rfl (fr_map fun _ => rfl) .nil), rfl, false, hz1, rfl, rfl, rfl⟩
def a33 : AFunc := ⟨1, [(.cell true 5 2)], (sr [(oP 1 (.box (.tmp 0))), (oP 2 (.box (.const (.agg [(.val (.int .i64 0)), (.val (.int .i64 0)), (.ro true 7 []), (.ro true 7 []), (.ro true 5 [])]))))]
 (.seq (.drawn (.fin [((oP 3 (.faddr 2 (.tmp 1))), (0, 0)), ((oP 4 (.load false 1 (.tmp 3))), (0, 1)), ((oP 6 (.faddr 3 (.tmp 1))), (0, 3)), ((oP 7 (.load false 1 (.tmp 6))), (0, 4)), ((oP 9 (.faddr 4 (.tmp 1))), (0, 6)), ((oP 10 (.load false 1 (.tmp 9))), (0, 7)), ((oP 5 (.call 46 [(.tmp 4)])), (1, 2)), ((oP 12 (.faddr 2 (.tmp 1))), (0, 9)), ((oP 8 (.call 46 [(.tmp 7)])), (1, 5)), ((oP 11 (.call 64 [(.tmp 10)])), (2, 8)), ((oN (.store 1 (.tmp 12) (.tmp 5))), (2, 10)), ((oP 13 (.faddr 3 (.tmp 1))), (0, 11)), ((oN (.store 1 (.tmp 13) (.tmp 8))), (2, 12)), ((oP 14 (.faddr 4 (.tmp 1))), (0, 13)), ((oN (.store 1 (.tmp 14) (.tmp 11))), (2, 14))]))
 (sr [(oP 15 (.load true 5 (.tmp 1))), (oN (.store 5 (.tmp 2) (.tmp 15)))]
 .ret)))⟩
theorem c33 : compFunc Try.prog 33 = some a33 := by kernel_rfl
def Z3n (r : TJLoop) : AV → Heap → Nat → Prop := fun v h' n' => ∃ z0 : Bool, (z0 = true → r.Tasks = []) ∧ ∃ z1 : Bool, (z1 = true → r.Smalls = []) ∧ ∃ z2 : Bool, (z2 = true → r.Timers = []) ∧ v = (.agg [cI r.Now, cI r.Next, lstC z0 0 7 r.Tasks.length, lstC z1 1 7 r.Smalls.length, lstC z2 2 5 r.Timers.length]) ∧ (h' = (upd (upd (upd e0 0 (lstB z0 7 (r.Tasks.map e_TJJob))) 1 (lstB z1 7 (r.Smalls.map e_TJJob))) 2 (lstB z2 5 (r.Timers.map e_TJTimer)))) ∧ n' = 3
/-- clerestory/loop.copied -/
noncomputable def Z1y (q_ : TJLoop) : Option TJLoop :=
 (Zz q_.Tasks).bind fun r_ =>
 (Zz q_.Smalls).bind fun r_1 =>
 (Z1x q_.Timers).bind fun r_2 =>
 some (⟨q_.Now, q_.Next, r_, r_1, r_2⟩ : TJLoop)
theorem Z68 {Γ : Glob} {q_ : TJLoop} {r : TJLoop} (h : Z1y q_ = some r) : ACalls Try.prog Γ 33 [(.agg [cI q_.Now, cI q_.Next, .ro false 7 (q_.Tasks.map e_TJJob), .ro false 7 (q_.Smalls.map e_TJJob), .ro false 5 (q_.Timers.map e_TJTimer)])] e0 0 (Z3n r) := by
 refine acalls_of_sv hmix c33 (R := Z3n r) ?_
 unfold Z1y at h
 refine ssr <| un <| a2v (v := (.c (.ref 0 5 0 0))) (h' := upd _ 0 (some (.cells 5 [[cI q_.Now, cI q_.Next, .ro false 7 (q_.Tasks.map e_TJJob), .ro false 7 (q_.Smalls.map e_TJJob), .ro false 5 (q_.Timers.map e_TJTimer)]]))) (n' := 1) rfl rfl hcs <| un <| a2v (v := (.c (.ref 1 5 0 0))) (h' := upd _ 1 (some (.cells 5 [[cI 0, cI 0, .ro true 7 [], .ro true 7 [], .ro true 5 []]]))) (n' := 2) rfl rfl hcs <| dnil <| Sv.seq <| Sv.drawn <| un1 (v := (.c (.ref 0 5 0 2))) rfl <| un1 (v := (.c (.ro false 7 (q_.Tasks.map e_TJJob)))) rfl <| un1 (v := (.c (.ref 0 5 0 3))) rfl <| un1 (v := (.c (.ro false 7 (q_.Smalls.map e_TJJob)))) rfl <| un1 (v := (.c (.ref 0 5 0 4))) rfl <| un1 (v := (.c (.ro false 5 (q_.Timers.map e_TJTimer)))) rfl ?_
 obtain ⟨r_, hr1, h⟩ := bnd h
 refine un <| ac_gen (bs := []) («as» := [(.c (.ro false 7 (q_.Tasks.map e_TJJob)))]) (h2 := _) (h1 := e0) (Z1i hr1) rfl (.cons (avAs_free rfl) .nil) (hsub_refl _) (.nil _) (fun _ => rfl) (by decide) (by decide) (.cons (avAs_free rfl) .nil) .nil ?_
 rintro _ _ _ hn ⟨z_, hz_, rfl, rfl, rfl⟩
 refine ⟨.inl rfl, (upd (rem [] _) 2 (lstB z_ 7 (r_.map e_TJJob))), fun hbd => (m3_cons (m3_row rfl (fr_map fun _ => rfl)) (m3_rem (in_nil _) (.cons (by decide) .nil) hbd)), (lstV z_ 2 7 r_.length), 3, (by cases z_ <;> rfl), rfl, ?_⟩
 refine un1 (v := (.c (.ref 0 5 0 2))) rfl ?_
 obtain ⟨r_1, hr2, h⟩ := bnd h
 refine un <| ac_gen (bs := []) («as» := [(.c (.ro false 7 (q_.Smalls.map e_TJJob)))]) (h2 := _) (h1 := e0) (Z1i hr2) rfl (.cons (avAs_free rfl) .nil) (hsub_refl _) (.nil _) (fun _ => rfl) (by decide) (by decide) (.cons (avAs_free rfl) .nil) .nil ?_
 rintro _ _ _ hn ⟨z_1, hz_1, rfl, rfl, rfl⟩
 refine ⟨.inl rfl, (upd (rem [] _) 3 (lstB z_1 7 (r_1.map e_TJJob))), fun hbd => (m3_cons (m3_row rfl (fr_map fun _ => rfl)) (m3_rem (in_nil _) (.cons (by decide) .nil) hbd)), (lstV z_1 3 7 r_1.length), 4, (by cases z_1 <;> rfl), rfl, ?_⟩
 obtain ⟨r_2, hr3, h⟩ := bnd h
 refine un <| ac_gen (bs := []) («as» := [(.c (.ro false 5 (q_.Timers.map e_TJTimer)))]) (h2 := _) (h1 := e0) (Z67 hr3) rfl (.cons (avAs_free rfl) .nil) (hsub_refl _) (.nil _) (fun _ => rfl) (by decide) (by decide) (.cons (avAs_free rfl) .nil) .nil ?_
 rintro _ _ _ hn ⟨z_2, hz_2, rfl, rfl, rfl⟩
 refine ⟨.inl rfl, (upd (rem [] _) 4 (lstB z_2 5 (r_2.map e_TJTimer))), fun hbd => (m3_cons (m3_row rfl (fr_map fun _ => rfl)) (m3_rem (in_nil _) (.cons (by decide) .nil) hbd)), (lstV z_2 4 5 r_2.length), 5, (by cases z_2 <;> rfl), rfl, ?_⟩
 refine un <| a2n (h' := upd _ 0 (some (.cells 5 [[cI q_.Now, cI q_.Next, lstC z_ 2 7 r_.length, .ro false 7 (q_.Smalls.map e_TJJob), .ro false 5 (q_.Timers.map e_TJTimer)]]))) (n' := 5) rfl rfl hcs <| un1 (v := (.c (.ref 0 5 0 3))) rfl <| un <| a2n (h' := upd _ 0 (some (.cells 5 [[cI q_.Now, cI q_.Next, lstC z_ 2 7 r_.length, lstC z_1 3 7 r_1.length, .ro false 5 (q_.Timers.map e_TJTimer)]]))) (n' := 5) rfl rfl hcs <| un1 (v := (.c (.ref 0 5 0 4))) rfl <| un <| a2n (h' := upd _ 0 (some (.cells 5 [[cI q_.Now, cI q_.Next, lstC z_ 2 7 r_.length, lstC z_1 3 7 r_1.length, lstC z_2 4 5 r_2.length]]))) (n' := 5) rfl rfl hcs <| dnil <| ssr <| un1 (v := (.agg [cI q_.Now, cI q_.Next, lstC z_ 2 7 r_.length, lstC z_1 3 7 r_1.length, lstC z_2 4 5 r_2.length])) rfl <| un <| a2n (h' := upd _ 1 (some (.cells 5 [[cI q_.Now, cI q_.Next, lstC z_ 2 7 r_.length, lstC z_1 3 7 r_1.length, lstC z_2 4 5 r_2.length]]))) (n' := 5) rfl rfl hcs <| dnil <| Sv.ret ?_
 replace h := Option.some.inj h
 subst h
 exact ⟨_, .refl _, _, rfl, ⟨upd e0 0 (some (.agg [cI q_.Now, cI q_.Next, lstC z_ 0 7 r_.length, lstC z_1 1 7 r_1.length, lstC z_2 2 5 r_2.length])), (upd (upd (upd e0 0 (lstB z_ 7 (r_.map e_TJJob))) 1 (lstB z_1 7 (r_1.map e_TJJob))) 2 (lstB z_2 5 (r_2.map e_TJTimer))), 3⟩, (.agg [cI q_.Now, cI q_.Next, lstC z_ 0 7 r_.length, lstC z_1 1 7 r_1.length, lstC z_2 2 5 r_2.length]), weak_canon2 [2, 3, 4] [0, 1, 2] (by decide) (by decide) nlz (.cons (by decide) (.cons (by decide) (.cons (by decide) .nil))) (.cons rfl (avAs_agg (.sm rfl (.sm rfl (.cons (lstC_ren rfl (by decide)) (.cons (lstC_ren rfl (by decide)) (.cons (lstC_ren rfl (by decide)) .nil)))))) .nil) (.row (by decide) rfl (fr_map fun _ => rfl) (.row (by decide) rfl (fr_map fun _ => rfl) (.row (by decide) rfl (fr_map fun _ => rfl) .nil))), rfl, z_, hz_, z_1, hz_1, z_2, hz_2, rfl, rfl, rfl⟩
def a87 : AFunc := ⟨2, [(.tmp 4)], (sr [(oP 2 (.box (.tmp 0))), (oP 4 (.mov kF))]
 (sr [(mV 5 1), (oP 6 (.bin .geq (.tmp 5) (kI 100))), (mV 7 6), ⟨(some 8), (.faddr 0 (.tmp 2)), (some (7, false))⟩, ⟨(some 9), (.faddr 1 (.tmp 8)), (some (7, false))⟩, ⟨(some 10), (.load false 1 (.tmp 9)), (some (7, false))⟩, ⟨(some 11), (.bin .eql (.tmp 10) (kI 1000000000)), (some (7, false))⟩, (oP 12 (.pick (.tmp 7) kT (.tmp 11))), (mV 4 12)]
 .ret))⟩
theorem c87 : compFunc Try.prog 87 = some a87 := by kernel_rfl
def Z69 (r : Bool) : AV → Heap → Nat → Prop := fun v h' n' => v = (B r) ∧ (h' = e0) ∧ n' = 0
/-- (clerestory/loop.asked).full -/
def Zy (a_ : Tasked) (n_ : Int) : Bool :=
 ((decide (100 ≤ n_)) || (decide (a_.f_q.Next = 1000000000)))
theorem Z2u {Γ : Glob} (a_ : Tasked) (n_ : Int) : CPure Try.prog Γ 87 [(.agg [cI a_.f_q.Now, cI a_.f_q.Next, .ro false 7 (a_.f_q.Tasks.map e_TJJob), .ro false 7 (a_.f_q.Smalls.map e_TJJob), .ro false 5 (a_.f_q.Timers.map e_TJTimer), cI a_.f_a.Do, cI a_.f_a.Source, cI a_.f_a.N, .str a_.f_a.Call, cI a_.f_a.Arg.Kind, cI a_.f_a.Arg.N, .str a_.f_a.Arg.S]), (I n_)] (B (Zy a_ n_)) := by
 generalize h : Zy a_ n_ = o
 refine acalls_of_sv hmix c87 (R := Z69 o) ?_
 unfold Zy at h
 refine ssr <| un <| a2v (v := (.c (.ref 0 12 0 0))) (h' := upd _ 0 (some (.cells 12 [[cI a_.f_q.Now, cI a_.f_q.Next, .ro false 7 (a_.f_q.Tasks.map e_TJJob), .ro false 7 (a_.f_q.Smalls.map e_TJJob), .ro false 5 (a_.f_q.Timers.map e_TJTimer), cI a_.f_a.Do, cI a_.f_a.Source, cI a_.f_a.N, .str a_.f_a.Call, cI a_.f_a.Arg.Kind, cI a_.f_a.Arg.N, .str a_.f_a.Arg.S]]))) (n' := 1) rfl rfl hcs <| un1 rfl <| dnil <| ssr <| un1 rfl <| un1 (v := (B (decide (100 ≤ n_)))) rfl <| un1 rfl ?_
 refine gjoin 5 (d := 12) (v := (B ((decide (100 ≤ n_)) || (decide (a_.f_q.Next = 1000000000))))) (fun X hX => ?_) ?_
 ·refine split2 (fun hc1 => ?_) (fun hc1 => ?_)
  ·refine gs rfl rfl <| gs rfl rfl <| gs rfl rfl <| gs rfl rfl <| un1 (v := (B true)) rfl <| dnil ?_
   exact hX _ (.putEq (by rw [hc1]; rfl) (.skp (.skp (.skp (.skp (.putEq (by rw [hc1]) (.refl _)) rfl) rfl) rfl) rfl))
  ·refine gt rfl <| a1 (v := (.c (.ref 0 12 0 0))) rfl <| gt rfl <| a1 (v := (.c (.ref 0 12 0 1))) rfl <| gt rfl <| a1 (v := (I a_.f_q.Next)) rfl <| gt rfl <| a1 (v := (B (decide (a_.f_q.Next = 1000000000)))) rfl <| un1 (v := (B (decide (a_.f_q.Next = 1000000000)))) rfl <| dnil ?_
   exact hX _ (.putEq (by rw [hc1]; rfl) (.skp (.skp (.skp (.skp (.putEq (by rw [hc1]) (.refl _)) rfl) rfl) rfl) rfl))
 refine un1 rfl <| dnil <| Sv.ret ?_
 subst h
 exact ⟨_, .refl _, _, rfl, ⟨upd e0 0 (some (B ((decide (100 ≤ n_)) || (decide (a_.f_q.Next = 1000000000))))), e0, 0⟩, (B ((decide (100 ≤ n_)) || (decide (a_.f_q.Next = 1000000000)))), weak_canon [] rfl ndl nll nlz (.cf rfl rfl .nil) .nil, rfl, rfl, rfl, rfl⟩
def a65 : AFunc := ⟨2, [(.cell true 5 4), (.tmp 5), (.tmp 6)], (sr [(oP 2 (.box (.tmp 0))), (oP 4 (.box (.const (.agg [(.val (.int .i64 0)), (.val (.int .i64 0)), (.ro true 7 []), (.ro true 7 []), (.ro true 5 [])])))), (oP 5 (.mov (kI 0))), (oP 6 (.mov (kI 0)))]
 (sr [(oP 10 (.faddr 0 (.tmp 2))), (oP 11 (.load true 5 (.tmp 10))), (oP 12 (.faddr 0 (.tmp 2))), (oP 13 (.faddr 2 (.tmp 12))), (oP 7 (.box (.const (.agg [(.val (.int .i64 0)), (.val (.int .i64 0)), (.ro true 7 []), (.ro true 7 []), (.ro true 5 [])])))), (oN (.store 5 (.tmp 7) (.tmp 11))), (mV 8 13)]
 (sr [(oP 14 (.faddr 1 (.tmp 7))), (oP 15 (.load false 1 (.tmp 14))), (oP 16 (.faddr 5 (.tmp 2))), (oP 17 (.faddr 1 (.tmp 16))), (oP 18 (.load false 1 (.tmp 17))), (mV 19 1), (oP 20 (.faddr 5 (.tmp 2))), (oP 21 (.faddr 3 (.tmp 20))), (oP 22 (.load false 1 (.tmp 21))), (oP 23 (.faddr 5 (.tmp 2))), (oP 24 (.faddr 4 (.tmp 23))), (oP 25 (.load true 3 (.tmp 24))), (oP 26 (.build [(.val (.int .i64 0)), (.val (.int .i64 0)), (.val (.bool false)), (.str []), (.val (.int .i64 0)), (.val (.int .i64 0)), (.str [])] [(0, (1, (.tmp 15))), (1, (1, (.tmp 18))), (2, (1, (.tmp 19))), (3, (1, (.tmp 22))), (4, (3, (.tmp 25)))])), (oP 9 (.box (.const (.agg [(.val (.int .i64 0)), (.val (.int .i64 0)), (.val (.bool false)), (.str []), (.val (.int .i64 0)), (.val (.int .i64 0)), (.str [])])))), (oN (.store 7 (.tmp 9) (.tmp 26)))]
 (.seq (sr [(mV 27 1)]
 (.cond (.tmp 27) (.region [(oP 28 (.faddr 0 (.tmp 2))), (oP 29 (.faddr 3 (.tmp 28))), (mV 8 29), (oP 30 (.faddr 1 (.tmp 9))), (oN (.store 1 (.tmp 30) (kI 0)))]) (sr [(oP 31 (.faddr 1 (.tmp 9))), (oP 32 (.load false 1 (.tmp 31))), (oP 33 (.call 32 [(.tmp 32), (kI 1), (kI 4)])), (oP 34 (.un .not (.tmp 33)))]
 (.cond (.tmp 34) (sr [(oP 35 (.load true 5 (.tmp 7))), (oN (.store 5 (.tmp 4) (.tmp 35))), (oP 5 (.mov (kI 0))), (oP 6 (.mov (kI 1)))]
 .ret) .skip))))
 (.seq (.seq (.drawn (.fin [((oP 36 (.load true 12 (.tmp 2))), (0, 0)), ((mV 37 8), (0, 1)), ((oP 38 (.nilc (.tmp 37))), (0, 2)), ((oP 39 (.load false 1 (.tmp 38))), (0, 3)), ((oP 40 (.len (.tmp 39))), (0, 4)), ((oP 41 (.call 87 [(.tmp 36), (.tmp 40)])), (2, 5))]))
 (.cond (.tmp 41) (sr [(oP 42 (.load true 5 (.tmp 7))), (oN (.store 5 (.tmp 4) (.tmp 42))), (oP 5 (.mov (kI 0))), (oP 6 (.mov (kI 2)))]
 .ret) .skip))
 (.seq (.drawn (.fin [((mV 43 8), (0, 0)), ((mV 44 8), (0, 1)), ((oP 45 (.nilc (.tmp 44))), (0, 2)), ((oP 46 (.load false 1 (.tmp 45))), (0, 3)), ((oP 47 (.load true 7 (.tmp 9))), (0, 4)), ((oP 48 (.bslice 7 [(.val (.int .i64 0)), (.val (.int .i64 0)), (.val (.bool false)), (.str []), (.val (.int .i64 0)), (.val (.int .i64 0)), (.str [])] 1 [(0, (.tmp 47))])), (1, 5)), ((oP 49 (.app 7 72 (.tmp 46) (.tmp 48))), (2, 6)), ((oP 50 (.nilc (.tmp 43))), (0, 7)), ((oN (.store 1 (.tmp 50) (.tmp 49))), (2, 8))]))
 (sr [(oP 51 (.faddr 0 (.tmp 2))), (oP 52 (.faddr 1 (.tmp 51))), (oP 53 (.load false 1 (.tmp 52))), (oP 54 (.bin .add (.tmp 53) (kI 1))), (oP 55 (.faddr 0 (.tmp 2))), (oP 56 (.faddr 1 (.tmp 55))), (oN (.store 1 (.tmp 56) (.tmp 54)))]
 (.seq (.drawn (.alt [((oP 57 (.faddr 0 (.tmp 2))), (0, 0)), ((oP 58 (.load true 5 (.tmp 57))), (0, 1)), ((oP 59 (.faddr 0 (.tmp 9))), (0, 2))] (.fin [((oP 60 (.load false 1 (.tmp 59))), (1, 3)), ((oN (.store 5 (.tmp 4) (.tmp 58))), (2, 4)), ((mV 5 60), (0, 5)), ((oP 6 (.mov (kI 0))), (0, 6))]) (.fin [((oN (.store 5 (.tmp 4) (.tmp 58))), (2, 4)), ((oP 60 (.load false 1 (.tmp 59))), (1, 3)), ((mV 5 60), (0, 5)), ((oP 6 (.mov (kI 0))), (0, 6))])))
 .ret))))))))⟩
theorem c65 : compFunc Try.prog 65 = some a65 := by kernel_rfl
def Z3o (r : (TJLoop × Int × Int)) : AV → Heap → Nat → Prop := fun v h' n' => ∃ z0 : Bool, (z0 = true → r.1.Tasks = []) ∧ ∃ z1 : Bool, (z1 = true → r.1.Smalls = []) ∧ ∃ z2 : Bool, (z2 = true → r.1.Timers = []) ∧ v = (.tup [(.agg [cI r.1.Now, cI r.1.Next, lstC z0 3 7 r.1.Tasks.length, lstC z1 4 7 r.1.Smalls.length, lstC z2 5 5 r.1.Timers.length]), (I r.2.1), (I r.2.2)]) ∧ (h' = (upd (upd (upd e0 3 (lstB z0 7 (r.1.Tasks.map e_TJJob))) 4 (lstB z1 7 (r.1.Smalls.map e_TJJob))) 5 (lstB z2 5 (r.1.Timers.map e_TJTimer)))) ∧ n' = 6
/-- (clerestory/loop.asked).post -/
noncomputable def Z1j (a_ : Tasked) (small : Bool) : Option (TJLoop × Int × Int) :=
 if small then
  if (Zy a_ (a_.f_q.Smalls.length : Int)) then
   some (a_.f_q, 0, 2)
  else
   (app? 72 a_.f_q.Smalls [(⟨a_.f_q.Next, 0, small, a_.f_a.Call, a_.f_a.Arg⟩ : TJJob)]).bind fun r_ =>
   some ((⟨a_.f_q.Now, (wi (a_.f_q.Next + 1)), a_.f_q.Tasks, r_, a_.f_q.Timers⟩ : TJLoop), a_.f_q.Next, 0)
 else
  if (!(Z1 a_.f_a.Source 1 4)) then
   some (a_.f_q, 0, 1)
  else
   if (Zy a_ (a_.f_q.Tasks.length : Int)) then
    some (a_.f_q, 0, 2)
   else
    (app? 72 a_.f_q.Tasks [(⟨a_.f_q.Next, a_.f_a.Source, small, a_.f_a.Call, a_.f_a.Arg⟩ : TJJob)]).bind fun r_1 =>
    some ((⟨a_.f_q.Now, (wi (a_.f_q.Next + 1)), r_1, a_.f_q.Smalls, a_.f_q.Timers⟩ : TJLoop), a_.f_q.Next, 0)
theorem Z3p {Γ : Glob} {a_ : Tasked} {small : Bool} {za : Bool} (hza : za = true → a_.f_q.Tasks = []) {za1 : Bool} (hza1 : za1 = true → a_.f_q.Smalls = []) {za2 : Bool} (hza2 : za2 = true → a_.f_q.Timers = []) {r : (TJLoop × Int × Int)} (h : Z1j a_ small = some r) : ACalls Try.prog Γ 65 [(.agg [cI a_.f_q.Now, cI a_.f_q.Next, lstC za 0 7 a_.f_q.Tasks.length, lstC za1 1 7 a_.f_q.Smalls.length, lstC za2 2 5 a_.f_q.Timers.length, cI a_.f_a.Do, cI a_.f_a.Source, cI a_.f_a.N, .str a_.f_a.Call, cI a_.f_a.Arg.Kind, cI a_.f_a.Arg.N, .str a_.f_a.Arg.S]), (B small)] (upd (upd (upd e0 0 (lstB za 7 (a_.f_q.Tasks.map e_TJJob))) 1 (lstB za1 7 (a_.f_q.Smalls.map e_TJJob))) 2 (lstB za2 5 (a_.f_q.Timers.map e_TJTimer))) 3 (Z3o r) := by
 refine acalls_of_sv hmix c65 (R := Z3o r) ?_
 unfold Z1j at h
 refine ssr <| un <| a2v (v := (.c (.ref 3 12 0 0))) (h' := upd _ 3 (some (.cells 12 [[cI a_.f_q.Now, cI a_.f_q.Next, lstC za 0 7 a_.f_q.Tasks.length, lstC za1 1 7 a_.f_q.Smalls.length, lstC za2 2 5 a_.f_q.Timers.length, cI a_.f_a.Do, cI a_.f_a.Source, cI a_.f_a.N, .str a_.f_a.Call, cI a_.f_a.Arg.Kind, cI a_.f_a.Arg.N, .str a_.f_a.Arg.S]]))) (n' := 4) rfl rfl hcs <| un <| a2v (v := (.c (.ref 4 5 0 0))) (h' := upd _ 4 (some (.cells 5 [[cI 0, cI 0, .ro true 7 [], .ro true 7 [], .ro true 5 []]]))) (n' := 5) rfl rfl hcs <| un1 rfl <| un1 rfl <| dnil <| ssr <| un1 (v := (.c (.ref 3 12 0 0))) rfl <| un1 (v := (.agg [cI a_.f_q.Now, cI a_.f_q.Next, lstC za 0 7 a_.f_q.Tasks.length, lstC za1 1 7 a_.f_q.Smalls.length, lstC za2 2 5 a_.f_q.Timers.length])) rfl <| un1 (v := (.c (.ref 3 12 0 0))) rfl <| un1 (v := (.c (.ref 3 12 0 2))) rfl <| un <| a2v (v := (.c (.ref 5 5 0 0))) (h' := upd _ 5 (some (.cells 5 [[cI 0, cI 0, .ro true 7 [], .ro true 7 [], .ro true 5 []]]))) (n' := 6) rfl rfl hcs <| un <| a2n (h' := upd _ 5 (some (.cells 5 [[cI a_.f_q.Now, cI a_.f_q.Next, lstC za 0 7 a_.f_q.Tasks.length, lstC za1 1 7 a_.f_q.Smalls.length, lstC za2 2 5 a_.f_q.Timers.length]]))) (n' := 6) rfl rfl hcs <| un1 rfl <| dnil <| ssr <| un1 (v := (.c (.ref 5 5 0 1))) rfl <| un1 (v := (I a_.f_q.Next)) rfl <| un1 (v := (.c (.ref 3 12 0 5))) rfl <| un1 (v := (.c (.ref 3 12 0 6))) rfl <| un1 (v := (I a_.f_a.Source)) rfl <| un1 rfl <| un1 (v := (.c (.ref 3 12 0 5))) rfl <| un1 (v := (.c (.ref 3 12 0 8))) rfl <| un1 (v := (S a_.f_a.Call)) rfl <| un1 (v := (.c (.ref 3 12 0 5))) rfl <| un1 (v := (.c (.ref 3 12 0 9))) rfl <| un1 (v := (.agg (e_TJVal a_.f_a.Arg))) rfl <| un1 (v := (.agg [cI a_.f_q.Next, cI a_.f_a.Source, cB small, .str a_.f_a.Call, cI a_.f_a.Arg.Kind, cI a_.f_a.Arg.N, .str a_.f_a.Arg.S])) rfl <| un <| a2v (v := (.c (.ref 6 7 0 0))) (h' := upd _ 6 (some (.cells 7 [[cI 0, cI 0, cB false, .str [], cI 0, cI 0, .str []]]))) (n' := 7) rfl rfl hcs <| un <| a2n (h' := upd _ 6 (some (.cells 7 [[cI a_.f_q.Next, cI a_.f_a.Source, cB small, .str a_.f_a.Call, cI a_.f_a.Arg.Kind, cI a_.f_a.Arg.N, .str a_.f_a.Arg.S]]))) (n' := 7) rfl rfl hcs <| dnil <| Sv.seq <| ssr ?_
 refine un1 rfl <| dnil ?_
 refine Sv.cnd rfl h (fun h => ?_) fun h => ?_
 ·refine srg <| un1 (v := (.c (.ref 3 12 0 0))) rfl <| un1 (v := (.c (.ref 3 12 0 3))) rfl <| un1 rfl <| un1 (v := (.c (.ref 6 7 0 1))) rfl <| un <| a2n (h' := upd _ 6 (some (.cells 7 [[cI a_.f_q.Next, cI 0, cB small, .str a_.f_a.Call, cI a_.f_a.Arg.Kind, cI a_.f_a.Arg.N, .str a_.f_a.Arg.S]]))) (n' := 7) rfl rfl hcs <| dnil <| Sv.seq <| Sv.seq <| Sv.drawn <| un1 (v := (.agg [cI a_.f_q.Now, cI a_.f_q.Next, lstC za 0 7 a_.f_q.Tasks.length, lstC za1 1 7 a_.f_q.Smalls.length, lstC za2 2 5 a_.f_q.Timers.length, cI a_.f_a.Do, cI a_.f_a.Source, cI a_.f_a.N, .str a_.f_a.Call, cI a_.f_a.Arg.Kind, cI a_.f_a.Arg.N, .str a_.f_a.Arg.S])) rfl <| un1 rfl <| un1 (v := (.c (.ref 3 12 0 3))) rfl <| un1 (v := (lstV za1 1 7 a_.f_q.Smalls.length)) rfl <| un1 (v := (I (a_.f_q.Smalls.length : Int))) (s_lenL rfl (len_nil_of hza1)) <| un <| ac_lend (h2 := (upd (upd (upd _ 0 none) 1 none) 2 none)) (Z2u (Γ := Γ) a_ (a_.f_q.Smalls.length : Int)) rfl (.cons (avAs_agg (.sm rfl (.sm rfl (.cons (lstC_ro (es := List.map e_TJJob a_.f_q.Tasks) rfl (List.length_map e_TJJob).symm (map_nil_of hza) (gone rfl) (fr_map fun _ => rfl)) (.cons (lstC_ro (es := List.map e_TJJob a_.f_q.Smalls) rfl (List.length_map e_TJJob).symm (map_nil_of hza1) (gone rfl) (fr_map fun _ => rfl)) (.cons (lstC_ro (es := List.map e_TJTimer a_.f_q.Timers) rfl (List.length_map e_TJTimer).symm (map_nil_of hza2) (gone rfl) (fr_map fun _ => rfl)) (.sm rfl (.sm rfl (.sm rfl (.sm rfl (.sm rfl (.sm rfl (.sm rfl .nil))))))))))))) (.cons (avAs_free rfl) .nil)) (hsub_none (hsub_none (hsub_none (hsub_refl _)))) rfl rfl (.inr rfl) <| dnil ?_
  refine Sv.cnd rfl h (fun h => ?_) fun h => ?_
  ·refine ssr <| un1 (v := (.agg [cI a_.f_q.Now, cI a_.f_q.Next, lstC za 0 7 a_.f_q.Tasks.length, lstC za1 1 7 a_.f_q.Smalls.length, lstC za2 2 5 a_.f_q.Timers.length])) rfl <| un <| a2n (h' := upd _ 4 (some (.cells 5 [[cI a_.f_q.Now, cI a_.f_q.Next, lstC za 0 7 a_.f_q.Tasks.length, lstC za1 1 7 a_.f_q.Smalls.length, lstC za2 2 5 a_.f_q.Timers.length]]))) (n' := 7) rfl rfl hcs <| un1 rfl <| un1 rfl <| dnil <| Sv.ret ?_
   replace h := Option.some.inj h
   subst h
   exact ⟨_, .refl _, _, rfl, ⟨upd e0 0 (some (.tup [(.agg [cI a_.f_q.Now, cI a_.f_q.Next, lstC za 3 7 a_.f_q.Tasks.length, lstC za1 4 7 a_.f_q.Smalls.length, lstC za2 5 5 a_.f_q.Timers.length]), (I 0), (I 2)])), (upd (upd (upd e0 3 (lstB za 7 (a_.f_q.Tasks.map e_TJJob))) 4 (lstB za1 7 (a_.f_q.Smalls.map e_TJJob))) 5 (lstB za2 5 (a_.f_q.Timers.map e_TJTimer))), 6⟩, (.tup [(.agg [cI a_.f_q.Now, cI a_.f_q.Next, lstC za 3 7 a_.f_q.Tasks.length, lstC za1 4 7 a_.f_q.Smalls.length, lstC za2 5 5 a_.f_q.Timers.length]), (I 0), (I 2)]), weak_canon2 [0, 1, 2, 0, 1, 2] [3, 4, 5] (by decide) (by decide) (by decide) (.cons (by decide) (.cons (by decide) (.cons (by decide) .nil))) (.cons rfl (avAs_tup (.cons (avAs_agg (.sm rfl (.sm rfl (.cons (lstC_ren rfl (by decide)) (.cons (lstC_ren rfl (by decide)) (.cons (lstC_ren rfl (by decide)) .nil)))))) (.cons (avAs_free rfl) (.cons (avAs_free rfl) .nil)))) .nil) (.row (by decide) rfl (fr_map fun _ => rfl) (.row (by decide) rfl (fr_map fun _ => rfl) (.row (by decide) rfl (fr_map fun _ => rfl) .nil))), rfl, za, hza, za1, hza1, za2, hza2, rfl, rfl, rfl⟩
  ·refine Sv.skip <| Sv.seq <| Sv.drawn <| un1 rfl <| un1 rfl <| un1 (v := (.c (.ref 3 12 0 3))) rfl <| un1 (v := (lstV za1 1 7 a_.f_q.Smalls.length)) rfl <| un1 (v := (.agg [cI a_.f_q.Next, cI 0, cB small, .str a_.f_a.Call, cI a_.f_a.Arg.Kind, cI a_.f_a.Arg.N, .str a_.f_a.Arg.S])) rfl <| un <| a2v (v := (lstV false 7 7 [(⟨a_.f_q.Next, 0, small, a_.f_a.Call, a_.f_a.Arg⟩ : TJJob)].length)) (h' := upd _ 7 (lstB false 7 ([(⟨a_.f_q.Next, 0, small, a_.f_a.Call, a_.f_a.Arg⟩ : TJJob)].map e_TJJob))) (n' := 8) rfl rfl (fun _ => rfl) ?_
   obtain ⟨r_, hr1, h⟩ := bnd h
   have hz1 : (za1 && [(⟨a_.f_q.Next, 0, small, a_.f_a.Call, a_.f_a.Arg⟩ : TJJob)].isEmpty) = true → r_ = [] := app_nil (z := za1) (ys := [(⟨a_.f_q.Next, 0, small, a_.f_a.Call, a_.f_a.Arg⟩ : TJJob)]) hza1 hr1
   refine un <| a2v rfl (s_app (xs := a_.f_q.Smalls) (ys := [(⟨a_.f_q.Next, 0, small, a_.f_a.Call, a_.f_a.Arg⟩ : TJJob)]) (e := e_TJJob) (z := za1) (b := 1) rfl rfl hza1 rfl rfl (slc_lst rfl (List.length_map _).symm (map_nil_of hcs)) hr1) hcs <| un1 (v := (.c (.ref 3 12 0 3))) rfl <| un <| a2n (h' := upd _ 3 (some (.cells 12 [[cI a_.f_q.Now, cI a_.f_q.Next, lstC za 0 7 a_.f_q.Tasks.length, lstC (za1 && [(⟨a_.f_q.Next, 0, small, a_.f_a.Call, a_.f_a.Arg⟩ : TJJob)].isEmpty) 8 7 r_.length, lstC za2 2 5 a_.f_q.Timers.length, cI a_.f_a.Do, cI a_.f_a.Source, cI a_.f_a.N, .str a_.f_a.Call, cI a_.f_a.Arg.Kind, cI a_.f_a.Arg.N, .str a_.f_a.Arg.S]]))) (n' := 9) rfl rfl hcs <| dnil <| ssr <| un1 (v := (.c (.ref 3 12 0 0))) rfl <| un1 (v := (.c (.ref 3 12 0 1))) rfl <| un1 (v := (I a_.f_q.Next)) rfl <| un1 (v := (I (wi (a_.f_q.Next + 1)))) rfl <| un1 (v := (.c (.ref 3 12 0 0))) rfl <| un1 (v := (.c (.ref 3 12 0 1))) rfl <| un <| a2n (h' := upd _ 3 (some (.cells 12 [[cI a_.f_q.Now, cI (wi (a_.f_q.Next + 1)), lstC za 0 7 a_.f_q.Tasks.length, lstC (za1 && [(⟨a_.f_q.Next, 0, small, a_.f_a.Call, a_.f_a.Arg⟩ : TJJob)].isEmpty) 8 7 r_.length, lstC za2 2 5 a_.f_q.Timers.length, cI a_.f_a.Do, cI a_.f_a.Source, cI a_.f_a.N, .str a_.f_a.Call, cI a_.f_a.Arg.Kind, cI a_.f_a.Arg.N, .str a_.f_a.Arg.S]]))) (n' := 9) rfl rfl hcs <| dnil <| Sv.seq <| Sv.drawn2 <| un1 (v := (.c (.ref 3 12 0 0))) rfl <| un1 (v := (.agg [cI a_.f_q.Now, cI (wi (a_.f_q.Next + 1)), lstC za 0 7 a_.f_q.Tasks.length, lstC (za1 && [(⟨a_.f_q.Next, 0, small, a_.f_a.Call, a_.f_a.Arg⟩ : TJJob)].isEmpty) 8 7 r_.length, lstC za2 2 5 a_.f_q.Timers.length])) rfl <| un1 (v := (.c (.ref 6 7 0 0))) rfl <| dnil ?_
   refine ⟨?_, ?_⟩
   ·refine un1 (v := (I a_.f_q.Next)) rfl <| un <| a2n (h' := upd _ 4 (some (.cells 5 [[cI a_.f_q.Now, cI (wi (a_.f_q.Next + 1)), lstC za 0 7 a_.f_q.Tasks.length, lstC (za1 && [(⟨a_.f_q.Next, 0, small, a_.f_a.Call, a_.f_a.Arg⟩ : TJJob)].isEmpty) 8 7 r_.length, lstC za2 2 5 a_.f_q.Timers.length]]))) (n' := 9) rfl rfl hcs <| un1 rfl <| un1 rfl <| dnil <| Sv.ret ?_
    replace h := Option.some.inj h
    subst h
    exact ⟨_, .refl _, _, rfl, ⟨upd e0 0 (some (.tup [(.agg [cI a_.f_q.Now, cI (wi (a_.f_q.Next + 1)), lstC za 3 7 a_.f_q.Tasks.length, lstC (za1 && [(⟨a_.f_q.Next, 0, small, a_.f_a.Call, a_.f_a.Arg⟩ : TJJob)].isEmpty) 4 7 r_.length, lstC za2 5 5 a_.f_q.Timers.length]), (I a_.f_q.Next), (I 0)])), (upd (upd (upd e0 3 (lstB za 7 (a_.f_q.Tasks.map e_TJJob))) 4 (lstB (za1 && [(⟨a_.f_q.Next, 0, small, a_.f_a.Call, a_.f_a.Arg⟩ : TJJob)].isEmpty) 7 (r_.map e_TJJob))) 5 (lstB za2 5 (a_.f_q.Timers.map e_TJTimer))), 6⟩, (.tup [(.agg [cI a_.f_q.Now, cI (wi (a_.f_q.Next + 1)), lstC za 3 7 a_.f_q.Tasks.length, lstC (za1 && [(⟨a_.f_q.Next, 0, small, a_.f_a.Call, a_.f_a.Arg⟩ : TJJob)].isEmpty) 4 7 r_.length, lstC za2 5 5 a_.f_q.Timers.length]), (I a_.f_q.Next), (I 0)]), weak_canon2 [0, 1, 2, 0, 8, 2] [3, 4, 5] (by decide) (by decide) (by decide) (.cons (by decide) (.cons (by decide) (.cons (by decide) .nil))) (.cons rfl (avAs_tup (.cons (avAs_agg (.sm rfl (.sm rfl (.cons (lstC_ren rfl (by decide)) (.cons (lstC_ren rfl (by decide)) (.cons (lstC_ren rfl (by decide)) .nil)))))) (.cons (avAs_free rfl) (.cons (avAs_free rfl) .nil)))) .nil) (.row (by decide) rfl (fr_map fun _ => rfl) (.row (by decide) rfl (fr_map fun _ => rfl) (.row (by decide) rfl (fr_map fun _ => rfl) .nil))), rfl, za, hza, (za1 && [(⟨a_.f_q.Next, 0, small, a_.f_a.Call, a_.f_a.Arg⟩ : TJJob)].isEmpty), hz1, za2, hza2, rfl, rfl, rfl⟩
   ·refine un <| a2n (h' := upd _ 4 (some (.cells 5 [[cI a_.f_q.Now, cI (wi (a_.f_q.Next + 1)), lstC za 0 7 a_.f_q.Tasks.length, lstC (za1 && [(⟨a_.f_q.Next, 0, small, a_.f_a.Call, a_.f_a.Arg⟩ : TJJob)].isEmpty) 8 7 r_.length, lstC za2 2 5 a_.f_q.Timers.length]]))) (n' := 9) rfl rfl hcs <| un1 (v := (I a_.f_q.Next)) rfl <| un1 rfl <| un1 rfl <| dnil <| Sv.ret ?_
    replace h := Option.some.inj h
    subst h
    exact ⟨_, .refl _, _, rfl, ⟨upd e0 0 (some (.tup [(.agg [cI a_.f_q.Now, cI (wi (a_.f_q.Next + 1)), lstC za 3 7 a_.f_q.Tasks.length, lstC (za1 && [(⟨a_.f_q.Next, 0, small, a_.f_a.Call, a_.f_a.Arg⟩ : TJJob)].isEmpty) 4 7 r_.length, lstC za2 5 5 a_.f_q.Timers.length]), (I a_.f_q.Next), (I 0)])), (upd (upd (upd e0 3 (lstB za 7 (a_.f_q.Tasks.map e_TJJob))) 4 (lstB (za1 && [(⟨a_.f_q.Next, 0, small, a_.f_a.Call, a_.f_a.Arg⟩ : TJJob)].isEmpty) 7 (r_.map e_TJJob))) 5 (lstB za2 5 (a_.f_q.Timers.map e_TJTimer))), 6⟩, (.tup [(.agg [cI a_.f_q.Now, cI (wi (a_.f_q.Next + 1)), lstC za 3 7 a_.f_q.Tasks.length, lstC (za1 && [(⟨a_.f_q.Next, 0, small, a_.f_a.Call, a_.f_a.Arg⟩ : TJJob)].isEmpty) 4 7 r_.length, lstC za2 5 5 a_.f_q.Timers.length]), (I a_.f_q.Next), (I 0)]), weak_canon2 [0, 1, 2, 0, 8, 2] [3, 4, 5] (by decide) (by decide) (by decide) (.cons (by decide) (.cons (by decide) (.cons (by decide) .nil))) (.cons rfl (avAs_tup (.cons (avAs_agg (.sm rfl (.sm rfl (.cons (lstC_ren rfl (by decide)) (.cons (lstC_ren rfl (by decide)) (.cons (lstC_ren rfl (by decide)) .nil)))))) (.cons (avAs_free rfl) (.cons (avAs_free rfl) .nil)))) .nil) (.row (by decide) rfl (fr_map fun _ => rfl) (.row (by decide) rfl (fr_map fun _ => rfl) (.row (by decide) rfl (fr_map fun _ => rfl) .nil))), rfl, za, hza, (za1 && [(⟨a_.f_q.Next, 0, small, a_.f_a.Call, a_.f_a.Arg⟩ : TJJob)].isEmpty), hz1, za2, hza2, rfl, rfl, rfl⟩
 ·refine ssr <| un1 (v := (.c (.ref 6 7 0 1))) rfl <| un1 (v := (I a_.f_a.Source)) rfl <| un <| ac_pure (Zf (Γ := Γ) a_.f_a.Source 1 4) rfl rfl rfl <| un1 (v := (B (!(Z1 a_.f_a.Source 1 4)))) rfl <| dnil ?_
  refine Sv.cnd rfl h (fun h => ?_) fun h => ?_
  ·refine ssr <| un1 (v := (.agg [cI a_.f_q.Now, cI a_.f_q.Next, lstC za 0 7 a_.f_q.Tasks.length, lstC za1 1 7 a_.f_q.Smalls.length, lstC za2 2 5 a_.f_q.Timers.length])) rfl <| un <| a2n (h' := upd _ 4 (some (.cells 5 [[cI a_.f_q.Now, cI a_.f_q.Next, lstC za 0 7 a_.f_q.Tasks.length, lstC za1 1 7 a_.f_q.Smalls.length, lstC za2 2 5 a_.f_q.Timers.length]]))) (n' := 7) rfl rfl hcs <| un1 rfl <| un1 rfl <| dnil <| Sv.ret ?_
   replace h := Option.some.inj h
   subst h
   exact ⟨_, .refl _, _, rfl, ⟨upd e0 0 (some (.tup [(.agg [cI a_.f_q.Now, cI a_.f_q.Next, lstC za 3 7 a_.f_q.Tasks.length, lstC za1 4 7 a_.f_q.Smalls.length, lstC za2 5 5 a_.f_q.Timers.length]), (I 0), (I 1)])), (upd (upd (upd e0 3 (lstB za 7 (a_.f_q.Tasks.map e_TJJob))) 4 (lstB za1 7 (a_.f_q.Smalls.map e_TJJob))) 5 (lstB za2 5 (a_.f_q.Timers.map e_TJTimer))), 6⟩, (.tup [(.agg [cI a_.f_q.Now, cI a_.f_q.Next, lstC za 3 7 a_.f_q.Tasks.length, lstC za1 4 7 a_.f_q.Smalls.length, lstC za2 5 5 a_.f_q.Timers.length]), (I 0), (I 1)]), weak_canon2 [0, 1, 2, 0, 1, 2] [3, 4, 5] (by decide) (by decide) (by decide) (.cons (by decide) (.cons (by decide) (.cons (by decide) .nil))) (.cons rfl (avAs_tup (.cons (avAs_agg (.sm rfl (.sm rfl (.cons (lstC_ren rfl (by decide)) (.cons (lstC_ren rfl (by decide)) (.cons (lstC_ren rfl (by decide)) .nil)))))) (.cons (avAs_free rfl) (.cons (avAs_free rfl) .nil)))) .nil) (.row (by decide) rfl (fr_map fun _ => rfl) (.row (by decide) rfl (fr_map fun _ => rfl) (.row (by decide) rfl (fr_map fun _ => rfl) .nil))), rfl, za, hza, za1, hza1, za2, hza2, rfl, rfl, rfl⟩
  ·refine Sv.skip <| Sv.seq <| Sv.seq <| Sv.drawn <| un1 (v := (.agg [cI a_.f_q.Now, cI a_.f_q.Next, lstC za 0 7 a_.f_q.Tasks.length, lstC za1 1 7 a_.f_q.Smalls.length, lstC za2 2 5 a_.f_q.Timers.length, cI a_.f_a.Do, cI a_.f_a.Source, cI a_.f_a.N, .str a_.f_a.Call, cI a_.f_a.Arg.Kind, cI a_.f_a.Arg.N, .str a_.f_a.Arg.S])) rfl <| un1 rfl <| un1 (v := (.c (.ref 3 12 0 2))) rfl <| un1 (v := (lstV za 0 7 a_.f_q.Tasks.length)) rfl <| un1 (v := (I (a_.f_q.Tasks.length : Int))) (s_lenL rfl (len_nil_of hza)) <| un <| ac_lend (h2 := (upd (upd (upd _ 0 none) 1 none) 2 none)) (Z2u (Γ := Γ) a_ (a_.f_q.Tasks.length : Int)) rfl (.cons (avAs_agg (.sm rfl (.sm rfl (.cons (lstC_ro (es := List.map e_TJJob a_.f_q.Tasks) rfl (List.length_map e_TJJob).symm (map_nil_of hza) (gone rfl) (fr_map fun _ => rfl)) (.cons (lstC_ro (es := List.map e_TJJob a_.f_q.Smalls) rfl (List.length_map e_TJJob).symm (map_nil_of hza1) (gone rfl) (fr_map fun _ => rfl)) (.cons (lstC_ro (es := List.map e_TJTimer a_.f_q.Timers) rfl (List.length_map e_TJTimer).symm (map_nil_of hza2) (gone rfl) (fr_map fun _ => rfl)) (.sm rfl (.sm rfl (.sm rfl (.sm rfl (.sm rfl (.sm rfl (.sm rfl .nil))))))))))))) (.cons (avAs_free rfl) .nil)) (hsub_none (hsub_none (hsub_none (hsub_refl _)))) rfl rfl (.inr rfl) <| dnil ?_
   refine Sv.cnd rfl h (fun h => ?_) fun h => ?_
   ·refine ssr <| un1 (v := (.agg [cI a_.f_q.Now, cI a_.f_q.Next, lstC za 0 7 a_.f_q.Tasks.length, lstC za1 1 7 a_.f_q.Smalls.length, lstC za2 2 5 a_.f_q.Timers.length])) rfl <| un <| a2n (h' := upd _ 4 (some (.cells 5 [[cI a_.f_q.Now, cI a_.f_q.Next, lstC za 0 7 a_.f_q.Tasks.length, lstC za1 1 7 a_.f_q.Smalls.length, lstC za2 2 5 a_.f_q.Timers.length]]))) (n' := 7) rfl rfl hcs <| un1 rfl <| un1 rfl <| dnil <| Sv.ret ?_
    replace h := Option.some.inj h
    subst h
    exact ⟨_, .refl _, _, rfl, ⟨upd e0 0 (some (.tup [(.agg [cI a_.f_q.Now, cI a_.f_q.Next, lstC za 3 7 a_.f_q.Tasks.length, lstC za1 4 7 a_.f_q.Smalls.length, lstC za2 5 5 a_.f_q.Timers.length]), (I 0), (I 2)])), (upd (upd (upd e0 3 (lstB za 7 (a_.f_q.Tasks.map e_TJJob))) 4 (lstB za1 7 (a_.f_q.Smalls.map e_TJJob))) 5 (lstB za2 5 (a_.f_q.Timers.map e_TJTimer))), 6⟩, (.tup [(.agg [cI a_.f_q.Now, cI a_.f_q.Next, lstC za 3 7 a_.f_q.Tasks.length, lstC za1 4 7 a_.f_q.Smalls.length, lstC za2 5 5 a_.f_q.Timers.length]), (I 0), (I 2)]), weak_canon2 [0, 1, 2, 0, 1, 2] [3, 4, 5] (by decide) (by decide) (by decide) (.cons (by decide) (.cons (by decide) (.cons (by decide) .nil))) (.cons rfl (avAs_tup (.cons (avAs_agg (.sm rfl (.sm rfl (.cons (lstC_ren rfl (by decide)) (.cons (lstC_ren rfl (by decide)) (.cons (lstC_ren rfl (by decide)) .nil)))))) (.cons (avAs_free rfl) (.cons (avAs_free rfl) .nil)))) .nil) (.row (by decide) rfl (fr_map fun _ => rfl) (.row (by decide) rfl (fr_map fun _ => rfl) (.row (by decide) rfl (fr_map fun _ => rfl) .nil))), rfl, za, hza, za1, hza1, za2, hza2, rfl, rfl, rfl⟩
   ·refine Sv.skip <| Sv.seq <| Sv.drawn <| un1 rfl <| un1 rfl <| un1 (v := (.c (.ref 3 12 0 2))) rfl <| un1 (v := (lstV za 0 7 a_.f_q.Tasks.length)) rfl <| un1 (v := (.agg [cI a_.f_q.Next, cI a_.f_a.Source, cB small, .str a_.f_a.Call, cI a_.f_a.Arg.Kind, cI a_.f_a.Arg.N, .str a_.f_a.Arg.S])) rfl <| un <| a2v (v := (lstV false 7 7 [(⟨a_.f_q.Next, a_.f_a.Source, small, a_.f_a.Call, a_.f_a.Arg⟩ : TJJob)].length)) (h' := upd _ 7 (lstB false 7 ([(⟨a_.f_q.Next, a_.f_a.Source, small, a_.f_a.Call, a_.f_a.Arg⟩ : TJJob)].map e_TJJob))) (n' := 8) rfl rfl (fun _ => rfl) ?_
    obtain ⟨r_1, hr2, h⟩ := bnd h
    have hz2 : (za && [(⟨a_.f_q.Next, a_.f_a.Source, small, a_.f_a.Call, a_.f_a.Arg⟩ : TJJob)].isEmpty) = true → r_1 = [] := app_nil (z := za) (ys := [(⟨a_.f_q.Next, a_.f_a.Source, small, a_.f_a.Call, a_.f_a.Arg⟩ : TJJob)]) hza hr2
    refine un <| a2v rfl (s_app (xs := a_.f_q.Tasks) (ys := [(⟨a_.f_q.Next, a_.f_a.Source, small, a_.f_a.Call, a_.f_a.Arg⟩ : TJJob)]) (e := e_TJJob) (z := za) (b := 0) rfl rfl hza rfl rfl (slc_lst rfl (List.length_map _).symm (map_nil_of hcs)) hr2) hcs <| un1 (v := (.c (.ref 3 12 0 2))) rfl <| un <| a2n (h' := upd _ 3 (some (.cells 12 [[cI a_.f_q.Now, cI a_.f_q.Next, lstC (za && [(⟨a_.f_q.Next, a_.f_a.Source, small, a_.f_a.Call, a_.f_a.Arg⟩ : TJJob)].isEmpty) 8 7 r_1.length, lstC za1 1 7 a_.f_q.Smalls.length, lstC za2 2 5 a_.f_q.Timers.length, cI a_.f_a.Do, cI a_.f_a.Source, cI a_.f_a.N, .str a_.f_a.Call, cI a_.f_a.Arg.Kind, cI a_.f_a.Arg.N, .str a_.f_a.Arg.S]]))) (n' := 9) rfl rfl hcs <| dnil <| ssr <| un1 (v := (.c (.ref 3 12 0 0))) rfl <| un1 (v := (.c (.ref 3 12 0 1))) rfl <| un1 (v := (I a_.f_q.Next)) rfl <| un1 (v := (I (wi (a_.f_q.Next + 1)))) rfl <| un1 (v := (.c (.ref 3 12 0 0))) rfl <| un1 (v := (.c (.ref 3 12 0 1))) rfl <| un <| a2n (h' := upd _ 3 (some (.cells 12 [[cI a_.f_q.Now, cI (wi (a_.f_q.Next + 1)), lstC (za && [(⟨a_.f_q.Next, a_.f_a.Source, small, a_.f_a.Call, a_.f_a.Arg⟩ : TJJob)].isEmpty) 8 7 r_1.length, lstC za1 1 7 a_.f_q.Smalls.length, lstC za2 2 5 a_.f_q.Timers.length, cI a_.f_a.Do, cI a_.f_a.Source, cI a_.f_a.N, .str a_.f_a.Call, cI a_.f_a.Arg.Kind, cI a_.f_a.Arg.N, .str a_.f_a.Arg.S]]))) (n' := 9) rfl rfl hcs <| dnil <| Sv.seq <| Sv.drawn2 <| un1 (v := (.c (.ref 3 12 0 0))) rfl <| un1 (v := (.agg [cI a_.f_q.Now, cI (wi (a_.f_q.Next + 1)), lstC (za && [(⟨a_.f_q.Next, a_.f_a.Source, small, a_.f_a.Call, a_.f_a.Arg⟩ : TJJob)].isEmpty) 8 7 r_1.length, lstC za1 1 7 a_.f_q.Smalls.length, lstC za2 2 5 a_.f_q.Timers.length])) rfl <| un1 (v := (.c (.ref 6 7 0 0))) rfl <| dnil ?_
    refine ⟨?_, ?_⟩
    ·refine un1 (v := (I a_.f_q.Next)) rfl <| un <| a2n (h' := upd _ 4 (some (.cells 5 [[cI a_.f_q.Now, cI (wi (a_.f_q.Next + 1)), lstC (za && [(⟨a_.f_q.Next, a_.f_a.Source, small, a_.f_a.Call, a_.f_a.Arg⟩ : TJJob)].isEmpty) 8 7 r_1.length, lstC za1 1 7 a_.f_q.Smalls.length, lstC za2 2 5 a_.f_q.Timers.length]]))) (n' := 9) rfl rfl hcs <| un1 rfl <| un1 rfl <| dnil <| Sv.ret ?_
     replace h := Option.some.inj h
     subst h
     exact ⟨_, .refl _, _, rfl, ⟨upd e0 0 (some (.tup [(.agg [cI a_.f_q.Now, cI (wi (a_.f_q.Next + 1)), lstC (za && [(⟨a_.f_q.Next, a_.f_a.Source, small, a_.f_a.Call, a_.f_a.Arg⟩ : TJJob)].isEmpty) 3 7 r_1.length, lstC za1 4 7 a_.f_q.Smalls.length, lstC za2 5 5 a_.f_q.Timers.length]), (I a_.f_q.Next), (I 0)])), (upd (upd (upd e0 3 (lstB (za && [(⟨a_.f_q.Next, a_.f_a.Source, small, a_.f_a.Call, a_.f_a.Arg⟩ : TJJob)].isEmpty) 7 (r_1.map e_TJJob))) 4 (lstB za1 7 (a_.f_q.Smalls.map e_TJJob))) 5 (lstB za2 5 (a_.f_q.Timers.map e_TJTimer))), 6⟩, (.tup [(.agg [cI a_.f_q.Now, cI (wi (a_.f_q.Next + 1)), lstC (za && [(⟨a_.f_q.Next, a_.f_a.Source, small, a_.f_a.Call, a_.f_a.Arg⟩ : TJJob)].isEmpty) 3 7 r_1.length, lstC za1 4 7 a_.f_q.Smalls.length, lstC za2 5 5 a_.f_q.Timers.length]), (I a_.f_q.Next), (I 0)]), weak_canon2 [0, 1, 2, 8, 1, 2] [3, 4, 5] (by decide) (by decide) (by decide) (.cons (by decide) (.cons (by decide) (.cons (by decide) .nil))) (.cons rfl (avAs_tup (.cons (avAs_agg (.sm rfl (.sm rfl (.cons (lstC_ren rfl (by decide)) (.cons (lstC_ren rfl (by decide)) (.cons (lstC_ren rfl (by decide)) .nil)))))) (.cons (avAs_free rfl) (.cons (avAs_free rfl) .nil)))) .nil) (.row (by decide) rfl (fr_map fun _ => rfl) (.row (by decide) rfl (fr_map fun _ => rfl) (.row (by decide) rfl (fr_map fun _ => rfl) .nil))), rfl, (za && [(⟨a_.f_q.Next, a_.f_a.Source, small, a_.f_a.Call, a_.f_a.Arg⟩ : TJJob)].isEmpty), hz2, za1, hza1, za2, hza2, rfl, rfl, rfl⟩
    ·refine un <| a2n (h' := upd _ 4 (some (.cells 5 [[cI a_.f_q.Now, cI (wi (a_.f_q.Next + 1)), lstC (za && [(⟨a_.f_q.Next, a_.f_a.Source, small, a_.f_a.Call, a_.f_a.Arg⟩ : TJJob)].isEmpty) 8 7 r_1.length, lstC za1 1 7 a_.f_q.Smalls.length, lstC za2 2 5 a_.f_q.Timers.length]]))) (n' := 9) rfl rfl hcs <| un1 (v := (I a_.f_q.Next)) rfl <| un1 rfl <| un1 rfl <| dnil <| Sv.ret ?_
     replace h := Option.some.inj h
     subst h
     exact ⟨_, .refl _, _, rfl, ⟨upd e0 0 (some (.tup [(.agg [cI a_.f_q.Now, cI (wi (a_.f_q.Next + 1)), lstC (za && [(⟨a_.f_q.Next, a_.f_a.Source, small, a_.f_a.Call, a_.f_a.Arg⟩ : TJJob)].isEmpty) 3 7 r_1.length, lstC za1 4 7 a_.f_q.Smalls.length, lstC za2 5 5 a_.f_q.Timers.length]), (I a_.f_q.Next), (I 0)])), (upd (upd (upd e0 3 (lstB (za && [(⟨a_.f_q.Next, a_.f_a.Source, small, a_.f_a.Call, a_.f_a.Arg⟩ : TJJob)].isEmpty) 7 (r_1.map e_TJJob))) 4 (lstB za1 7 (a_.f_q.Smalls.map e_TJJob))) 5 (lstB za2 5 (a_.f_q.Timers.map e_TJTimer))), 6⟩, (.tup [(.agg [cI a_.f_q.Now, cI (wi (a_.f_q.Next + 1)), lstC (za && [(⟨a_.f_q.Next, a_.f_a.Source, small, a_.f_a.Call, a_.f_a.Arg⟩ : TJJob)].isEmpty) 3 7 r_1.length, lstC za1 4 7 a_.f_q.Smalls.length, lstC za2 5 5 a_.f_q.Timers.length]), (I a_.f_q.Next), (I 0)]), weak_canon2 [0, 1, 2, 8, 1, 2] [3, 4, 5] (by decide) (by decide) (by decide) (.cons (by decide) (.cons (by decide) (.cons (by decide) .nil))) (.cons rfl (avAs_tup (.cons (avAs_agg (.sm rfl (.sm rfl (.cons (lstC_ren rfl (by decide)) (.cons (lstC_ren rfl (by decide)) (.cons (lstC_ren rfl (by decide)) .nil)))))) (.cons (avAs_free rfl) (.cons (avAs_free rfl) .nil)))) .nil) (.row (by decide) rfl (fr_map fun _ => rfl) (.row (by decide) rfl (fr_map fun _ => rfl) (.row (by decide) rfl (fr_map fun _ => rfl) .nil))), rfl, (za && [(⟨a_.f_q.Next, a_.f_a.Source, small, a_.f_a.Call, a_.f_a.Arg⟩ : TJJob)].isEmpty), hz2, za1, hza1, za2, hza2, rfl, rfl, rfl⟩
def a103_c0 : ACode := (.seq (sr [(mV 15 9), (mV 16 10), (oP 17 (.bin .lss (.tmp 15) (.tmp 16)))]
 (.cond (.tmp 17) .skip (.exit 0)))
 (.block 1 (sr [(mV 18 9), (mV 19 10), (oP 20 (.bin .add (.tmp 18) (.tmp 19))), (oP 21 (.conv .u64 (.tmp 20))), (oP 22 (.bin .shr (.tmp 21) (.const (.c (.val (.int .u64 1)))))), (oP 23 (.conv .i64 (.tmp 22))), (mV 11 23)]
 (.seq (.drawn (.fin [((mV 24 2), (0, 0)), ((mV 25 0), (0, 1)), ((mV 26 11), (0, 2)), ((oP 27 (.iaddr 5 (.tmp 25) (.tmp 26))), (0, 3)), ((oP 28 (.load true 5 (.tmp 27))), (0, 4)), ((oP 29 (.load true 5 (.tmp 4))), (0, 5)), ((oP 30 (.callv (.tmp 24) [(.tmp 28), (.tmp 29)])), (2, 6)), ((oP 31 (.bin .lss (.tmp 30) (kI 0))), (0, 7))]))
 (.cond (.tmp 31) (.region [(mV 32 11), (oP 33 (.bin .add (.tmp 32) (kI 1))), (mV 9 33)]) (.region [(mV 34 11), (mV 10 34)]))))))
def a103_c1 : ACode := .ret
def a103 : AFunc := ⟨3, [(.tmp 6), (.tmp 7)], (sr [(oP 4 (.box (.tmp 1))), (oP 6 (.mov (kI 0))), (oP 7 (.mov kF))]
 (sr [(mV 12 0), (oP 13 (.len (.tmp 12))), (mV 8 13)]
 (sr [(mV 14 8), (oP 9 (.mov (kI 0))), (mV 10 14)]
 (.seq (.block 0 (.loop a103_c0))
 (.seq (.drawn (.fin [((mV 35 9), (0, 0)), ((mV 36 9), (0, 1)), ((mV 37 8), (0, 2)), ((oP 38 (.bin .lss (.tmp 36) (.tmp 37))), (0, 3)), ((mV 39 38), (0, 4)), (⟨(some 40), (.mov (.tmp 2)), (some (39, true))⟩, (0, 5)), (⟨(some 41), (.mov (.tmp 0)), (some (39, true))⟩, (0, 6)), (⟨(some 42), (.mov (.tmp 9)), (some (39, true))⟩, (0, 7)), (⟨(some 43), (.iaddr 5 (.tmp 41) (.tmp 42)), (some (39, true))⟩, (0, 8)), (⟨(some 44), (.load true 5 (.tmp 43)), (some (39, true))⟩, (0, 9)), (⟨(some 45), (.load true 5 (.tmp 4)), (some (39, true))⟩, (0, 10)), (⟨(some 46), (.callv (.tmp 40) [(.tmp 44), (.tmp 45)]), (some (39, true))⟩, (2, 11)), (⟨(some 47), (.bin .eql (.tmp 46) (kI 0)), (some (39, true))⟩, (0, 12)), ((oP 48 (.pick (.tmp 39) (.tmp 47) kF)), (0, 13)), ((mV 6 35), (0, 14)), ((mV 7 48), (0, 15))]))
 a103_c1)))))⟩
theorem c103 : compFunc Try.prog 103 = some a103 := by kernel_rfl
def Z2v (r : (Int × Bool)) : AV → Heap → Nat → Prop := fun v h' n' => v = (.tup [(I r.1), (B r.2)]) ∧ (h' = e0) ∧ n' = 0
abbrev Z6a (x_ : (List TJTimer)) (target : TJTimer) (F_ : Int → Option (Int × Bool)) (o : (Int × Bool)) (R_ : St → Prop) : Prop := ∀ (i_1 : Int), F_ i_1 = some o → ∀ s, Weak 0 s ⟨(ue [(9, (I i_1)), (8, (I (x_.length : Int))), (4, (.c (.ref 0 5 0 0))), (2, (.c (.fn (.func 42) [] []))), (0, (.c (.ro false 5 (x_.map e_TJTimer))))]), (upd e0 0 (some (.cells 5 [(e_TJTimer target)]))), 1⟩ → R_ s
abbrev Z3q (x_ : (List TJTimer)) (target : TJTimer) (F_ : Nat → Int → Int → Option (Int × Bool)) (o : (Int × Bool)) : Nat → St → Prop := fun k s => ∃ (i_ : Int), ∃ (j_ : Int), F_ k i_ j_ = some o ∧ s = ⟨(ue [(10, (I j_)), (9, (I i_)), (8, (I (x_.length : Int))), (4, (.c (.ref 0 5 0 0))), (2, (.c (.fn (.func 42) [] []))), (0, (.c (.ro false 5 (x_.map e_TJTimer))))]), (upd e0 0 (some (.cells 5 [(e_TJTimer target)]))), 1⟩
abbrev Z6b (x_ : (List TJTimer)) (target : TJTimer) (F_ : Int → Int → Option (Int × Bool)) (o : (Int × Bool)) (R_ : St → Prop) : Prop := ∀ (i_ : Int) (j_ : Int), F_ i_ j_ = some o → ∀ s, Weak 0 s ⟨(ue [(10, (I j_)), (9, (I i_)), (8, (I (x_.length : Int))), (4, (.c (.ref 0 5 0 0))), (2, (.c (.fn (.func 42) [] []))), (0, (.c (.ro false 5 (x_.map e_TJTimer))))]), (upd e0 0 (some (.cells 5 [(e_TJTimer target)]))), 1⟩ → R_ s
noncomputable def Zb (x_ : (List TJTimer)) (target : TJTimer) (K0_ : Int → Option (Int × Bool)) : Nat → Int → Int → Option (Int × Bool)
 | 0, _, _ => none
 | k + 1, i_, j_ =>
  if decide (i_ < j_) then
   (at? x_ (wr .i64 (shr .u64 (wr .u64 (wi (i_ + j_))) 1))).bind fun x_1 =>
   (Zm x_1 target).bind fun r_ =>
   if decide (r_ < 0) then
    (Zb x_ target K0_ k) (wi ((wr .i64 (shr .u64 (wr .u64 (wi (i_ + j_))) 1)) + 1)) j_
   else
    (Zb x_ target K0_ k) i_ (wr .i64 (shr .u64 (wr .u64 (wi (i_ + j_))) 1))
  else
   K0_ i_
theorem Z6c {Γ : Glob} {Q : AExit → St → Prop} {x_ : (List TJTimer)} {target : TJTimer} {K0_ : Int → Option (Int × Bool)} {k : Nat} {i_ : Int} {j_ : Int} {o : (Int × Bool)} (h : Zb x_ target K0_ k i_ j_ = some o)
  (hK0 : Z6a x_ target K0_ o (Q (.exit 0)))
  (hr : ∀ s, Ends a103.results 0 (Z2v o) .ret s → Q .ret s) :
  Sv Try.prog Γ 0 (.loop a103_c0) Q ⟨(ue [(10, (I j_)), (9, (I i_)), (8, (I (x_.length : Int))), (4, (.c (.ref 0 5 0 0))), (2, (.c (.fn (.func 42) [] []))), (0, (.c (.ro false 5 (x_.map e_TJTimer))))]), (upd e0 0 (some (.cells 5 [(e_TJTimer target)]))), 1⟩ := by
 refine Sv.loop (I := Z3q x_ target (Zb x_ target K0_) o) (fun k s hI => ?_) ⟨i_, j_, h, rfl⟩
 clear h
 clear j_ i_
 obtain ⟨i_, j_, h, rfl⟩ := hI
 cases k with
 | zero => cases h
 | succ k =>
 rw [Zb] at h
 have hself : Z6b x_ target (Zb x_ target K0_ k) o (rnd 0 (Z3q x_ target (Zb x_ target K0_) o) k Q) := fun i_ j_ h s hw => ⟨_, k, hw, Nat.lt_succ_self k, i_, j_, h, rfl⟩
 refine Sv.seq <| ssr <| un1 rfl <| un1 rfl <| un1 (v := (B (decide (i_ < j_)))) rfl <| dnil ?_
 refine Sv.cnd rfl h (fun h => ?_) fun h => ?_
 ·refine Sv.skip <| Sv.block <| ssr <| un1 rfl <| un1 rfl <| un1 (v := (I (wi (i_ + j_)))) rfl <| un1 (v := (.c (.val (.int .u64 (wr .u64 (wi (i_ + j_))))))) rfl <| un1 (v := (.c (.val (.int .u64 (shr .u64 (wr .u64 (wi (i_ + j_))) 1))))) rfl <| un1 (v := (I (wr .i64 (shr .u64 (wr .u64 (wi (i_ + j_))) 1)))) rfl <| un1 rfl <| dnil <| Sv.seq <| Sv.drawn <| un1 rfl <| un1 rfl <| un1 rfl ?_
  obtain ⟨x_1, hx1, h⟩ := bnd h
  refine un1 (v := (.c (.rop (e_TJTimer x_1)))) (s_iaddr (e := e_TJTimer) (xs := x_) rfl rfl hx1) <| un1 (v := (.agg (e_TJTimer x_1))) rfl <| un1 (v := (.agg (e_TJTimer target))) rfl ?_
  obtain ⟨r_, hr1, h⟩ := bnd h
  refine un <| acv_gen (bs := []) («as» := [(.agg (e_TJTimer x_1)), (.agg (e_TJTimer target))]) (h2 := _) (h1 := e0) rfl (by kernel_rfl) (Z2s hr1) rfl (.cons (avAs_free rfl) (.cons (avAs_free rfl) .nil)) (hsub_refl _) (.nil _) (fun _ => rfl) (by decide) (by decide) (.cons (avAs_free rfl) (.cons (avAs_free rfl) .nil)) .nil ?_
  rintro _ _ _ hn ⟨rfl, rfl, rfl⟩
  refine ⟨.inl rfl, (rem [] _), fun hbd => (m3_rem (in_nil _) (.nil) hbd), (I r_), 1, rfl, rfl, ?_⟩
  refine un1 (v := (B (decide (r_ < 0)))) rfl <| dnil ?_
  refine Sv.cnd rfl h (fun h => ?_) fun h => ?_
  ·refine srg <| un1 rfl <| un1 (v := (I (wi ((wr .i64 (shr .u64 (wr .u64 (wi (i_ + j_))) 1)) + 1)))) rfl <| un1 rfl <| dnil ?_
   exact hself (wi ((wr .i64 (shr .u64 (wr .u64 (wi (i_ + j_))) 1)) + 1)) j_ h _ (wcn [0] rfl (.cf rfl rfl (.cf rfl rfl (.cf rfl rfl (.cr rfl rfl rfl (.cf rfl rfl (.cf rfl rfl .nil)))))) (.box (by decide) rfl (blkAs_cells (.sm rfl (.sm rfl (.sm rfl (.sm rfl (.sm rfl .nil)))))) .nil))
  ·refine srg <| un1 rfl <| un1 rfl <| dnil ?_
   exact hself i_ (wr .i64 (shr .u64 (wr .u64 (wi (i_ + j_))) 1)) h _ (wcn [0] rfl (.cf rfl rfl (.cf rfl rfl (.cf rfl rfl (.cr rfl rfl rfl (.cf rfl rfl (.cf rfl rfl .nil)))))) (.box (by decide) rfl (blkAs_cells (.sm rfl (.sm rfl (.sm rfl (.sm rfl (.sm rfl .nil)))))) .nil))
 ·refine Sv.exit ?_
  exact hK0 i_ h _ (wcn [0] rfl (.cf rfl rfl (.cf rfl rfl (.cr rfl rfl rfl (.cf rfl rfl (.cf rfl rfl .nil))))) (.box (by decide) rfl (blkAs_cells (.sm rfl (.sm rfl (.sm rfl (.sm rfl (.sm rfl .nil)))))) .nil))
noncomputable def Zs (i_1 : Int) (v7 : Bool) : Option (Int × Bool) :=
 some (i_1, v7)
theorem Z3r {Γ : Glob} {i_1 : Int} {v7 : Bool} {o : (Int × Bool)} (h : Zs i_1 v7 = some o) :
  Sv Try.prog Γ 0 a103_c1 (Ends a103.results 0 (Z2v o)) ⟨(ue [(7, (B v7)), (6, (I i_1))]), e0, 0⟩ := by
 unfold Zs at h
 refine Sv.ret ?_
 exact rt0 h rfl rfl ⟨rfl, rfl, rfl⟩
/-- slices.BinarySearchFunc(()clerestory/api.JTimer,clerestory/api.JTimer,clerestory/api.JTimer) -/
noncomputable def Z2i (x_ : (List TJTimer)) (target : TJTimer) : Option (Int × Bool) :=
 lim fun kk => Zb x_ target (fun (i_1 : Int) => 
   if decide (i_1 < (x_.length : Int)) then
    (at? x_ i_1).bind fun x_2 =>
    (Zm x_2 target).bind fun r_1 =>
    Zs i_1 (decide (r_1 = 0))
   else
    Zs i_1 false) kk 0 (x_.length : Int)
theorem Z6d {Γ : Glob} {x_ : (List TJTimer)} {target : TJTimer} {r : (Int × Bool)} (h : Z2i x_ target = some r) : CPure Try.prog Γ 103 [(.c (.ro false 5 (x_.map e_TJTimer))), (.agg (e_TJTimer target)), (.c (.fn (.func 42) [] []))] (.tup [(I r.1), (B r.2)]) := by
 refine acalls_of_sv hmix c103 (R := Z2v r) ?_
 unfold Z2i at h
 refine ssr <| un <| a2v (v := (.c (.ref 0 5 0 0))) (h' := upd _ 0 (some (.cells 5 [(e_TJTimer target)]))) (n' := 1) rfl rfl hcs <| un1 rfl <| un1 rfl <| dnil <| ssr <| un1 rfl <| un1 (v := (I (x_.length : Int))) (s_len (e := e_TJTimer) (xs := x_) rfl) <| un1 rfl <| dnil <| ssr <| un1 rfl <| un1 rfl <| un1 rfl <| dnil <| Sv.seq <| Sv.block ?_
 obtain ⟨kk, h⟩ := lim_some h
 refine Sv.weak (wcn [0] rfl (.cf rfl rfl (.cf rfl rfl (.cf rfl rfl (.cr rfl rfl rfl (.cf rfl rfl (.cf rfl rfl .nil)))))) (.box (by decide) rfl (blkAs_cells (.sm rfl (.sm rfl (.sm rfl (.sm rfl (.sm rfl .nil)))))) .nil)) (Z6c h ?_ (fun s hs => hs))
 ·intro i_1 h _ hw1
  refine Sv.weak hw1 <| Sv.seq <| Sv.drawn <| un1 rfl <| un1 rfl <| un1 rfl <| un1 (v := (B (decide (i_1 < (x_.length : Int))))) rfl <| un1 rfl ?_
  refine spl h (fun h => ?_) fun h => ?_
  ·refine gt rfl <| a1 rfl <| gt rfl <| a1 rfl <| gt rfl <| a1 rfl ?_
   obtain ⟨x_2, hx2, h⟩ := bnd h
   refine gt rfl <| a1 (v := (.c (.rop (e_TJTimer x_2)))) (s_iaddr (e := e_TJTimer) (xs := x_) rfl rfl hx2) <| gt rfl <| a1 (v := (.agg (e_TJTimer x_2))) rfl <| gt rfl <| a1 (v := (.agg (e_TJTimer target))) rfl ?_
   obtain ⟨r_1, hr2, h⟩ := bnd h
   refine gt rfl <| acv_gen (bs := []) («as» := [(.agg (e_TJTimer x_2)), (.agg (e_TJTimer target))]) (h2 := _) (h1 := e0) rfl (by kernel_rfl) (Z2s hr2) rfl (.cons (avAs_free rfl) (.cons (avAs_free rfl) .nil)) (hsub_refl _) (.nil _) (fun _ => rfl) (by decide) (by decide) (.cons (avAs_free rfl) (.cons (avAs_free rfl) .nil)) .nil ?_
   rintro _ _ _ hn ⟨rfl, rfl, rfl⟩
   refine ⟨.inl rfl, (rem [] _), fun hbd => (m3_rem (in_nil _) (.nil) hbd), (I r_1), 1, rfl, rfl, ?_⟩
   refine gt rfl <| a1 (v := (B (decide (r_1 = 0)))) rfl <| un1 (v := (B (decide (r_1 = 0)))) rfl <| un1 rfl <| un1 rfl <| dnil ?_
   exact Sv.weak (wcn [] rfl (.cf rfl rfl (.cf rfl rfl .nil)) .nil) (Z3r h)
  ·repeat (first | refine gu rfl ?_ | refine gs rfl rfl ?_)
   refine un1 (v := (B false)) rfl <| un1 rfl <| un1 rfl <| dnil ?_
   exact Sv.weak (wcn [] rfl (.cf rfl rfl (.cf rfl rfl .nil)) .nil) (Z3r h)
noncomputable def Z2w (x_ : List TJTimer) (i_ : Int) : List TJTimer → Option (List TJTimer)
 | [t_] => ins? 48 x_ i_ t_
 | _ => none
theorem Z6e {Γ : Glob} {x_ v_ r : List TJTimer} {i_ : Int} {zx zv : Bool} (hzx : zx = true → x_ = []) (hzv : zv = true → v_ = []) (h : Z2w x_ i_ v_ = some r) : ACalls Try.prog Γ 104 [lstV zx 0 5 x_.length, I i_, lstV zv 1 5 v_.length] (upd (upd e0 0 (lstB zx 5 (x_.map e_TJTimer))) 1 (lstB zv 5 (v_.map e_TJTimer))) 2 (fun v h' n' => ∃ z' : Bool, (z' = true → r = []) ∧ v = lstV z' 2 5 r.length ∧ (h' = (upd e0 2 (lstB z' 5 (r.map e_TJTimer)))) ∧ n' = 3) := by
 match v_, hzv, h with
 | [t_], hzv, h => exact ins_ok (e := e_TJTimer) (sz := 5) (bytes := 48) (TE := 84) (zs := #[.int .i64 0, .int .i64 0, .int .i64 0, .int .i64 0, .string ⟨#[]⟩]) (fun _ => rfl) (by decide) (by decide) rfl (ins104_shift _ rfl rfl) (ins104_end_room _ rfl rfl) (ins104_end_grow _ rfl rfl rfl _ rfl) (ins104_grow _ rfl rfl rfl _ rfl rfl) hzx hzv h
 | [], _, h => cases h
 | _ :: _ :: _, _, h => cases h
def a88 : AFunc := ⟨2, [(.tmp 4)], (sr [(oP 3 (.box (.tmp 1))), (oP 4 (.mov (.const (.c (.ro true 5 [])))))]
 (sr [(mV 8 0), (oP 9 (.load true 5 (.tmp 3))), (oP 10 (.call 103 [(.tmp 8), (.tmp 9), (.const (.c (.fn (.func 42) [] [])))])), (mV 7 10), (oP 11 (.ext (.tmp 7) 0)), (oP 12 (.ext (.tmp 7) 1)), (mV 5 11), (mV 6 12)]
 (sr [(mV 13 0), (mV 14 5), (oP 15 (.load true 5 (.tmp 3))), (oP 16 (.bslice 5 [(.val (.int .i64 0)), (.val (.int .i64 0)), (.val (.int .i64 0)), (.val (.int .i64 0)), (.str [])] 1 [(0, (.tmp 15))])), (oP 17 (.call 104 [(.tmp 13), (.tmp 14), (.tmp 16)])), (mV 4 17)]
 .ret)))⟩
theorem c88 : compFunc Try.prog 88 = some a88 := by kernel_rfl
def Z3s (r : (List TJTimer)) : AV → Heap → Nat → Prop := fun v h' n' => ∃ z0 : Bool, (z0 = true → r = []) ∧ v = (lstV z0 1 5 r.length) ∧ (h' = (upd e0 1 (lstB z0 5 (r.map e_TJTimer)))) ∧ n' = 2
/-- clerestory/loop.lay -/
noncomputable def Z1k (l_ : (List TJTimer)) (t_ : TJTimer) : Option (List TJTimer) :=
 (Z2i l_ t_).bind fun r_ =>
 (Z2w l_ r_.1 [t_]).bind fun r_1 =>
 some r_1
theorem Z3t {Γ : Glob} {l_ : (List TJTimer)} {t_ : TJTimer} {zl : Bool} (hzl : zl = true → l_ = []) {r : (List TJTimer)} (h : Z1k l_ t_ = some r) : ACalls Try.prog Γ 88 [(lstV zl 0 5 l_.length), (.agg (e_TJTimer t_))] (upd e0 0 (lstB zl 5 (l_.map e_TJTimer))) 1 (Z3s r) := by
 refine acalls_of_sv hmix c88 (R := Z3s r) ?_
 unfold Z1k at h
 refine ssr <| un <| a2v (v := (.c (.ref 1 5 0 0))) (h' := upd _ 1 (some (.cells 5 [(e_TJTimer t_)]))) (n' := 2) rfl rfl hcs <| un1 rfl <| dnil <| ssr <| un1 rfl <| un1 (v := (.agg (e_TJTimer t_))) rfl ?_
 obtain ⟨r_, hr1, h⟩ := bnd h
 refine un <| ac_lend (h2 := (upd _ 0 none)) (Z6d hr1) rfl (.cons (.c (lstC_ro (es := List.map e_TJTimer l_) rfl (List.length_map e_TJTimer).symm (map_nil_of hzl) (gone rfl) (fr_map fun _ => rfl))) (.cons (avAs_free rfl) (.cons (avAs_free rfl) .nil))) (hsub_none (hsub_refl _)) rfl rfl (.inr rfl) <| un1 rfl <| un1 (v := (I r_.1)) rfl <| un1 (v := (B r_.2)) rfl <| un1 rfl <| un1 rfl <| dnil <| ssr <| un1 rfl <| un1 rfl <| un1 (v := (.agg (e_TJTimer t_))) rfl <| un <| a2v (v := (lstV false 2 5 [t_].length)) (h' := upd _ 2 (lstB false 5 ([t_].map e_TJTimer))) (n' := 3) rfl rfl hcs ?_
 obtain ⟨r_1, hr2, h⟩ := bnd h
 refine un <| ac_gen (bs := [0, 2]) («as» := [(lstV zl 0 5 l_.length), (I r_.1), (lstV false 2 5 [t_].length)]) (h2 := _) (h1 := (upd (upd e0 0 (lstB zl 5 (l_.map e_TJTimer))) 2 (lstB false 5 ([t_].map e_TJTimer)))) (Z6e hzl hcs hr2) rfl (.cons (.c (lsr rfl rfl)) (.cons (avAs_free rfl) (.cons (.c (lsr rfl rfl)) .nil))) (hsub_refl _) (.cons rfl (.cons rfl (.nil _))) hcs (by decide) (by decide) (.cons (.c (lsr rfl rfl)) (.cons (avAs_free rfl) (.cons (.c (lsr rfl rfl)) .nil))) (.row (by decide) rfl (fr_map fun _ => rfl) (.row (by decide) rfl (fr_map fun _ => rfl) .nil)) ?_
 rintro _ _ _ hn ⟨z_, hz_, rfl, rfl, rfl⟩
 refine ⟨.inl rfl, (upd (rem [0, 2] _) 3 (lstB z_ 5 (r_1.map e_TJTimer))), fun hbd => (m3_cons (m3_row rfl (fr_map fun _ => rfl)) (m3_rem (in_cons (by decide) (in_cons (by decide) (in_nil _))) (.cons (by decide) .nil) hbd)), (lstV z_ 3 5 r_1.length), 4, (by cases z_ <;> rfl), rfl, ?_⟩
 refine un1 rfl <| dnil <| Sv.ret ?_
 replace h := Option.some.inj h
 subst h
 exact ⟨_, .refl _, _, rfl, ⟨upd e0 0 (some (lstV z_ 1 5 r_1.length)), (upd e0 1 (lstB z_ 5 (r_1.map e_TJTimer))), 2⟩, (lstV z_ 1 5 r_1.length), weak_canon2 [0, 3] [1] (by decide) (by decide) (by decide) (.cons (by decide) .nil) (.cons rfl (.c (lsr rfl rfl)) .nil) (.row (by decide) rfl (fr_map fun _ => rfl) .nil), rfl, z_, hz_, rfl, rfl, rfl⟩
def a66_c0 : ACode := (.seq (sr [(oP 21 (.faddr 5 (.tmp 2))), (oP 22 (.faddr 2 (.tmp 21))), (oP 23 (.load false 1 (.tmp 22))), (mV 24 8), (oP 25 (.call 32 [(.tmp 23), (.tmp 24), (kI 1000000)])), (oP 26 (.un .not (.tmp 25))), (mV 27 26), ⟨(some 28), (.faddr 0 (.tmp 2)), (some (27, false))⟩, ⟨(some 29), (.faddr 0 (.tmp 28)), (some (27, false))⟩, ⟨(some 30), (.load false 1 (.tmp 29)), (some (27, false))⟩, ⟨(some 31), (.faddr 5 (.tmp 2)), (some (27, false))⟩, ⟨(some 32), (.faddr 2 (.tmp 31)), (some (27, false))⟩, ⟨(some 33), (.load false 1 (.tmp 32)), (some (27, false))⟩, ⟨(some 34), (.bin .add (.tmp 30) (.tmp 33)), (some (27, false))⟩, ⟨(some 35), (.bin .gtr (.tmp 34) (kI 1000000000)), (some (27, false))⟩, (oP 36 (.pick (.tmp 27) kT (.tmp 35)))]
 (.cond (.tmp 36) (sr [(oP 37 (.faddr 0 (.tmp 2))), (oP 38 (.load true 5 (.tmp 37))), (oN (.store 5 (.tmp 4) (.tmp 38))), (oP 5 (.mov (kI 0))), (oP 6 (.mov (kI 1)))]
 .ret) .skip))
 (.seq (sr [(oP 39 (.load true 12 (.tmp 2))), (oP 40 (.faddr 0 (.tmp 2))), (oP 41 (.faddr 4 (.tmp 40))), (oP 42 (.load false 1 (.tmp 41))), (oP 43 (.len (.tmp 42))), (oP 44 (.call 87 [(.tmp 39), (.tmp 43)]))]
 (.cond (.tmp 44) (sr [(oP 45 (.faddr 0 (.tmp 2))), (oP 46 (.load true 5 (.tmp 45))), (oN (.store 5 (.tmp 4) (.tmp 46))), (oP 5 (.mov (kI 0))), (oP 6 (.mov (kI 2)))]
 .ret) .skip))
 (sr [(oP 47 (.faddr 0 (.tmp 2))), (oP 48 (.faddr 0 (.tmp 47))), (oP 49 (.load false 1 (.tmp 48))), (oP 50 (.faddr 5 (.tmp 2))), (oP 51 (.faddr 2 (.tmp 50))), (oP 52 (.load false 1 (.tmp 51))), (oP 53 (.bin .add (.tmp 49) (.tmp 52))), (oP 54 (.faddr 1 (.tmp 7))), (oN (.store 1 (.tmp 54) (.tmp 53)))]
 (sr [(oP 55 (.faddr 0 (.tmp 2))), (oP 56 (.faddr 4 (.tmp 55))), (oP 57 (.load false 1 (.tmp 56))), (oP 58 (.load true 5 (.tmp 7))), (oP 59 (.call 88 [(.tmp 57), (.tmp 58)])), (oP 60 (.faddr 0 (.tmp 2))), (oP 61 (.faddr 4 (.tmp 60))), (oN (.store 1 (.tmp 61) (.tmp 59)))]
 (sr [(oP 62 (.faddr 0 (.tmp 2))), (oP 63 (.faddr 1 (.tmp 62))), (oP 64 (.load false 1 (.tmp 63))), (oP 65 (.bin .add (.tmp 64) (kI 1))), (oP 66 (.faddr 0 (.tmp 2))), (oP 67 (.faddr 1 (.tmp 66))), (oN (.store 1 (.tmp 67) (.tmp 65)))]
 (.seq (.drawn (.alt [((oP 68 (.faddr 0 (.tmp 2))), (0, 0)), ((oP 69 (.load true 5 (.tmp 68))), (0, 1)), ((oP 70 (.faddr 0 (.tmp 7))), (0, 2))] (.fin [((oP 71 (.load false 1 (.tmp 70))), (1, 3)), ((oN (.store 5 (.tmp 4) (.tmp 69))), (2, 4)), ((mV 5 71), (0, 5)), ((oP 6 (.mov (kI 0))), (0, 6))]) (.fin [((oN (.store 5 (.tmp 4) (.tmp 69))), (2, 4)), ((oP 71 (.load false 1 (.tmp 70))), (1, 3)), ((mV 5 71), (0, 5)), ((oP 6 (.mov (kI 0))), (0, 6))])))
 .ret))))))
def a66 : AFunc := ⟨2, [(.cell true 5 4), (.tmp 5), (.tmp 6)], (sr [(oP 2 (.box (.tmp 0))), (oP 4 (.box (.const (.agg [(.val (.int .i64 0)), (.val (.int .i64 0)), (.ro true 7 []), (.ro true 7 []), (.ro true 5 [])])))), (oP 5 (.mov (kI 0))), (oP 6 (.mov (kI 0)))]
 (sr [(oP 9 (.faddr 0 (.tmp 2))), (oP 10 (.faddr 1 (.tmp 9))), (oP 11 (.load false 1 (.tmp 10))), (oP 12 (.faddr 5 (.tmp 2))), (oP 13 (.faddr 3 (.tmp 12))), (oP 14 (.load false 1 (.tmp 13))), (oP 15 (.build [(.val (.int .i64 0)), (.val (.int .i64 0)), (.val (.int .i64 0)), (.val (.int .i64 0)), (.str [])] [(0, (1, (.tmp 11))), (4, (1, (.tmp 14)))])), (oP 7 (.box (.const (.agg [(.val (.int .i64 0)), (.val (.int .i64 0)), (.val (.int .i64 0)), (.val (.int .i64 0)), (.str [])])))), (oN (.store 5 (.tmp 7) (.tmp 15)))]
 (sr [(oP 8 (.mov (kI 0)))]
 (.seq (sr [(mV 16 1)]
 (.cond (.tmp 16) (.drawn (.fin [((oP 17 (.faddr 5 (.tmp 2))), (0, 0)), ((oP 18 (.faddr 2 (.tmp 17))), (0, 1)), ((oP 19 (.load false 1 (.tmp 18))), (0, 2)), ((oP 8 (.mov (kI 1))), (0, 3)), ((oP 20 (.faddr 2 (.tmp 7))), (0, 4)), ((oN (.store 1 (.tmp 20) (.tmp 19))), (2, 5))])) .skip))
 a66_c0))))⟩
theorem c66 : compFunc Try.prog 66 = some a66 := by kernel_rfl
def Z2x (r : (TJLoop × Int × Int)) : AV → Heap → Nat → Prop := fun v h' n' => ∃ z0 : Bool, (z0 = true → r.1.Tasks = []) ∧ ∃ z1 : Bool, (z1 = true → r.1.Smalls = []) ∧ ∃ z2 : Bool, (z2 = true → r.1.Timers = []) ∧ v = (.tup [(.agg [cI r.1.Now, cI r.1.Next, lstC z0 3 7 r.1.Tasks.length, lstC z1 4 7 r.1.Smalls.length, lstC z2 5 5 r.1.Timers.length]), (I r.2.1), (I r.2.2)]) ∧ (h' = (upd (upd (upd e0 3 (lstB z0 7 (r.1.Tasks.map e_TJJob))) 4 (lstB z1 7 (r.1.Smalls.map e_TJJob))) 5 (lstB z2 5 (r.1.Timers.map e_TJTimer)))) ∧ n' = 6
noncomputable def Z1l (a_ : Tasked) (a2 : (List TJJob)) (a3 : (List TJJob)) (a4 : (List TJTimer)) (t2 : Int) (low : Int) : Option (TJLoop × Int × Int) :=
 if ((!(Z1 a_.f_a.N low 1000000)) || (decide (1000000000 < (wi (a_.f_q.Now + a_.f_a.N))))) then
  some ((⟨a_.f_q.Now, a_.f_q.Next, a2, a3, a4⟩ : TJLoop), 0, 1)
 else
  letIn (Zy (⟨(⟨a_.f_q.Now, a_.f_q.Next, a2, a3, a4⟩ : TJLoop), a_.f_a⟩ : Tasked) (a4.length : Int)) fun r_ : Bool =>
  if r_ then
   some ((⟨a_.f_q.Now, a_.f_q.Next, a2, a3, a4⟩ : TJLoop), 0, 2)
  else
   (Z1k a4 (⟨a_.f_q.Next, (wi (a_.f_q.Now + a_.f_a.N)), t2, 0, a_.f_a.Call⟩ : TJTimer)).bind fun r_1 =>
   some ((⟨a_.f_q.Now, (wi (a_.f_q.Next + 1)), a2, a3, r_1⟩ : TJLoop), a_.f_q.Next, 0)
theorem Z3u {Γ : Glob} {a_ : Tasked} {a2 : (List TJJob)} {a3 : (List TJJob)} {a4 : (List TJTimer)} {t2 : Int} {low : Int} {za21 : Bool} (hza21 : za21 = true → a2 = []) {za3 : Bool} (hza3 : za3 = true → a3 = []) {za4 : Bool} (hza4 : za4 = true → a4 = []) {o : (TJLoop × Int × Int)} (h : Z1l a_ a2 a3 a4 t2 low = some o) :
  Sv Try.prog Γ 3 a66_c0 (Ends a66.results 3 (Z2x o)) ⟨(ue [(8, (I low)), (7, (.c (.ref 5 5 0 0))), (4, (.c (.ref 4 5 0 0))), (2, (.c (.ref 3 12 0 0)))]), (upd (upd (upd (upd (upd (upd e0 0 (lstB za21 7 (a2.map e_TJJob))) 1 (lstB za3 7 (a3.map e_TJJob))) 2 (lstB za4 5 (a4.map e_TJTimer))) 3 (some (.cells 12 [[cI a_.f_q.Now, cI a_.f_q.Next, lstC za21 0 7 a2.length, lstC za3 1 7 a3.length, lstC za4 2 5 a4.length, cI a_.f_a.Do, cI a_.f_a.Source, cI a_.f_a.N, .str a_.f_a.Call, cI a_.f_a.Arg.Kind, cI a_.f_a.Arg.N, .str a_.f_a.Arg.S]]))) 4 (some (.cells 5 [[cI 0, cI 0, .ro true 7 [], .ro true 7 [], .ro true 5 []]]))) 5 (some (.cells 5 [[cI a_.f_q.Next, cI 0, cI t2, cI 0, .str a_.f_a.Call]]))), 6⟩ := by
 unfold Z1l at h
 refine Sv.seq <| ssr <| un1 (v := (.c (.ref 3 12 0 5))) rfl <| un1 (v := (.c (.ref 3 12 0 7))) rfl <| un1 (v := (I a_.f_a.N)) rfl <| un1 rfl <| un <| ac_pure (Zf (Γ := Γ) a_.f_a.N low 1000000) rfl rfl rfl <| un1 (v := (B (!(Z1 a_.f_a.N low 1000000)))) rfl <| un1 rfl ?_
 refine gjoin 9 (d := 36) (v := (B ((!(Z1 a_.f_a.N low 1000000)) || (decide (1000000000 < (wi (a_.f_q.Now + a_.f_a.N))))))) (fun X hX => ?_) ?_
 ·refine split2 (fun hc1 => ?_) (fun hc1 => ?_)
  ·repeat (first | refine gu rfl ?_ | refine gs rfl rfl ?_)
   refine un1 (v := (B true)) rfl <| dnil ?_
   exact hX _ (.putEq (by rw [hc1]; rfl) (by repeat (first | exact .putEq (by rw [hc1]) (.refl _) | refine .skp ?_ rfl)))
  ·refine gt rfl <| a1 (v := (.c (.ref 3 12 0 0))) rfl <| gt rfl <| a1 (v := (.c (.ref 3 12 0 0))) rfl <| gt rfl <| a1 (v := (I a_.f_q.Now)) rfl <| gt rfl <| a1 (v := (.c (.ref 3 12 0 5))) rfl <| gt rfl <| a1 (v := (.c (.ref 3 12 0 7))) rfl <| gt rfl <| a1 (v := (I a_.f_a.N)) rfl <| gt rfl <| a1 (v := (I (wi (a_.f_q.Now + a_.f_a.N)))) rfl <| gt rfl <| a1 (v := (B (decide (1000000000 < (wi (a_.f_q.Now + a_.f_a.N)))))) rfl <| un1 (v := (B (decide (1000000000 < (wi (a_.f_q.Now + a_.f_a.N)))))) rfl <| dnil ?_
   exact hX _ (.putEq (by rw [hc1]; rfl) (by repeat (first | exact .putEq (by rw [hc1]) (.refl _) | refine .skp ?_ rfl)))
 refine dnil ?_
 refine Sv.cnd rfl h (fun h => ?_) fun h => ?_
 ·refine ssr <| un1 (v := (.c (.ref 3 12 0 0))) rfl <| un1 (v := (.agg [cI a_.f_q.Now, cI a_.f_q.Next, lstC za21 0 7 a2.length, lstC za3 1 7 a3.length, lstC za4 2 5 a4.length])) rfl <| un <| a2n (h' := upd _ 4 (some (.cells 5 [[cI a_.f_q.Now, cI a_.f_q.Next, lstC za21 0 7 a2.length, lstC za3 1 7 a3.length, lstC za4 2 5 a4.length]]))) (n' := 6) rfl rfl hcs <| un1 rfl <| un1 rfl <| dnil <| Sv.ret ?_
  replace h := Option.some.inj h
  subst h
  exact ⟨_, .refl _, _, rfl, ⟨upd e0 0 (some (.tup [(.agg [cI a_.f_q.Now, cI a_.f_q.Next, lstC za21 3 7 a2.length, lstC za3 4 7 a3.length, lstC za4 5 5 a4.length]), (I 0), (I 1)])), (upd (upd (upd e0 3 (lstB za21 7 (a2.map e_TJJob))) 4 (lstB za3 7 (a3.map e_TJJob))) 5 (lstB za4 5 (a4.map e_TJTimer))), 6⟩, (.tup [(.agg [cI a_.f_q.Now, cI a_.f_q.Next, lstC za21 3 7 a2.length, lstC za3 4 7 a3.length, lstC za4 5 5 a4.length]), (I 0), (I 1)]), weak_canon2 [0, 1, 2, 0, 1, 2] [3, 4, 5] (by decide) (by decide) (by decide) (.cons (by decide) (.cons (by decide) (.cons (by decide) .nil))) (.cons rfl (avAs_tup (.cons (avAs_agg (.sm rfl (.sm rfl (.cons (lstC_ren rfl (by decide)) (.cons (lstC_ren rfl (by decide)) (.cons (lstC_ren rfl (by decide)) .nil)))))) (.cons (avAs_free rfl) (.cons (avAs_free rfl) .nil)))) .nil) (.row (by decide) rfl (fr_map fun _ => rfl) (.row (by decide) rfl (fr_map fun _ => rfl) (.row (by decide) rfl (fr_map fun _ => rfl) .nil))), rfl, za21, hza21, za3, hza3, za4, hza4, rfl, rfl, rfl⟩
 ·refine Sv.skip <| Sv.seq <| ssr <| un1 (v := (.agg [cI a_.f_q.Now, cI a_.f_q.Next, lstC za21 0 7 a2.length, lstC za3 1 7 a3.length, lstC za4 2 5 a4.length, cI a_.f_a.Do, cI a_.f_a.Source, cI a_.f_a.N, .str a_.f_a.Call, cI a_.f_a.Arg.Kind, cI a_.f_a.Arg.N, .str a_.f_a.Arg.S])) rfl <| un1 (v := (.c (.ref 3 12 0 0))) rfl <| un1 (v := (.c (.ref 3 12 0 4))) rfl <| un1 (v := (lstV za4 2 5 a4.length)) rfl <| un1 (v := (I (a4.length : Int))) (s_lenL rfl (len_nil_of hza4)) ?_
  obtain ⟨r_, hr_⟩ : ∃ r_ : Bool, r_ = (Zy (⟨(⟨a_.f_q.Now, a_.f_q.Next, a2, a3, a4⟩ : TJLoop), a_.f_a⟩ : Tasked) (a4.length : Int)) := ⟨_, rfl⟩
  replace h := letAt hr_ h
  have pr_ := (Z2u (Γ := Γ) (⟨(⟨a_.f_q.Now, a_.f_q.Next, a2, a3, a4⟩ : TJLoop), a_.f_a⟩ : Tasked) (a4.length : Int))
  rw [← hr_] at pr_
  refine un <| ac_lend (h2 := (upd (upd (upd _ 0 none) 1 none) 2 none)) pr_ rfl (.cons (avAs_agg (.sm rfl (.sm rfl (.cons (lstC_ro (es := List.map e_TJJob a2) rfl (List.length_map e_TJJob).symm (map_nil_of hza21) (gone rfl) (fr_map fun _ => rfl)) (.cons (lstC_ro (es := List.map e_TJJob a3) rfl (List.length_map e_TJJob).symm (map_nil_of hza3) (gone rfl) (fr_map fun _ => rfl)) (.cons (lstC_ro (es := List.map e_TJTimer a4) rfl (List.length_map e_TJTimer).symm (map_nil_of hza4) (gone rfl) (fr_map fun _ => rfl)) (.sm rfl (.sm rfl (.sm rfl (.sm rfl (.sm rfl (.sm rfl (.sm rfl .nil))))))))))))) (.cons (avAs_free rfl) .nil)) (hsub_none (hsub_none (hsub_none (hsub_refl _)))) rfl rfl (.inr rfl) <| dnil ?_
  refine Sv.cnd rfl h (fun h => ?_) fun h => ?_
  ·refine ssr <| un1 (v := (.c (.ref 3 12 0 0))) rfl <| un1 (v := (.agg [cI a_.f_q.Now, cI a_.f_q.Next, lstC za21 0 7 a2.length, lstC za3 1 7 a3.length, lstC za4 2 5 a4.length])) rfl <| un <| a2n (h' := upd _ 4 (some (.cells 5 [[cI a_.f_q.Now, cI a_.f_q.Next, lstC za21 0 7 a2.length, lstC za3 1 7 a3.length, lstC za4 2 5 a4.length]]))) (n' := 6) rfl rfl hcs <| un1 rfl <| un1 rfl <| dnil <| Sv.ret ?_
   replace h := Option.some.inj h
   subst h
   exact ⟨_, .refl _, _, rfl, ⟨upd e0 0 (some (.tup [(.agg [cI a_.f_q.Now, cI a_.f_q.Next, lstC za21 3 7 a2.length, lstC za3 4 7 a3.length, lstC za4 5 5 a4.length]), (I 0), (I 2)])), (upd (upd (upd e0 3 (lstB za21 7 (a2.map e_TJJob))) 4 (lstB za3 7 (a3.map e_TJJob))) 5 (lstB za4 5 (a4.map e_TJTimer))), 6⟩, (.tup [(.agg [cI a_.f_q.Now, cI a_.f_q.Next, lstC za21 3 7 a2.length, lstC za3 4 7 a3.length, lstC za4 5 5 a4.length]), (I 0), (I 2)]), weak_canon2 [0, 1, 2, 0, 1, 2] [3, 4, 5] (by decide) (by decide) (by decide) (.cons (by decide) (.cons (by decide) (.cons (by decide) .nil))) (.cons rfl (avAs_tup (.cons (avAs_agg (.sm rfl (.sm rfl (.cons (lstC_ren rfl (by decide)) (.cons (lstC_ren rfl (by decide)) (.cons (lstC_ren rfl (by decide)) .nil)))))) (.cons (avAs_free rfl) (.cons (avAs_free rfl) .nil)))) .nil) (.row (by decide) rfl (fr_map fun _ => rfl) (.row (by decide) rfl (fr_map fun _ => rfl) (.row (by decide) rfl (fr_map fun _ => rfl) .nil))), rfl, za21, hza21, za3, hza3, za4, hza4, rfl, rfl, rfl⟩
  ·refine Sv.skip <| ssr <| un1 (v := (.c (.ref 3 12 0 0))) rfl <| un1 (v := (.c (.ref 3 12 0 0))) rfl <| un1 (v := (I a_.f_q.Now)) rfl <| un1 (v := (.c (.ref 3 12 0 5))) rfl <| un1 (v := (.c (.ref 3 12 0 7))) rfl <| un1 (v := (I a_.f_a.N)) rfl <| un1 (v := (I (wi (a_.f_q.Now + a_.f_a.N)))) rfl <| un1 (v := (.c (.ref 5 5 0 1))) rfl <| un <| a2n (h' := upd _ 5 (some (.cells 5 [[cI a_.f_q.Next, cI (wi (a_.f_q.Now + a_.f_a.N)), cI t2, cI 0, .str a_.f_a.Call]]))) (n' := 6) rfl rfl hcs <| dnil <| ssr <| un1 (v := (.c (.ref 3 12 0 0))) rfl <| un1 (v := (.c (.ref 3 12 0 4))) rfl <| un1 (v := (lstV za4 2 5 a4.length)) rfl <| un1 (v := (.agg [cI a_.f_q.Next, cI (wi (a_.f_q.Now + a_.f_a.N)), cI t2, cI 0, .str a_.f_a.Call])) rfl ?_
   obtain ⟨r_1, hr1, h⟩ := bnd h
   refine un <| ac_gen (bs := [2]) («as» := [(lstV za4 2 5 a4.length), (.agg [cI a_.f_q.Next, cI (wi (a_.f_q.Now + a_.f_a.N)), cI t2, cI 0, .str a_.f_a.Call])]) (h2 := _) (h1 := (upd e0 2 (lstB za4 5 (a4.map e_TJTimer)))) (Z3t hza4 hr1) rfl (.cons (.c (lsr rfl rfl)) (.cons (avAs_free rfl) .nil)) (hsub_refl _) (.cons rfl (.nil _)) hcs (by decide) (by decide) (.cons (.c (lsr rfl rfl)) (.cons (avAs_free rfl) .nil)) (.row (by decide) rfl (fr_map fun _ => rfl) .nil) ?_
   rintro _ _ _ hn ⟨z_, hz_, rfl, rfl, rfl⟩
   refine ⟨.inl rfl, (upd (rem [2] _) 6 (lstB z_ 5 (r_1.map e_TJTimer))), fun hbd => (m3_cons (m3_row rfl (fr_map fun _ => rfl)) (m3_rem (in_cons (by decide) (in_nil _)) (.cons (by decide) .nil) hbd)), (lstV z_ 6 5 r_1.length), 7, (by cases z_ <;> rfl), rfl, ?_⟩
   refine un1 (v := (.c (.ref 3 12 0 0))) rfl <| un1 (v := (.c (.ref 3 12 0 4))) rfl <| un <| a2n (h' := upd _ 3 (some (.cells 12 [[cI a_.f_q.Now, cI a_.f_q.Next, lstC za21 0 7 a2.length, lstC za3 1 7 a3.length, lstC z_ 6 5 r_1.length, cI a_.f_a.Do, cI a_.f_a.Source, cI a_.f_a.N, .str a_.f_a.Call, cI a_.f_a.Arg.Kind, cI a_.f_a.Arg.N, .str a_.f_a.Arg.S]]))) (n' := 7) rfl rfl hcs <| dnil <| ssr <| un1 (v := (.c (.ref 3 12 0 0))) rfl <| un1 (v := (.c (.ref 3 12 0 1))) rfl <| un1 (v := (I a_.f_q.Next)) rfl <| un1 (v := (I (wi (a_.f_q.Next + 1)))) rfl <| un1 (v := (.c (.ref 3 12 0 0))) rfl <| un1 (v := (.c (.ref 3 12 0 1))) rfl <| un <| a2n (h' := upd _ 3 (some (.cells 12 [[cI a_.f_q.Now, cI (wi (a_.f_q.Next + 1)), lstC za21 0 7 a2.length, lstC za3 1 7 a3.length, lstC z_ 6 5 r_1.length, cI a_.f_a.Do, cI a_.f_a.Source, cI a_.f_a.N, .str a_.f_a.Call, cI a_.f_a.Arg.Kind, cI a_.f_a.Arg.N, .str a_.f_a.Arg.S]]))) (n' := 7) rfl rfl hcs <| dnil <| Sv.seq <| Sv.drawn2 <| un1 (v := (.c (.ref 3 12 0 0))) rfl <| un1 (v := (.agg [cI a_.f_q.Now, cI (wi (a_.f_q.Next + 1)), lstC za21 0 7 a2.length, lstC za3 1 7 a3.length, lstC z_ 6 5 r_1.length])) rfl <| un1 (v := (.c (.ref 5 5 0 0))) rfl <| dnil ?_
   refine ⟨?_, ?_⟩
   ·refine un1 (v := (I a_.f_q.Next)) rfl <| un <| a2n (h' := upd _ 4 (some (.cells 5 [[cI a_.f_q.Now, cI (wi (a_.f_q.Next + 1)), lstC za21 0 7 a2.length, lstC za3 1 7 a3.length, lstC z_ 6 5 r_1.length]]))) (n' := 7) rfl rfl hcs <| un1 rfl <| un1 rfl <| dnil <| Sv.ret ?_
    replace h := Option.some.inj h
    subst h
    exact ⟨_, .refl _, _, rfl, ⟨upd e0 0 (some (.tup [(.agg [cI a_.f_q.Now, cI (wi (a_.f_q.Next + 1)), lstC za21 3 7 a2.length, lstC za3 4 7 a3.length, lstC z_ 5 5 r_1.length]), (I a_.f_q.Next), (I 0)])), (upd (upd (upd e0 3 (lstB za21 7 (a2.map e_TJJob))) 4 (lstB za3 7 (a3.map e_TJJob))) 5 (lstB z_ 5 (r_1.map e_TJTimer))), 6⟩, (.tup [(.agg [cI a_.f_q.Now, cI (wi (a_.f_q.Next + 1)), lstC za21 3 7 a2.length, lstC za3 4 7 a3.length, lstC z_ 5 5 r_1.length]), (I a_.f_q.Next), (I 0)]), weak_canon2 [0, 1, 2, 0, 1, 6] [3, 4, 5] (by decide) (by decide) (by decide) (.cons (by decide) (.cons (by decide) (.cons (by decide) .nil))) (.cons rfl (avAs_tup (.cons (avAs_agg (.sm rfl (.sm rfl (.cons (lstC_ren rfl (by decide)) (.cons (lstC_ren rfl (by decide)) (.cons (lstC_ren rfl (by decide)) .nil)))))) (.cons (avAs_free rfl) (.cons (avAs_free rfl) .nil)))) .nil) (.row (by decide) rfl (fr_map fun _ => rfl) (.row (by decide) rfl (fr_map fun _ => rfl) (.row (by decide) rfl (fr_map fun _ => rfl) .nil))), rfl, za21, hza21, za3, hza3, z_, hz_, rfl, rfl, rfl⟩
   ·refine un <| a2n (h' := upd _ 4 (some (.cells 5 [[cI a_.f_q.Now, cI (wi (a_.f_q.Next + 1)), lstC za21 0 7 a2.length, lstC za3 1 7 a3.length, lstC z_ 6 5 r_1.length]]))) (n' := 7) rfl rfl hcs <| un1 (v := (I a_.f_q.Next)) rfl <| un1 rfl <| un1 rfl <| dnil <| Sv.ret ?_
    replace h := Option.some.inj h
    subst h
    exact ⟨_, .refl _, _, rfl, ⟨upd e0 0 (some (.tup [(.agg [cI a_.f_q.Now, cI (wi (a_.f_q.Next + 1)), lstC za21 3 7 a2.length, lstC za3 4 7 a3.length, lstC z_ 5 5 r_1.length]), (I a_.f_q.Next), (I 0)])), (upd (upd (upd e0 3 (lstB za21 7 (a2.map e_TJJob))) 4 (lstB za3 7 (a3.map e_TJJob))) 5 (lstB z_ 5 (r_1.map e_TJTimer))), 6⟩, (.tup [(.agg [cI a_.f_q.Now, cI (wi (a_.f_q.Next + 1)), lstC za21 3 7 a2.length, lstC za3 4 7 a3.length, lstC z_ 5 5 r_1.length]), (I a_.f_q.Next), (I 0)]), weak_canon2 [0, 1, 2, 0, 1, 6] [3, 4, 5] (by decide) (by decide) (by decide) (.cons (by decide) (.cons (by decide) (.cons (by decide) .nil))) (.cons rfl (avAs_tup (.cons (avAs_agg (.sm rfl (.sm rfl (.cons (lstC_ren rfl (by decide)) (.cons (lstC_ren rfl (by decide)) (.cons (lstC_ren rfl (by decide)) .nil)))))) (.cons (avAs_free rfl) (.cons (avAs_free rfl) .nil)))) .nil) (.row (by decide) rfl (fr_map fun _ => rfl) (.row (by decide) rfl (fr_map fun _ => rfl) (.row (by decide) rfl (fr_map fun _ => rfl) .nil))), rfl, za21, hza21, za3, hza3, z_, hz_, rfl, rfl, rfl⟩
/-- (clerestory/loop.asked).timer -/
noncomputable def Z1m (a_ : Tasked) (every : Bool) : Option (TJLoop × Int × Int) :=
 if every then
  Z1l a_ a_.f_q.Tasks a_.f_q.Smalls a_.f_q.Timers a_.f_a.N 1
 else
  Z1l a_ a_.f_q.Tasks a_.f_q.Smalls a_.f_q.Timers 0 0
theorem Z3v {Γ : Glob} {a_ : Tasked} {every : Bool} {za : Bool} (hza : za = true → a_.f_q.Tasks = []) {za1 : Bool} (hza1 : za1 = true → a_.f_q.Smalls = []) {za2 : Bool} (hza2 : za2 = true → a_.f_q.Timers = []) {r : (TJLoop × Int × Int)} (h : Z1m a_ every = some r) : ACalls Try.prog Γ 66 [(.agg [cI a_.f_q.Now, cI a_.f_q.Next, lstC za 0 7 a_.f_q.Tasks.length, lstC za1 1 7 a_.f_q.Smalls.length, lstC za2 2 5 a_.f_q.Timers.length, cI a_.f_a.Do, cI a_.f_a.Source, cI a_.f_a.N, .str a_.f_a.Call, cI a_.f_a.Arg.Kind, cI a_.f_a.Arg.N, .str a_.f_a.Arg.S]), (B every)] (upd (upd (upd e0 0 (lstB za 7 (a_.f_q.Tasks.map e_TJJob))) 1 (lstB za1 7 (a_.f_q.Smalls.map e_TJJob))) 2 (lstB za2 5 (a_.f_q.Timers.map e_TJTimer))) 3 (Z2x r) := by
 refine acalls_of_sv hmix c66 (R := Z2x r) ?_
 unfold Z1m at h
 refine ssr <| un <| a2v (v := (.c (.ref 3 12 0 0))) (h' := upd _ 3 (some (.cells 12 [[cI a_.f_q.Now, cI a_.f_q.Next, lstC za 0 7 a_.f_q.Tasks.length, lstC za1 1 7 a_.f_q.Smalls.length, lstC za2 2 5 a_.f_q.Timers.length, cI a_.f_a.Do, cI a_.f_a.Source, cI a_.f_a.N, .str a_.f_a.Call, cI a_.f_a.Arg.Kind, cI a_.f_a.Arg.N, .str a_.f_a.Arg.S]]))) (n' := 4) rfl rfl hcs <| un <| a2v (v := (.c (.ref 4 5 0 0))) (h' := upd _ 4 (some (.cells 5 [[cI 0, cI 0, .ro true 7 [], .ro true 7 [], .ro true 5 []]]))) (n' := 5) rfl rfl hcs <| un1 rfl <| un1 rfl <| dnil <| ssr <| un1 (v := (.c (.ref 3 12 0 0))) rfl <| un1 (v := (.c (.ref 3 12 0 1))) rfl <| un1 (v := (I a_.f_q.Next)) rfl <| un1 (v := (.c (.ref 3 12 0 5))) rfl <| un1 (v := (.c (.ref 3 12 0 8))) rfl <| un1 (v := (S a_.f_a.Call)) rfl <| un1 (v := (.agg [cI a_.f_q.Next, cI 0, cI 0, cI 0, .str a_.f_a.Call])) rfl <| un <| a2v (v := (.c (.ref 5 5 0 0))) (h' := upd _ 5 (some (.cells 5 [[cI 0, cI 0, cI 0, cI 0, .str []]]))) (n' := 6) rfl rfl hcs <| un <| a2n (h' := upd _ 5 (some (.cells 5 [[cI a_.f_q.Next, cI 0, cI 0, cI 0, .str a_.f_a.Call]]))) (n' := 6) rfl rfl hcs <| dnil <| ssr <| un1 rfl <| dnil <| Sv.seq <| ssr <| un1 rfl <| dnil ?_
 refine Sv.cnd rfl h (fun h => ?_) fun h => ?_
 ·refine Sv.drawn <| un1 (v := (.c (.ref 3 12 0 5))) rfl <| un1 (v := (.c (.ref 3 12 0 7))) rfl <| un1 (v := (I a_.f_a.N)) rfl <| un1 rfl <| un1 (v := (.c (.ref 5 5 0 2))) rfl <| un <| a2n (h' := upd _ 5 (some (.cells 5 [[cI a_.f_q.Next, cI 0, cI a_.f_a.N, cI 0, .str a_.f_a.Call]]))) (n' := 6) rfl rfl hcs <| dnil ?_
  exact Sv.weak (weak_canon [0, 1, 2, 3, 4, 5] rfl (by decide) (by decide) (by decide) (.cf rfl rfl (.cr rfl rfl rfl (.cr rfl rfl rfl (.cr rfl rfl rfl .nil)))) (.box (by decide) rfl (blkAs_cells (.sm rfl (.sm rfl (.sm rfl (.sm rfl (.sm rfl .nil)))))) (.box (by decide) rfl (blkAs_cells (.sm rfl (.sm rfl (.sm rfl (.sm rfl (.sm rfl .nil)))))) (.box (by decide) rfl (blkAs_cells (.sm rfl (.sm rfl (.cons (lstC_ren rfl (by decide)) (.cons (lstC_ren rfl (by decide)) (.cons (lstC_ren rfl (by decide)) (.sm rfl (.sm rfl (.sm rfl (.sm rfl (.sm rfl (.sm rfl (.sm rfl .nil))))))))))))) (.row (by decide) rfl (fr_map fun _ => rfl) (.row (by decide) rfl (fr_map fun _ => rfl) (.row (by decide) rfl (fr_map fun _ => rfl) .nil))))))) (Z3u hza hza1 hza2 h)
 ·refine Sv.skip ?_
  exact Sv.weak (weak_canon [0, 1, 2, 3, 4, 5] rfl (by decide) (by decide) (by decide) (.cf rfl rfl (.cr rfl rfl rfl (.cr rfl rfl rfl (.cr rfl rfl rfl .nil)))) (.box (by decide) rfl (blkAs_cells (.sm rfl (.sm rfl (.sm rfl (.sm rfl (.sm rfl .nil)))))) (.box (by decide) rfl (blkAs_cells (.sm rfl (.sm rfl (.sm rfl (.sm rfl (.sm rfl .nil)))))) (.box (by decide) rfl (blkAs_cells (.sm rfl (.sm rfl (.cons (lstC_ren rfl (by decide)) (.cons (lstC_ren rfl (by decide)) (.cons (lstC_ren rfl (by decide)) (.sm rfl (.sm rfl (.sm rfl (.sm rfl (.sm rfl (.sm rfl (.sm rfl .nil))))))))))))) (.row (by decide) rfl (fr_map fun _ => rfl) (.row (by decide) rfl (fr_map fun _ => rfl) (.row (by decide) rfl (fr_map fun _ => rfl) .nil))))))) (Z3u hza hza1 hza2 h)
def a68 : AFunc := ⟨2, [(.tmp 3)], (sr [(oP 2 (.box (.tmp 0))), (oP 3 (.mov kF))]
 (sr [(oP 4 (.faddr 0 (.tmp 2))), (oP 5 (.load false 1 (.tmp 4))), (oP 6 (.faddr 5 (.tmp 1))), (oP 7 (.faddr 2 (.tmp 6))), (oP 8 (.load false 1 (.tmp 7))), (oP 9 (.bin .eql (.tmp 5) (.tmp 8))), (mV 3 9)]
 .ret))⟩
theorem c68 : compFunc Try.prog 68 = some a68 := by kernel_rfl
def Z6f (r : Bool) : AV → Heap → Nat → Prop := fun v h' n' => v = (B r) ∧ (h' = e0) ∧ n' = 0
/-- (clerestory/loop.asked).do$1 -/
def Z1n (t_ : TJTimer) (v10 : Int) (v11 : Int) (v12 : (List TJJob)) (v13 : (List TJJob)) (v14 : (List TJTimer)) (v15 : Int) (v16 : Int) (v17 : Int) (v18 : Tx) (v19 : Int) (v110 : Int) (v111 : Tx) : Bool :=
 decide (t_.ID = v17)
theorem Z6g {Γ : Glob} (t_ : TJTimer) (v10 : Int) (v11 : Int) (v12 : (List TJJob)) (v13 : (List TJJob)) (v14 : (List TJTimer)) (v15 : Int) (v16 : Int) (v17 : Int) (v18 : Tx) (v19 : Int) (v110 : Int) (v111 : Tx) : CPure Try.prog Γ 68 [(.agg (e_TJTimer t_)), (.c (.rop [cI v10, cI v11, .ro false 7 (v12.map e_TJJob), .ro false 7 (v13.map e_TJJob), .ro false 5 (v14.map e_TJTimer), cI v15, cI v16, cI v17, .str v18, cI v19, cI v110, .str v111]))] (B (Z1n t_ v10 v11 v12 v13 v14 v15 v16 v17 v18 v19 v110 v111)) := by
 generalize h : Z1n t_ v10 v11 v12 v13 v14 v15 v16 v17 v18 v19 v110 v111 = o
 refine acalls_of_sv hmix c68 (R := Z6f o) ?_
 unfold Z1n at h
 refine ssr <| un <| a2v (v := (.c (.ref 0 5 0 0))) (h' := upd _ 0 (some (.cells 5 [(e_TJTimer t_)]))) (n' := 1) rfl rfl hcs <| un1 rfl <| dnil <| ssr <| un1 (v := (.c (.ref 0 5 0 0))) rfl <| un1 (v := (I t_.ID)) rfl <| un1 (v := (.c (.rop [cI v15, cI v16, cI v17, .str v18, cI v19, cI v110, .str v111]))) rfl <| un1 (v := (.c (.rop [cI v17, .str v18, cI v19, cI v110, .str v111]))) rfl <| un1 (v := (I v17)) rfl <| un1 (v := (B (decide (t_.ID = v17)))) rfl <| un1 rfl <| dnil <| Sv.ret ?_
 subst h
 exact ⟨_, .refl _, _, rfl, ⟨upd e0 0 (some (B (decide (t_.ID = v17)))), e0, 0⟩, (B (decide (t_.ID = v17))), weak_canon [] rfl ndl nll nlz (.cf rfl rfl .nil) .nil, rfl, rfl, rfl, rfl⟩
end Go.Proofs.YtoomjemboekooaaBv
