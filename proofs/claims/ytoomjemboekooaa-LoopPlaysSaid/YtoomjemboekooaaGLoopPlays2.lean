/- Printed by a program of mine (bgen.py): plain functions, and the walks that show that the code comes to what they answer. -/
import Derived.Test.YtoomjemboekooaaGLoopPlays1
namespace Go.Proofs.YtoomjemboekooaaBv
open Go
set_option linter.unusedVariables false
set_option linter.unusedSimpArgs false
set_option maxRecDepth 100000
def a43_c0 : ACode := (sr [(oP 14 (.bin .lss (.tmp 13) (.tmp 12)))]
 (.seq (.cond (.tmp 14) .skip (.exit 0))
 (.seq (.block 1 (sr [(mV 15 13), (mV 5 15)]
 (.seq (.drawn (.fin [((mV 16 0), (0, 0)), ((mV 17 5), (0, 1)), ((oP 18 (.iaddr 5 (.tmp 16) (.tmp 17))), (0, 2)), ((oP 19 (.load true 5 (.tmp 18))), (0, 3)), ((mV 20 1), (0, 4)), ((mV 21 5), (0, 5)), ((oP 22 (.iaddr 5 (.tmp 20) (.tmp 21))), (0, 6)), ((oP 23 (.load true 5 (.tmp 22))), (0, 7)), ((oP 24 (.eqs true true [.i, .i, .i, .i, .s] (.tmp 19) (.tmp 23))), (0, 8))]))
 (.cond (.tmp 24) (sr [(oP 4 (.mov kF))]
 .ret) .skip))))
 (.region [(oP 25 (.bin .add (.tmp 13) (kI 1))), (mV 13 25)]))))
def a43 : AFunc := ⟨2, [(.tmp 4)], (sr [(oP 4 (.mov kF))]
 (.seq (sr [(mV 6 0), (oP 7 (.len (.tmp 6))), (mV 8 1), (oP 9 (.len (.tmp 8))), (oP 10 (.bin .neq (.tmp 7) (.tmp 9)))]
 (.cond (.tmp 10) (sr [(oP 4 (.mov kF))]
 .ret) .skip))
 (.seq (sr [(mV 11 0), (oP 12 (.len (.tmp 11))), (oP 13 (.mov (kI 0)))]
 (.block 0 (.loop a43_c0)))
 (sr [(oP 4 (.mov kT))]
 .ret))))⟩
theorem c43 : compFunc Try.prog 43 = some a43 := by kernel_rfl
def Z4c (r : Bool) : AV → Heap → Nat → Prop := fun v h' n' => v = (B r) ∧ (h' = e0) ∧ n' = 0
abbrev Z79 (F_ : Unit → Option Bool) (o : Bool) (R_ : St → Prop) : Prop := ∀ (_ : Unit), F_ () = some o → ∀ s, Weak 0 s ⟨e0, e0, 0⟩ → R_ s
abbrev Z4d (s1 : (List TJTimer)) (s2 : (List TJTimer)) (F_ : Nat → Int → Option Bool) (o : Bool) : Nat → St → Prop := fun k s => ∃ (v13 : Int), F_ k v13 = some o ∧ s = ⟨(ue [(13, (I v13)), (12, (I (s1.length : Int))), (1, (.c (.ro false 5 (s2.map e_TJTimer)))), (0, (.c (.ro false 5 (s1.map e_TJTimer))))]), e0, 0⟩
abbrev Z7a (s1 : (List TJTimer)) (s2 : (List TJTimer)) (F_ : Int → Option Bool) (o : Bool) (R_ : St → Prop) : Prop := ∀ (v13 : Int), F_ v13 = some o → ∀ s, Weak 0 s ⟨(ue [(13, (I v13)), (12, (I (s1.length : Int))), (1, (.c (.ro false 5 (s2.map e_TJTimer)))), (0, (.c (.ro false 5 (s1.map e_TJTimer))))]), e0, 0⟩ → R_ s
noncomputable def Zw (s1 : (List TJTimer)) (s2 : (List TJTimer)) (K0_ : Unit → Option Bool) : Nat → Int → Option Bool
 | 0, _ => none
 | k + 1, v13 =>
  if decide (v13 < (s1.length : Int)) then
   (at? s1 v13).bind fun x_ =>
   (at? s2 v13).bind fun x_1 =>
   letIn (!(decide (x_.ID = x_1.ID) && (decide (x_.At = x_1.At) && (decide (x_.Every = x_1.Every) && (decide (x_.Turn = x_1.Turn) && (decide (x_.Call = x_1.Call) && true)))))) fun v24 : Bool =>
   if v24 then
    some false
   else
    (Zw s1 s2 K0_ k) (wi (v13 + 1))
  else
   K0_ ()
theorem Z7b {Γ : Glob} {Q : AExit → St → Prop} {s1 : (List TJTimer)} {s2 : (List TJTimer)} {K0_ : Unit → Option Bool} {k : Nat} {v13 : Int} {o : Bool} (h : Zw s1 s2 K0_ k v13 = some o)
  (hK0 : Z79 K0_ o (Q (.exit 0)))
  (hr : ∀ s, Ends a43.results 0 (Z4c o) .ret s → Q .ret s) :
  Sv Try.prog Γ 0 (.loop a43_c0) Q ⟨(ue [(13, (I v13)), (12, (I (s1.length : Int))), (1, (.c (.ro false 5 (s2.map e_TJTimer)))), (0, (.c (.ro false 5 (s1.map e_TJTimer))))]), e0, 0⟩ := by
 refine Sv.loop (I := Z4d s1 s2 (Zw s1 s2 K0_) o) (fun k s hI => ?_) ⟨v13, h, rfl⟩
 clear h
 clear v13
 obtain ⟨v13, h, rfl⟩ := hI
 cases k with
 | zero => cases h
 | succ k =>
 rw [Zw] at h
 have hself : Z7a s1 s2 (Zw s1 s2 K0_ k) o (rnd 0 (Z4d s1 s2 (Zw s1 s2 K0_) o) k Q) := fun v13 h s hw => ⟨_, k, hw, Nat.lt_succ_self k, v13, h, rfl⟩
 refine ssr <| un1 (v := (B (decide (v13 < (s1.length : Int))))) rfl <| dnil <| Sv.seq ?_
 refine Sv.cnd rfl h (fun h => ?_) fun h => ?_
 ·refine Sv.skip <| Sv.seq <| Sv.block <| ssr <| un1 rfl <| un1 rfl <| dnil <| Sv.seq <| Sv.drawn <| un1 rfl <| un1 rfl ?_
  obtain ⟨x_, hx1, h⟩ := bnd h
  refine un1 (v := (.c (.rop (e_TJTimer x_)))) (s_iaddr (e := e_TJTimer) (xs := s1) rfl rfl hx1) <| un1 (v := (.agg (e_TJTimer x_))) rfl <| un1 rfl <| un1 rfl ?_
  obtain ⟨x_1, hx2, h⟩ := bnd h
  refine un1 (v := (.c (.rop (e_TJTimer x_1)))) (s_iaddr (e := e_TJTimer) (xs := s2) rfl rfl hx2) <| un1 (v := (.agg (e_TJTimer x_1))) rfl ?_
  obtain ⟨v24, hv24⟩ : ∃ v24 : Bool, v24 = (!(decide (x_.ID = x_1.ID) && (decide (x_.At = x_1.At) && (decide (x_.Every = x_1.Every) && (decide (x_.Turn = x_1.Turn) && (decide (x_.Call = x_1.Call) && true)))))) := ⟨_, rfl⟩
  replace h := letAt hv24 h
  refine un1 (v := (B v24)) (by rw [hv24]; rfl) ?_
  clear hv24
  refine dnil ?_
  refine Sv.cnd rfl h (fun h => ?_) fun h => ?_
  ·refine ssr <| un1 rfl <| dnil <| Sv.ret ?_
   exact hr _ (rt0 h rfl rfl ⟨rfl, rfl, rfl⟩)
  ·refine Sv.skip <| srg <| un1 (v := (I (wi (v13 + 1)))) rfl <| un1 rfl <| dnil ?_
   exact hself (wi (v13 + 1)) h _ (wcn [] rfl (.cf rfl rfl (.cf rfl rfl (.cf rfl rfl (.cf rfl rfl .nil)))) .nil)
 ·refine Sv.exit ?_
  exact hK0 () h _ (wcn [] rfl .nil .nil)
/-- slices.Equal(()clerestory/api.JTimer,clerestory/api.JTimer) -/
noncomputable def Z23 (s1 : (List TJTimer)) (s2 : (List TJTimer)) : Option Bool :=
 if (!decide ((s1.length : Int) = (s2.length : Int))) then
  some false
 else
  lim fun kk => Zw s1 s2 (fun (_ : Unit) => 
    some true) kk 0
theorem Z7c {Γ : Glob} {s1 : (List TJTimer)} {s2 : (List TJTimer)} {r : Bool} (h : Z23 s1 s2 = some r) : CPure Try.prog Γ 43 [(.c (.ro false 5 (s1.map e_TJTimer))), (.c (.ro false 5 (s2.map e_TJTimer)))] (B r) := by
 refine acalls_of_sv hmix c43 (R := Z4c r) ?_
 unfold Z23 at h
 refine ssr <| un1 rfl <| dnil <| Sv.seq <| ssr <| un1 rfl <| un1 (v := (I (s1.length : Int))) (s_len (e := e_TJTimer) (xs := s1) rfl) <| un1 rfl <| un1 (v := (I (s2.length : Int))) (s_len (e := e_TJTimer) (xs := s2) rfl) <| un1 (v := (B (!decide ((s1.length : Int) = (s2.length : Int))))) rfl <| dnil ?_
 refine Sv.cnd rfl h (fun h => ?_) fun h => ?_
 ·refine ssr <| un1 rfl <| dnil <| Sv.ret ?_
  exact rt0 h rfl rfl ⟨rfl, rfl, rfl⟩
 ·refine Sv.skip <| Sv.seq <| ssr <| un1 rfl <| un1 (v := (I (s1.length : Int))) (s_len (e := e_TJTimer) (xs := s1) rfl) <| un1 rfl <| dnil <| Sv.block ?_
  obtain ⟨kk, h⟩ := lim_some h
  refine Sv.weak (wcn [] rfl (.cf rfl rfl (.cf rfl rfl (.cf rfl rfl (.cf rfl rfl .nil)))) .nil) (Z7b h ?_ (fun s hs => hs))
  ·intro _ h _ hw1
   refine Sv.weak hw1 <| ssr <| un1 rfl <| dnil <| Sv.ret ?_
   exact rt0 h rfl rfl ⟨rfl, rfl, rfl⟩
def a10_c0 : ACode := .ret
def a10 : AFunc := ⟨2, [(.tmp 4)], (sr [(oP 2 (.box (.tmp 0))), (oP 3 (.box (.tmp 1))), (oP 4 (.mov kF))]
 (sr [(oP 5 (.faddr 0 (.tmp 2))), (oP 6 (.load false 1 (.tmp 5))), (oP 7 (.faddr 0 (.tmp 3))), (oP 8 (.load false 1 (.tmp 7))), (oP 9 (.bin .eql (.tmp 6) (.tmp 8))), (mV 10 9), ⟨(some 11), (.faddr 1 (.tmp 2)), (some (10, true))⟩, ⟨(some 12), (.load false 1 (.tmp 11)), (some (10, true))⟩, ⟨(some 13), (.faddr 1 (.tmp 3)), (some (10, true))⟩, ⟨(some 14), (.load false 1 (.tmp 13)), (some (10, true))⟩, ⟨(some 15), (.bin .eql (.tmp 12) (.tmp 14)), (some (10, true))⟩, (oP 16 (.pick (.tmp 10) (.tmp 15) kF)), (mV 17 16), ⟨(some 18), (.faddr 2 (.tmp 2)), (some (17, true))⟩, ⟨(some 19), (.load false 1 (.tmp 18)), (some (17, true))⟩, ⟨(some 20), (.faddr 2 (.tmp 3)), (some (17, true))⟩, ⟨(some 21), (.load false 1 (.tmp 20)), (some (17, true))⟩, ⟨(some 22), (.call 18 [(.tmp 19), (.tmp 21)]), (some (17, true))⟩, (oP 23 (.pick (.tmp 17) (.tmp 22) kF)), (mV 24 23), ⟨(some 25), (.faddr 3 (.tmp 2)), (some (24, true))⟩, ⟨(some 26), (.load false 1 (.tmp 25)), (some (24, true))⟩, ⟨(some 27), (.faddr 3 (.tmp 3)), (some (24, true))⟩, ⟨(some 28), (.load false 1 (.tmp 27)), (some (24, true))⟩, ⟨(some 29), (.call 18 [(.tmp 26), (.tmp 28)]), (some (24, true))⟩, (oP 30 (.pick (.tmp 24) (.tmp 29) kF)), (mV 31 30), ⟨(some 32), (.faddr 4 (.tmp 2)), (some (31, true))⟩, ⟨(some 33), (.load false 1 (.tmp 32)), (some (31, true))⟩, ⟨(some 34), (.faddr 4 (.tmp 3)), (some (31, true))⟩, ⟨(some 35), (.load false 1 (.tmp 34)), (some (31, true))⟩, ⟨(some 36), (.call 43 [(.tmp 33), (.tmp 35)]), (some (31, true))⟩, (oP 37 (.pick (.tmp 31) (.tmp 36) kF)), (mV 4 37)]
 a10_c0))⟩
theorem c10 : compFunc Try.prog 10 = some a10 := by kernel_rfl
def Z4e (r : Bool) : AV → Heap → Nat → Prop := fun v h' n' => v = (B r) ∧ (h' = e0) ∧ n' = 0
noncomputable def Z1a (v4 : Bool) : Option Bool :=
 some v4
theorem Z2o {Γ : Glob} {v4 : Bool} {o : Bool} (h : Z1a v4 = some o) :
  Sv Try.prog Γ 0 a10_c0 (Ends a10.results 0 (Z4e o)) ⟨(upd e0 4 (some (B v4))), e0, 0⟩ := by
 unfold Z1a at h
 refine Sv.ret ?_
 exact rt0 h rfl rfl ⟨rfl, rfl, rfl⟩
/-- clerestory/clerestoryref4.SameLoop -/
noncomputable def Z11 (a_ : TJLoop) (b_ : TJLoop) : Option Bool :=
 if ((decide (a_.Now = b_.Now)) && (decide (a_.Next = b_.Next))) then
  (Z19 a_.Tasks b_.Tasks).bind fun r_ =>
  if r_ then
   (Z19 a_.Smalls b_.Smalls).bind fun r_1 =>
   if r_1 then
    (Z23 a_.Timers b_.Timers).bind fun r_2 =>
    Z1a r_2
   else
    Z1a false
  else
   Z1a false
 else
  Z1a false
theorem Z4f {Γ : Glob} {a_ : TJLoop} {b_ : TJLoop} {r : Bool} (h : Z11 a_ b_ = some r) : CPure Try.prog Γ 10 [(.agg [cI a_.Now, cI a_.Next, .ro false 7 (a_.Tasks.map e_TJJob), .ro false 7 (a_.Smalls.map e_TJJob), .ro false 5 (a_.Timers.map e_TJTimer)]), (.agg [cI b_.Now, cI b_.Next, .ro false 7 (b_.Tasks.map e_TJJob), .ro false 7 (b_.Smalls.map e_TJJob), .ro false 5 (b_.Timers.map e_TJTimer)])] (B r) := by
 refine acalls_of_sv hmix c10 (R := Z4e r) ?_
 unfold Z11 at h
 refine ssr <| un <| a2v (v := (.c (.ref 0 5 0 0))) (h' := upd _ 0 (some (.cells 5 [[cI a_.Now, cI a_.Next, .ro false 7 (a_.Tasks.map e_TJJob), .ro false 7 (a_.Smalls.map e_TJJob), .ro false 5 (a_.Timers.map e_TJTimer)]]))) (n' := 1) rfl rfl hcs <| un <| a2v (v := (.c (.ref 1 5 0 0))) (h' := upd _ 1 (some (.cells 5 [[cI b_.Now, cI b_.Next, .ro false 7 (b_.Tasks.map e_TJJob), .ro false 7 (b_.Smalls.map e_TJJob), .ro false 5 (b_.Timers.map e_TJTimer)]]))) (n' := 2) rfl rfl hcs <| un1 rfl <| dnil <| ssr <| un1 (v := (.c (.ref 0 5 0 0))) rfl <| un1 (v := (I a_.Now)) rfl <| un1 (v := (.c (.ref 1 5 0 0))) rfl <| un1 (v := (I b_.Now)) rfl <| un1 (v := (B (decide (a_.Now = b_.Now)))) rfl <| un1 rfl ?_
 refine gjoin 6 (d := 16) (v := (B ((decide (a_.Now = b_.Now)) && (decide (a_.Next = b_.Next))))) (fun X hX => ?_) ?_
 ·refine split2 (fun hc1 => ?_) (fun hc1 => ?_)
  ·refine gt rfl <| a1 (v := (.c (.ref 0 5 0 1))) rfl <| gt rfl <| a1 (v := (I a_.Next)) rfl <| gt rfl <| a1 (v := (.c (.ref 1 5 0 1))) rfl <| gt rfl <| a1 (v := (I b_.Next)) rfl <| gt rfl <| a1 (v := (B (decide (a_.Next = b_.Next)))) rfl <| un1 (v := (B (decide (a_.Next = b_.Next)))) rfl <| dnil ?_
   exact hX _ (.putEq (by rw [hc1]; rfl) (by repeat (first | exact .putEq (by rw [hc1]) (.refl _) | refine .skp ?_ rfl)))
  ·repeat (first | refine gu rfl ?_ | refine gs rfl rfl ?_)
   refine un1 (v := (B false)) rfl <| dnil ?_
   exact hX _ (.putEq (by rw [hc1]; rfl) (by repeat (first | exact .putEq (by rw [hc1]) (.refl _) | refine .skp ?_ rfl)))
 refine un1 rfl ?_
 refine spl h (fun h => ?_) fun h => ?_
 ·refine gt rfl <| a1 (v := (.c (.ref 0 5 0 2))) rfl <| gt rfl <| a1 (v := (.c (.ro false 7 (a_.Tasks.map e_TJJob)))) rfl <| gt rfl <| a1 (v := (.c (.ref 1 5 0 2))) rfl <| gt rfl <| a1 (v := (.c (.ro false 7 (b_.Tasks.map e_TJJob)))) rfl ?_
  obtain ⟨r_, hr1, h⟩ := bnd h
  refine gt rfl <| ac_pure (Z31 hr1) rfl rfl rfl <| un1 (v := (B r_)) rfl <| un1 rfl ?_
  refine spl h (fun h => ?_) fun h => ?_
  ·refine gt rfl <| a1 (v := (.c (.ref 0 5 0 3))) rfl <| gt rfl <| a1 (v := (.c (.ro false 7 (a_.Smalls.map e_TJJob)))) rfl <| gt rfl <| a1 (v := (.c (.ref 1 5 0 3))) rfl <| gt rfl <| a1 (v := (.c (.ro false 7 (b_.Smalls.map e_TJJob)))) rfl ?_
   obtain ⟨r_1, hr2, h⟩ := bnd h
   refine gt rfl <| ac_pure (Z31 hr2) rfl rfl rfl <| un1 (v := (B r_1)) rfl <| un1 rfl ?_
   refine spl h (fun h => ?_) fun h => ?_
   ·refine gt rfl <| a1 (v := (.c (.ref 0 5 0 4))) rfl <| gt rfl <| a1 (v := (.c (.ro false 5 (a_.Timers.map e_TJTimer)))) rfl <| gt rfl <| a1 (v := (.c (.ref 1 5 0 4))) rfl <| gt rfl <| a1 (v := (.c (.ro false 5 (b_.Timers.map e_TJTimer)))) rfl ?_
    obtain ⟨r_2, hr3, h⟩ := bnd h
    refine gt rfl <| ac_pure (Z7c hr3) rfl rfl rfl <| un1 (v := (B r_2)) rfl <| un1 rfl <| dnil ?_
    exact Sv.weak (wcn [] rfl (.cf rfl rfl .nil) .nil) (Z2o h)
   ·repeat (first | refine gu rfl ?_ | refine gs rfl rfl ?_)
    refine un1 (v := (B false)) rfl <| un1 rfl <| dnil ?_
    exact Sv.weak (wcn [] rfl (.cf rfl rfl .nil) .nil) (Z2o h)
  ·repeat (first | refine gu rfl ?_ | refine gs rfl rfl ?_)
   refine un1 (v := (B false)) rfl <| un1 rfl ?_
   repeat (first | refine gu rfl ?_ | refine gs rfl rfl ?_)
   refine un1 (v := (B false)) rfl <| un1 rfl <| dnil ?_
   exact Sv.weak (wcn [] rfl (.cf rfl rfl .nil) .nil) (Z2o h)
 ·repeat (first | refine gu rfl ?_ | refine gs rfl rfl ?_)
  refine un1 (v := (B false)) rfl <| un1 rfl ?_
  repeat (first | refine gu rfl ?_ | refine gs rfl rfl ?_)
  refine un1 (v := (B false)) rfl <| un1 rfl ?_
  repeat (first | refine gu rfl ?_ | refine gs rfl rfl ?_)
  refine un1 (v := (B false)) rfl <| un1 rfl <| dnil ?_
  exact Sv.weak (wcn [] rfl (.cf rfl rfl .nil) .nil) (Z2o h)
def a44 : AFunc := ⟨1, [(.cell true 5 2), (.tmp 3), (.tmp 4)], (sr [(oP 2 (.box (.const (.agg [(.val (.int .i64 0)), (.val (.int .i64 0)), (.ro true 7 []), (.ro true 7 []), (.ro true 5 [])])))), (oP 3 (.mov (kI 0))), (oP 4 (.mov (kI 0)))]
 (sr [(oP 5 (.build [(.val (.int .i64 0)), (.val (.int .i64 0)), (.ro true 7 []), (.ro true 7 []), (.ro true 5 [])] [])), (mV 6 0), (oN (.store 5 (.tmp 2) (.tmp 5))), (oP 3 (.mov (kI 0))), (mV 4 6)]
 .ret))⟩
theorem c44 : compFunc Try.prog 44 = some a44 := by kernel_rfl
def Z7d (r : (TJLoop × Int × Int)) : AV → Heap → Nat → Prop := fun v h' n' => v = (.tup [(.agg [cI r.1.Now, cI r.1.Next, .ro false 7 (r.1.Tasks.map e_TJJob), .ro false 7 (r.1.Smalls.map e_TJJob), .ro false 5 (r.1.Timers.map e_TJTimer)]), (I r.2.1), (I r.2.2)]) ∧ (h' = e0) ∧ n' = 0
/-- clerestory/clerestoryref4.LoopAsked$1 -/
def Z0 (e_ : Int) : (TJLoop × Int × Int) :=
 ((⟨0, 0, [], [], []⟩ : TJLoop), 0, e_)
theorem Z1b {Γ : Glob} (e_ : Int) : CPure Try.prog Γ 44 [(I e_)] (.tup [(.agg [cI (((Z0 e_).1).Now), cI (((Z0 e_).1).Next), .ro false 7 ((((Z0 e_).1).Tasks).map e_TJJob), .ro false 7 ((((Z0 e_).1).Smalls).map e_TJJob), .ro false 5 ((((Z0 e_).1).Timers).map e_TJTimer)]), (I ((Z0 e_).2.1)), (I ((Z0 e_).2.2))]) := by
 generalize h : Z0 e_ = o
 refine acalls_of_sv hmix c44 (R := Z7d o) ?_
 unfold Z0 at h
 refine ssr <| un <| a2v (v := (.c (.ref 0 5 0 0))) (h' := upd _ 0 (some (.cells 5 [[cI 0, cI 0, .ro true 7 [], .ro true 7 [], .ro true 5 []]]))) (n' := 1) rfl rfl hcs <| un1 rfl <| un1 rfl <| dnil <| ssr <| un1 (v := (.agg [cI 0, cI 0, .ro true 7 [], .ro true 7 [], .ro true 5 []])) rfl <| un1 rfl <| un <| a2n (h' := upd _ 0 (some (.cells 5 [[cI 0, cI 0, .ro true 7 [], .ro true 7 [], .ro true 5 []]]))) (n' := 1) rfl rfl hcs <| un1 rfl <| un1 rfl <| dnil <| Sv.ret ?_
 subst h
 exact ⟨_, .refl _, _, rfl, ⟨upd e0 0 (some (.tup [(.agg [cI 0, cI 0, .ro false 7 (([] : List TJJob).map e_TJJob), .ro false 7 (([] : List TJJob).map e_TJJob), .ro false 5 (([] : List TJTimer).map e_TJTimer)]), (I 0), (I e_)])), e0, 0⟩, (.tup [(.agg [cI 0, cI 0, .ro false 7 (([] : List TJJob).map e_TJJob), .ro false 7 (([] : List TJJob).map e_TJJob), .ro false 5 (([] : List TJTimer).map e_TJTimer)]), (I 0), (I e_)]), weak_canon [] rfl ndl nll nlz (.cons rfl (avAs_tup (.cons (avAs_agg (.sm rfl (.sm rfl (.cons .nil (.cons .nil (.cons .nil .nil)))))) (.cons (avAs_free rfl) (.cons (avAs_free rfl) .nil)))) .nil) .nil, rfl, rfl, rfl, rfl⟩
def a45 : AFunc := ⟨2, [(.tmp 3)], (sr [(oP 3 (.mov kF))]
 (sr [(mV 4 0), (oP 5 (.bin .lss (.tmp 4) (kI 100))), (mV 6 5), ⟨(some 7), (.faddr 1 (.tmp 1)), (some (6, true))⟩, ⟨(some 8), (.load false 1 (.tmp 7)), (some (6, true))⟩, ⟨(some 9), (.bin .lss (.tmp 8) (kI 1000000000)), (some (6, true))⟩, (oP 10 (.pick (.tmp 6) (.tmp 9) kF)), (mV 3 10)]
 .ret))⟩
theorem c45 : compFunc Try.prog 45 = some a45 := by kernel_rfl
def Z7e (r : Bool) : AV → Heap → Nat → Prop := fun v h' n' => v = (B r) ∧ (h' = e0) ∧ n' = 0
/-- clerestory/clerestoryref4.LoopAsked$2 -/
def Z6 (n_ : Int) (v10 : Int) (v11 : Int) (v12 : (List TJJob)) (v13 : (List TJJob)) (v14 : (List TJTimer)) : Bool :=
 ((decide (n_ < 100)) && (decide (v11 < 1000000000)))
theorem Z32 {Γ : Glob} (n_ : Int) (v10 : Int) (v11 : Int) (v12 : (List TJJob)) (v13 : (List TJJob)) (v14 : (List TJTimer)) : CPure Try.prog Γ 45 [(I n_), (.c (.rop [cI v10, cI v11, .ro false 7 (v12.map e_TJJob), .ro false 7 (v13.map e_TJJob), .ro false 5 (v14.map e_TJTimer)]))] (B (Z6 n_ v10 v11 v12 v13 v14)) := by
 generalize h : Z6 n_ v10 v11 v12 v13 v14 = o
 refine acalls_of_sv hmix c45 (R := Z7e o) ?_
 unfold Z6 at h
 refine ssr <| un1 rfl <| dnil <| ssr <| un1 rfl <| un1 (v := (B (decide (n_ < 100)))) rfl <| un1 rfl ?_
 refine gjoin 4 (d := 10) (v := (B ((decide (n_ < 100)) && (decide (v11 < 1000000000))))) (fun X hX => ?_) ?_
 ·refine split2 (fun hc1 => ?_) (fun hc1 => ?_)
  ·refine gt rfl <| a1 (v := (.c (.rop [cI v11, .ro false 7 (v12.map e_TJJob), .ro false 7 (v13.map e_TJJob), .ro false 5 (v14.map e_TJTimer)]))) rfl <| gt rfl <| a1 (v := (I v11)) rfl <| gt rfl <| a1 (v := (B (decide (v11 < 1000000000)))) rfl <| un1 (v := (B (decide (v11 < 1000000000)))) rfl <| dnil ?_
   exact hX _ (.putEq (by rw [hc1]; rfl) (.skp (.skp (.skp (.putEq (by rw [hc1]) (.refl _)) rfl) rfl) rfl))
  ·refine gs rfl rfl <| gs rfl rfl <| gs rfl rfl <| un1 (v := (B false)) rfl <| dnil ?_
   exact hX _ (.putEq (by rw [hc1]; rfl) (.skp (.skp (.skp (.putEq (by rw [hc1]) (.refl _)) rfl) rfl) rfl))
 refine un1 rfl <| dnil <| Sv.ret ?_
 subst h
 exact ⟨_, .refl _, _, rfl, ⟨upd e0 0 (some (B ((decide (n_ < 100)) && (decide (v11 < 1000000000))))), e0, 0⟩, (B ((decide (n_ < 100)) && (decide (v11 < 1000000000)))), weak_canon [] rfl ndl nll nlz (.cf rfl rfl .nil) .nil, rfl, rfl, rfl, rfl⟩
def a47_c0 : ACode := (.region [(mV 42 5), (oP 43 (.load true 5 (.tmp 8))), (oP 44 (.bslice 5 [(.val (.int .i64 0)), (.val (.int .i64 0)), (.val (.int .i64 0)), (.val (.int .i64 0)), (.str [])] 1 [(0, (.tmp 43))])), (oP 45 (.app 5 48 (.tmp 42) (.tmp 44))), (mV 5 45)])
def a47_c1 : ACode := (.region [(oP 46 (.bin .add (.tmp 11) (kI 1))), (mV 11 46)])
def a47_c2 : ACode := (sr [(oP 12 (.bin .lss (.tmp 11) (.tmp 10)))]
 (.seq (.cond (.tmp 12) .skip (.exit 0))
 (.seq (.block 1 (sr [(oP 13 (.iaddr 5 (.tmp 9) (.tmp 11))), (oP 14 (.load true 5 (.tmp 13))), (oP 8 (.box (.const (.agg [(.val (.int .i64 0)), (.val (.int .i64 0)), (.val (.int .i64 0)), (.val (.int .i64 0)), (.str [])])))), (oN (.store 5 (.tmp 8) (.tmp 14)))]
 (.seq (sr [(mV 15 6), (oP 16 (.un .not (.tmp 15))), (mV 17 16), ⟨(some 18), (.faddr 1 (.tmp 8)), (some (17, true))⟩, ⟨(some 19), (.load false 1 (.tmp 18)), (some (17, true))⟩, ⟨(some 20), (.faddr 1 (.tmp 3)), (some (17, true))⟩, ⟨(some 21), (.load false 1 (.tmp 20)), (some (17, true))⟩, ⟨(some 22), (.bin .gtr (.tmp 19) (.tmp 21)), (some (17, true))⟩, ⟨(some 23), (.mov (.tmp 22)), (some (17, true))⟩, ⟨(some 24), (.faddr 1 (.tmp 8)), (some (23, false))⟩, ⟨(some 25), (.load false 1 (.tmp 24)), (some (23, false))⟩, ⟨(some 26), (.faddr 1 (.tmp 3)), (some (23, false))⟩, ⟨(some 27), (.load false 1 (.tmp 26)), (some (23, false))⟩, ⟨(some 28), (.bin .eql (.tmp 25) (.tmp 27)), (some (23, false))⟩, ⟨(some 29), (.mov (.tmp 28)), (some (23, false))⟩, ⟨(some 30), (.faddr 0 (.tmp 8)), (some (29, true))⟩, ⟨(some 31), (.load false 1 (.tmp 30)), (some (29, true))⟩, ⟨(some 32), (.faddr 0 (.tmp 3)), (some (29, true))⟩, ⟨(some 33), (.load false 1 (.tmp 32)), (some (29, true))⟩, ⟨(some 34), (.bin .gtr (.tmp 31) (.tmp 33)), (some (29, true))⟩, ⟨(some 35), (.pick (.tmp 29) (.tmp 34) kF), (some (23, false))⟩, ⟨(some 36), (.pick (.tmp 23) kT (.tmp 35)), (some (17, true))⟩, (oP 37 (.pick (.tmp 17) (.tmp 36) kF))]
 (.cond (.tmp 37) (.region [(mV 38 5), (oP 39 (.load true 5 (.tmp 3))), (oP 40 (.bslice 5 [(.val (.int .i64 0)), (.val (.int .i64 0)), (.val (.int .i64 0)), (.val (.int .i64 0)), (.str [])] 1 [(0, (.tmp 39))])), (oP 41 (.app 5 48 (.tmp 38) (.tmp 40))), (mV 5 41), (oP 6 (.mov kT))]) .skip))
 a47_c0)))
 a47_c1)))
def a47_c3 : ACode := (sr [(mV 53 5), (mV 4 53)]
 .ret)
def a47 : AFunc := ⟨2, [(.tmp 4)], (sr [(oP 3 (.box (.tmp 1))), (oP 4 (.mov (.const (.c (.ro true 5 [])))))]
 (sr [(oP 5 (.mov (.const (.c (.ro true 5 [])))))]
 (sr [(oP 6 (.mov kF))]
 (.seq (sr [(mV 9 0), (oP 10 (.len (.tmp 9))), (oP 11 (.mov (kI 0)))]
 (.block 0 (.loop a47_c2)))
 (.seq (sr [(mV 47 6), (oP 48 (.un .not (.tmp 47)))]
 (.cond (.tmp 48) (.region [(mV 49 5), (oP 50 (.load true 5 (.tmp 3))), (oP 51 (.bslice 5 [(.val (.int .i64 0)), (.val (.int .i64 0)), (.val (.int .i64 0)), (.val (.int .i64 0)), (.str [])] 1 [(0, (.tmp 50))])), (oP 52 (.app 5 48 (.tmp 49) (.tmp 51))), (mV 5 52)]) .skip))
 a47_c3)))))⟩
theorem c47 : compFunc Try.prog 47 = some a47 := by kernel_rfl
def Z24 (r : (List TJTimer)) : AV → Heap → Nat → Prop := fun v h' n' => ∃ z0 : Bool, (z0 = true → r = []) ∧ v = (lstV z0 0 5 r.length) ∧ (h' = (upd e0 0 (lstB z0 5 (r.map e_TJTimer)))) ∧ n' = 1
abbrev Z4g (l_ : (List TJTimer)) (t_ : TJTimer) (F_ : (List TJTimer) → Bool → Int → Option (List TJTimer)) (o : (List TJTimer)) (R_ : St → Prop) : Prop := ∀ (out : (List TJTimer)) (done : Bool) (v11 : Int) (zout : Bool) (_ : zout = true → out = []), F_ out done v11 = some o → ∀ s, Weak 0 s ⟨(ue [(11, (I v11)), (10, (I (l_.length : Int))), (9, (.c (.ro false 5 (l_.map e_TJTimer)))), (6, (B done)), (5, (lstV zout 1 5 out.length)), (3, (.c (.ref 0 5 0 0)))]), (upd (upd e0 0 (some (.cells 5 [(e_TJTimer t_)]))) 1 (lstB zout 5 (out.map e_TJTimer))), 2⟩ → R_ s
abbrev Z4h (t_ : TJTimer) (F_ : (List TJTimer) → Bool → Option (List TJTimer)) (o : (List TJTimer)) (R_ : St → Prop) : Prop := ∀ (out1 : (List TJTimer)) (done1 : Bool) (zout1 : Bool) (_ : zout1 = true → out1 = []), F_ out1 done1 = some o → ∀ s, Weak 0 s ⟨(ue [(6, (B done1)), (5, (lstV zout1 1 5 out1.length)), (3, (.c (.ref 0 5 0 0)))]), (upd (upd e0 0 (some (.cells 5 [(e_TJTimer t_)]))) 1 (lstB zout1 5 (out1.map e_TJTimer))), 2⟩ → R_ s
abbrev Z7f (Γ : Glob) (Q : AExit → St → Prop) : AExit → St → Prop := AThen (Sv Try.prog Γ 0 a47_c1 Q) Q
abbrev Z7g (Γ : Glob) (Q : AExit → St → Prop) : AExit → St → Prop := ABlock 1 (Z7f Γ Q)
noncomputable def Z1c (x_ : TJTimer) (v11 : Int) (l_ : (List TJTimer)) (t_ : TJTimer) (self : (List TJTimer) → Bool → Int → Option (List TJTimer)) (K0_ : (List TJTimer) → Bool → Option (List TJTimer)) (out2 : (List TJTimer)) (done2 : Bool) : Option (List TJTimer) :=
 (app? 48 out2 [x_]).bind fun r_ =>
 self r_ done2 (wi (v11 + 1))
theorem Z4i {Γ : Glob} {Q : AExit → St → Prop} {x_ : TJTimer} {v11 : Int} {l_ : (List TJTimer)} {t_ : TJTimer} {self : (List TJTimer) → Bool → Int → Option (List TJTimer)} {K0_ : (List TJTimer) → Bool → Option (List TJTimer)} {out2 : (List TJTimer)} {done2 : Bool} {zout2 : Bool} (hzout2 : zout2 = true → out2 = []) {o : (List TJTimer)} (h : Z1c x_ v11 l_ t_ self K0_ out2 done2 = some o)
  (hself : Z4g l_ t_ self o (Q .normal))
  (hK0 : Z4h t_ K0_ o (Q (.exit 0)))
  (hr : ∀ s, Ends a47.results 0 (Z24 o) .ret s → Q .ret s) :
  Sv Try.prog Γ 0 a47_c0 (Z7g Γ Q) ⟨(ue [(11, (I v11)), (10, (I (l_.length : Int))), (9, (.c (.ro false 5 (l_.map e_TJTimer)))), (8, (.c (.ref 2 5 0 0))), (6, (B done2)), (5, (lstV zout2 1 5 out2.length)), (3, (.c (.ref 0 5 0 0)))]), (upd (upd (upd e0 0 (some (.cells 5 [(e_TJTimer t_)]))) 1 (lstB zout2 5 (out2.map e_TJTimer))) 2 (some (.cells 5 [(e_TJTimer x_)]))), 3⟩ := by
 unfold Z1c at h
 refine srg <| un1 rfl <| un1 (v := (.agg (e_TJTimer x_))) rfl <| un <| a2v (v := (lstV false 3 5 [x_].length)) (h' := upd _ 3 (lstB false 5 ([x_].map e_TJTimer))) (n' := 4) rfl rfl hcs ?_
 obtain ⟨r_, hr1, h⟩ := bnd h
 have hz1 : (zout2 && [x_].isEmpty) = true → r_ = [] := app_nil (z := zout2) (ys := [x_]) hzout2 hr1
 refine un <| a2v rfl (s_app (xs := out2) (ys := [x_]) (e := e_TJTimer) (z := zout2) (b := 1) rfl rfl hzout2 rfl rfl (slc_lst rfl (List.length_map _).symm (map_nil_of hcs)) hr1) hcs <| un1 rfl <| dnil <| srg <| un1 (v := (I (wi (v11 + 1)))) rfl <| un1 rfl <| dnil ?_
 exact hself r_ done2 (wi (v11 + 1)) (zout2 && [x_].isEmpty) hz1 h _ (wcn [0, 4] rfl (.cf rfl rfl (.cf rfl rfl (.cf rfl rfl (.cf rfl rfl (.cons rfl (.c (lsr rfl rfl)) (.cr rfl rfl rfl .nil)))))) (.row (by decide) rfl (fr_map fun _ => rfl) (.box (by decide) rfl (blkAs_cells (.sm rfl (.sm rfl (.sm rfl (.sm rfl (.sm rfl .nil)))))) .nil)))
abbrev Z4j (l_ : (List TJTimer)) (t_ : TJTimer) (F_ : Nat → (List TJTimer) → Bool → Int → Option (List TJTimer)) (o : (List TJTimer)) : Nat → St → Prop := fun k s => ∃ (out : (List TJTimer)), ∃ (done : Bool), ∃ (v11 : Int), ∃ (zout : Bool), (zout = true → out = []) ∧ F_ k out done v11 = some o ∧ s = ⟨(ue [(11, (I v11)), (10, (I (l_.length : Int))), (9, (.c (.ro false 5 (l_.map e_TJTimer)))), (6, (B done)), (5, (lstV zout 1 5 out.length)), (3, (.c (.ref 0 5 0 0)))]), (upd (upd e0 0 (some (.cells 5 [(e_TJTimer t_)]))) 1 (lstB zout 5 (out.map e_TJTimer))), 2⟩
noncomputable def Zd (l_ : (List TJTimer)) (t_ : TJTimer) (K0_ : (List TJTimer) → Bool → Option (List TJTimer)) : Nat → (List TJTimer) → Bool → Int → Option (List TJTimer)
 | 0, _, _, _ => none
 | k + 1, out, done, v11 =>
  if decide (v11 < (l_.length : Int)) then
   (at? l_ v11).bind fun x_ =>
   if ((!done) && ((decide (t_.At < x_.At)) || ((decide (x_.At = t_.At)) && (decide (t_.ID < x_.ID))))) then
    (app? 48 out [t_]).bind fun r_1 =>
    Z1c x_ v11 l_ t_ (Zd l_ t_ K0_ k) K0_ r_1 true
   else
    Z1c x_ v11 l_ t_ (Zd l_ t_ K0_ k) K0_ out done
  else
   K0_ out done
theorem Z7h {Γ : Glob} {Q : AExit → St → Prop} {l_ : (List TJTimer)} {t_ : TJTimer} {K0_ : (List TJTimer) → Bool → Option (List TJTimer)} {k : Nat} {out : (List TJTimer)} {done : Bool} {v11 : Int} {zout : Bool} (hzout : zout = true → out = []) {o : (List TJTimer)} (h : Zd l_ t_ K0_ k out done v11 = some o)
  (hK0 : Z4h t_ K0_ o (Q (.exit 0)))
  (hr : ∀ s, Ends a47.results 0 (Z24 o) .ret s → Q .ret s) :
  Sv Try.prog Γ 0 (.loop a47_c2) Q ⟨(ue [(11, (I v11)), (10, (I (l_.length : Int))), (9, (.c (.ro false 5 (l_.map e_TJTimer)))), (6, (B done)), (5, (lstV zout 1 5 out.length)), (3, (.c (.ref 0 5 0 0)))]), (upd (upd e0 0 (some (.cells 5 [(e_TJTimer t_)]))) 1 (lstB zout 5 (out.map e_TJTimer))), 2⟩ := by
 refine Sv.loop (I := Z4j l_ t_ (Zd l_ t_ K0_) o) (fun k s hI => ?_) ⟨out, done, v11, zout, hzout, h, rfl⟩
 clear h
 clear hzout zout v11 done out
 obtain ⟨out, done, v11, zout, hzout, h, rfl⟩ := hI
 cases k with
 | zero => cases h
 | succ k =>
 rw [Zd] at h
 have hself : Z4g l_ t_ (Zd l_ t_ K0_ k) o (rnd 0 (Z4j l_ t_ (Zd l_ t_ K0_) o) k Q) := fun out done v11 zout hzout h s hw => ⟨_, k, hw, Nat.lt_succ_self k, out, done, v11, zout, hzout, h, rfl⟩
 refine ssr <| un1 (v := (B (decide (v11 < (l_.length : Int))))) rfl <| dnil <| Sv.seq ?_
 refine Sv.cnd rfl h (fun h => ?_) fun h => ?_
 ·refine Sv.skip <| Sv.seq <| Sv.block <| ssr ?_
  obtain ⟨x_, hx1, h⟩ := bnd h
  refine un1 (v := (.c (.rop (e_TJTimer x_)))) (s_iaddr (e := e_TJTimer) (xs := l_) rfl rfl hx1) <| un1 (v := (.agg (e_TJTimer x_))) rfl <| un <| a2v (v := (.c (.ref 2 5 0 0))) (h' := upd _ 2 (some (.cells 5 [[cI 0, cI 0, cI 0, cI 0, .str []]]))) (n' := 3) rfl rfl hcs <| un <| a2n (h' := upd _ 2 (some (.cells 5 [(e_TJTimer x_)]))) (n' := 3) rfl rfl hcs <| dnil <| Sv.seq <| ssr <| un1 rfl <| un1 (v := (B (!done))) rfl <| un1 rfl ?_
  refine gjoin 20 (d := 37) (v := (B ((!done) && ((decide (t_.At < x_.At)) || ((decide (x_.At = t_.At)) && (decide (t_.ID < x_.ID))))))) (fun X hX => ?_) ?_
  ·refine split2 (fun hc4 => ?_) (fun hc4 => ?_)
   ·refine gt rfl <| a1 (v := (.c (.ref 2 5 0 1))) rfl <| gt rfl <| a1 (v := (I x_.At)) rfl <| gt rfl <| a1 (v := (.c (.ref 0 5 0 1))) rfl <| gt rfl <| a1 (v := (I t_.At)) rfl <| gt rfl <| a1 (v := (B (decide (t_.At < x_.At)))) rfl <| gt rfl <| a1 rfl ?_
    refine gjoin 13 (d := 36) (v := (B ((decide (t_.At < x_.At)) || ((decide (x_.At = t_.At)) && (decide (t_.ID < x_.ID)))))) (fun X hX => ?_) ?_
    ·refine split2 (fun hc3 => ?_) (fun hc3 => ?_)
     ·repeat (first | refine gu rfl ?_ | refine gs rfl rfl ?_)
      refine gt rfl <| a1 (v := (B true)) rfl <| dnil ?_
      exact hX _ (.putEq (by rw [hc3]; rfl) (by repeat (first | exact .putEq (by rw [hc3]) (.refl _) | refine .skp ?_ rfl)))
     ·refine gt rfl <| a1 (v := (.c (.ref 2 5 0 1))) rfl <| gt rfl <| a1 (v := (I x_.At)) rfl <| gt rfl <| a1 (v := (.c (.ref 0 5 0 1))) rfl <| gt rfl <| a1 (v := (I t_.At)) rfl <| gt rfl <| a1 (v := (B (decide (x_.At = t_.At)))) rfl <| gt rfl <| a1 rfl ?_
      refine gjoin 6 (d := 35) (v := (B ((decide (x_.At = t_.At)) && (decide (t_.ID < x_.ID))))) (fun X hX => ?_) ?_
      ·refine split2 (fun hc2 => ?_) (fun hc2 => ?_)
       ·refine gt rfl <| a1 (v := (.c (.ref 2 5 0 0))) rfl <| gt rfl <| a1 (v := (I x_.ID)) rfl <| gt rfl <| a1 (v := (.c (.ref 0 5 0 0))) rfl <| gt rfl <| a1 (v := (I t_.ID)) rfl <| gt rfl <| a1 (v := (B (decide (t_.ID < x_.ID)))) rfl <| gt rfl <| a1 (v := (B (decide (t_.ID < x_.ID)))) rfl <| dnil ?_
        exact hX _ (.putEq (by rw [hc2]; rfl) (by repeat (first | exact .putEq (by rw [hc2]) (.refl _) | refine .skp ?_ rfl)))
       ·repeat (first | refine gu rfl ?_ | refine gs rfl rfl ?_)
        refine gt rfl <| a1 (v := (B false)) rfl <| dnil ?_
        exact hX _ (.putEq (by rw [hc2]; rfl) (by repeat (first | exact .putEq (by rw [hc2]) (.refl _) | refine .skp ?_ rfl)))
      refine gt rfl <| a1 (v := (B ((decide (x_.At = t_.At)) && (decide (t_.ID < x_.ID))))) rfl <| dnil ?_
      exact hX _ (.putEq (by rw [hc3]; rfl) (by repeat (first | exact .putEq (by rw [hc3]) (.refl _) | refine .skp ?_ rfl)))
    refine un1 (v := (B ((decide (t_.At < x_.At)) || ((decide (x_.At = t_.At)) && (decide (t_.ID < x_.ID)))))) rfl <| dnil ?_
    exact hX _ (.putEq (by rw [hc4]; rfl) (by repeat (first | exact .putEq (by rw [hc4]) (.refl _) | refine .skp ?_ rfl)))
   ·repeat (first | refine gu rfl ?_ | refine gs rfl rfl ?_)
    refine un1 (v := (B false)) rfl <| dnil ?_
    exact hX _ (.putEq (by rw [hc4]; rfl) (by repeat (first | exact .putEq (by rw [hc4]) (.refl _) | refine .skp ?_ rfl)))
  refine dnil ?_
  refine Sv.cnd rfl h (fun h => ?_) fun h => ?_
  ·refine srg <| un1 rfl <| un1 (v := (.agg (e_TJTimer t_))) rfl <| un <| a2v (v := (lstV false 3 5 [t_].length)) (h' := upd _ 3 (lstB false 5 ([t_].map e_TJTimer))) (n' := 4) rfl rfl hcs ?_
   obtain ⟨r_1, hr2, h⟩ := bnd h
   have hz2 : (zout && [t_].isEmpty) = true → r_1 = [] := app_nil (z := zout) (ys := [t_]) hzout hr2
   refine un <| a2v rfl (s_app (xs := out) (ys := [t_]) (e := e_TJTimer) (z := zout) (b := 1) rfl rfl hzout rfl rfl (slc_lst rfl (List.length_map _).symm (map_nil_of hcs)) hr2) hcs <| un1 rfl <| un1 rfl <| dnil ?_
   exact Sv.weak (wcn [0, 4, 2] rfl (.cf rfl rfl (.cf rfl rfl (.cf rfl rfl (.cr rfl rfl rfl (.cf rfl rfl (.cons rfl (.c (lsr rfl rfl)) (.cr rfl rfl rfl .nil))))))) (.box (by decide) rfl (blkAs_cells (.sm rfl (.sm rfl (.sm rfl (.sm rfl (.sm rfl .nil)))))) (.row (by decide) rfl (fr_map fun _ => rfl) (.box (by decide) rfl (blkAs_cells (.sm rfl (.sm rfl (.sm rfl (.sm rfl (.sm rfl .nil)))))) .nil)))) (Z4i hz2 h hself hK0 hr)
  ·refine Sv.skip ?_
   exact Sv.weak (wcn [0, 1, 2] rfl (.cf rfl rfl (.cf rfl rfl (.cf rfl rfl (.cr rfl rfl rfl (.cf rfl rfl (.cons rfl (.c (lsr rfl rfl)) (.cr rfl rfl rfl .nil))))))) (.box (by decide) rfl (blkAs_cells (.sm rfl (.sm rfl (.sm rfl (.sm rfl (.sm rfl .nil)))))) (.row (by decide) rfl (fr_map fun _ => rfl) (.box (by decide) rfl (blkAs_cells (.sm rfl (.sm rfl (.sm rfl (.sm rfl (.sm rfl .nil)))))) .nil)))) (Z4i hzout h hself hK0 hr)
 ·refine Sv.exit ?_
  exact hK0 out done zout hzout h _ (wcn [0, 1] rfl (.cf rfl rfl (.cons rfl (.c (lsr rfl rfl)) (.cr rfl rfl rfl .nil))) (.row (by decide) rfl (fr_map fun _ => rfl) (.box (by decide) rfl (blkAs_cells (.sm rfl (.sm rfl (.sm rfl (.sm rfl (.sm rfl .nil)))))) .nil)))
noncomputable def Zx (out3 : (List TJTimer)) : Option (List TJTimer) :=
 some out3
theorem Z4k {Γ : Glob} {out3 : (List TJTimer)} {zout3 : Bool} (hzout3 : zout3 = true → out3 = []) {o : (List TJTimer)} (h : Zx out3 = some o) :
  Sv Try.prog Γ 0 a47_c3 (Ends a47.results 0 (Z24 o)) ⟨(upd e0 5 (some (lstV zout3 0 5 out3.length))), (upd e0 0 (lstB zout3 5 (out3.map e_TJTimer))), 1⟩ := by
 unfold Zx at h
 refine ssr <| un1 rfl <| un1 rfl <| dnil <| Sv.ret ?_
 replace h := Option.some.inj h
 subst h
 exact ⟨_, .refl _, _, rfl, ⟨upd e0 0 (some (lstV zout3 0 5 out3.length)), (upd e0 0 (lstB zout3 5 (out3.map e_TJTimer))), 1⟩, (lstV zout3 0 5 out3.length), weak_canon2 [0] [0] (by decide) (by decide) nlz (.cons (by decide) .nil) (.cons rfl (.c (lsr rfl rfl)) .nil) (.row (by decide) rfl (fr_map fun _ => rfl) .nil), rfl, zout3, hzout3, rfl, rfl, rfl⟩
/-- clerestory/clerestoryref4.placed -/
noncomputable def Z1d (l_ : (List TJTimer)) (t_ : TJTimer) : Option (List TJTimer) :=
 lim fun kk => Zd l_ t_ (fun (out1 : (List TJTimer)) (done1 : Bool) => 
   if (!done1) then
    (app? 48 out1 [t_]).bind fun r_2 =>
    Zx r_2
   else
    Zx out1) kk ([] : List TJTimer) false 0
theorem Z4l {Γ : Glob} {l_ : (List TJTimer)} {t_ : TJTimer} {r : (List TJTimer)} (h : Z1d l_ t_ = some r) : ACalls Try.prog Γ 47 [(.c (.ro false 5 (l_.map e_TJTimer))), (.agg (e_TJTimer t_))] e0 0 (Z24 r) := by
 refine acalls_of_sv hmix c47 (R := Z24 r) ?_
 unfold Z1d at h
 refine ssr <| un <| a2v (v := (.c (.ref 0 5 0 0))) (h' := upd _ 0 (some (.cells 5 [(e_TJTimer t_)]))) (n' := 1) rfl rfl hcs <| un1 rfl <| dnil <| ssr <| un1 rfl <| dnil <| ssr <| un1 rfl <| dnil <| Sv.seq <| ssr <| un1 rfl <| un1 (v := (I (l_.length : Int))) (s_len (e := e_TJTimer) (xs := l_) rfl) <| un1 rfl <| dnil <| Sv.block ?_
 obtain ⟨kk, h⟩ := lim_some h
 refine Sv.weak (wcn [0, 1000] rfl (.cf rfl rfl (.cf rfl rfl (.cf rfl rfl (.cf rfl rfl (.cons rfl (.c (.same rfl)) (.cr rfl rfl rfl .nil)))))) (.non (by decide) (.box (by decide) rfl (blkAs_cells (.sm rfl (.sm rfl (.sm rfl (.sm rfl (.sm rfl .nil)))))) .nil))) (Z7h (fun _ => rfl) h ?_ (fun s hs => hs))
 ·intro out1 done1 zout1 hzout1 h _ hw1
  refine Sv.weak hw1 <| Sv.seq <| ssr <| un1 rfl <| un1 (v := (B (!done1))) rfl <| dnil ?_
  refine Sv.cnd rfl h (fun h => ?_) fun h => ?_
  ·refine srg <| un1 rfl <| un1 (v := (.agg (e_TJTimer t_))) rfl <| un <| a2v (v := (lstV false 2 5 [t_].length)) (h' := upd _ 2 (lstB false 5 ([t_].map e_TJTimer))) (n' := 3) rfl rfl hcs ?_
   obtain ⟨r_2, hr3, h⟩ := bnd h
   have hz3 : (zout1 && [t_].isEmpty) = true → r_2 = [] := app_nil (z := zout1) (ys := [t_]) hzout1 hr3
   refine un <| a2v rfl (s_app (xs := out1) (ys := [t_]) (e := e_TJTimer) (z := zout1) (b := 1) rfl rfl hzout1 rfl rfl (slc_lst rfl (List.length_map _).symm (map_nil_of hcs)) hr3) hcs <| un1 rfl <| dnil ?_
   exact Sv.weak (wcn [3] rfl (.cons rfl (.c (lsr rfl rfl)) .nil) (.row (by decide) rfl (fr_map fun _ => rfl) .nil)) (Z4k hz3 h)
  ·refine Sv.skip ?_
   exact Sv.weak (wcn [1] rfl (.cons rfl (.c (lsr rfl rfl)) .nil) (.row (by decide) rfl (fr_map fun _ => rfl) .nil)) (Z4k hzout1 h)
def a11_c1 : ACode := (.seq (sr [(oP 103 (.faddr 2 (.tmp 3))), (oP 104 (.load false 1 (.tmp 103))), (oP 105 (.faddr 0 (.tmp 3))), (oP 106 (.load false 1 (.tmp 105))), (oP 107 (.bin .sub (.tmp 106) (kI 3))), (oP 108 (.call 12 [(.tmp 104), (.tmp 107), (kI 1000000)])), (oP 109 (.un .not (.tmp 108))), (mV 110 109), ⟨(some 111), (.faddr 0 (.tmp 2)), (some (110, false))⟩, ⟨(some 112), (.load false 1 (.tmp 111)), (some (110, false))⟩, ⟨(some 113), (.faddr 2 (.tmp 3)), (some (110, false))⟩, ⟨(some 114), (.load false 1 (.tmp 113)), (some (110, false))⟩, ⟨(some 115), (.bin .add (.tmp 112) (.tmp 114)), (some (110, false))⟩, ⟨(some 116), (.bin .gtr (.tmp 115) (kI 1000000000)), (some (110, false))⟩, (oP 117 (.pick (.tmp 110) kT (.tmp 116)))]
 (.cond (.tmp 117) (sr [(mV 118 7), (oP 119 (.callv (.tmp 118) [(kI 1)])), (oP 120 (.ext (.tmp 119) 0)), (oP 121 (.ext (.tmp 119) 1)), (oP 122 (.ext (.tmp 119) 2)), (oN (.store 5 (.tmp 4) (.tmp 120))), (mV 5 121), (mV 6 122)]
 .ret) .skip))
 (.seq (sr [(mV 123 8), (oP 124 (.faddr 4 (.tmp 2))), (oP 125 (.load false 1 (.tmp 124))), (oP 126 (.len (.tmp 125))), (oP 127 (.callv (.tmp 123) [(.tmp 126)])), (oP 128 (.un .not (.tmp 127)))]
 (.cond (.tmp 128) (sr [(mV 129 7), (oP 130 (.callv (.tmp 129) [(kI 2)])), (oP 131 (.ext (.tmp 130) 0)), (oP 132 (.ext (.tmp 130) 1)), (oP 133 (.ext (.tmp 130) 2)), (oN (.store 5 (.tmp 4) (.tmp 131))), (mV 5 132), (mV 6 133)]
 .ret) .skip))
 (.region [(oP 134 (.faddr 4 (.tmp 2))), (oP 135 (.load false 1 (.tmp 134))), (oP 136 (.load true 5 (.tmp 10))), (oP 137 (.call 47 [(.tmp 135), (.tmp 136)])), (oP 138 (.faddr 4 (.tmp 2))), (oN (.store 1 (.tmp 138) (.tmp 137)))])))
def a11_c3 : ACode := (.region [(oP 157 (.bin .add (.tmp 144) (kI 1))), (mV 144 157)])
def a11_c4 : ACode := (sr [(oP 145 (.bin .lss (.tmp 144) (.tmp 143)))]
 (.seq (.cond (.tmp 145) .skip (.exit 1))
 (.seq (.block 2 (sr [(oP 146 (.iaddr 5 (.tmp 142) (.tmp 144))), (oP 147 (.load true 5 (.tmp 146))), (oP 13 (.box (.const (.agg [(.val (.int .i64 0)), (.val (.int .i64 0)), (.val (.int .i64 0)), (.val (.int .i64 0)), (.str [])])))), (oN (.store 5 (.tmp 13) (.tmp 147)))]
 (sr [(oP 148 (.faddr 0 (.tmp 13))), (oP 149 (.load false 1 (.tmp 148))), (oP 150 (.faddr 2 (.tmp 3))), (oP 151 (.load false 1 (.tmp 150))), (oP 152 (.bin .neq (.tmp 149) (.tmp 151)))]
 (.cond (.tmp 152) (.region [(mV 153 11), (oP 154 (.load true 5 (.tmp 13))), (oP 155 (.bslice 5 [(.val (.int .i64 0)), (.val (.int .i64 0)), (.val (.int .i64 0)), (.val (.int .i64 0)), (.str [])] 1 [(0, (.tmp 154))])), (oP 156 (.app 5 48 (.tmp 153) (.tmp 155))), (mV 11 156)]) .skip))))
 a11_c3)))
def a11_c0 : ACode := (.cond (.tmp 85) (sr [(mV 88 9), (oP 89 (.faddr 0 (.tmp 2))), (oP 90 (.load false 1 (.tmp 89))), (oP 91 (.faddr 2 (.tmp 3))), (oP 92 (.load false 1 (.tmp 91))), (oP 93 (.bin .add (.tmp 90) (.tmp 92))), (oP 94 (.faddr 3 (.tmp 3))), (oP 95 (.load false 1 (.tmp 94))), (oP 96 (.build [(.val (.int .i64 0)), (.val (.int .i64 0)), (.val (.int .i64 0)), (.val (.int .i64 0)), (.str [])] [(0, (1, (.tmp 88))), (1, (1, (.tmp 93))), (4, (1, (.tmp 95)))])), (oP 10 (.box (.const (.agg [(.val (.int .i64 0)), (.val (.int .i64 0)), (.val (.int .i64 0)), (.val (.int .i64 0)), (.str [])])))), (oN (.store 5 (.tmp 10) (.tmp 96)))]
 (.seq (sr [(oP 97 (.faddr 0 (.tmp 3))), (oP 98 (.load false 1 (.tmp 97))), (oP 99 (.bin .eql (.tmp 98) (kI 4)))]
 (.cond (.tmp 99) (.region [(oP 100 (.faddr 2 (.tmp 3))), (oP 101 (.load false 1 (.tmp 100))), (oP 102 (.faddr 2 (.tmp 10))), (oN (.store 1 (.tmp 102) (.tmp 101)))]) .skip))
 a11_c1)) (sr [(oP 140 (.bin .eql (.tmp 18) (kI 5))), (mV 139 140)]
 (.cond (.tmp 139) (sr [(oP 11 (.mov (.const (.c (.ro true 5 [])))))]
 (.seq (sr [(oP 141 (.faddr 4 (.tmp 2))), (oP 142 (.load false 1 (.tmp 141))), (oP 143 (.len (.tmp 142))), (oP 144 (.mov (kI 0)))]
 (.block 1 (.loop a11_c4)))
 (.seq (sr [(mV 158 11), (oP 159 (.len (.tmp 158))), (oP 160 (.faddr 4 (.tmp 2))), (oP 161 (.load false 1 (.tmp 160))), (oP 162 (.len (.tmp 161))), (oP 163 (.bin .eql (.tmp 159) (.tmp 162)))]
 (.cond (.tmp 163) (sr [(mV 164 7), (oP 165 (.callv (.tmp 164) [(kI 5)])), (oP 166 (.ext (.tmp 165) 0)), (oP 167 (.ext (.tmp 165) 1)), (oP 168 (.ext (.tmp 165) 2)), (oN (.store 5 (.tmp 4) (.tmp 166))), (mV 5 167), (mV 6 168)]
 .ret) .skip))
 (sr [(mV 169 11), (oP 170 (.faddr 4 (.tmp 2))), (oN (.store 1 (.tmp 170) (.tmp 169)))]
 (sr [(oP 171 (.load true 5 (.tmp 2))), (oN (.store 5 (.tmp 4) (.tmp 171))), (oP 5 (.mov (kI 0))), (oP 6 (.mov (kI 0)))]
 .ret))))) (sr [(mV 19 7), (oP 20 (.callv (.tmp 19) [(kI 3)])), (oP 21 (.ext (.tmp 20) 0)), (oP 22 (.ext (.tmp 20) 1)), (oP 23 (.ext (.tmp 20) 2)), (oN (.store 5 (.tmp 4) (.tmp 21))), (mV 5 22), (mV 6 23)]
 .ret))))
def a11_c2 : ACode := (sr [(oP 172 (.faddr 1 (.tmp 2))), (oP 173 (.load false 1 (.tmp 172))), (oP 174 (.bin .add (.tmp 173) (kI 1))), (oP 175 (.faddr 1 (.tmp 2))), (oN (.store 1 (.tmp 175) (.tmp 174)))]
 (sr [(oP 176 (.load true 5 (.tmp 2))), (mV 177 9), (oN (.store 5 (.tmp 4) (.tmp 176))), (mV 5 177), (oP 6 (.mov (kI 0)))]
 .ret))
def a11 : AFunc := ⟨2, [(.cell true 5 4), (.tmp 5), (.tmp 6)], (sr [(oP 2 (.box (.tmp 0))), (oP 3 (.box (.tmp 1))), (oP 4 (.box (.const (.agg [(.val (.int .i64 0)), (.val (.int .i64 0)), (.ro true 7 []), (.ro true 7 []), (.ro true 5 [])])))), (oP 5 (.mov (kI 0))), (oP 6 (.mov (kI 0)))]
 (sr [(oP 7 (.mov (.const (.c (.fn (.func 44) [] [])))))]
 (sr [(oP 14 (.mkfn (.func 45) [] [(.tmp 2)])), (mV 8 14)]
 (sr [(oP 15 (.faddr 1 (.tmp 2))), (oP 16 (.load false 1 (.tmp 15))), (mV 9 16)]
 (.seq (sr [(oP 17 (.faddr 0 (.tmp 3))), (oP 18 (.load false 1 (.tmp 17)))]
 (.block 0 (sr [(oP 25 (.bin .eql (.tmp 18) (kI 1))), (mV 24 25)]
 (.cond (.tmp 24) (.seq (sr [(oP 26 (.faddr 1 (.tmp 3))), (oP 27 (.load false 1 (.tmp 26))), (oP 28 (.call 12 [(.tmp 27), (kI 1), (kI 4)])), (oP 29 (.un .not (.tmp 28)))]
 (.cond (.tmp 29) (sr [(mV 30 7), (oP 31 (.callv (.tmp 30) [(kI 1)])), (oP 32 (.ext (.tmp 31) 0)), (oP 33 (.ext (.tmp 31) 1)), (oP 34 (.ext (.tmp 31) 2)), (oN (.store 5 (.tmp 4) (.tmp 32))), (mV 5 33), (mV 6 34)]
 .ret) .skip))
 (.seq (sr [(mV 35 8), (oP 36 (.faddr 2 (.tmp 2))), (oP 37 (.load false 1 (.tmp 36))), (oP 38 (.len (.tmp 37))), (oP 39 (.callv (.tmp 35) [(.tmp 38)])), (oP 40 (.un .not (.tmp 39)))]
 (.cond (.tmp 40) (sr [(mV 41 7), (oP 42 (.callv (.tmp 41) [(kI 2)])), (oP 43 (.ext (.tmp 42) 0)), (oP 44 (.ext (.tmp 42) 1)), (oP 45 (.ext (.tmp 42) 2)), (oN (.store 5 (.tmp 4) (.tmp 43))), (mV 5 44), (mV 6 45)]
 .ret) .skip))
 (.drawn (.alt [((oP 46 (.faddr 2 (.tmp 2))), (0, 0)), ((oP 47 (.load false 1 (.tmp 46))), (0, 1)), ((mV 49 9), (0, 3)), ((oP 50 (.faddr 1 (.tmp 3))), (0, 4)), ((oP 51 (.load false 1 (.tmp 50))), (0, 5)), ((oP 52 (.faddr 3 (.tmp 3))), (0, 6)), ((oP 53 (.load false 1 (.tmp 52))), (0, 7)), ((oP 54 (.faddr 4 (.tmp 3))), (0, 8)), ((oP 55 (.load true 3 (.tmp 54))), (0, 9)), ((oP 56 (.build [(.val (.int .i64 0)), (.val (.int .i64 0)), (.val (.bool false)), (.str []), (.val (.int .i64 0)), (.val (.int .i64 0)), (.str [])] [(0, (1, (.tmp 49))), (1, (1, (.tmp 51))), (3, (1, (.tmp 53))), (4, (3, (.tmp 55)))])), (0, 10))] (.fin [((oP 48 (.call 46 [(.tmp 47)])), (1, 2)), ((oP 57 (.bslice 7 [(.val (.int .i64 0)), (.val (.int .i64 0)), (.val (.bool false)), (.str []), (.val (.int .i64 0)), (.val (.int .i64 0)), (.str [])] 1 [(0, (.tmp 56))])), (1, 11)), ((oP 58 (.app 7 72 (.tmp 48) (.tmp 57))), (2, 12)), ((oP 59 (.faddr 2 (.tmp 2))), (0, 13)), ((oN (.store 1 (.tmp 59) (.tmp 58))), (2, 14))]) (.fin [((oP 57 (.bslice 7 [(.val (.int .i64 0)), (.val (.int .i64 0)), (.val (.bool false)), (.str []), (.val (.int .i64 0)), (.val (.int .i64 0)), (.str [])] 1 [(0, (.tmp 56))])), (1, 11)), ((oP 48 (.call 46 [(.tmp 47)])), (1, 2)), ((oP 58 (.app 7 72 (.tmp 48) (.tmp 57))), (2, 12)), ((oP 59 (.faddr 2 (.tmp 2))), (0, 13)), ((oN (.store 1 (.tmp 59) (.tmp 58))), (2, 14))]))))) (sr [(oP 61 (.bin .eql (.tmp 18) (kI 2))), (mV 60 61)]
 (.cond (.tmp 60) (.seq (sr [(mV 62 8), (oP 63 (.faddr 3 (.tmp 2))), (oP 64 (.load false 1 (.tmp 63))), (oP 65 (.len (.tmp 64))), (oP 66 (.callv (.tmp 62) [(.tmp 65)])), (oP 67 (.un .not (.tmp 66)))]
 (.cond (.tmp 67) (sr [(mV 68 7), (oP 69 (.callv (.tmp 68) [(kI 2)])), (oP 70 (.ext (.tmp 69) 0)), (oP 71 (.ext (.tmp 69) 1)), (oP 72 (.ext (.tmp 69) 2)), (oN (.store 5 (.tmp 4) (.tmp 70))), (mV 5 71), (mV 6 72)]
 .ret) .skip))
 (.drawn (.alt [((oP 73 (.faddr 3 (.tmp 2))), (0, 0)), ((oP 74 (.load false 1 (.tmp 73))), (0, 1)), ((mV 76 9), (0, 3)), ((oP 77 (.faddr 3 (.tmp 3))), (0, 4)), ((oP 78 (.load false 1 (.tmp 77))), (0, 5)), ((oP 79 (.faddr 4 (.tmp 3))), (0, 6)), ((oP 80 (.load true 3 (.tmp 79))), (0, 7)), ((oP 81 (.build [(.val (.int .i64 0)), (.val (.int .i64 0)), (.val (.bool false)), (.str []), (.val (.int .i64 0)), (.val (.int .i64 0)), (.str [])] [(0, (1, (.tmp 76))), (2, (1, kT)), (3, (1, (.tmp 78))), (4, (3, (.tmp 80)))])), (0, 8))] (.fin [((oP 75 (.call 46 [(.tmp 74)])), (1, 2)), ((oP 82 (.bslice 7 [(.val (.int .i64 0)), (.val (.int .i64 0)), (.val (.bool false)), (.str []), (.val (.int .i64 0)), (.val (.int .i64 0)), (.str [])] 1 [(0, (.tmp 81))])), (1, 9)), ((oP 83 (.app 7 72 (.tmp 75) (.tmp 82))), (2, 10)), ((oP 84 (.faddr 3 (.tmp 2))), (0, 11)), ((oN (.store 1 (.tmp 84) (.tmp 83))), (2, 12))]) (.fin [((oP 82 (.bslice 7 [(.val (.int .i64 0)), (.val (.int .i64 0)), (.val (.bool false)), (.str []), (.val (.int .i64 0)), (.val (.int .i64 0)), (.str [])] 1 [(0, (.tmp 81))])), (1, 9)), ((oP 75 (.call 46 [(.tmp 74)])), (1, 2)), ((oP 83 (.app 7 72 (.tmp 75) (.tmp 82))), (2, 10)), ((oP 84 (.faddr 3 (.tmp 2))), (0, 11)), ((oN (.store 1 (.tmp 84) (.tmp 83))), (2, 12))])))) (.seq (sr [(oP 86 (.bin .eql (.tmp 18) (kI 3))), (mV 85 86)]
 (.cond (.tmp 85) .skip (.region [(oP 87 (.bin .eql (.tmp 18) (kI 4))), (mV 85 87)])))
 a11_c0)))))))
 a11_c2)))))⟩
theorem c11 : compFunc Try.prog 11 = some a11 := by kernel_rfl
def Z12 (r : (TJLoop × Int × Int)) : AV → Heap → Nat → Prop := fun v h' n' => v = (.tup [(.agg [cI r.1.Now, cI r.1.Next, .ro false 7 (r.1.Tasks.map e_TJJob), .ro false 7 (r.1.Smalls.map e_TJJob), .ro false 5 (r.1.Timers.map e_TJTimer)]), (I r.2.1), (I r.2.2)]) ∧ (h' = e0) ∧ n' = 0
noncomputable def Z25 (q_ : TJLoop) (q2 : (List TJJob)) (q3 : (List TJJob)) (q4 : (List TJTimer)) : Option (TJLoop × Int × Int) :=
 some ((⟨q_.Now, (wi (q_.Next + 1)), q2, q3, q4⟩ : TJLoop), q_.Next, 0)
theorem Z26 {Γ : Glob} {q_ : TJLoop} {q2 : (List TJJob)} {q3 : (List TJJob)} {q4 : (List TJTimer)} {o : (TJLoop × Int × Int)} (h : Z25 q_ q2 q3 q4 = some o) :
  Sv Try.prog Γ 0 a11_c2 (Ends a11.results 0 (Z12 o)) ⟨(ue [(9, (I q_.Next)), (4, (.c (.ref 1 5 0 0))), (2, (.c (.ref 0 5 0 0)))]), (upd (upd e0 0 (some (.cells 5 [[cI q_.Now, cI q_.Next, .ro false 7 (q2.map e_TJJob), .ro false 7 (q3.map e_TJJob), .ro false 5 (q4.map e_TJTimer)]]))) 1 (some (.cells 5 [[cI 0, cI 0, .ro true 7 [], .ro true 7 [], .ro true 5 []]]))), 2⟩ := by
 unfold Z25 at h
 refine ssr <| un1 (v := (.c (.ref 0 5 0 1))) rfl <| un1 (v := (I q_.Next)) rfl <| un1 (v := (I (wi (q_.Next + 1)))) rfl <| un1 (v := (.c (.ref 0 5 0 1))) rfl <| un <| a2n (h' := upd _ 0 (some (.cells 5 [[cI q_.Now, cI (wi (q_.Next + 1)), .ro false 7 (q2.map e_TJJob), .ro false 7 (q3.map e_TJJob), .ro false 5 (q4.map e_TJTimer)]]))) (n' := 2) rfl rfl hcs <| dnil <| ssr <| un1 (v := (.agg [cI q_.Now, cI (wi (q_.Next + 1)), .ro false 7 (q2.map e_TJJob), .ro false 7 (q3.map e_TJJob), .ro false 5 (q4.map e_TJTimer)])) rfl <| un1 rfl <| un <| a2n (h' := upd _ 1 (some (.cells 5 [[cI q_.Now, cI (wi (q_.Next + 1)), .ro false 7 (q2.map e_TJJob), .ro false 7 (q3.map e_TJJob), .ro false 5 (q4.map e_TJTimer)]]))) (n' := 2) rfl rfl hcs <| un1 rfl <| un1 rfl <| dnil <| Sv.ret ?_
 exact rt0 h rfl rfl ⟨rfl, rfl, rfl⟩
abbrev Z7i (Γ : Glob) (o : (TJLoop × Int × Int)) : AExit → St → Prop := AThen (Sv Try.prog Γ 0 a11_c2 (Ends a11.results 0 (Z12 o))) (Ends a11.results 0 (Z12 o))
abbrev Z7j (Γ : Glob) (o : (TJLoop × Int × Int)) : AExit → St → Prop := ABlock 0 (Z7i Γ o)
noncomputable def Z1s (a_ : TJAsk) (q_ : TJLoop) (t2 : Int) : Option (TJLoop × Int × Int) :=
 if ((!(Z3 a_.N (wi (a_.Do - 3)) 1000000)) || (decide (1000000000 < (wi (q_.Now + a_.N))))) then
  some (((Z0 1).1), (Z0 1).2.1, (Z0 1).2.2)
 else
  letIn (Z6 (q_.Timers.length : Int) q_.Now q_.Next q_.Tasks q_.Smalls q_.Timers) fun r_6 : Bool =>
  if (!r_6) then
   some (((Z0 2).1), (Z0 2).2.1, (Z0 2).2.2)
  else
   (Z1d q_.Timers (⟨q_.Next, (wi (q_.Now + a_.N)), t2, 0, a_.Call⟩ : TJTimer)).bind fun r_7 =>
   Z25 q_ q_.Tasks q_.Smalls r_7
theorem Z4m {Γ : Glob} {a_ : TJAsk} {q_ : TJLoop} {t2 : Int} {o : (TJLoop × Int × Int)} (h : Z1s a_ q_ t2 = some o) :
  Sv Try.prog Γ 0 a11_c1 (Z7j Γ o) ⟨(ue [(10, (.c (.ref 3 5 0 0))), (9, (I q_.Next)), (8, (.c (.fn (.func 45) [] [.ref 0 5 0 0]))), (7, (.c (.fn (.func 44) [] []))), (4, (.c (.ref 2 5 0 0))), (3, (.c (.ref 1 7 0 0))), (2, (.c (.ref 0 5 0 0)))]), (upd (upd (upd (upd e0 0 (some (.cells 5 [[cI q_.Now, cI q_.Next, .ro false 7 (q_.Tasks.map e_TJJob), .ro false 7 (q_.Smalls.map e_TJJob), .ro false 5 (q_.Timers.map e_TJTimer)]]))) 1 (some (.cells 7 [(e_TJAsk a_)]))) 2 (some (.cells 5 [[cI 0, cI 0, .ro true 7 [], .ro true 7 [], .ro true 5 []]]))) 3 (some (.cells 5 [[cI q_.Next, cI (wi (q_.Now + a_.N)), cI t2, cI 0, .str a_.Call]]))), 4⟩ := by
 unfold Z1s at h
 refine Sv.seq <| ssr <| un1 (v := (.c (.ref 1 7 0 2))) rfl <| un1 (v := (I a_.N)) rfl <| un1 (v := (.c (.ref 1 7 0 0))) rfl <| un1 (v := (I a_.Do)) rfl <| un1 (v := (I (wi (a_.Do - 3)))) rfl <| un <| ac_pure (Z2m (Γ := Γ) a_.N (wi (a_.Do - 3)) 1000000) rfl rfl rfl <| un1 (v := (B (!(Z3 a_.N (wi (a_.Do - 3)) 1000000)))) rfl <| un1 rfl ?_
 refine gjoin 7 (d := 117) (v := (B ((!(Z3 a_.N (wi (a_.Do - 3)) 1000000)) || (decide (1000000000 < (wi (q_.Now + a_.N))))))) (fun X hX => ?_) ?_
 ·refine split2 (fun hc7 => ?_) (fun hc7 => ?_)
  ·repeat (first | refine gu rfl ?_ | refine gs rfl rfl ?_)
   refine un1 (v := (B true)) rfl <| dnil ?_
   exact hX _ (.putEq (by rw [hc7]; rfl) (by repeat (first | exact .putEq (by rw [hc7]) (.refl _) | refine .skp ?_ rfl)))
  ·refine gt rfl <| a1 (v := (.c (.ref 0 5 0 0))) rfl <| gt rfl <| a1 (v := (I q_.Now)) rfl <| gt rfl <| a1 (v := (.c (.ref 1 7 0 2))) rfl <| gt rfl <| a1 (v := (I a_.N)) rfl <| gt rfl <| a1 (v := (I (wi (q_.Now + a_.N)))) rfl <| gt rfl <| a1 (v := (B (decide (1000000000 < (wi (q_.Now + a_.N)))))) rfl <| un1 (v := (B (decide (1000000000 < (wi (q_.Now + a_.N)))))) rfl <| dnil ?_
   exact hX _ (.putEq (by rw [hc7]; rfl) (by repeat (first | exact .putEq (by rw [hc7]) (.refl _) | refine .skp ?_ rfl)))
 refine dnil ?_
 refine Sv.cnd rfl h (fun h => ?_) fun h => ?_
 ·refine ssr <| un1 rfl <| un <| acv_gen (bs := []) («as» := [(I 1)]) (h2 := _) (h1 := e0) rfl (by kernel_rfl) (Z1b (Γ := Γ) 1) rfl (.cons (avAs_free rfl) .nil) (hsub_refl _) (.nil _) (fun _ => rfl) (by decide) (by decide) (.cons (avAs_free rfl) .nil) .nil ?_
  rintro _ _ _ hn ⟨rfl, rfl, rfl⟩
  refine ⟨.inl rfl, (rem [] _), fun hbd => (m3_rem (in_nil _) (.nil) hbd), (.tup [(.agg [cI (((Z0 1).1).Now), cI (((Z0 1).1).Next), .ro false 7 ((((Z0 1).1).Tasks).map e_TJJob), .ro false 7 ((((Z0 1).1).Smalls).map e_TJJob), .ro false 5 ((((Z0 1).1).Timers).map e_TJTimer)]), (I ((Z0 1).2.1)), (I ((Z0 1).2.2))]), 4, rfl, rfl, ?_⟩
  refine un1 (v := (.agg [cI (((Z0 1).1).Now), cI (((Z0 1).1).Next), .ro false 7 ((((Z0 1).1).Tasks).map e_TJJob), .ro false 7 ((((Z0 1).1).Smalls).map e_TJJob), .ro false 5 ((((Z0 1).1).Timers).map e_TJTimer)])) rfl <| un1 (v := (I ((Z0 1).2.1))) rfl <| un1 (v := (I ((Z0 1).2.2))) rfl <| un <| a2n (h' := upd _ 2 (some (.cells 5 [[cI (((Z0 1).1).Now), cI (((Z0 1).1).Next), .ro false 7 ((((Z0 1).1).Tasks).map e_TJJob), .ro false 7 ((((Z0 1).1).Smalls).map e_TJJob), .ro false 5 ((((Z0 1).1).Timers).map e_TJTimer)]]))) (n' := 4) rfl rfl hcs <| un1 rfl <| un1 rfl <| dnil <| Sv.ret ?_
  exact rt0 h rfl rfl ⟨rfl, rfl, rfl⟩
 ·refine Sv.skip <| Sv.seq <| ssr <| un1 rfl <| un1 (v := (.c (.ref 0 5 0 4))) rfl <| un1 (v := (.c (.ro false 5 (q_.Timers.map e_TJTimer)))) rfl <| un1 (v := (I (q_.Timers.length : Int))) (s_len (e := e_TJTimer) (xs := q_.Timers) rfl) ?_
  obtain ⟨r_6, hr_6⟩ : ∃ r_6 : Bool, r_6 = (Z6 (q_.Timers.length : Int) q_.Now q_.Next q_.Tasks q_.Smalls q_.Timers) := ⟨_, rfl⟩
  replace h := letAt hr_6 h
  have pr_6 := (Z32 (Γ := Γ) (q_.Timers.length : Int) q_.Now q_.Next q_.Tasks q_.Smalls q_.Timers)
  rw [← hr_6] at pr_6
  refine un <| acv_gen (bs := []) («as» := [(I (q_.Timers.length : Int)), (.c (.rop [cI q_.Now, cI q_.Next, .ro false 7 (q_.Tasks.map e_TJJob), .ro false 7 (q_.Smalls.map e_TJJob), .ro false 5 (q_.Timers.map e_TJTimer)]))]) (h2 := (upd _ 0 none)) (h1 := e0) rfl (by kernel_rfl) pr_6 rfl (.cons (avAs_free rfl) (.cons (.c (ref_ro rfl (gone rfl) (.sm rfl (.sm rfl (.sm rfl (.sm rfl (.sm rfl .nil))))) rfl)) .nil)) (hsub_none (hsub_refl _)) (.nil _) (fun _ => rfl) (by decide) (by decide) (.cons (avAs_free rfl) (.cons (avAs_free rfl) .nil)) .nil ?_
  rintro _ _ _ hn ⟨rfl, rfl, rfl⟩
  refine ⟨.inr ⟨rfl, .nil⟩, (rem [] _), fun hbd => (m3_rem (in_nil _) (.nil) hbd), (B r_6), 4, rfl, rfl, ?_⟩
  refine un1 (v := (B (!r_6))) rfl <| dnil ?_
  refine Sv.cnd rfl h (fun h => ?_) fun h => ?_
  ·refine ssr <| un1 rfl <| un <| acv_gen (bs := []) («as» := [(I 2)]) (h2 := _) (h1 := e0) rfl (by kernel_rfl) (Z1b (Γ := Γ) 2) rfl (.cons (avAs_free rfl) .nil) (hsub_refl _) (.nil _) (fun _ => rfl) (by decide) (by decide) (.cons (avAs_free rfl) .nil) .nil ?_
   rintro _ _ _ hn ⟨rfl, rfl, rfl⟩
   refine ⟨.inl rfl, (rem [] _), fun hbd => (m3_rem (in_nil _) (.nil) hbd), (.tup [(.agg [cI (((Z0 2).1).Now), cI (((Z0 2).1).Next), .ro false 7 ((((Z0 2).1).Tasks).map e_TJJob), .ro false 7 ((((Z0 2).1).Smalls).map e_TJJob), .ro false 5 ((((Z0 2).1).Timers).map e_TJTimer)]), (I ((Z0 2).2.1)), (I ((Z0 2).2.2))]), 4, rfl, rfl, ?_⟩
   refine un1 (v := (.agg [cI (((Z0 2).1).Now), cI (((Z0 2).1).Next), .ro false 7 ((((Z0 2).1).Tasks).map e_TJJob), .ro false 7 ((((Z0 2).1).Smalls).map e_TJJob), .ro false 5 ((((Z0 2).1).Timers).map e_TJTimer)])) rfl <| un1 (v := (I ((Z0 2).2.1))) rfl <| un1 (v := (I ((Z0 2).2.2))) rfl <| un <| a2n (h' := upd _ 2 (some (.cells 5 [[cI (((Z0 2).1).Now), cI (((Z0 2).1).Next), .ro false 7 ((((Z0 2).1).Tasks).map e_TJJob), .ro false 7 ((((Z0 2).1).Smalls).map e_TJJob), .ro false 5 ((((Z0 2).1).Timers).map e_TJTimer)]]))) (n' := 4) rfl rfl hcs <| un1 rfl <| un1 rfl <| dnil <| Sv.ret ?_
   exact rt0 h rfl rfl ⟨rfl, rfl, rfl⟩
  ·refine Sv.skip <| srg <| un1 (v := (.c (.ref 0 5 0 4))) rfl <| un1 (v := (.c (.ro false 5 (q_.Timers.map e_TJTimer)))) rfl <| un1 (v := (.agg [cI q_.Next, cI (wi (q_.Now + a_.N)), cI t2, cI 0, .str a_.Call])) rfl ?_
   obtain ⟨r_7, hr5, h⟩ := bnd h
   refine un <| ac_gen (bs := []) («as» := [(.c (.ro false 5 (q_.Timers.map e_TJTimer))), (.agg [cI q_.Next, cI (wi (q_.Now + a_.N)), cI t2, cI 0, .str a_.Call])]) (h2 := _) (h1 := e0) (Z4l hr5) rfl (.cons (avAs_free rfl) (.cons (avAs_free rfl) .nil)) (hsub_refl _) (.nil _) (fun _ => rfl) (by decide) (by decide) (.cons (avAs_free rfl) (.cons (avAs_free rfl) .nil)) .nil ?_
   rintro _ _ _ hn ⟨z_2, hz_2, rfl, rfl, rfl⟩
   refine ⟨.inl rfl, (upd (rem [] _) 4 (lstB z_2 5 (r_7.map e_TJTimer))), fun hbd => (m3_cons (m3_row rfl (fr_map fun _ => rfl)) (m3_rem (in_nil _) (.cons (by decide) .nil) hbd)), (lstV z_2 4 5 r_7.length), 5, (by cases z_2 <;> rfl), rfl, ?_⟩
   refine un1 (v := (.c (.ref 0 5 0 4))) rfl <| un <| a2n (h' := upd _ 0 (some (.cells 5 [[cI q_.Now, cI q_.Next, .ro false 7 (q_.Tasks.map e_TJJob), .ro false 7 (q_.Smalls.map e_TJJob), lstC z_2 4 5 r_7.length]]))) (n' := 5) rfl rfl hcs <| dnil ?_
   exact Sv.weak (wcn [0, 2] rfl (.cf rfl rfl (.cr rfl rfl rfl (.cr rfl rfl rfl .nil))) (.box (by decide) rfl (blkAs_cells (.sm rfl (.sm rfl (.sm rfl (.sm rfl (.sm rfl .nil)))))) (.box (by decide) rfl (blkAs_cells (.sm rfl (.sm rfl (.sm rfl (.sm rfl (.cons (lstC_ro (es := List.map e_TJTimer r_7) rfl (List.length_map e_TJTimer).symm (map_nil_of hz_2) (fun b x hx => not_in (bs := [0, 2]) rfl b (((.cons (by decide) (.cons (by decide) .nil)) : HLt _ _) b x hx)) (fr_map fun _ => rfl)) .nil)))))) .nil))) (Z26 h)
abbrev Z4n (q_ : TJLoop) (a_ : TJAsk) (F_ : (List TJTimer) → Int → Option (TJLoop × Int × Int)) (o : (TJLoop × Int × Int)) (R_ : St → Prop) : Prop := ∀ (left : (List TJTimer)) (v144 : Int) (zleft : Bool) (_ : zleft = true → left = []), F_ left v144 = some o → ∀ s, Weak 0 s ⟨(ue [(144, (I v144)), (143, (I (q_.Timers.length : Int))), (142, (.c (.ro false 5 (q_.Timers.map e_TJTimer)))), (11, (lstV zleft 3 5 left.length)), (7, (.c (.fn (.func 44) [] []))), (4, (.c (.ref 2 5 0 0))), (3, (.c (.ref 1 7 0 0))), (2, (.c (.ref 0 5 0 0)))]), (upd (upd (upd (upd e0 0 (some (.cells 5 [[cI q_.Now, cI q_.Next, .ro false 7 (q_.Tasks.map e_TJJob), .ro false 7 (q_.Smalls.map e_TJJob), .ro false 5 (q_.Timers.map e_TJTimer)]]))) 1 (some (.cells 7 [(e_TJAsk a_)]))) 2 (some (.cells 5 [[cI 0, cI 0, .ro true 7 [], .ro true 7 [], .ro true 5 []]]))) 3 (lstB zleft 5 (left.map e_TJTimer))), 4⟩ → R_ s
abbrev Z4o (q_ : TJLoop) (F_ : (List TJTimer) → Option (TJLoop × Int × Int)) (o : (TJLoop × Int × Int)) (R_ : St → Prop) : Prop := ∀ (left1 : (List TJTimer)) (zleft1 : Bool) (_ : zleft1 = true → left1 = []), F_ left1 = some o → ∀ s, Weak 0 s ⟨(ue [(11, (lstV zleft1 2 5 left1.length)), (7, (.c (.fn (.func 44) [] []))), (4, (.c (.ref 1 5 0 0))), (2, (.c (.ref 0 5 0 0)))]), (upd (upd (upd e0 0 (some (.cells 5 [[cI q_.Now, cI q_.Next, .ro false 7 (q_.Tasks.map e_TJJob), .ro false 7 (q_.Smalls.map e_TJJob), .ro false 5 (q_.Timers.map e_TJTimer)]]))) 1 (some (.cells 5 [[cI 0, cI 0, .ro true 7 [], .ro true 7 [], .ro true 5 []]]))) 2 (lstB zleft1 5 (left1.map e_TJTimer))), 3⟩ → R_ s
noncomputable def Z27 (v144 : Int) (q_ : TJLoop) (a_ : TJAsk) (self : (List TJTimer) → Int → Option (TJLoop × Int × Int)) (K1_ : (List TJTimer) → Option (TJLoop × Int × Int)) (left2 : (List TJTimer)) : Option (TJLoop × Int × Int) :=
 self left2 (wi (v144 + 1))
theorem Z4p {Γ : Glob} {Q : AExit → St → Prop} {v144 : Int} {q_ : TJLoop} {a_ : TJAsk} {self : (List TJTimer) → Int → Option (TJLoop × Int × Int)} {K1_ : (List TJTimer) → Option (TJLoop × Int × Int)} {left2 : (List TJTimer)} {zleft2 : Bool} (hzleft2 : zleft2 = true → left2 = []) {o : (TJLoop × Int × Int)} (h : Z27 v144 q_ a_ self K1_ left2 = some o)
  (hself : Z4n q_ a_ self o (Q .normal))
  (hK1 : Z4o q_ K1_ o (Q (.exit 1)))
  (hr : ∀ s, Ends a11.results 0 (Z12 o) .ret s → Q .ret s) :
  Sv Try.prog Γ 0 a11_c3 Q ⟨(ue [(144, (I v144)), (143, (I (q_.Timers.length : Int))), (142, (.c (.ro false 5 (q_.Timers.map e_TJTimer)))), (11, (lstV zleft2 3 5 left2.length)), (7, (.c (.fn (.func 44) [] []))), (4, (.c (.ref 2 5 0 0))), (3, (.c (.ref 1 7 0 0))), (2, (.c (.ref 0 5 0 0)))]), (upd (upd (upd (upd e0 0 (some (.cells 5 [[cI q_.Now, cI q_.Next, .ro false 7 (q_.Tasks.map e_TJJob), .ro false 7 (q_.Smalls.map e_TJJob), .ro false 5 (q_.Timers.map e_TJTimer)]]))) 1 (some (.cells 7 [(e_TJAsk a_)]))) 2 (some (.cells 5 [[cI 0, cI 0, .ro true 7 [], .ro true 7 [], .ro true 5 []]]))) 3 (lstB zleft2 5 (left2.map e_TJTimer))), 4⟩ := by
 unfold Z27 at h
 refine srg <| un1 (v := (I (wi (v144 + 1)))) rfl <| un1 rfl <| dnil ?_
 exact hself left2 (wi (v144 + 1)) zleft2 hzleft2 h _ (wcn [0, 1, 2, 3] rfl (.cf rfl rfl (.cf rfl rfl (.cf rfl rfl (.cons rfl (.c (lsr rfl rfl)) (.cf rfl rfl (.cr rfl rfl rfl (.cr rfl rfl rfl (.cr rfl rfl rfl .nil)))))))) (.row (by decide) rfl (fr_map fun _ => rfl) (.box (by decide) rfl (blkAs_cells (.sm rfl (.sm rfl (.sm rfl (.sm rfl (.sm rfl .nil)))))) (.box (by decide) rfl (blkAs_cells (.sm rfl (.sm rfl (.sm rfl (.sm rfl (.sm rfl (.sm rfl (.sm rfl .nil)))))))) (.box (by decide) rfl (blkAs_cells (.sm rfl (.sm rfl (.sm rfl (.sm rfl (.sm rfl .nil)))))) .nil)))))
abbrev Z4q (q_ : TJLoop) (a_ : TJAsk) (F_ : Nat → (List TJTimer) → Int → Option (TJLoop × Int × Int)) (o : (TJLoop × Int × Int)) : Nat → St → Prop := fun k s => ∃ (left : (List TJTimer)), ∃ (v144 : Int), ∃ (zleft : Bool), (zleft = true → left = []) ∧ F_ k left v144 = some o ∧ s = ⟨(ue [(144, (I v144)), (143, (I (q_.Timers.length : Int))), (142, (.c (.ro false 5 (q_.Timers.map e_TJTimer)))), (11, (lstV zleft 3 5 left.length)), (7, (.c (.fn (.func 44) [] []))), (4, (.c (.ref 2 5 0 0))), (3, (.c (.ref 1 7 0 0))), (2, (.c (.ref 0 5 0 0)))]), (upd (upd (upd (upd e0 0 (some (.cells 5 [[cI q_.Now, cI q_.Next, .ro false 7 (q_.Tasks.map e_TJJob), .ro false 7 (q_.Smalls.map e_TJJob), .ro false 5 (q_.Timers.map e_TJTimer)]]))) 1 (some (.cells 7 [(e_TJAsk a_)]))) 2 (some (.cells 5 [[cI 0, cI 0, .ro true 7 [], .ro true 7 [], .ro true 5 []]]))) 3 (lstB zleft 5 (left.map e_TJTimer))), 4⟩
noncomputable def Zh (q_ : TJLoop) (a_ : TJAsk) (K1_ : (List TJTimer) → Option (TJLoop × Int × Int)) : Nat → (List TJTimer) → Int → Option (TJLoop × Int × Int)
 | 0, _, _ => none
 | k + 1, left, v144 =>
  if decide (v144 < (q_.Timers.length : Int)) then
   (at? q_.Timers v144).bind fun x_ =>
   if (!decide (x_.ID = a_.N)) then
    (app? 48 left [x_]).bind fun r_8 =>
    Z27 v144 q_ a_ (Zh q_ a_ K1_ k) K1_ r_8
   else
    Z27 v144 q_ a_ (Zh q_ a_ K1_ k) K1_ left
  else
   K1_ left
theorem Z7k {Γ : Glob} {Q : AExit → St → Prop} {q_ : TJLoop} {a_ : TJAsk} {K1_ : (List TJTimer) → Option (TJLoop × Int × Int)} {k : Nat} {left : (List TJTimer)} {v144 : Int} {zleft : Bool} (hzleft : zleft = true → left = []) {o : (TJLoop × Int × Int)} (h : Zh q_ a_ K1_ k left v144 = some o)
  (hK1 : Z4o q_ K1_ o (Q (.exit 1)))
  (hr : ∀ s, Ends a11.results 0 (Z12 o) .ret s → Q .ret s) :
  Sv Try.prog Γ 0 (.loop a11_c4) Q ⟨(ue [(144, (I v144)), (143, (I (q_.Timers.length : Int))), (142, (.c (.ro false 5 (q_.Timers.map e_TJTimer)))), (11, (lstV zleft 3 5 left.length)), (7, (.c (.fn (.func 44) [] []))), (4, (.c (.ref 2 5 0 0))), (3, (.c (.ref 1 7 0 0))), (2, (.c (.ref 0 5 0 0)))]), (upd (upd (upd (upd e0 0 (some (.cells 5 [[cI q_.Now, cI q_.Next, .ro false 7 (q_.Tasks.map e_TJJob), .ro false 7 (q_.Smalls.map e_TJJob), .ro false 5 (q_.Timers.map e_TJTimer)]]))) 1 (some (.cells 7 [(e_TJAsk a_)]))) 2 (some (.cells 5 [[cI 0, cI 0, .ro true 7 [], .ro true 7 [], .ro true 5 []]]))) 3 (lstB zleft 5 (left.map e_TJTimer))), 4⟩ := by
 refine Sv.loop (I := Z4q q_ a_ (Zh q_ a_ K1_) o) (fun k s hI => ?_) ⟨left, v144, zleft, hzleft, h, rfl⟩
 clear h
 clear hzleft zleft v144 left
 obtain ⟨left, v144, zleft, hzleft, h, rfl⟩ := hI
 cases k with
 | zero => cases h
 | succ k =>
 rw [Zh] at h
 have hself : Z4n q_ a_ (Zh q_ a_ K1_ k) o (rnd 0 (Z4q q_ a_ (Zh q_ a_ K1_) o) k Q) := fun left v144 zleft hzleft h s hw => ⟨_, k, hw, Nat.lt_succ_self k, left, v144, zleft, hzleft, h, rfl⟩
 refine ssr <| un1 (v := (B (decide (v144 < (q_.Timers.length : Int))))) rfl <| dnil <| Sv.seq ?_
 refine Sv.cnd rfl h (fun h => ?_) fun h => ?_
 ·refine Sv.skip <| Sv.seq <| Sv.block <| ssr ?_
  obtain ⟨x_, hx1, h⟩ := bnd h
  refine un1 (v := (.c (.rop (e_TJTimer x_)))) (s_iaddr (e := e_TJTimer) (xs := q_.Timers) rfl rfl hx1) <| un1 (v := (.agg (e_TJTimer x_))) rfl <| un <| a2v (v := (.c (.ref 4 5 0 0))) (h' := upd _ 4 (some (.cells 5 [[cI 0, cI 0, cI 0, cI 0, .str []]]))) (n' := 5) rfl rfl hcs <| un <| a2n (h' := upd _ 4 (some (.cells 5 [(e_TJTimer x_)]))) (n' := 5) rfl rfl hcs <| dnil <| ssr <| un1 (v := (.c (.ref 4 5 0 0))) rfl <| un1 (v := (I x_.ID)) rfl <| un1 (v := (.c (.ref 1 7 0 2))) rfl <| un1 (v := (I a_.N)) rfl <| un1 (v := (B (!decide (x_.ID = a_.N)))) rfl <| dnil ?_
  refine Sv.cnd rfl h (fun h => ?_) fun h => ?_
  ·refine srg <| un1 rfl <| un1 (v := (.agg (e_TJTimer x_))) rfl <| un <| a2v (v := (lstV false 5 5 [x_].length)) (h' := upd _ 5 (lstB false 5 ([x_].map e_TJTimer))) (n' := 6) rfl rfl hcs ?_
   obtain ⟨r_8, hr6, h⟩ := bnd h
   have hz3 : (zleft && [x_].isEmpty) = true → r_8 = [] := app_nil (z := zleft) (ys := [x_]) hzleft hr6
   refine un <| a2v rfl (s_app (xs := left) (ys := [x_]) (e := e_TJTimer) (z := zleft) (b := 3) rfl rfl hzleft rfl rfl (slc_lst rfl (List.length_map _).symm (map_nil_of hcs)) hr6) hcs <| un1 rfl <| dnil ?_
   exact Sv.weak (wcn [0, 1, 2, 6] rfl (.cf rfl rfl (.cf rfl rfl (.cf rfl rfl (.cons rfl (.c (lsr rfl rfl)) (.cf rfl rfl (.cr rfl rfl rfl (.cr rfl rfl rfl (.cr rfl rfl rfl .nil)))))))) (.row (by decide) rfl (fr_map fun _ => rfl) (.box (by decide) rfl (blkAs_cells (.sm rfl (.sm rfl (.sm rfl (.sm rfl (.sm rfl .nil)))))) (.box (by decide) rfl (blkAs_cells (.sm rfl (.sm rfl (.sm rfl (.sm rfl (.sm rfl (.sm rfl (.sm rfl .nil)))))))) (.box (by decide) rfl (blkAs_cells (.sm rfl (.sm rfl (.sm rfl (.sm rfl (.sm rfl .nil)))))) .nil))))) (Z4p hz3 h hself hK1 hr)
  ·refine Sv.skip ?_
   exact Sv.weak (wcn [0, 1, 2, 3] rfl (.cf rfl rfl (.cf rfl rfl (.cf rfl rfl (.cons rfl (.c (lsr rfl rfl)) (.cf rfl rfl (.cr rfl rfl rfl (.cr rfl rfl rfl (.cr rfl rfl rfl .nil)))))))) (.row (by decide) rfl (fr_map fun _ => rfl) (.box (by decide) rfl (blkAs_cells (.sm rfl (.sm rfl (.sm rfl (.sm rfl (.sm rfl .nil)))))) (.box (by decide) rfl (blkAs_cells (.sm rfl (.sm rfl (.sm rfl (.sm rfl (.sm rfl (.sm rfl (.sm rfl .nil)))))))) (.box (by decide) rfl (blkAs_cells (.sm rfl (.sm rfl (.sm rfl (.sm rfl (.sm rfl .nil)))))) .nil))))) (Z4p hzleft h hself hK1 hr)
 ·refine Sv.exit ?_
  exact hK1 left zleft hzleft h _ (wcn [0, 2, 3] rfl (.cons rfl (.c (lsr rfl rfl)) (.cf rfl rfl (.cr rfl rfl rfl (.cr rfl rfl rfl .nil)))) (.row (by decide) rfl (fr_map fun _ => rfl) (.box (by decide) rfl (blkAs_cells (.sm rfl (.sm rfl (.sm rfl (.sm rfl (.sm rfl .nil)))))) (.box (by decide) rfl (blkAs_cells (.sm rfl (.sm rfl (.sm rfl (.sm rfl (.sm rfl .nil)))))) .nil))))
abbrev Z7l (Γ : Glob) (o : (TJLoop × Int × Int)) : AExit → St → Prop := AThen (Sv Try.prog Γ 0 a11_c2 (Ends a11.results 0 (Z12 o))) (Ends a11.results 0 (Z12 o))
abbrev Z7m (Γ : Glob) (o : (TJLoop × Int × Int)) : AExit → St → Prop := ABlock 0 (Z7l Γ o)
noncomputable def Z13 (a_ : TJAsk) (q_ : TJLoop) (v85 : Bool) : Option (TJLoop × Int × Int) :=
 if v85 then
  if decide (a_.Do = 4) then
   Z1s a_ q_ a_.N
  else
   Z1s a_ q_ 0
 else
  if decide (a_.Do = 5) then
   lim fun kk => Zh q_ a_ (fun (left1 : (List TJTimer)) => 
     if decide ((left1.length : Int) = (q_.Timers.length : Int)) then
      some (((Z0 5).1), (Z0 5).2.1, (Z0 5).2.2)
     else
      some ((⟨q_.Now, q_.Next, q_.Tasks, q_.Smalls, left1⟩ : TJLoop), 0, 0)) kk ([] : List TJTimer) 0
  else
   some (((Z0 3).1), (Z0 3).2.1, (Z0 3).2.2)
theorem Z4r {Γ : Glob} {a_ : TJAsk} {q_ : TJLoop} {v85 : Bool} {o : (TJLoop × Int × Int)} (h : Z13 a_ q_ v85 = some o) :
  Sv Try.prog Γ 0 a11_c0 (Z7m Γ o) ⟨(ue [(85, (B v85)), (18, (I a_.Do)), (9, (I q_.Next)), (8, (.c (.fn (.func 45) [] [.ref 0 5 0 0]))), (7, (.c (.fn (.func 44) [] []))), (4, (.c (.ref 2 5 0 0))), (3, (.c (.ref 1 7 0 0))), (2, (.c (.ref 0 5 0 0)))]), (upd (upd (upd e0 0 (some (.cells 5 [[cI q_.Now, cI q_.Next, .ro false 7 (q_.Tasks.map e_TJJob), .ro false 7 (q_.Smalls.map e_TJJob), .ro false 5 (q_.Timers.map e_TJTimer)]]))) 1 (some (.cells 7 [(e_TJAsk a_)]))) 2 (some (.cells 5 [[cI 0, cI 0, .ro true 7 [], .ro true 7 [], .ro true 5 []]]))), 3⟩ := by
 unfold Z13 at h
 refine Sv.cnd rfl h (fun h => ?_) fun h => ?_
 ·refine ssr <| un1 rfl <| un1 (v := (.c (.ref 0 5 0 0))) rfl <| un1 (v := (I q_.Now)) rfl <| un1 (v := (.c (.ref 1 7 0 2))) rfl <| un1 (v := (I a_.N)) rfl <| un1 (v := (I (wi (q_.Now + a_.N)))) rfl <| un1 (v := (.c (.ref 1 7 0 3))) rfl <| un1 (v := (S a_.Call)) rfl <| un1 (v := (.agg [cI q_.Next, cI (wi (q_.Now + a_.N)), cI 0, cI 0, .str a_.Call])) rfl <| un <| a2v (v := (.c (.ref 3 5 0 0))) (h' := upd _ 3 (some (.cells 5 [[cI 0, cI 0, cI 0, cI 0, .str []]]))) (n' := 4) rfl rfl hcs <| un <| a2n (h' := upd _ 3 (some (.cells 5 [[cI q_.Next, cI (wi (q_.Now + a_.N)), cI 0, cI 0, .str a_.Call]]))) (n' := 4) rfl rfl hcs <| dnil <| Sv.seq <| ssr <| un1 (v := (.c (.ref 1 7 0 0))) rfl <| un1 (v := (I a_.Do)) rfl <| un1 (v := (B (decide (a_.Do = 4)))) rfl <| dnil ?_
  refine Sv.cnd rfl h (fun h => ?_) fun h => ?_
  ·refine srg <| un1 (v := (.c (.ref 1 7 0 2))) rfl <| un1 (v := (I a_.N)) rfl <| un1 (v := (.c (.ref 3 5 0 2))) rfl <| un <| a2n (h' := upd _ 3 (some (.cells 5 [[cI q_.Next, cI (wi (q_.Now + a_.N)), cI a_.N, cI 0, .str a_.Call]]))) (n' := 4) rfl rfl hcs <| dnil ?_
   exact Sv.weak (wcn [0, 1, 2, 3] rfl (.cr rfl rfl rfl (.cf rfl rfl (.cons rfl (.c (fn_as .nil (.cons (.ref rfl (by decide)) .nil))) (.cf rfl rfl (.cr rfl rfl rfl (.cr rfl rfl rfl (.cr rfl rfl rfl .nil))))))) (.box (by decide) rfl (blkAs_cells (.sm rfl (.sm rfl (.sm rfl (.sm rfl (.sm rfl .nil)))))) (.box (by decide) rfl (blkAs_cells (.sm rfl (.sm rfl (.sm rfl (.sm rfl (.sm rfl .nil)))))) (.box (by decide) rfl (blkAs_cells (.sm rfl (.sm rfl (.sm rfl (.sm rfl (.sm rfl (.sm rfl (.sm rfl .nil)))))))) (.box (by decide) rfl (blkAs_cells (.sm rfl (.sm rfl (.sm rfl (.sm rfl (.sm rfl .nil)))))) .nil))))) (Z4m h)
  ·refine Sv.skip ?_
   exact Sv.weak (wcn [0, 1, 2, 3] rfl (.cr rfl rfl rfl (.cf rfl rfl (.cons rfl (.c (fn_as .nil (.cons (.ref rfl (by decide)) .nil))) (.cf rfl rfl (.cr rfl rfl rfl (.cr rfl rfl rfl (.cr rfl rfl rfl .nil))))))) (.box (by decide) rfl (blkAs_cells (.sm rfl (.sm rfl (.sm rfl (.sm rfl (.sm rfl .nil)))))) (.box (by decide) rfl (blkAs_cells (.sm rfl (.sm rfl (.sm rfl (.sm rfl (.sm rfl .nil)))))) (.box (by decide) rfl (blkAs_cells (.sm rfl (.sm rfl (.sm rfl (.sm rfl (.sm rfl (.sm rfl (.sm rfl .nil)))))))) (.box (by decide) rfl (blkAs_cells (.sm rfl (.sm rfl (.sm rfl (.sm rfl (.sm rfl .nil)))))) .nil))))) (Z4m h)
 ·refine ssr <| un1 (v := (B (decide (a_.Do = 5)))) rfl <| un1 rfl <| dnil ?_
  refine Sv.cnd rfl h (fun h => ?_) fun h => ?_
  ·refine ssr <| un1 rfl <| dnil <| Sv.seq <| ssr <| un1 (v := (.c (.ref 0 5 0 4))) rfl <| un1 (v := (.c (.ro false 5 (q_.Timers.map e_TJTimer)))) rfl <| un1 (v := (I (q_.Timers.length : Int))) (s_len (e := e_TJTimer) (xs := q_.Timers) rfl) <| un1 rfl <| dnil <| Sv.block ?_
   obtain ⟨kk, h⟩ := lim_some h
   refine Sv.weak (wcn [0, 1, 2, 1000] rfl (.cf rfl rfl (.cf rfl rfl (.cf rfl rfl (.cons rfl (.c (.same rfl)) (.cf rfl rfl (.cr rfl rfl rfl (.cr rfl rfl rfl (.cr rfl rfl rfl .nil)))))))) (.non (by decide) (.box (by decide) rfl (blkAs_cells (.sm rfl (.sm rfl (.sm rfl (.sm rfl (.sm rfl .nil)))))) (.box (by decide) rfl (blkAs_cells (.sm rfl (.sm rfl (.sm rfl (.sm rfl (.sm rfl (.sm rfl (.sm rfl .nil)))))))) (.box (by decide) rfl (blkAs_cells (.sm rfl (.sm rfl (.sm rfl (.sm rfl (.sm rfl .nil)))))) .nil))))) (Z7k (fun _ => rfl) h ?_ (fun s hs => hs))
   ·intro left1 zleft1 hzleft1 h _ hw1
    refine Sv.weak hw1 <| Sv.seq <| ssr <| un1 rfl <| un1 (v := (I (left1.length : Int))) (s_lenL rfl (len_nil_of hzleft1)) <| un1 (v := (.c (.ref 0 5 0 4))) rfl <| un1 (v := (.c (.ro false 5 (q_.Timers.map e_TJTimer)))) rfl <| un1 (v := (I (q_.Timers.length : Int))) (s_len (e := e_TJTimer) (xs := q_.Timers) rfl) <| un1 (v := (B (decide ((left1.length : Int) = (q_.Timers.length : Int))))) rfl <| dnil ?_
    refine Sv.cnd rfl h (fun h => ?_) fun h => ?_
    ·refine ssr <| un1 rfl <| un <| acv_gen (bs := []) («as» := [(I 5)]) (h2 := _) (h1 := e0) rfl (by kernel_rfl) (Z1b (Γ := Γ) 5) rfl (.cons (avAs_free rfl) .nil) (hsub_refl _) (.nil _) (fun _ => rfl) (by decide) (by decide) (.cons (avAs_free rfl) .nil) .nil ?_
     rintro _ _ _ hn ⟨rfl, rfl, rfl⟩
     refine ⟨.inl rfl, (rem [] _), fun hbd => (m3_rem (in_nil _) (.nil) hbd), (.tup [(.agg [cI (((Z0 5).1).Now), cI (((Z0 5).1).Next), .ro false 7 ((((Z0 5).1).Tasks).map e_TJJob), .ro false 7 ((((Z0 5).1).Smalls).map e_TJJob), .ro false 5 ((((Z0 5).1).Timers).map e_TJTimer)]), (I ((Z0 5).2.1)), (I ((Z0 5).2.2))]), 3, rfl, rfl, ?_⟩
     refine un1 (v := (.agg [cI (((Z0 5).1).Now), cI (((Z0 5).1).Next), .ro false 7 ((((Z0 5).1).Tasks).map e_TJJob), .ro false 7 ((((Z0 5).1).Smalls).map e_TJJob), .ro false 5 ((((Z0 5).1).Timers).map e_TJTimer)])) rfl <| un1 (v := (I ((Z0 5).2.1))) rfl <| un1 (v := (I ((Z0 5).2.2))) rfl <| un <| a2n (h' := upd _ 1 (some (.cells 5 [[cI (((Z0 5).1).Now), cI (((Z0 5).1).Next), .ro false 7 ((((Z0 5).1).Tasks).map e_TJJob), .ro false 7 ((((Z0 5).1).Smalls).map e_TJJob), .ro false 5 ((((Z0 5).1).Timers).map e_TJTimer)]]))) (n' := 3) rfl rfl hcs <| un1 rfl <| un1 rfl <| dnil <| Sv.ret ?_
     exact rt0 h rfl rfl ⟨rfl, rfl, rfl⟩
    ·refine Sv.skip <| ssr <| un1 rfl <| un1 (v := (.c (.ref 0 5 0 4))) rfl <| un <| a2n (h' := upd _ 0 (some (.cells 5 [[cI q_.Now, cI q_.Next, .ro false 7 (q_.Tasks.map e_TJJob), .ro false 7 (q_.Smalls.map e_TJJob), lstC zleft1 2 5 left1.length]]))) (n' := 3) rfl rfl hcs <| dnil <| ssr <| un1 (v := (.agg [cI q_.Now, cI q_.Next, .ro false 7 (q_.Tasks.map e_TJJob), .ro false 7 (q_.Smalls.map e_TJJob), lstC zleft1 2 5 left1.length])) rfl <| un <| a2n (h' := upd _ 1 (some (.cells 5 [[cI q_.Now, cI q_.Next, .ro false 7 (q_.Tasks.map e_TJJob), .ro false 7 (q_.Smalls.map e_TJJob), lstC zleft1 2 5 left1.length]]))) (n' := 3) rfl rfl hcs <| un1 rfl <| un1 rfl <| dnil <| Sv.ret ?_
     replace h := Option.some.inj h
     subst h
     exact ⟨_, .refl _, _, rfl, ⟨upd e0 0 (some (.tup [(.agg [cI q_.Now, cI q_.Next, .ro false 7 (q_.Tasks.map e_TJJob), .ro false 7 (q_.Smalls.map e_TJJob), .ro false 5 (left1.map e_TJTimer)]), (I 0), (I 0)])), e0, 0⟩, (.tup [(.agg [cI q_.Now, cI q_.Next, .ro false 7 (q_.Tasks.map e_TJJob), .ro false 7 (q_.Smalls.map e_TJJob), .ro false 5 (left1.map e_TJTimer)]), (I 0), (I 0)]), weak_canon [] rfl ndl nll nlz (.cons rfl (avAs_tup (.cons (avAs_agg (.sm rfl (.sm rfl (.sm rfl (.sm rfl (.cons (lstC_ro (es := List.map e_TJTimer left1) rfl (List.length_map e_TJTimer).symm (map_nil_of hzleft1) (fun b x hx => not_in (bs := []) rfl b (((.nil) : HLt _ _) b x hx)) (fr_map fun _ => rfl)) .nil)))))) (.cons (avAs_free rfl) (.cons (avAs_free rfl) .nil)))) .nil) .nil, rfl, rfl, rfl, rfl⟩
  ·refine ssr <| un1 rfl <| un <| acv_gen (bs := []) («as» := [(I 3)]) (h2 := _) (h1 := e0) rfl (by kernel_rfl) (Z1b (Γ := Γ) 3) rfl (.cons (avAs_free rfl) .nil) (hsub_refl _) (.nil _) (fun _ => rfl) (by decide) (by decide) (.cons (avAs_free rfl) .nil) .nil ?_
   rintro _ _ _ hn ⟨rfl, rfl, rfl⟩
   refine ⟨.inl rfl, (rem [] _), fun hbd => (m3_rem (in_nil _) (.nil) hbd), (.tup [(.agg [cI (((Z0 3).1).Now), cI (((Z0 3).1).Next), .ro false 7 ((((Z0 3).1).Tasks).map e_TJJob), .ro false 7 ((((Z0 3).1).Smalls).map e_TJJob), .ro false 5 ((((Z0 3).1).Timers).map e_TJTimer)]), (I ((Z0 3).2.1)), (I ((Z0 3).2.2))]), 3, rfl, rfl, ?_⟩
   refine un1 (v := (.agg [cI (((Z0 3).1).Now), cI (((Z0 3).1).Next), .ro false 7 ((((Z0 3).1).Tasks).map e_TJJob), .ro false 7 ((((Z0 3).1).Smalls).map e_TJJob), .ro false 5 ((((Z0 3).1).Timers).map e_TJTimer)])) rfl <| un1 (v := (I ((Z0 3).2.1))) rfl <| un1 (v := (I ((Z0 3).2.2))) rfl <| un <| a2n (h' := upd _ 2 (some (.cells 5 [[cI (((Z0 3).1).Now), cI (((Z0 3).1).Next), .ro false 7 ((((Z0 3).1).Tasks).map e_TJJob), .ro false 7 ((((Z0 3).1).Smalls).map e_TJJob), .ro false 5 ((((Z0 3).1).Timers).map e_TJTimer)]]))) (n' := 3) rfl rfl hcs <| un1 rfl <| un1 rfl <| dnil <| Sv.ret ?_
   exact rt0 h rfl rfl ⟨rfl, rfl, rfl⟩
/-- clerestory/clerestoryref4.LoopAsked -/
noncomputable def Z8 (q_ : TJLoop) (a_ : TJAsk) : Option (TJLoop × Int × Int) :=
 if decide (a_.Do = 1) then
  if (!(Z3 a_.Source 1 4)) then
   some (((Z0 1).1), (Z0 1).2.1, (Z0 1).2.2)
  else
   letIn (Z6 (q_.Tasks.length : Int) q_.Now q_.Next q_.Tasks q_.Smalls q_.Timers) fun r_ : Bool =>
   if (!r_) then
    some (((Z0 2).1), (Z0 2).2.1, (Z0 2).2.2)
   else
    (Zz q_.Tasks).bind fun r_1 =>
    (app? 72 r_1 [(⟨q_.Next, a_.Source, false, a_.Call, a_.Arg⟩ : TJJob)]).bind fun r_2 =>
    Z25 q_ r_2 q_.Smalls q_.Timers
 else
  if decide (a_.Do = 2) then
   letIn (Z6 (q_.Smalls.length : Int) q_.Now q_.Next q_.Tasks q_.Smalls q_.Timers) fun r_3 : Bool =>
   if (!r_3) then
    some (((Z0 2).1), (Z0 2).2.1, (Z0 2).2.2)
   else
    (Zz q_.Smalls).bind fun r_4 =>
    (app? 72 r_4 [(⟨q_.Next, 0, true, a_.Call, a_.Arg⟩ : TJJob)]).bind fun r_5 =>
    Z25 q_ q_.Tasks r_5 q_.Timers
  else
   if decide (a_.Do = 3) then
    Z13 a_ q_ (decide (a_.Do = 3))
   else
    Z13 a_ q_ (decide (a_.Do = 4))
theorem Z7n {Γ : Glob} {q_ : TJLoop} {a_ : TJAsk} {r : (TJLoop × Int × Int)} (h : Z8 q_ a_ = some r) : CPure Try.prog Γ 11 [(.agg [cI q_.Now, cI q_.Next, .ro false 7 (q_.Tasks.map e_TJJob), .ro false 7 (q_.Smalls.map e_TJJob), .ro false 5 (q_.Timers.map e_TJTimer)]), (.agg (e_TJAsk a_))] (.tup [(.agg [cI r.1.Now, cI r.1.Next, .ro false 7 (r.1.Tasks.map e_TJJob), .ro false 7 (r.1.Smalls.map e_TJJob), .ro false 5 (r.1.Timers.map e_TJTimer)]), (I r.2.1), (I r.2.2)]) := by
 refine acalls_of_sv hmix c11 (R := Z12 r) ?_
 unfold Z8 at h
 refine ssr <| un <| a2v (v := (.c (.ref 0 5 0 0))) (h' := upd _ 0 (some (.cells 5 [[cI q_.Now, cI q_.Next, .ro false 7 (q_.Tasks.map e_TJJob), .ro false 7 (q_.Smalls.map e_TJJob), .ro false 5 (q_.Timers.map e_TJTimer)]]))) (n' := 1) rfl rfl hcs <| un <| a2v (v := (.c (.ref 1 7 0 0))) (h' := upd _ 1 (some (.cells 7 [(e_TJAsk a_)]))) (n' := 2) rfl rfl hcs <| un <| a2v (v := (.c (.ref 2 5 0 0))) (h' := upd _ 2 (some (.cells 5 [[cI 0, cI 0, .ro true 7 [], .ro true 7 [], .ro true 5 []]]))) (n' := 3) rfl rfl hcs <| un1 rfl <| un1 rfl <| dnil <| ssr <| un1 rfl <| dnil <| ssr <| un1 (v := (.c (.fn (.func 45) [] [.ref 0 5 0 0]))) rfl <| un1 rfl <| dnil <| ssr <| un1 (v := (.c (.ref 0 5 0 1))) rfl <| un1 (v := (I q_.Next)) rfl <| un1 rfl <| dnil <| Sv.seq <| ssr <| un1 (v := (.c (.ref 1 7 0 0))) rfl <| un1 (v := (I a_.Do)) rfl <| dnil <| Sv.block <| ssr <| un1 (v := (B (decide (a_.Do = 1)))) rfl <| un1 rfl <| dnil ?_
 refine Sv.cnd rfl h (fun h => ?_) fun h => ?_
 ·refine Sv.seq <| ssr <| un1 (v := (.c (.ref 1 7 0 1))) rfl <| un1 (v := (I a_.Source)) rfl <| un <| ac_pure (Z2m (Γ := Γ) a_.Source 1 4) rfl rfl rfl <| un1 (v := (B (!(Z3 a_.Source 1 4)))) rfl <| dnil ?_
  refine Sv.cnd rfl h (fun h => ?_) fun h => ?_
  ·refine ssr <| un1 rfl <| un <| acv_gen (bs := []) («as» := [(I 1)]) (h2 := _) (h1 := e0) rfl (by kernel_rfl) (Z1b (Γ := Γ) 1) rfl (.cons (avAs_free rfl) .nil) (hsub_refl _) (.nil _) (fun _ => rfl) (by decide) (by decide) (.cons (avAs_free rfl) .nil) .nil ?_
   rintro _ _ _ hn ⟨rfl, rfl, rfl⟩
   refine ⟨.inl rfl, (rem [] _), fun hbd => (m3_rem (in_nil _) (.nil) hbd), (.tup [(.agg [cI (((Z0 1).1).Now), cI (((Z0 1).1).Next), .ro false 7 ((((Z0 1).1).Tasks).map e_TJJob), .ro false 7 ((((Z0 1).1).Smalls).map e_TJJob), .ro false 5 ((((Z0 1).1).Timers).map e_TJTimer)]), (I ((Z0 1).2.1)), (I ((Z0 1).2.2))]), 3, rfl, rfl, ?_⟩
   refine un1 (v := (.agg [cI (((Z0 1).1).Now), cI (((Z0 1).1).Next), .ro false 7 ((((Z0 1).1).Tasks).map e_TJJob), .ro false 7 ((((Z0 1).1).Smalls).map e_TJJob), .ro false 5 ((((Z0 1).1).Timers).map e_TJTimer)])) rfl <| un1 (v := (I ((Z0 1).2.1))) rfl <| un1 (v := (I ((Z0 1).2.2))) rfl <| un <| a2n (h' := upd _ 2 (some (.cells 5 [[cI (((Z0 1).1).Now), cI (((Z0 1).1).Next), .ro false 7 ((((Z0 1).1).Tasks).map e_TJJob), .ro false 7 ((((Z0 1).1).Smalls).map e_TJJob), .ro false 5 ((((Z0 1).1).Timers).map e_TJTimer)]]))) (n' := 3) rfl rfl hcs <| un1 rfl <| un1 rfl <| dnil <| Sv.ret ?_
   exact rt0 h rfl rfl ⟨rfl, rfl, rfl⟩
  ·refine Sv.skip <| Sv.seq <| ssr <| un1 rfl <| un1 (v := (.c (.ref 0 5 0 2))) rfl <| un1 (v := (.c (.ro false 7 (q_.Tasks.map e_TJJob)))) rfl <| un1 (v := (I (q_.Tasks.length : Int))) (s_len (e := e_TJJob) (xs := q_.Tasks) rfl) ?_
   obtain ⟨r_, hr_⟩ : ∃ r_ : Bool, r_ = (Z6 (q_.Tasks.length : Int) q_.Now q_.Next q_.Tasks q_.Smalls q_.Timers) := ⟨_, rfl⟩
   replace h := letAt hr_ h
   have pr_ := (Z32 (Γ := Γ) (q_.Tasks.length : Int) q_.Now q_.Next q_.Tasks q_.Smalls q_.Timers)
   rw [← hr_] at pr_
   refine un <| acv_gen (bs := []) («as» := [(I (q_.Tasks.length : Int)), (.c (.rop [cI q_.Now, cI q_.Next, .ro false 7 (q_.Tasks.map e_TJJob), .ro false 7 (q_.Smalls.map e_TJJob), .ro false 5 (q_.Timers.map e_TJTimer)]))]) (h2 := (upd _ 0 none)) (h1 := e0) rfl (by kernel_rfl) pr_ rfl (.cons (avAs_free rfl) (.cons (.c (ref_ro rfl (gone rfl) (.sm rfl (.sm rfl (.sm rfl (.sm rfl (.sm rfl .nil))))) rfl)) .nil)) (hsub_none (hsub_refl _)) (.nil _) (fun _ => rfl) (by decide) (by decide) (.cons (avAs_free rfl) (.cons (avAs_free rfl) .nil)) .nil ?_
   rintro _ _ _ hn ⟨rfl, rfl, rfl⟩
   refine ⟨.inr ⟨rfl, .nil⟩, (rem [] _), fun hbd => (m3_rem (in_nil _) (.nil) hbd), (B r_), 3, rfl, rfl, ?_⟩
   refine un1 (v := (B (!r_))) rfl <| dnil ?_
   refine Sv.cnd rfl h (fun h => ?_) fun h => ?_
   ·refine ssr <| un1 rfl <| un <| acv_gen (bs := []) («as» := [(I 2)]) (h2 := _) (h1 := e0) rfl (by kernel_rfl) (Z1b (Γ := Γ) 2) rfl (.cons (avAs_free rfl) .nil) (hsub_refl _) (.nil _) (fun _ => rfl) (by decide) (by decide) (.cons (avAs_free rfl) .nil) .nil ?_
    rintro _ _ _ hn ⟨rfl, rfl, rfl⟩
    refine ⟨.inl rfl, (rem [] _), fun hbd => (m3_rem (in_nil _) (.nil) hbd), (.tup [(.agg [cI (((Z0 2).1).Now), cI (((Z0 2).1).Next), .ro false 7 ((((Z0 2).1).Tasks).map e_TJJob), .ro false 7 ((((Z0 2).1).Smalls).map e_TJJob), .ro false 5 ((((Z0 2).1).Timers).map e_TJTimer)]), (I ((Z0 2).2.1)), (I ((Z0 2).2.2))]), 3, rfl, rfl, ?_⟩
    refine un1 (v := (.agg [cI (((Z0 2).1).Now), cI (((Z0 2).1).Next), .ro false 7 ((((Z0 2).1).Tasks).map e_TJJob), .ro false 7 ((((Z0 2).1).Smalls).map e_TJJob), .ro false 5 ((((Z0 2).1).Timers).map e_TJTimer)])) rfl <| un1 (v := (I ((Z0 2).2.1))) rfl <| un1 (v := (I ((Z0 2).2.2))) rfl <| un <| a2n (h' := upd _ 2 (some (.cells 5 [[cI (((Z0 2).1).Now), cI (((Z0 2).1).Next), .ro false 7 ((((Z0 2).1).Tasks).map e_TJJob), .ro false 7 ((((Z0 2).1).Smalls).map e_TJJob), .ro false 5 ((((Z0 2).1).Timers).map e_TJTimer)]]))) (n' := 3) rfl rfl hcs <| un1 rfl <| un1 rfl <| dnil <| Sv.ret ?_
    exact rt0 h rfl rfl ⟨rfl, rfl, rfl⟩
   ·refine Sv.skip <| Sv.drawn2 <| un1 (v := (.c (.ref 0 5 0 2))) rfl <| un1 (v := (.c (.ro false 7 (q_.Tasks.map e_TJJob)))) rfl <| un1 rfl <| un1 (v := (.c (.ref 1 7 0 1))) rfl <| un1 (v := (I a_.Source)) rfl <| un1 (v := (.c (.ref 1 7 0 3))) rfl <| un1 (v := (S a_.Call)) rfl <| un1 (v := (.c (.ref 1 7 0 4))) rfl <| un1 (v := (.agg (e_TJVal a_.Arg))) rfl <| un1 (v := (.agg [cI q_.Next, cI a_.Source, cB false, .str a_.Call, cI a_.Arg.Kind, cI a_.Arg.N, .str a_.Arg.S])) rfl <| dnil ?_
    refine ⟨?_, ?_⟩
    ·obtain ⟨r_1, hr1, h⟩ := bnd h
     refine un <| ac_gen (bs := []) («as» := [(.c (.ro false 7 (q_.Tasks.map e_TJJob)))]) (h2 := _) (h1 := e0) (Z1i hr1) rfl (.cons (avAs_free rfl) .nil) (hsub_refl _) (.nil _) (fun _ => rfl) (by decide) (by decide) (.cons (avAs_free rfl) .nil) .nil ?_
     rintro _ _ _ hn ⟨z_, hz_, rfl, rfl, rfl⟩
     refine ⟨.inl rfl, (upd (rem [] _) 3 (lstB z_ 7 (r_1.map e_TJJob))), fun hbd => (m3_cons (m3_row rfl (fr_map fun _ => rfl)) (m3_rem (in_nil _) (.cons (by decide) .nil) hbd)), (lstV z_ 3 7 r_1.length), 4, (by cases z_ <;> rfl), rfl, ?_⟩
     refine un <| a2v (v := (lstV false 4 7 [(⟨q_.Next, a_.Source, false, a_.Call, a_.Arg⟩ : TJJob)].length)) (h' := upd _ 4 (lstB false 7 ([(⟨q_.Next, a_.Source, false, a_.Call, a_.Arg⟩ : TJJob)].map e_TJJob))) (n' := 5) rfl rfl (fun _ => rfl) ?_
     obtain ⟨r_2, hr2, h⟩ := bnd h
     have hz1 : (z_ && [(⟨q_.Next, a_.Source, false, a_.Call, a_.Arg⟩ : TJJob)].isEmpty) = true → r_2 = [] := app_nil (z := z_) (ys := [(⟨q_.Next, a_.Source, false, a_.Call, a_.Arg⟩ : TJJob)]) hz_ hr2
     refine un <| a2v rfl (s_app (xs := r_1) (ys := [(⟨q_.Next, a_.Source, false, a_.Call, a_.Arg⟩ : TJJob)]) (e := e_TJJob) (z := z_) (b := 3) rfl rfl hz_ rfl rfl (slc_lst rfl (List.length_map _).symm (map_nil_of hcs)) hr2) hcs <| un1 (v := (.c (.ref 0 5 0 2))) rfl <| un <| a2n (h' := upd _ 0 (some (.cells 5 [[cI q_.Now, cI q_.Next, lstC (z_ && [(⟨q_.Next, a_.Source, false, a_.Call, a_.Arg⟩ : TJJob)].isEmpty) 5 7 r_2.length, .ro false 7 (q_.Smalls.map e_TJJob), .ro false 5 (q_.Timers.map e_TJTimer)]]))) (n' := 6) rfl rfl hcs <| dnil ?_
     exact Sv.weak (wcn [0, 2] rfl (.cf rfl rfl (.cr rfl rfl rfl (.cr rfl rfl rfl .nil))) (.box (by decide) rfl (blkAs_cells (.sm rfl (.sm rfl (.sm rfl (.sm rfl (.sm rfl .nil)))))) (.box (by decide) rfl (blkAs_cells (.sm rfl (.sm rfl (.cons (lstC_ro (es := List.map e_TJJob r_2) rfl (List.length_map e_TJJob).symm (map_nil_of hz1) (fun b x hx => not_in (bs := [0, 2]) rfl b (((.cons (by decide) (.cons (by decide) .nil)) : HLt _ _) b x hx)) (fr_map fun _ => rfl)) (.sm rfl (.sm rfl .nil)))))) .nil))) (Z26 h)
    ·refine un <| a2v (v := (lstV false 3 7 [(⟨q_.Next, a_.Source, false, a_.Call, a_.Arg⟩ : TJJob)].length)) (h' := upd _ 3 (lstB false 7 ([(⟨q_.Next, a_.Source, false, a_.Call, a_.Arg⟩ : TJJob)].map e_TJJob))) (n' := 4) rfl rfl (fun _ => rfl) ?_
     obtain ⟨r_1, hr1, h⟩ := bnd h
     refine un <| ac_gen (bs := []) («as» := [(.c (.ro false 7 (q_.Tasks.map e_TJJob)))]) (h2 := _) (h1 := e0) (Z1i hr1) rfl (.cons (avAs_free rfl) .nil) (hsub_refl _) (.nil _) (fun _ => rfl) (by decide) (by decide) (.cons (avAs_free rfl) .nil) .nil ?_
     rintro _ _ _ hn ⟨z_, hz_, rfl, rfl, rfl⟩
     refine ⟨.inl rfl, (upd (rem [] _) 4 (lstB z_ 7 (r_1.map e_TJJob))), fun hbd => (m3_cons (m3_row rfl (fr_map fun _ => rfl)) (m3_rem (in_nil _) (.cons (by decide) .nil) hbd)), (lstV z_ 4 7 r_1.length), 5, (by cases z_ <;> rfl), rfl, ?_⟩
     obtain ⟨r_2, hr2, h⟩ := bnd h
     have hz1 : (z_ && [(⟨q_.Next, a_.Source, false, a_.Call, a_.Arg⟩ : TJJob)].isEmpty) = true → r_2 = [] := app_nil (z := z_) (ys := [(⟨q_.Next, a_.Source, false, a_.Call, a_.Arg⟩ : TJJob)]) hz_ hr2
     refine un <| a2v rfl (s_app (xs := r_1) (ys := [(⟨q_.Next, a_.Source, false, a_.Call, a_.Arg⟩ : TJJob)]) (e := e_TJJob) (z := z_) (b := 4) rfl rfl hz_ rfl rfl (slc_lst rfl (List.length_map _).symm (map_nil_of hcs)) hr2) hcs <| un1 (v := (.c (.ref 0 5 0 2))) rfl <| un <| a2n (h' := upd _ 0 (some (.cells 5 [[cI q_.Now, cI q_.Next, lstC (z_ && [(⟨q_.Next, a_.Source, false, a_.Call, a_.Arg⟩ : TJJob)].isEmpty) 5 7 r_2.length, .ro false 7 (q_.Smalls.map e_TJJob), .ro false 5 (q_.Timers.map e_TJTimer)]]))) (n' := 6) rfl rfl hcs <| dnil ?_
     exact Sv.weak (wcn [0, 2] rfl (.cf rfl rfl (.cr rfl rfl rfl (.cr rfl rfl rfl .nil))) (.box (by decide) rfl (blkAs_cells (.sm rfl (.sm rfl (.sm rfl (.sm rfl (.sm rfl .nil)))))) (.box (by decide) rfl (blkAs_cells (.sm rfl (.sm rfl (.cons (lstC_ro (es := List.map e_TJJob r_2) rfl (List.length_map e_TJJob).symm (map_nil_of hz1) (fun b x hx => not_in (bs := [0, 2]) rfl b (((.cons (by decide) (.cons (by decide) .nil)) : HLt _ _) b x hx)) (fr_map fun _ => rfl)) (.sm rfl (.sm rfl .nil)))))) .nil))) (Z26 h)
 ·refine ssr <| un1 (v := (B (decide (a_.Do = 2)))) rfl <| un1 rfl <| dnil ?_
  refine Sv.cnd rfl h (fun h => ?_) fun h => ?_
  ·refine Sv.seq <| ssr <| un1 rfl <| un1 (v := (.c (.ref 0 5 0 3))) rfl <| un1 (v := (.c (.ro false 7 (q_.Smalls.map e_TJJob)))) rfl <| un1 (v := (I (q_.Smalls.length : Int))) (s_len (e := e_TJJob) (xs := q_.Smalls) rfl) ?_
   obtain ⟨r_3, hr_3⟩ : ∃ r_3 : Bool, r_3 = (Z6 (q_.Smalls.length : Int) q_.Now q_.Next q_.Tasks q_.Smalls q_.Timers) := ⟨_, rfl⟩
   replace h := letAt hr_3 h
   have pr_3 := (Z32 (Γ := Γ) (q_.Smalls.length : Int) q_.Now q_.Next q_.Tasks q_.Smalls q_.Timers)
   rw [← hr_3] at pr_3
   refine un <| acv_gen (bs := []) («as» := [(I (q_.Smalls.length : Int)), (.c (.rop [cI q_.Now, cI q_.Next, .ro false 7 (q_.Tasks.map e_TJJob), .ro false 7 (q_.Smalls.map e_TJJob), .ro false 5 (q_.Timers.map e_TJTimer)]))]) (h2 := (upd _ 0 none)) (h1 := e0) rfl (by kernel_rfl) pr_3 rfl (.cons (avAs_free rfl) (.cons (.c (ref_ro rfl (gone rfl) (.sm rfl (.sm rfl (.sm rfl (.sm rfl (.sm rfl .nil))))) rfl)) .nil)) (hsub_none (hsub_refl _)) (.nil _) (fun _ => rfl) (by decide) (by decide) (.cons (avAs_free rfl) (.cons (avAs_free rfl) .nil)) .nil ?_
   rintro _ _ _ hn ⟨rfl, rfl, rfl⟩
   refine ⟨.inr ⟨rfl, .nil⟩, (rem [] _), fun hbd => (m3_rem (in_nil _) (.nil) hbd), (B r_3), 3, rfl, rfl, ?_⟩
   refine un1 (v := (B (!r_3))) rfl <| dnil ?_
   refine Sv.cnd rfl h (fun h => ?_) fun h => ?_
   ·refine ssr <| un1 rfl <| un <| acv_gen (bs := []) («as» := [(I 2)]) (h2 := _) (h1 := e0) rfl (by kernel_rfl) (Z1b (Γ := Γ) 2) rfl (.cons (avAs_free rfl) .nil) (hsub_refl _) (.nil _) (fun _ => rfl) (by decide) (by decide) (.cons (avAs_free rfl) .nil) .nil ?_
    rintro _ _ _ hn ⟨rfl, rfl, rfl⟩
    refine ⟨.inl rfl, (rem [] _), fun hbd => (m3_rem (in_nil _) (.nil) hbd), (.tup [(.agg [cI (((Z0 2).1).Now), cI (((Z0 2).1).Next), .ro false 7 ((((Z0 2).1).Tasks).map e_TJJob), .ro false 7 ((((Z0 2).1).Smalls).map e_TJJob), .ro false 5 ((((Z0 2).1).Timers).map e_TJTimer)]), (I ((Z0 2).2.1)), (I ((Z0 2).2.2))]), 3, rfl, rfl, ?_⟩
    refine un1 (v := (.agg [cI (((Z0 2).1).Now), cI (((Z0 2).1).Next), .ro false 7 ((((Z0 2).1).Tasks).map e_TJJob), .ro false 7 ((((Z0 2).1).Smalls).map e_TJJob), .ro false 5 ((((Z0 2).1).Timers).map e_TJTimer)])) rfl <| un1 (v := (I ((Z0 2).2.1))) rfl <| un1 (v := (I ((Z0 2).2.2))) rfl <| un <| a2n (h' := upd _ 2 (some (.cells 5 [[cI (((Z0 2).1).Now), cI (((Z0 2).1).Next), .ro false 7 ((((Z0 2).1).Tasks).map e_TJJob), .ro false 7 ((((Z0 2).1).Smalls).map e_TJJob), .ro false 5 ((((Z0 2).1).Timers).map e_TJTimer)]]))) (n' := 3) rfl rfl hcs <| un1 rfl <| un1 rfl <| dnil <| Sv.ret ?_
    exact rt0 h rfl rfl ⟨rfl, rfl, rfl⟩
   ·refine Sv.skip <| Sv.drawn2 <| un1 (v := (.c (.ref 0 5 0 3))) rfl <| un1 (v := (.c (.ro false 7 (q_.Smalls.map e_TJJob)))) rfl <| un1 rfl <| un1 (v := (.c (.ref 1 7 0 3))) rfl <| un1 (v := (S a_.Call)) rfl <| un1 (v := (.c (.ref 1 7 0 4))) rfl <| un1 (v := (.agg (e_TJVal a_.Arg))) rfl <| un1 (v := (.agg [cI q_.Next, cI 0, cB true, .str a_.Call, cI a_.Arg.Kind, cI a_.Arg.N, .str a_.Arg.S])) rfl <| dnil ?_
    refine ⟨?_, ?_⟩
    ·obtain ⟨r_4, hr3, h⟩ := bnd h
     refine un <| ac_gen (bs := []) («as» := [(.c (.ro false 7 (q_.Smalls.map e_TJJob)))]) (h2 := _) (h1 := e0) (Z1i hr3) rfl (.cons (avAs_free rfl) .nil) (hsub_refl _) (.nil _) (fun _ => rfl) (by decide) (by decide) (.cons (avAs_free rfl) .nil) .nil ?_
     rintro _ _ _ hn ⟨z_1, hz_1, rfl, rfl, rfl⟩
     refine ⟨.inl rfl, (upd (rem [] _) 3 (lstB z_1 7 (r_4.map e_TJJob))), fun hbd => (m3_cons (m3_row rfl (fr_map fun _ => rfl)) (m3_rem (in_nil _) (.cons (by decide) .nil) hbd)), (lstV z_1 3 7 r_4.length), 4, (by cases z_1 <;> rfl), rfl, ?_⟩
     refine un <| a2v (v := (lstV false 4 7 [(⟨q_.Next, 0, true, a_.Call, a_.Arg⟩ : TJJob)].length)) (h' := upd _ 4 (lstB false 7 ([(⟨q_.Next, 0, true, a_.Call, a_.Arg⟩ : TJJob)].map e_TJJob))) (n' := 5) rfl rfl (fun _ => rfl) ?_
     obtain ⟨r_5, hr4, h⟩ := bnd h
     have hz2 : (z_1 && [(⟨q_.Next, 0, true, a_.Call, a_.Arg⟩ : TJJob)].isEmpty) = true → r_5 = [] := app_nil (z := z_1) (ys := [(⟨q_.Next, 0, true, a_.Call, a_.Arg⟩ : TJJob)]) hz_1 hr4
     refine un <| a2v rfl (s_app (xs := r_4) (ys := [(⟨q_.Next, 0, true, a_.Call, a_.Arg⟩ : TJJob)]) (e := e_TJJob) (z := z_1) (b := 3) rfl rfl hz_1 rfl rfl (slc_lst rfl (List.length_map _).symm (map_nil_of hcs)) hr4) hcs <| un1 (v := (.c (.ref 0 5 0 3))) rfl <| un <| a2n (h' := upd _ 0 (some (.cells 5 [[cI q_.Now, cI q_.Next, .ro false 7 (q_.Tasks.map e_TJJob), lstC (z_1 && [(⟨q_.Next, 0, true, a_.Call, a_.Arg⟩ : TJJob)].isEmpty) 5 7 r_5.length, .ro false 5 (q_.Timers.map e_TJTimer)]]))) (n' := 6) rfl rfl hcs <| dnil ?_
     exact Sv.weak (wcn [0, 2] rfl (.cf rfl rfl (.cr rfl rfl rfl (.cr rfl rfl rfl .nil))) (.box (by decide) rfl (blkAs_cells (.sm rfl (.sm rfl (.sm rfl (.sm rfl (.sm rfl .nil)))))) (.box (by decide) rfl (blkAs_cells (.sm rfl (.sm rfl (.sm rfl (.cons (lstC_ro (es := List.map e_TJJob r_5) rfl (List.length_map e_TJJob).symm (map_nil_of hz2) (fun b x hx => not_in (bs := [0, 2]) rfl b (((.cons (by decide) (.cons (by decide) .nil)) : HLt _ _) b x hx)) (fr_map fun _ => rfl)) (.sm rfl .nil)))))) .nil))) (Z26 h)
    ·refine un <| a2v (v := (lstV false 3 7 [(⟨q_.Next, 0, true, a_.Call, a_.Arg⟩ : TJJob)].length)) (h' := upd _ 3 (lstB false 7 ([(⟨q_.Next, 0, true, a_.Call, a_.Arg⟩ : TJJob)].map e_TJJob))) (n' := 4) rfl rfl (fun _ => rfl) ?_
     obtain ⟨r_4, hr3, h⟩ := bnd h
     refine un <| ac_gen (bs := []) («as» := [(.c (.ro false 7 (q_.Smalls.map e_TJJob)))]) (h2 := _) (h1 := e0) (Z1i hr3) rfl (.cons (avAs_free rfl) .nil) (hsub_refl _) (.nil _) (fun _ => rfl) (by decide) (by decide) (.cons (avAs_free rfl) .nil) .nil ?_
     rintro _ _ _ hn ⟨z_1, hz_1, rfl, rfl, rfl⟩
     refine ⟨.inl rfl, (upd (rem [] _) 4 (lstB z_1 7 (r_4.map e_TJJob))), fun hbd => (m3_cons (m3_row rfl (fr_map fun _ => rfl)) (m3_rem (in_nil _) (.cons (by decide) .nil) hbd)), (lstV z_1 4 7 r_4.length), 5, (by cases z_1 <;> rfl), rfl, ?_⟩
     obtain ⟨r_5, hr4, h⟩ := bnd h
     have hz2 : (z_1 && [(⟨q_.Next, 0, true, a_.Call, a_.Arg⟩ : TJJob)].isEmpty) = true → r_5 = [] := app_nil (z := z_1) (ys := [(⟨q_.Next, 0, true, a_.Call, a_.Arg⟩ : TJJob)]) hz_1 hr4
     refine un <| a2v rfl (s_app (xs := r_4) (ys := [(⟨q_.Next, 0, true, a_.Call, a_.Arg⟩ : TJJob)]) (e := e_TJJob) (z := z_1) (b := 4) rfl rfl hz_1 rfl rfl (slc_lst rfl (List.length_map _).symm (map_nil_of hcs)) hr4) hcs <| un1 (v := (.c (.ref 0 5 0 3))) rfl <| un <| a2n (h' := upd _ 0 (some (.cells 5 [[cI q_.Now, cI q_.Next, .ro false 7 (q_.Tasks.map e_TJJob), lstC (z_1 && [(⟨q_.Next, 0, true, a_.Call, a_.Arg⟩ : TJJob)].isEmpty) 5 7 r_5.length, .ro false 5 (q_.Timers.map e_TJTimer)]]))) (n' := 6) rfl rfl hcs <| dnil ?_
     exact Sv.weak (wcn [0, 2] rfl (.cf rfl rfl (.cr rfl rfl rfl (.cr rfl rfl rfl .nil))) (.box (by decide) rfl (blkAs_cells (.sm rfl (.sm rfl (.sm rfl (.sm rfl (.sm rfl .nil)))))) (.box (by decide) rfl (blkAs_cells (.sm rfl (.sm rfl (.sm rfl (.cons (lstC_ro (es := List.map e_TJJob r_5) rfl (List.length_map e_TJJob).symm (map_nil_of hz2) (fun b x hx => not_in (bs := [0, 2]) rfl b (((.cons (by decide) (.cons (by decide) .nil)) : HLt _ _) b x hx)) (fr_map fun _ => rfl)) (.sm rfl .nil)))))) .nil))) (Z26 h)
  ·refine Sv.seq <| ssr <| un1 (v := (B (decide (a_.Do = 3)))) rfl <| un1 rfl <| dnil ?_
   refine Sv.cnd rfl h (fun h => ?_) fun h => ?_
   ·refine Sv.skip ?_
    exact Sv.weak (wcn [0, 1, 2] rfl (.cf rfl rfl (.cf rfl rfl (.cf rfl rfl (.cons rfl (.c (fn_as .nil (.cons (.ref rfl (by decide)) .nil))) (.cf rfl rfl (.cr rfl rfl rfl (.cr rfl rfl rfl (.cr rfl rfl rfl .nil)))))))) (.box (by decide) rfl (blkAs_cells (.sm rfl (.sm rfl (.sm rfl (.sm rfl (.sm rfl .nil)))))) (.box (by decide) rfl (blkAs_cells (.sm rfl (.sm rfl (.sm rfl (.sm rfl (.sm rfl (.sm rfl (.sm rfl .nil)))))))) (.box (by decide) rfl (blkAs_cells (.sm rfl (.sm rfl (.sm rfl (.sm rfl (.sm rfl .nil)))))) .nil)))) (Z4r h)
   ·refine srg <| un1 (v := (B (decide (a_.Do = 4)))) rfl <| un1 rfl <| dnil ?_
    exact Sv.weak (wcn [0, 1, 2] rfl (.cf rfl rfl (.cf rfl rfl (.cf rfl rfl (.cons rfl (.c (fn_as .nil (.cons (.ref rfl (by decide)) .nil))) (.cf rfl rfl (.cr rfl rfl rfl (.cr rfl rfl rfl (.cr rfl rfl rfl .nil)))))))) (.box (by decide) rfl (blkAs_cells (.sm rfl (.sm rfl (.sm rfl (.sm rfl (.sm rfl .nil)))))) (.box (by decide) rfl (blkAs_cells (.sm rfl (.sm rfl (.sm rfl (.sm rfl (.sm rfl (.sm rfl (.sm rfl .nil)))))))) (.box (by decide) rfl (blkAs_cells (.sm rfl (.sm rfl (.sm rfl (.sm rfl (.sm rfl .nil)))))) .nil)))) (Z4r h)
def a13_c1 : ACode := (.seq (.drawn (.alt [((oP 101 (.load true 5 (.tmp 2))), (0, 0))] (.fin [((oP 102 (.load true 7 (.tmp 10))), (1, 1)), ((oN (.store 5 (.tmp 4) (.tmp 101))), (2, 2)), ((oN (.store 7 (.tmp 5) (.tmp 102))), (2, 3)), ((oP 6 (.mov kT)), (0, 4))]) (.fin [((oN (.store 5 (.tmp 4) (.tmp 101))), (2, 2)), ((oP 102 (.load true 7 (.tmp 10))), (1, 1)), ((oN (.store 7 (.tmp 5) (.tmp 102))), (2, 3)), ((oP 6 (.mov kT)), (0, 4))])))
 .ret)
def a13_c0 : ACode := (sr [(oP 62 (.faddr 0 (.tmp 9))), (oP 63 (.load false 1 (.tmp 62))), (oP 64 (.faddr 4 (.tmp 9))), (oP 65 (.load false 1 (.tmp 64))), (oP 66 (.faddr 3 (.tmp 9))), (oP 67 (.load false 1 (.tmp 66))), (oP 68 (.build [(.val (.int .i64 0)), (.val (.int .i64 0)), (.str [])] [(0, (1, (kI 2))), (1, (1, (.tmp 67)))])), (oP 69 (.build [(.val (.int .i64 0)), (.val (.int .i64 0)), (.val (.bool false)), (.str []), (.val (.int .i64 0)), (.val (.int .i64 0)), (.str [])] [(0, (1, (.tmp 63))), (1, (1, (kI 3))), (3, (1, (.tmp 65))), (4, (3, (.tmp 68)))])), (oP 10 (.box (.const (.agg [(.val (.int .i64 0)), (.val (.int .i64 0)), (.val (.bool false)), (.str []), (.val (.int .i64 0)), (.val (.int .i64 0)), (.str [])])))), (oN (.store 7 (.tmp 10) (.tmp 69)))]
 (.seq (sr [(oP 70 (.faddr 2 (.tmp 9))), (oP 71 (.load false 1 (.tmp 70))), (oP 72 (.bin .gtr (.tmp 71) (kI 0))), (mV 73 72), ⟨(some 74), (.faddr 3 (.tmp 9)), (some (73, true))⟩, ⟨(some 75), (.load false 1 (.tmp 74)), (some (73, true))⟩, ⟨(some 76), (.bin .lss (.tmp 75) (kI 1000000000)), (some (73, true))⟩, (oP 77 (.pick (.tmp 73) (.tmp 76) kF)), (mV 78 77), ⟨(some 79), (.faddr 1 (.tmp 9)), (some (78, true))⟩, ⟨(some 80), (.load false 1 (.tmp 79)), (some (78, true))⟩, ⟨(some 81), (.faddr 2 (.tmp 9)), (some (78, true))⟩, ⟨(some 82), (.load false 1 (.tmp 81)), (some (78, true))⟩, ⟨(some 83), (.bin .add (.tmp 80) (.tmp 82)), (some (78, true))⟩, ⟨(some 84), (.bin .leq (.tmp 83) (kI 1000000000)), (some (78, true))⟩, (oP 85 (.pick (.tmp 78) (.tmp 84) kF))]
 (.cond (.tmp 85) (sr [(oP 86 (.faddr 1 (.tmp 9))), (oP 87 (.load false 1 (.tmp 86))), (oP 88 (.faddr 2 (.tmp 9))), (oP 89 (.load false 1 (.tmp 88))), (oP 90 (.bin .add (.tmp 87) (.tmp 89))), (oP 91 (.faddr 1 (.tmp 9))), (oN (.store 1 (.tmp 91) (.tmp 90)))]
 (sr [(oP 92 (.faddr 3 (.tmp 9))), (oP 93 (.load false 1 (.tmp 92))), (oP 94 (.bin .add (.tmp 93) (kI 1))), (oP 95 (.faddr 3 (.tmp 9))), (oN (.store 1 (.tmp 95) (.tmp 94)))]
 (.region [(oP 96 (.faddr 4 (.tmp 2))), (oP 97 (.load false 1 (.tmp 96))), (oP 98 (.load true 5 (.tmp 9))), (oP 99 (.call 47 [(.tmp 97), (.tmp 98)])), (oP 100 (.faddr 4 (.tmp 2))), (oN (.store 1 (.tmp 100) (.tmp 99)))]))) .skip))
 a13_c1))
def a13_c2 : ACode := (.region [(oP 103 (.bin .add (.tmp 29) (kI 1))), (mV 29 103)])
def a13_c3 : ACode := (sr [(oP 30 (.bin .lss (.tmp 29) (.tmp 28)))]
 (.seq (.cond (.tmp 30) .skip (.exit 0))
 (.seq (.block 1 (sr [(oP 31 (.iaddr 5 (.tmp 27) (.tmp 29))), (oP 32 (.load true 5 (.tmp 31))), (oP 9 (.box (.const (.agg [(.val (.int .i64 0)), (.val (.int .i64 0)), (.val (.int .i64 0)), (.val (.int .i64 0)), (.str [])])))), (oN (.store 5 (.tmp 9) (.tmp 32)))]
 (.seq (sr [(oP 33 (.faddr 1 (.tmp 9))), (oP 34 (.load false 1 (.tmp 33))), (oP 35 (.faddr 0 (.tmp 2))), (oP 36 (.load false 1 (.tmp 35))), (oP 37 (.bin .gtr (.tmp 34) (.tmp 36))), (mV 38 37), ⟨(some 39), (.faddr 2 (.tmp 2)), (some (38, true))⟩, ⟨(some 40), (.load false 1 (.tmp 39)), (some (38, true))⟩, ⟨(some 41), (.len (.tmp 40)), (some (38, true))⟩, ⟨(some 42), (.bin .gtr (.tmp 41) (kI 0)), (some (38, true))⟩, ⟨(some 43), (.mov (.tmp 42)), (some (38, true))⟩, ⟨(some 44), (.faddr 1 (.tmp 9)), (some (43, false))⟩, ⟨(some 45), (.load false 1 (.tmp 44)), (some (43, false))⟩, ⟨(some 46), (.mov (.tmp 1)), (some (43, false))⟩, ⟨(some 47), (.bin .gtr (.tmp 45) (.tmp 46)), (some (43, false))⟩, ⟨(some 48), (.pick (.tmp 43) kT (.tmp 47)), (some (38, true))⟩, (oP 49 (.pick (.tmp 38) (.tmp 48) kF))]
 (.cond (.tmp 49) (.exit 0) .skip))
 (sr [(oP 50 (.faddr 4 (.tmp 2))), (oP 51 (.load false 1 (.tmp 50))), (oP 52 (.slSl 5 (.tmp 51) (some (kI 1)) none none)), (oP 53 (.faddr 4 (.tmp 2))), (oN (.store 1 (.tmp 53) (.tmp 52)))]
 (.seq (sr [(oP 54 (.faddr 1 (.tmp 9))), (oP 55 (.load false 1 (.tmp 54))), (oP 56 (.faddr 0 (.tmp 2))), (oP 57 (.load false 1 (.tmp 56))), (oP 58 (.bin .gtr (.tmp 55) (.tmp 57)))]
 (.cond (.tmp 58) (.region [(oP 59 (.faddr 1 (.tmp 9))), (oP 60 (.load false 1 (.tmp 59))), (oP 61 (.faddr 0 (.tmp 2))), (oN (.store 1 (.tmp 61) (.tmp 60)))]) .skip))
 a13_c0)))))
 a13_c2)))
def a13 : AFunc := ⟨2, [(.cell true 5 4), (.cell true 7 5), (.tmp 6)], (sr [(oP 2 (.box (.tmp 0))), (oP 4 (.box (.const (.agg [(.val (.int .i64 0)), (.val (.int .i64 0)), (.ro true 7 []), (.ro true 7 []), (.ro true 5 [])])))), (oP 5 (.box (.const (.agg [(.val (.int .i64 0)), (.val (.int .i64 0)), (.val (.bool false)), (.str []), (.val (.int .i64 0)), (.val (.int .i64 0)), (.str [])])))), (oP 6 (.mov kF))]
 (.seq (sr [(oP 12 (.faddr 3 (.tmp 2))), (oP 13 (.load false 1 (.tmp 12))), (oP 14 (.len (.tmp 13))), (oP 15 (.bin .gtr (.tmp 14) (kI 0)))]
 (.cond (.tmp 15) (sr [(oP 16 (.faddr 3 (.tmp 2))), (oP 17 (.load false 1 (.tmp 16))), (oP 18 (.iaddr 7 (.tmp 17) (kI 0))), (oP 19 (.load true 7 (.tmp 18))), (oP 7 (.box (.const (.agg [(.val (.int .i64 0)), (.val (.int .i64 0)), (.val (.bool false)), (.str []), (.val (.int .i64 0)), (.val (.int .i64 0)), (.str [])])))), (oN (.store 7 (.tmp 7) (.tmp 19)))]
 (sr [(oP 20 (.faddr 3 (.tmp 2))), (oP 21 (.load false 1 (.tmp 20))), (oP 22 (.slSl 7 (.tmp 21) (some (kI 1)) none none)), (oP 23 (.faddr 3 (.tmp 2))), (oN (.store 1 (.tmp 23) (.tmp 22)))]
 (.seq (.drawn (.alt [((oP 24 (.load true 5 (.tmp 2))), (0, 0))] (.fin [((oP 25 (.load true 7 (.tmp 7))), (1, 1)), ((oN (.store 5 (.tmp 4) (.tmp 24))), (2, 2)), ((oN (.store 7 (.tmp 5) (.tmp 25))), (2, 3)), ((oP 6 (.mov kT)), (0, 4))]) (.fin [((oN (.store 5 (.tmp 4) (.tmp 24))), (2, 2)), ((oP 25 (.load true 7 (.tmp 7))), (1, 1)), ((oN (.store 7 (.tmp 5) (.tmp 25))), (2, 3)), ((oP 6 (.mov kT)), (0, 4))])))
 .ret))) .skip))
 (.seq (sr [(oP 26 (.faddr 4 (.tmp 2))), (oP 27 (.load false 1 (.tmp 26))), (oP 28 (.len (.tmp 27))), (oP 29 (.mov (kI 0)))]
 (.block 0 (.loop a13_c3)))
 (.seq (sr [(oP 104 (.faddr 2 (.tmp 2))), (oP 105 (.load false 1 (.tmp 104))), (oP 106 (.len (.tmp 105))), (oP 107 (.bin .gtr (.tmp 106) (kI 0)))]
 (.cond (.tmp 107) (sr [(oP 108 (.faddr 2 (.tmp 2))), (oP 109 (.load false 1 (.tmp 108))), (oP 110 (.iaddr 7 (.tmp 109) (kI 0))), (oP 111 (.load true 7 (.tmp 110))), (oP 11 (.box (.const (.agg [(.val (.int .i64 0)), (.val (.int .i64 0)), (.val (.bool false)), (.str []), (.val (.int .i64 0)), (.val (.int .i64 0)), (.str [])])))), (oN (.store 7 (.tmp 11) (.tmp 111)))]
 (sr [(oP 112 (.faddr 2 (.tmp 2))), (oP 113 (.load false 1 (.tmp 112))), (oP 114 (.slSl 7 (.tmp 113) (some (kI 1)) none none)), (oP 115 (.faddr 2 (.tmp 2))), (oN (.store 1 (.tmp 115) (.tmp 114)))]
 (.seq (.drawn (.alt [((oP 116 (.load true 5 (.tmp 2))), (0, 0))] (.fin [((oP 117 (.load true 7 (.tmp 11))), (1, 1)), ((oN (.store 5 (.tmp 4) (.tmp 116))), (2, 2)), ((oN (.store 7 (.tmp 5) (.tmp 117))), (2, 3)), ((oP 6 (.mov kT)), (0, 4))]) (.fin [((oN (.store 5 (.tmp 4) (.tmp 116))), (2, 2)), ((oP 117 (.load true 7 (.tmp 11))), (1, 1)), ((oN (.store 7 (.tmp 5) (.tmp 117))), (2, 3)), ((oP 6 (.mov kT)), (0, 4))])))
 .ret))) .skip))
 (sr [(mV 118 1), (oP 119 (.faddr 0 (.tmp 2))), (oN (.store 1 (.tmp 119) (.tmp 118)))]
 (sr [(oP 120 (.load true 5 (.tmp 2))), (oP 121 (.build [(.val (.int .i64 0)), (.val (.int .i64 0)), (.val (.bool false)), (.str []), (.val (.int .i64 0)), (.val (.int .i64 0)), (.str [])] [])), (oN (.store 5 (.tmp 4) (.tmp 120))), (oN (.store 7 (.tmp 5) (.tmp 121))), (oP 6 (.mov kF))]
 .ret))))))⟩
theorem c13 : compFunc Try.prog 13 = some a13 := by kernel_rfl
def Z2p (r : (TJLoop × TJJob × Bool)) : AV → Heap → Nat → Prop := fun v h' n' => v = (.tup [(.agg [cI r.1.Now, cI r.1.Next, .ro false 7 (r.1.Tasks.map e_TJJob), .ro false 7 (r.1.Smalls.map e_TJJob), .ro false 5 (r.1.Timers.map e_TJTimer)]), (.agg (e_TJJob r.2.1)), (B r.2.2)]) ∧ (h' = e0) ∧ n' = 0
abbrev Z33 (until_ : Int) (q_ : TJLoop) (F_ : Option (TJLoop × TJJob × Bool)) (o : (TJLoop × TJJob × Bool)) (R_ : St → Prop) : Prop := F_ = some o → ∀ s, Weak 0 s ⟨(ue [(29, (I 0)), (28, (I (q_.Timers.length : Int))), (27, (.c (.ro false 5 (q_.Timers.map e_TJTimer)))), (5, (.c (.ref 2 7 0 0))), (4, (.c (.ref 1 5 0 0))), (2, (.c (.ref 0 5 0 0))), (1, (I until_))]), (upd (upd (upd e0 0 (some (.cells 5 [[cI q_.Now, cI q_.Next, .ro false 7 (q_.Tasks.map e_TJJob), .ro false 7 (q_.Smalls.map e_TJJob), .ro false 5 (q_.Timers.map e_TJTimer)]]))) 1 (some (.cells 5 [[cI 0, cI 0, .ro true 7 [], .ro true 7 [], .ro true 5 []]]))) 2 (some (.cells 7 [[cI 0, cI 0, cB false, .str [], cI 0, cI 0, .str []]]))), 3⟩ → R_ s
abbrev Z34 (until_ : Int) (q_ : TJLoop) (F_ : Unit → Option (TJLoop × TJJob × Bool)) (o : (TJLoop × TJJob × Bool)) (R_ : St → Prop) : Prop := ∀ (_ : Unit), F_ () = some o → ∀ s, Weak 0 s ⟨(ue [(5, (.c (.ref 2 7 0 0))), (4, (.c (.ref 1 5 0 0))), (2, (.c (.ref 0 5 0 0))), (1, (I until_))]), (upd (upd (upd e0 0 (some (.cells 5 [[cI q_.Now, cI q_.Next, .ro false 7 (q_.Tasks.map e_TJJob), .ro false 7 (q_.Smalls.map e_TJJob), .ro false 5 (q_.Timers.map e_TJTimer)]]))) 1 (some (.cells 5 [[cI 0, cI 0, .ro true 7 [], .ro true 7 [], .ro true 5 []]]))) 2 (some (.cells 7 [[cI 0, cI 0, cB false, .str [], cI 0, cI 0, .str []]]))), 3⟩ → R_ s
abbrev Z7o (Γ : Glob) (Q : AExit → St → Prop) : AExit → St → Prop := AThen (Sv Try.prog Γ 0 a13_c2 Q) Q
abbrev Z4s (Γ : Glob) (Q : AExit → St → Prop) : AExit → St → Prop := ABlock 1 (Z7o Γ Q)
noncomputable def Z28 (q0 : Int) (q_ : TJLoop) (x_1 : TJTimer) (until_ : Int) (self : Option (TJLoop × TJJob × Bool)) (K0_ : Unit → Option (TJLoop × TJJob × Bool)) (q4 : (List TJTimer)) : Option (TJLoop × TJJob × Bool) :=
 some ((⟨q0, q_.Next, q_.Tasks, q_.Smalls, q4⟩ : TJLoop), (⟨x_1.ID, 3, false, x_1.Call, (⟨2, x_1.Turn, []⟩ : TJVal)⟩ : TJJob), true)
theorem Z4t {Γ : Glob} {Q : AExit → St → Prop} {q0 : Int} {q_ : TJLoop} {x_1 : TJTimer} {until_ : Int} {self : Option (TJLoop × TJJob × Bool)} {K0_ : Unit → Option (TJLoop × TJJob × Bool)} {q4 : (List TJTimer)} {o : (TJLoop × TJJob × Bool)} (h : Z28 q0 q_ x_1 until_ self K0_ q4 = some o)
  (hself : Z33 until_ q_ self o (Q .normal))
  (hK0 : Z34 until_ q_ K0_ o (Q (.exit 0)))
  (hr : ∀ s, Ends a13.results 0 (Z2p o) .ret s → Q .ret s) :
  Sv Try.prog Γ 0 a13_c1 (Z4s Γ Q) ⟨(ue [(10, (.c (.ref 3 7 0 0))), (5, (.c (.ref 2 7 0 0))), (4, (.c (.ref 1 5 0 0))), (2, (.c (.ref 0 5 0 0)))]), (upd (upd (upd (upd e0 0 (some (.cells 5 [[cI q0, cI q_.Next, .ro false 7 (q_.Tasks.map e_TJJob), .ro false 7 (q_.Smalls.map e_TJJob), .ro false 5 (q4.map e_TJTimer)]]))) 1 (some (.cells 5 [[cI 0, cI 0, .ro true 7 [], .ro true 7 [], .ro true 5 []]]))) 2 (some (.cells 7 [[cI 0, cI 0, cB false, .str [], cI 0, cI 0, .str []]]))) 3 (some (.cells 7 [[cI x_1.ID, cI 3, cB false, .str x_1.Call, cI 2, cI x_1.Turn, .str []]]))), 4⟩ := by
 unfold Z28 at h
 refine Sv.seq <| Sv.drawn2 <| un1 (v := (.agg [cI q0, cI q_.Next, .ro false 7 (q_.Tasks.map e_TJJob), .ro false 7 (q_.Smalls.map e_TJJob), .ro false 5 (q4.map e_TJTimer)])) rfl <| dnil ?_
 refine ⟨?_, ?_⟩
 ·refine un1 (v := (.agg [cI x_1.ID, cI 3, cB false, .str x_1.Call, cI 2, cI x_1.Turn, .str []])) rfl <| un <| a2n (h' := upd _ 1 (some (.cells 5 [[cI q0, cI q_.Next, .ro false 7 (q_.Tasks.map e_TJJob), .ro false 7 (q_.Smalls.map e_TJJob), .ro false 5 (q4.map e_TJTimer)]]))) (n' := 4) rfl rfl hcs <| un <| a2n (h' := upd _ 2 (some (.cells 7 [[cI x_1.ID, cI 3, cB false, .str x_1.Call, cI 2, cI x_1.Turn, .str []]]))) (n' := 4) rfl rfl hcs <| un1 rfl <| dnil <| Sv.ret ?_
  exact hr _ (rt0 h rfl rfl ⟨rfl, rfl, rfl⟩)
 ·refine un <| a2n (h' := upd _ 1 (some (.cells 5 [[cI q0, cI q_.Next, .ro false 7 (q_.Tasks.map e_TJJob), .ro false 7 (q_.Smalls.map e_TJJob), .ro false 5 (q4.map e_TJTimer)]]))) (n' := 4) rfl rfl hcs <| un1 (v := (.agg [cI x_1.ID, cI 3, cB false, .str x_1.Call, cI 2, cI x_1.Turn, .str []])) rfl <| un <| a2n (h' := upd _ 2 (some (.cells 7 [[cI x_1.ID, cI 3, cB false, .str x_1.Call, cI 2, cI x_1.Turn, .str []]]))) (n' := 4) rfl rfl hcs <| un1 rfl <| dnil <| Sv.ret ?_
  exact hr _ (rt0 h rfl rfl ⟨rfl, rfl, rfl⟩)
noncomputable def Z1t (x_1 : TJTimer) (r_1 : (List TJTimer)) (q_ : TJLoop) (until_ : Int) (self : Option (TJLoop × TJJob × Bool)) (K0_ : Unit → Option (TJLoop × TJJob × Bool)) (q0 : Int) : Option (TJLoop × TJJob × Bool) :=
 if (((decide (0 < x_1.Every)) && (decide (x_1.Turn < 1000000000))) && (decide ((wi (x_1.At + x_1.Every)) ≤ 1000000000))) then
  (Z1d r_1 (⟨x_1.ID, (wi (x_1.At + x_1.Every)), x_1.Every, (wi (x_1.Turn + 1)), x_1.Call⟩ : TJTimer)).bind fun r_2 =>
  Z28 q0 q_ x_1 until_ self K0_ r_2
 else
  Z28 q0 q_ x_1 until_ self K0_ r_1
theorem Z4u {Γ : Glob} {Q : AExit → St → Prop} {x_1 : TJTimer} {r_1 : (List TJTimer)} {q_ : TJLoop} {until_ : Int} {self : Option (TJLoop × TJJob × Bool)} {K0_ : Unit → Option (TJLoop × TJJob × Bool)} {q0 : Int} {o : (TJLoop × TJJob × Bool)} (h : Z1t x_1 r_1 q_ until_ self K0_ q0 = some o)
  (hself : Z33 until_ q_ self o (Q .normal))
  (hK0 : Z34 until_ q_ K0_ o (Q (.exit 0)))
  (hr : ∀ s, Ends a13.results 0 (Z2p o) .ret s → Q .ret s) :
  Sv Try.prog Γ 0 a13_c0 (Z4s Γ Q) ⟨(ue [(9, (.c (.ref 3 5 0 0))), (5, (.c (.ref 2 7 0 0))), (4, (.c (.ref 1 5 0 0))), (2, (.c (.ref 0 5 0 0)))]), (upd (upd (upd (upd e0 0 (some (.cells 5 [[cI q0, cI q_.Next, .ro false 7 (q_.Tasks.map e_TJJob), .ro false 7 (q_.Smalls.map e_TJJob), .ro false 5 (r_1.map e_TJTimer)]]))) 1 (some (.cells 5 [[cI 0, cI 0, .ro true 7 [], .ro true 7 [], .ro true 5 []]]))) 2 (some (.cells 7 [[cI 0, cI 0, cB false, .str [], cI 0, cI 0, .str []]]))) 3 (some (.cells 5 [(e_TJTimer x_1)]))), 4⟩ := by
 unfold Z1t at h
 refine ssr <| un1 (v := (.c (.ref 3 5 0 0))) rfl <| un1 (v := (I x_1.ID)) rfl <| un1 (v := (.c (.ref 3 5 0 4))) rfl <| un1 (v := (S x_1.Call)) rfl <| un1 (v := (.c (.ref 3 5 0 3))) rfl <| un1 (v := (I x_1.Turn)) rfl <| un1 (v := (.agg [cI 2, cI x_1.Turn, .str []])) rfl <| un1 (v := (.agg [cI x_1.ID, cI 3, cB false, .str x_1.Call, cI 2, cI x_1.Turn, .str []])) rfl <| un <| a2v (v := (.c (.ref 4 7 0 0))) (h' := upd _ 4 (some (.cells 7 [[cI 0, cI 0, cB false, .str [], cI 0, cI 0, .str []]]))) (n' := 5) rfl rfl hcs <| un <| a2n (h' := upd _ 4 (some (.cells 7 [[cI x_1.ID, cI 3, cB false, .str x_1.Call, cI 2, cI x_1.Turn, .str []]]))) (n' := 5) rfl rfl hcs <| dnil <| Sv.seq <| ssr <| un1 (v := (.c (.ref 3 5 0 2))) rfl <| un1 (v := (I x_1.Every)) rfl <| un1 (v := (B (decide (0 < x_1.Every)))) rfl <| un1 rfl ?_
 refine gjoin 4 (d := 77) (v := (B ((decide (0 < x_1.Every)) && (decide (x_1.Turn < 1000000000))))) (fun X hX => ?_) ?_
 ·refine split2 (fun hc6 => ?_) (fun hc6 => ?_)
  ·refine gt rfl <| a1 (v := (.c (.ref 3 5 0 3))) rfl <| gt rfl <| a1 (v := (I x_1.Turn)) rfl <| gt rfl <| a1 (v := (B (decide (x_1.Turn < 1000000000)))) rfl <| un1 (v := (B (decide (x_1.Turn < 1000000000)))) rfl <| dnil ?_
   exact hX _ (.putEq (by rw [hc6]; rfl) (.skp (.skp (.skp (.putEq (by rw [hc6]) (.refl _)) rfl) rfl) rfl))
  ·refine gs rfl rfl <| gs rfl rfl <| gs rfl rfl <| un1 (v := (B false)) rfl <| dnil ?_
   exact hX _ (.putEq (by rw [hc6]; rfl) (.skp (.skp (.skp (.putEq (by rw [hc6]) (.refl _)) rfl) rfl) rfl))
 refine un1 rfl ?_
 refine gjoin 7 (d := 85) (v := (B (((decide (0 < x_1.Every)) && (decide (x_1.Turn < 1000000000))) && (decide ((wi (x_1.At + x_1.Every)) ≤ 1000000000))))) (fun X hX => ?_) ?_
 ·refine split2 (fun hc7 => ?_) (fun hc7 => ?_)
  ·refine gt rfl <| a1 (v := (.c (.ref 3 5 0 1))) rfl <| gt rfl <| a1 (v := (I x_1.At)) rfl <| gt rfl <| a1 (v := (.c (.ref 3 5 0 2))) rfl <| gt rfl <| a1 (v := (I x_1.Every)) rfl <| gt rfl <| a1 (v := (I (wi (x_1.At + x_1.Every)))) rfl <| gt rfl <| a1 (v := (B (decide ((wi (x_1.At + x_1.Every)) ≤ 1000000000)))) rfl <| un1 (v := (B (decide ((wi (x_1.At + x_1.Every)) ≤ 1000000000)))) rfl <| dnil ?_
   exact hX _ (.putEq (by rw [hc7]; rfl) (by repeat (first | exact .putEq (by rw [hc7]) (.refl _) | refine .skp ?_ rfl)))
  ·repeat (first | refine gu rfl ?_ | refine gs rfl rfl ?_)
   refine un1 (v := (B false)) rfl <| dnil ?_
   exact hX _ (.putEq (by rw [hc7]; rfl) (by repeat (first | exact .putEq (by rw [hc7]) (.refl _) | refine .skp ?_ rfl)))
 refine dnil ?_
 refine Sv.cnd rfl h (fun h => ?_) fun h => ?_
 ·refine ssr <| un1 (v := (.c (.ref 3 5 0 1))) rfl <| un1 (v := (I x_1.At)) rfl <| un1 (v := (.c (.ref 3 5 0 2))) rfl <| un1 (v := (I x_1.Every)) rfl <| un1 (v := (I (wi (x_1.At + x_1.Every)))) rfl <| un1 (v := (.c (.ref 3 5 0 1))) rfl <| un <| a2n (h' := upd _ 3 (some (.cells 5 [[cI x_1.ID, cI (wi (x_1.At + x_1.Every)), cI x_1.Every, cI x_1.Turn, .str x_1.Call]]))) (n' := 5) rfl rfl hcs <| dnil <| ssr <| un1 (v := (.c (.ref 3 5 0 3))) rfl <| un1 (v := (I x_1.Turn)) rfl <| un1 (v := (I (wi (x_1.Turn + 1)))) rfl <| un1 (v := (.c (.ref 3 5 0 3))) rfl <| un <| a2n (h' := upd _ 3 (some (.cells 5 [[cI x_1.ID, cI (wi (x_1.At + x_1.Every)), cI x_1.Every, cI (wi (x_1.Turn + 1)), .str x_1.Call]]))) (n' := 5) rfl rfl hcs <| dnil <| srg <| un1 (v := (.c (.ref 0 5 0 4))) rfl <| un1 (v := (.c (.ro false 5 (r_1.map e_TJTimer)))) rfl <| un1 (v := (.agg [cI x_1.ID, cI (wi (x_1.At + x_1.Every)), cI x_1.Every, cI (wi (x_1.Turn + 1)), .str x_1.Call])) rfl ?_
  obtain ⟨r_2, hr1, h⟩ := bnd h
  refine un <| ac_gen (bs := []) («as» := [(.c (.ro false 5 (r_1.map e_TJTimer))), (.agg [cI x_1.ID, cI (wi (x_1.At + x_1.Every)), cI x_1.Every, cI (wi (x_1.Turn + 1)), .str x_1.Call])]) (h2 := _) (h1 := e0) (Z4l hr1) rfl (.cons (avAs_free rfl) (.cons (avAs_free rfl) .nil)) (hsub_refl _) (.nil _) (fun _ => rfl) (by decide) (by decide) (.cons (avAs_free rfl) (.cons (avAs_free rfl) .nil)) .nil ?_
  rintro _ _ _ hn ⟨z_, hz_, rfl, rfl, rfl⟩
  refine ⟨.inl rfl, (upd (rem [] _) 5 (lstB z_ 5 (r_2.map e_TJTimer))), fun hbd => (m3_cons (m3_row rfl (fr_map fun _ => rfl)) (m3_rem (in_nil _) (.cons (by decide) .nil) hbd)), (lstV z_ 5 5 r_2.length), 6, (by cases z_ <;> rfl), rfl, ?_⟩
  refine un1 (v := (.c (.ref 0 5 0 4))) rfl <| un <| a2n (h' := upd _ 0 (some (.cells 5 [[cI q0, cI q_.Next, .ro false 7 (q_.Tasks.map e_TJJob), .ro false 7 (q_.Smalls.map e_TJJob), lstC z_ 5 5 r_2.length]]))) (n' := 6) rfl rfl hcs <| dnil ?_
  exact Sv.weak (wcn [0, 1, 2, 4] rfl (.cr rfl rfl rfl (.cr rfl rfl rfl (.cr rfl rfl rfl (.cr rfl rfl rfl .nil)))) (.box (by decide) rfl (blkAs_cells (.sm rfl (.sm rfl (.sm rfl (.sm rfl (.sm rfl (.sm rfl (.sm rfl .nil)))))))) (.box (by decide) rfl (blkAs_cells (.sm rfl (.sm rfl (.sm rfl (.sm rfl (.sm rfl (.sm rfl (.sm rfl .nil)))))))) (.box (by decide) rfl (blkAs_cells (.sm rfl (.sm rfl (.sm rfl (.sm rfl (.sm rfl .nil)))))) (.box (by decide) rfl (blkAs_cells (.sm rfl (.sm rfl (.sm rfl (.sm rfl (.cons (lstC_ro (es := List.map e_TJTimer r_2) rfl (List.length_map e_TJTimer).symm (map_nil_of hz_) (fun b x hx => not_in (bs := [0, 1, 2, 4]) rfl b (((.cons (by decide) (.cons (by decide) (.cons (by decide) (.cons (by decide) .nil)))) : HLt _ _) b x hx)) (fr_map fun _ => rfl)) .nil)))))) .nil))))) (Z4t h hself hK0 hr)
 ·refine Sv.skip ?_
  exact Sv.weak (wcn [0, 1, 2, 4] rfl (.cr rfl rfl rfl (.cr rfl rfl rfl (.cr rfl rfl rfl (.cr rfl rfl rfl .nil)))) (.box (by decide) rfl (blkAs_cells (.sm rfl (.sm rfl (.sm rfl (.sm rfl (.sm rfl (.sm rfl (.sm rfl .nil)))))))) (.box (by decide) rfl (blkAs_cells (.sm rfl (.sm rfl (.sm rfl (.sm rfl (.sm rfl (.sm rfl (.sm rfl .nil)))))))) (.box (by decide) rfl (blkAs_cells (.sm rfl (.sm rfl (.sm rfl (.sm rfl (.sm rfl .nil)))))) (.box (by decide) rfl (blkAs_cells (.sm rfl (.sm rfl (.sm rfl (.sm rfl (.sm rfl .nil)))))) .nil))))) (Z4t h hself hK0 hr)
abbrev Z4v (until_ : Int) (q_ : TJLoop) (F_ : Nat → Option (TJLoop × TJJob × Bool)) (o : (TJLoop × TJJob × Bool)) : Nat → St → Prop := fun k s => F_ k = some o ∧ s = ⟨(ue [(29, (I 0)), (28, (I (q_.Timers.length : Int))), (27, (.c (.ro false 5 (q_.Timers.map e_TJTimer)))), (5, (.c (.ref 2 7 0 0))), (4, (.c (.ref 1 5 0 0))), (2, (.c (.ref 0 5 0 0))), (1, (I until_))]), (upd (upd (upd e0 0 (some (.cells 5 [[cI q_.Now, cI q_.Next, .ro false 7 (q_.Tasks.map e_TJJob), .ro false 7 (q_.Smalls.map e_TJJob), .ro false 5 (q_.Timers.map e_TJTimer)]]))) 1 (some (.cells 5 [[cI 0, cI 0, .ro true 7 [], .ro true 7 [], .ro true 5 []]]))) 2 (some (.cells 7 [[cI 0, cI 0, cB false, .str [], cI 0, cI 0, .str []]]))), 3⟩
noncomputable def Zq (q_ : TJLoop) (until_ : Int) (K0_ : Unit → Option (TJLoop × TJJob × Bool)) : Nat → Option (TJLoop × TJJob × Bool)
 | 0 => none
 | k + 1 =>
  if decide (0 < (q_.Timers.length : Int)) then
   (at? q_.Timers 0).bind fun x_1 =>
   if ((decide (q_.Now < x_1.At)) && ((decide (0 < (q_.Tasks.length : Int))) || (decide (until_ < x_1.At)))) then
    K0_ ()
   else
    (sub? q_.Timers 1 (q_.Timers.length : Int)).bind fun r_1 =>
    if decide (q_.Now < x_1.At) then
     Z1t x_1 r_1 q_ until_ (Zq q_ until_ K0_ k) K0_ x_1.At
    else
     Z1t x_1 r_1 q_ until_ (Zq q_ until_ K0_ k) K0_ q_.Now
  else
   K0_ ()
theorem Z7p {Γ : Glob} {Q : AExit → St → Prop} {q_ : TJLoop} {until_ : Int} {K0_ : Unit → Option (TJLoop × TJJob × Bool)} {k : Nat} {o : (TJLoop × TJJob × Bool)} (h : Zq q_ until_ K0_ k = some o)
  (hK0 : Z34 until_ q_ K0_ o (Q (.exit 0)))
  (hr : ∀ s, Ends a13.results 0 (Z2p o) .ret s → Q .ret s) :
  Sv Try.prog Γ 0 (.loop a13_c3) Q ⟨(ue [(29, (I 0)), (28, (I (q_.Timers.length : Int))), (27, (.c (.ro false 5 (q_.Timers.map e_TJTimer)))), (5, (.c (.ref 2 7 0 0))), (4, (.c (.ref 1 5 0 0))), (2, (.c (.ref 0 5 0 0))), (1, (I until_))]), (upd (upd (upd e0 0 (some (.cells 5 [[cI q_.Now, cI q_.Next, .ro false 7 (q_.Tasks.map e_TJJob), .ro false 7 (q_.Smalls.map e_TJJob), .ro false 5 (q_.Timers.map e_TJTimer)]]))) 1 (some (.cells 5 [[cI 0, cI 0, .ro true 7 [], .ro true 7 [], .ro true 5 []]]))) 2 (some (.cells 7 [[cI 0, cI 0, cB false, .str [], cI 0, cI 0, .str []]]))), 3⟩ := by
 refine Sv.loop (I := Z4v until_ q_ (Zq q_ until_ K0_) o) (fun k s hI => ?_) ⟨h, rfl⟩
 clear h
 obtain ⟨h, rfl⟩ := hI
 cases k with
 | zero => cases h
 | succ k =>
 rw [Zq] at h
 have hself : Z33 until_ q_ (Zq q_ until_ K0_ k) o (rnd 0 (Z4v until_ q_ (Zq q_ until_ K0_) o) k Q) := fun h s hw => ⟨_, k, hw, Nat.lt_succ_self k, h, rfl⟩
 refine ssr <| un1 (v := (B (decide (0 < (q_.Timers.length : Int))))) rfl <| dnil <| Sv.seq ?_
 refine Sv.cnd rfl h (fun h => ?_) fun h => ?_
 ·refine Sv.skip <| Sv.seq <| Sv.block <| ssr ?_
  obtain ⟨x_1, hx3, h⟩ := bnd h
  refine un1 (v := (.c (.rop (e_TJTimer x_1)))) (s_iaddr (e := e_TJTimer) (xs := q_.Timers) rfl rfl hx3) <| un1 (v := (.agg (e_TJTimer x_1))) rfl <| un <| a2v (v := (.c (.ref 3 5 0 0))) (h' := upd _ 3 (some (.cells 5 [[cI 0, cI 0, cI 0, cI 0, .str []]]))) (n' := 4) rfl rfl hcs <| un <| a2n (h' := upd _ 3 (some (.cells 5 [(e_TJTimer x_1)]))) (n' := 4) rfl rfl hcs <| dnil <| Sv.seq <| ssr <| un1 (v := (.c (.ref 3 5 0 1))) rfl <| un1 (v := (I x_1.At)) rfl <| un1 (v := (.c (.ref 0 5 0 0))) rfl <| un1 (v := (I q_.Now)) rfl <| un1 (v := (B (decide (q_.Now < x_1.At)))) rfl <| un1 rfl ?_
  refine gjoin 11 (d := 49) (v := (B ((decide (q_.Now < x_1.At)) && ((decide (0 < (q_.Tasks.length : Int))) || (decide (until_ < x_1.At)))))) (fun X hX => ?_) ?_
  ·refine split2 (fun hc4 => ?_) (fun hc4 => ?_)
   ·refine gt rfl <| a1 (v := (.c (.ref 0 5 0 2))) rfl <| gt rfl <| a1 (v := (.c (.ro false 7 (q_.Tasks.map e_TJJob)))) rfl <| gt rfl <| a1 (v := (I (q_.Tasks.length : Int))) (s_len (e := e_TJJob) (xs := q_.Tasks) rfl) <| gt rfl <| a1 (v := (B (decide (0 < (q_.Tasks.length : Int))))) rfl <| gt rfl <| a1 rfl ?_
    refine gjoin 5 (d := 48) (v := (B ((decide (0 < (q_.Tasks.length : Int))) || (decide (until_ < x_1.At))))) (fun X hX => ?_) ?_
    ·refine split2 (fun hc3 => ?_) (fun hc3 => ?_)
     ·refine gs rfl rfl <| gs rfl rfl <| gs rfl rfl <| gs rfl rfl <| gt rfl <| a1 (v := (B true)) rfl <| dnil ?_
      exact hX _ (.putEq (by rw [hc3]; rfl) (.skp (.skp (.skp (.skp (.putEq (by rw [hc3]) (.refl _)) rfl) rfl) rfl) rfl))
     ·refine gt rfl <| a1 (v := (.c (.ref 3 5 0 1))) rfl <| gt rfl <| a1 (v := (I x_1.At)) rfl <| gt rfl <| a1 rfl <| gt rfl <| a1 (v := (B (decide (until_ < x_1.At)))) rfl <| gt rfl <| a1 (v := (B (decide (until_ < x_1.At)))) rfl <| dnil ?_
      exact hX _ (.putEq (by rw [hc3]; rfl) (.skp (.skp (.skp (.skp (.putEq (by rw [hc3]) (.refl _)) rfl) rfl) rfl) rfl))
    refine un1 (v := (B ((decide (0 < (q_.Tasks.length : Int))) || (decide (until_ < x_1.At))))) rfl <| dnil ?_
    exact hX _ (.putEq (by rw [hc4]; rfl) (by repeat (first | exact .putEq (by rw [hc4]) (.refl _) | refine .skp ?_ rfl)))
   ·repeat (first | refine gu rfl ?_ | refine gs rfl rfl ?_)
    refine un1 (v := (B false)) rfl <| dnil ?_
    exact hX _ (.putEq (by rw [hc4]; rfl) (by repeat (first | exact .putEq (by rw [hc4]) (.refl _) | refine .skp ?_ rfl)))
  refine dnil ?_
  refine Sv.cnd rfl h (fun h => ?_) fun h => ?_
  ·refine Sv.exit ?_
   exact hK0 () h _ (wcn [0, 1, 2] rfl (.cr rfl rfl rfl (.cr rfl rfl rfl (.cr rfl rfl rfl (.cf rfl rfl .nil)))) (.box (by decide) rfl (blkAs_cells (.sm rfl (.sm rfl (.sm rfl (.sm rfl (.sm rfl (.sm rfl (.sm rfl .nil)))))))) (.box (by decide) rfl (blkAs_cells (.sm rfl (.sm rfl (.sm rfl (.sm rfl (.sm rfl .nil)))))) (.box (by decide) rfl (blkAs_cells (.sm rfl (.sm rfl (.sm rfl (.sm rfl (.sm rfl .nil)))))) .nil))))
  ·refine Sv.skip <| ssr <| un1 (v := (.c (.ref 0 5 0 4))) rfl <| un1 (v := (.c (.ro false 5 (q_.Timers.map e_TJTimer)))) rfl ?_
   obtain ⟨r_1, hx4, h⟩ := bnd h
   refine un1 (v := (.c (.ro false 5 (r_1.map e_TJTimer)))) (s_slSl (e := e_TJTimer) rfl rfl rfl hx4) <| un1 (v := (.c (.ref 0 5 0 4))) rfl <| un <| a2n (h' := upd _ 0 (some (.cells 5 [[cI q_.Now, cI q_.Next, .ro false 7 (q_.Tasks.map e_TJJob), .ro false 7 (q_.Smalls.map e_TJJob), .ro false 5 (r_1.map e_TJTimer)]]))) (n' := 4) rfl rfl hcs <| dnil <| Sv.seq <| ssr <| un1 (v := (.c (.ref 3 5 0 1))) rfl <| un1 (v := (I x_1.At)) rfl <| un1 (v := (.c (.ref 0 5 0 0))) rfl <| un1 (v := (I q_.Now)) rfl <| un1 (v := (B (decide (q_.Now < x_1.At)))) rfl <| dnil ?_
   refine Sv.cnd rfl h (fun h => ?_) fun h => ?_
   ·refine srg <| un1 (v := (.c (.ref 3 5 0 1))) rfl <| un1 (v := (I x_1.At)) rfl <| un1 (v := (.c (.ref 0 5 0 0))) rfl <| un <| a2n (h' := upd _ 0 (some (.cells 5 [[cI x_1.At, cI q_.Next, .ro false 7 (q_.Tasks.map e_TJJob), .ro false 7 (q_.Smalls.map e_TJJob), .ro false 5 (r_1.map e_TJTimer)]]))) (n' := 4) rfl rfl hcs <| dnil ?_
    exact Sv.weak (wcn [0, 1, 2, 3] rfl (.cr rfl rfl rfl (.cr rfl rfl rfl (.cr rfl rfl rfl (.cr rfl rfl rfl .nil)))) (.box (by decide) rfl (blkAs_cells (.sm rfl (.sm rfl (.sm rfl (.sm rfl (.sm rfl .nil)))))) (.box (by decide) rfl (blkAs_cells (.sm rfl (.sm rfl (.sm rfl (.sm rfl (.sm rfl (.sm rfl (.sm rfl .nil)))))))) (.box (by decide) rfl (blkAs_cells (.sm rfl (.sm rfl (.sm rfl (.sm rfl (.sm rfl .nil)))))) (.box (by decide) rfl (blkAs_cells (.sm rfl (.sm rfl (.sm rfl (.sm rfl (.sm rfl .nil)))))) .nil))))) (Z4u h hself hK0 hr)
   ·refine Sv.skip ?_
    exact Sv.weak (wcn [0, 1, 2, 3] rfl (.cr rfl rfl rfl (.cr rfl rfl rfl (.cr rfl rfl rfl (.cr rfl rfl rfl .nil)))) (.box (by decide) rfl (blkAs_cells (.sm rfl (.sm rfl (.sm rfl (.sm rfl (.sm rfl .nil)))))) (.box (by decide) rfl (blkAs_cells (.sm rfl (.sm rfl (.sm rfl (.sm rfl (.sm rfl (.sm rfl (.sm rfl .nil)))))))) (.box (by decide) rfl (blkAs_cells (.sm rfl (.sm rfl (.sm rfl (.sm rfl (.sm rfl .nil)))))) (.box (by decide) rfl (blkAs_cells (.sm rfl (.sm rfl (.sm rfl (.sm rfl (.sm rfl .nil)))))) .nil))))) (Z4u h hself hK0 hr)
 ·refine Sv.exit ?_
  exact hK0 () h _ (wcn [0, 1, 2] rfl (.cr rfl rfl rfl (.cr rfl rfl rfl (.cr rfl rfl rfl (.cf rfl rfl .nil)))) (.box (by decide) rfl (blkAs_cells (.sm rfl (.sm rfl (.sm rfl (.sm rfl (.sm rfl (.sm rfl (.sm rfl .nil)))))))) (.box (by decide) rfl (blkAs_cells (.sm rfl (.sm rfl (.sm rfl (.sm rfl (.sm rfl .nil)))))) (.box (by decide) rfl (blkAs_cells (.sm rfl (.sm rfl (.sm rfl (.sm rfl (.sm rfl .nil)))))) .nil))))
/-- clerestory/clerestoryref4.LoopNext -/
noncomputable def Z29 (q_ : TJLoop) (until_ : Int) : Option (TJLoop × TJJob × Bool) :=
 if decide (0 < (q_.Smalls.length : Int)) then
  (at? q_.Smalls 0).bind fun x_ =>
  (sub? q_.Smalls 1 (q_.Smalls.length : Int)).bind fun r_ =>
  some ((⟨q_.Now, q_.Next, q_.Tasks, r_, q_.Timers⟩ : TJLoop), x_, true)
 else
  lim fun kk => Zq q_ until_ (fun (_ : Unit) => 
    if decide (0 < (q_.Tasks.length : Int)) then
     (at? q_.Tasks 0).bind fun x_2 =>
     (sub? q_.Tasks 1 (q_.Tasks.length : Int)).bind fun r_3 =>
     some ((⟨q_.Now, q_.Next, r_3, q_.Smalls, q_.Timers⟩ : TJLoop), x_2, true)
    else
     some ((⟨until_, q_.Next, q_.Tasks, q_.Smalls, q_.Timers⟩ : TJLoop), (⟨0, 0, false, [], (⟨0, 0, []⟩ : TJVal)⟩ : TJJob), false)) kk
theorem Z7q {Γ : Glob} {q_ : TJLoop} {until_ : Int} {r : (TJLoop × TJJob × Bool)} (h : Z29 q_ until_ = some r) : CPure Try.prog Γ 13 [(.agg [cI q_.Now, cI q_.Next, .ro false 7 (q_.Tasks.map e_TJJob), .ro false 7 (q_.Smalls.map e_TJJob), .ro false 5 (q_.Timers.map e_TJTimer)]), (I until_)] (.tup [(.agg [cI r.1.Now, cI r.1.Next, .ro false 7 (r.1.Tasks.map e_TJJob), .ro false 7 (r.1.Smalls.map e_TJJob), .ro false 5 (r.1.Timers.map e_TJTimer)]), (.agg (e_TJJob r.2.1)), (B r.2.2)]) := by
 refine acalls_of_sv hmix c13 (R := Z2p r) ?_
 unfold Z29 at h
 refine ssr <| un <| a2v (v := (.c (.ref 0 5 0 0))) (h' := upd _ 0 (some (.cells 5 [[cI q_.Now, cI q_.Next, .ro false 7 (q_.Tasks.map e_TJJob), .ro false 7 (q_.Smalls.map e_TJJob), .ro false 5 (q_.Timers.map e_TJTimer)]]))) (n' := 1) rfl rfl hcs <| un <| a2v (v := (.c (.ref 1 5 0 0))) (h' := upd _ 1 (some (.cells 5 [[cI 0, cI 0, .ro true 7 [], .ro true 7 [], .ro true 5 []]]))) (n' := 2) rfl rfl hcs <| un <| a2v (v := (.c (.ref 2 7 0 0))) (h' := upd _ 2 (some (.cells 7 [[cI 0, cI 0, cB false, .str [], cI 0, cI 0, .str []]]))) (n' := 3) rfl rfl hcs <| un1 rfl <| dnil <| Sv.seq <| ssr <| un1 (v := (.c (.ref 0 5 0 3))) rfl <| un1 (v := (.c (.ro false 7 (q_.Smalls.map e_TJJob)))) rfl <| un1 (v := (I (q_.Smalls.length : Int))) (s_len (e := e_TJJob) (xs := q_.Smalls) rfl) <| un1 (v := (B (decide (0 < (q_.Smalls.length : Int))))) rfl <| dnil ?_
 refine Sv.cnd rfl h (fun h => ?_) fun h => ?_
 ·refine ssr <| un1 (v := (.c (.ref 0 5 0 3))) rfl <| un1 (v := (.c (.ro false 7 (q_.Smalls.map e_TJJob)))) rfl ?_
  obtain ⟨x_, hx1, h⟩ := bnd h
  refine un1 (v := (.c (.rop (e_TJJob x_)))) (s_iaddr (e := e_TJJob) (xs := q_.Smalls) rfl rfl hx1) <| un1 (v := (.agg (e_TJJob x_))) rfl <| un <| a2v (v := (.c (.ref 3 7 0 0))) (h' := upd _ 3 (some (.cells 7 [[cI 0, cI 0, cB false, .str [], cI 0, cI 0, .str []]]))) (n' := 4) rfl rfl hcs <| un <| a2n (h' := upd _ 3 (some (.cells 7 [(e_TJJob x_)]))) (n' := 4) rfl rfl hcs <| dnil <| ssr <| un1 (v := (.c (.ref 0 5 0 3))) rfl <| un1 (v := (.c (.ro false 7 (q_.Smalls.map e_TJJob)))) rfl ?_
  obtain ⟨r_, hx2, h⟩ := bnd h
  refine un1 (v := (.c (.ro false 7 (r_.map e_TJJob)))) (s_slSl (e := e_TJJob) rfl rfl rfl hx2) <| un1 (v := (.c (.ref 0 5 0 3))) rfl <| un <| a2n (h' := upd _ 0 (some (.cells 5 [[cI q_.Now, cI q_.Next, .ro false 7 (q_.Tasks.map e_TJJob), .ro false 7 (r_.map e_TJJob), .ro false 5 (q_.Timers.map e_TJTimer)]]))) (n' := 4) rfl rfl hcs <| dnil <| Sv.seq <| Sv.drawn2 <| un1 (v := (.agg [cI q_.Now, cI q_.Next, .ro false 7 (q_.Tasks.map e_TJJob), .ro false 7 (r_.map e_TJJob), .ro false 5 (q_.Timers.map e_TJTimer)])) rfl <| dnil ?_
  refine ⟨?_, ?_⟩
  ·refine un1 (v := (.agg (e_TJJob x_))) rfl <| un <| a2n (h' := upd _ 1 (some (.cells 5 [[cI q_.Now, cI q_.Next, .ro false 7 (q_.Tasks.map e_TJJob), .ro false 7 (r_.map e_TJJob), .ro false 5 (q_.Timers.map e_TJTimer)]]))) (n' := 4) rfl rfl hcs <| un <| a2n (h' := upd _ 2 (some (.cells 7 [(e_TJJob x_)]))) (n' := 4) rfl rfl hcs <| un1 rfl <| dnil <| Sv.ret ?_
   exact rt0 h rfl rfl ⟨rfl, rfl, rfl⟩
  ·refine un <| a2n (h' := upd _ 1 (some (.cells 5 [[cI q_.Now, cI q_.Next, .ro false 7 (q_.Tasks.map e_TJJob), .ro false 7 (r_.map e_TJJob), .ro false 5 (q_.Timers.map e_TJTimer)]]))) (n' := 4) rfl rfl hcs <| un1 (v := (.agg (e_TJJob x_))) rfl <| un <| a2n (h' := upd _ 2 (some (.cells 7 [(e_TJJob x_)]))) (n' := 4) rfl rfl hcs <| un1 rfl <| dnil <| Sv.ret ?_
   exact rt0 h rfl rfl ⟨rfl, rfl, rfl⟩
 ·refine Sv.skip <| Sv.seq <| ssr <| un1 (v := (.c (.ref 0 5 0 4))) rfl <| un1 (v := (.c (.ro false 5 (q_.Timers.map e_TJTimer)))) rfl <| un1 (v := (I (q_.Timers.length : Int))) (s_len (e := e_TJTimer) (xs := q_.Timers) rfl) <| un1 rfl <| dnil <| Sv.block ?_
  obtain ⟨kk, h⟩ := lim_some h
  refine Sv.weak (wcn [0, 1, 2] rfl (.cf rfl rfl (.cf rfl rfl (.cf rfl rfl (.cr rfl rfl rfl (.cr rfl rfl rfl (.cr rfl rfl rfl (.cf rfl rfl .nil))))))) (.box (by decide) rfl (blkAs_cells (.sm rfl (.sm rfl (.sm rfl (.sm rfl (.sm rfl (.sm rfl (.sm rfl .nil)))))))) (.box (by decide) rfl (blkAs_cells (.sm rfl (.sm rfl (.sm rfl (.sm rfl (.sm rfl .nil)))))) (.box (by decide) rfl (blkAs_cells (.sm rfl (.sm rfl (.sm rfl (.sm rfl (.sm rfl .nil)))))) .nil)))) (Z7p h ?_ (fun s hs => hs))
  ·intro _ h _ hw1
   refine Sv.weak hw1 <| Sv.seq <| ssr <| un1 (v := (.c (.ref 0 5 0 2))) rfl <| un1 (v := (.c (.ro false 7 (q_.Tasks.map e_TJJob)))) rfl <| un1 (v := (I (q_.Tasks.length : Int))) (s_len (e := e_TJJob) (xs := q_.Tasks) rfl) <| un1 (v := (B (decide (0 < (q_.Tasks.length : Int))))) rfl <| dnil ?_
   refine Sv.cnd rfl h (fun h => ?_) fun h => ?_
   ·refine ssr <| un1 (v := (.c (.ref 0 5 0 2))) rfl <| un1 (v := (.c (.ro false 7 (q_.Tasks.map e_TJJob)))) rfl ?_
    obtain ⟨x_2, hx5, h⟩ := bnd h
    refine un1 (v := (.c (.rop (e_TJJob x_2)))) (s_iaddr (e := e_TJJob) (xs := q_.Tasks) rfl rfl hx5) <| un1 (v := (.agg (e_TJJob x_2))) rfl <| un <| a2v (v := (.c (.ref 3 7 0 0))) (h' := upd _ 3 (some (.cells 7 [[cI 0, cI 0, cB false, .str [], cI 0, cI 0, .str []]]))) (n' := 4) rfl rfl hcs <| un <| a2n (h' := upd _ 3 (some (.cells 7 [(e_TJJob x_2)]))) (n' := 4) rfl rfl hcs <| dnil <| ssr <| un1 (v := (.c (.ref 0 5 0 2))) rfl <| un1 (v := (.c (.ro false 7 (q_.Tasks.map e_TJJob)))) rfl ?_
    obtain ⟨r_3, hx6, h⟩ := bnd h
    refine un1 (v := (.c (.ro false 7 (r_3.map e_TJJob)))) (s_slSl (e := e_TJJob) rfl rfl rfl hx6) <| un1 (v := (.c (.ref 0 5 0 2))) rfl <| un <| a2n (h' := upd _ 0 (some (.cells 5 [[cI q_.Now, cI q_.Next, .ro false 7 (r_3.map e_TJJob), .ro false 7 (q_.Smalls.map e_TJJob), .ro false 5 (q_.Timers.map e_TJTimer)]]))) (n' := 4) rfl rfl hcs <| dnil <| Sv.seq <| Sv.drawn2 <| un1 (v := (.agg [cI q_.Now, cI q_.Next, .ro false 7 (r_3.map e_TJJob), .ro false 7 (q_.Smalls.map e_TJJob), .ro false 5 (q_.Timers.map e_TJTimer)])) rfl <| dnil ?_
    refine ⟨?_, ?_⟩
    ·refine un1 (v := (.agg (e_TJJob x_2))) rfl <| un <| a2n (h' := upd _ 1 (some (.cells 5 [[cI q_.Now, cI q_.Next, .ro false 7 (r_3.map e_TJJob), .ro false 7 (q_.Smalls.map e_TJJob), .ro false 5 (q_.Timers.map e_TJTimer)]]))) (n' := 4) rfl rfl hcs <| un <| a2n (h' := upd _ 2 (some (.cells 7 [(e_TJJob x_2)]))) (n' := 4) rfl rfl hcs <| un1 rfl <| dnil <| Sv.ret ?_
     exact rt0 h rfl rfl ⟨rfl, rfl, rfl⟩
    ·refine un <| a2n (h' := upd _ 1 (some (.cells 5 [[cI q_.Now, cI q_.Next, .ro false 7 (r_3.map e_TJJob), .ro false 7 (q_.Smalls.map e_TJJob), .ro false 5 (q_.Timers.map e_TJTimer)]]))) (n' := 4) rfl rfl hcs <| un1 (v := (.agg (e_TJJob x_2))) rfl <| un <| a2n (h' := upd _ 2 (some (.cells 7 [(e_TJJob x_2)]))) (n' := 4) rfl rfl hcs <| un1 rfl <| dnil <| Sv.ret ?_
     exact rt0 h rfl rfl ⟨rfl, rfl, rfl⟩
   ·refine Sv.skip <| ssr <| un1 rfl <| un1 (v := (.c (.ref 0 5 0 0))) rfl <| un <| a2n (h' := upd _ 0 (some (.cells 5 [[cI until_, cI q_.Next, .ro false 7 (q_.Tasks.map e_TJJob), .ro false 7 (q_.Smalls.map e_TJJob), .ro false 5 (q_.Timers.map e_TJTimer)]]))) (n' := 3) rfl rfl hcs <| dnil <| ssr <| un1 (v := (.agg [cI until_, cI q_.Next, .ro false 7 (q_.Tasks.map e_TJJob), .ro false 7 (q_.Smalls.map e_TJJob), .ro false 5 (q_.Timers.map e_TJTimer)])) rfl <| un1 (v := (.agg [cI 0, cI 0, cB false, .str [], cI 0, cI 0, .str []])) rfl <| un <| a2n (h' := upd _ 1 (some (.cells 5 [[cI until_, cI q_.Next, .ro false 7 (q_.Tasks.map e_TJJob), .ro false 7 (q_.Smalls.map e_TJJob), .ro false 5 (q_.Timers.map e_TJTimer)]]))) (n' := 3) rfl rfl hcs <| un <| a2n (h' := upd _ 2 (some (.cells 7 [[cI 0, cI 0, cB false, .str [], cI 0, cI 0, .str []]]))) (n' := 3) rfl rfl hcs <| un1 rfl <| dnil <| Sv.ret ?_
    exact rt0 h rfl rfl ⟨rfl, rfl, rfl⟩
def a17_c0 : ACode := (.seq (sr [(mV 51 5), (oP 52 (.len (.tmp 51))), (oP 53 (.bin .lss (.tmp 52) (kI 300)))]
 (.cond (.tmp 53) .skip (.exit 2)))
 (.block 3 (sr [(oP 55 (.load true 5 (.tmp 4))), (mV 56 11), (oP 57 (.call 13 [(.tmp 55), (.tmp 56)])), (mV 54 57), (oP 58 (.ext (.tmp 54) 0)), (oP 59 (.ext (.tmp 54) 1)), (oP 60 (.ext (.tmp 54) 2)), (oP 12 (.box (.const (.agg [(.val (.int .i64 0)), (.val (.int .i64 0)), (.ro true 7 []), (.ro true 7 []), (.ro true 5 [])])))), (oP 13 (.box (.const (.agg [(.val (.int .i64 0)), (.val (.int .i64 0)), (.val (.bool false)), (.str []), (.val (.int .i64 0)), (.val (.int .i64 0)), (.str [])])))), (oN (.store 5 (.tmp 12) (.tmp 58))), (oN (.store 7 (.tmp 13) (.tmp 59))), (mV 14 60)]
 (.seq (sr [(oP 61 (.load true 5 (.tmp 12))), (oN (.store 5 (.tmp 4) (.tmp 61)))]
 (sr [(mV 62 14), (oP 63 (.un .not (.tmp 62)))]
 (.cond (.tmp 63) (.exit 2) .skip)))
 (.region [(mV 64 5), (oP 65 (.load true 7 (.tmp 13))), (oP 66 (.bslice 7 [(.val (.int .i64 0)), (.val (.int .i64 0)), (.val (.bool false)), (.str []), (.val (.int .i64 0)), (.val (.int .i64 0)), (.str [])] 1 [(0, (.tmp 65))])), (oP 67 (.app 7 72 (.tmp 64) (.tmp 66))), (mV 5 67)])))))
def a17_c1 : ACode := (.region [(oP 68 (.bin .add (.tmp 17) (kI 1))), (mV 17 68)])
def a17_c2 : ACode := (sr [(oP 18 (.bin .lss (.tmp 17) (.tmp 16)))]
 (.seq (.cond (.tmp 18) .skip (.exit 0))
 (.seq (.block 1 (sr [(oP 19 (.iaddr 7 (.tmp 15) (.tmp 17))), (oP 20 (.load true 7 (.tmp 19))), (oP 7 (.box (.const (.agg [(.val (.int .i64 0)), (.val (.int .i64 0)), (.val (.int .i64 0)), (.str []), (.val (.int .i64 0)), (.val (.int .i64 0)), (.str [])])))), (oN (.store 7 (.tmp 7) (.tmp 20)))]
 (.seq (sr [(oP 21 (.faddr 0 (.tmp 7))), (oP 22 (.load false 1 (.tmp 21))), (oP 23 (.bin .lss (.tmp 22) (kI 6)))]
 (.cond (.tmp 23) (.seq (sr [(oP 25 (.load true 5 (.tmp 4))), (oP 26 (.load true 7 (.tmp 7))), (oP 27 (.call 11 [(.tmp 25), (.tmp 26)])), (mV 24 27), (oP 28 (.ext (.tmp 24) 0)), (oP 29 (.ext (.tmp 24) 1)), (oP 30 (.ext (.tmp 24) 2)), (oP 8 (.box (.const (.agg [(.val (.int .i64 0)), (.val (.int .i64 0)), (.ro true 7 []), (.ro true 7 []), (.ro true 5 [])])))), (oN (.store 5 (.tmp 8) (.tmp 28))), (mV 9 29), (mV 10 30)]
 (sr [(mV 31 10), (oP 32 (.bin .eql (.tmp 31) (kI 0)))]
 (.cond (.tmp 32) (.region [(oP 33 (.load true 5 (.tmp 8))), (oN (.store 5 (.tmp 4) (.tmp 33)))]) .skip)))
 (.exit 1)) .skip))
 (.seq (sr [(oP 34 (.faddr 2 (.tmp 7))), (oP 35 (.load false 1 (.tmp 34))), (oP 36 (.call 12 [(.tmp 35), (kI 0), (kI 1000000)])), (oP 37 (.un .not (.tmp 36))), (mV 38 37), ⟨(some 39), (.faddr 0 (.tmp 4)), (some (38, false))⟩, ⟨(some 40), (.load false 1 (.tmp 39)), (some (38, false))⟩, ⟨(some 41), (.faddr 2 (.tmp 7)), (some (38, false))⟩, ⟨(some 42), (.load false 1 (.tmp 41)), (some (38, false))⟩, ⟨(some 43), (.bin .add (.tmp 40) (.tmp 42)), (some (38, false))⟩, ⟨(some 44), (.bin .gtr (.tmp 43) (kI 1000000000)), (some (38, false))⟩, (oP 45 (.pick (.tmp 38) kT (.tmp 44)))]
 (.cond (.tmp 45) (.exit 1) .skip))
 (sr [(oP 46 (.faddr 0 (.tmp 4))), (oP 47 (.load false 1 (.tmp 46))), (oP 48 (.faddr 2 (.tmp 7))), (oP 49 (.load false 1 (.tmp 48))), (oP 50 (.bin .add (.tmp 47) (.tmp 49))), (mV 11 50)]
 (.block 2 (.loop a17_c0)))))))
 a17_c1)))
def a17 : AFunc := ⟨1, [(.tmp 2), (.cell true 5 3)], (sr [(oP 2 (.mov (.const (.c (.ro true 7 []))))), (oP 3 (.box (.const (.agg [(.val (.int .i64 0)), (.val (.int .i64 0)), (.ro true 7 []), (.ro true 7 []), (.ro true 5 [])]))))]
 (sr [(oP 4 (.box (.const (.agg [(.val (.int .i64 0)), (.val (.int .i64 0)), (.ro true 7 []), (.ro true 7 []), (.ro true 5 [])]))))]
 (sr [(oP 5 (.mov (.const (.c (.ro true 7 [])))))]
 (.seq (sr [(mV 15 0), (oP 16 (.len (.tmp 15))), (oP 17 (.mov (kI 0)))]
 (.block 0 (.loop a17_c2)))
 (.seq (.drawn (.fin [((mV 69 5), (0, 0)), ((oP 70 (.load true 5 (.tmp 4))), (0, 1)), ((mV 2 69), (0, 2)), ((oN (.store 5 (.tmp 3) (.tmp 70))), (2, 3))]))
 .ret)))))⟩
theorem c17 : compFunc Try.prog 17 = some a17 := by kernel_rfl
def Z2a (r : ((List TJJob) × TJLoop)) : AV → Heap → Nat → Prop := fun v h' n' => ∃ z0 : Bool, (z0 = true → r.1 = []) ∧ v = (.tup [(lstV z0 0 7 r.1.length), (.agg [cI r.2.Now, cI r.2.Next, .ro false 7 (r.2.Tasks.map e_TJJob), .ro false 7 (r.2.Smalls.map e_TJJob), .ro false 5 (r.2.Timers.map e_TJTimer)])]) ∧ (h' = (upd e0 0 (lstB z0 7 (r.1.map e_TJJob)))) ∧ n' = 1
abbrev Z4w (asks : (List TJAsk)) (F_ : Int → Int → (List TJJob) → (List TJJob) → (List TJTimer) → (List TJJob) → Int → Option ((List TJJob) × TJLoop)) (o : ((List TJJob) × TJLoop)) (R_ : St → Prop) : Prop := ∀ (q0 : Int) (q1 : Int) (q2 : (List TJJob)) (q3 : (List TJJob)) (q4 : (List TJTimer)) (out : (List TJJob)) (v17 : Int) (zout : Bool) (_ : zout = true → out = []), F_ q0 q1 q2 q3 q4 out v17 = some o → ∀ s, Weak 0 s ⟨(ue [(17, (I v17)), (16, (I (asks.length : Int))), (15, (.c (.ro false 7 (asks.map e_TJAsk)))), (5, (lstV zout 2 7 out.length)), (4, (.c (.ref 1 5 0 0))), (3, (.c (.ref 0 5 0 0)))]), (upd (upd (upd e0 0 (some (.cells 5 [[cI 0, cI 0, .ro true 7 [], .ro true 7 [], .ro true 5 []]]))) 1 (some (.cells 5 [[cI q0, cI q1, .ro false 7 (q2.map e_TJJob), .ro false 7 (q3.map e_TJJob), .ro false 5 (q4.map e_TJTimer)]]))) 2 (lstB zout 7 (out.map e_TJJob))), 3⟩ → R_ s
abbrev Z4x (F_ : Int → Int → (List TJJob) → (List TJJob) → (List TJTimer) → (List TJJob) → Option ((List TJJob) × TJLoop)) (o : ((List TJJob) × TJLoop)) (R_ : St → Prop) : Prop := ∀ (q01 : Int) (q11 : Int) (q21 : (List TJJob)) (q31 : (List TJJob)) (q41 : (List TJTimer)) (out1 : (List TJJob)) (zout1 : Bool) (_ : zout1 = true → out1 = []), F_ q01 q11 q21 q31 q41 out1 = some o → ∀ s, Weak 0 s ⟨(ue [(5, (lstV zout1 2 7 out1.length)), (4, (.c (.ref 1 5 0 0))), (3, (.c (.ref 0 5 0 0)))]), (upd (upd (upd e0 0 (some (.cells 5 [[cI 0, cI 0, .ro true 7 [], .ro true 7 [], .ro true 5 []]]))) 1 (some (.cells 5 [[cI q01, cI q11, .ro false 7 (q21.map e_TJJob), .ro false 7 (q31.map e_TJJob), .ro false 5 (q41.map e_TJTimer)]]))) 2 (lstB zout1 7 (out1.map e_TJJob))), 3⟩ → R_ s
noncomputable def Z1e (v17 : Int) (asks : (List TJAsk)) (self : Int → Int → (List TJJob) → (List TJJob) → (List TJTimer) → (List TJJob) → Int → Option ((List TJJob) × TJLoop)) (K0_ : Int → Int → (List TJJob) → (List TJJob) → (List TJTimer) → (List TJJob) → Option ((List TJJob) × TJLoop)) (q02 : Int) (q12 : Int) (q22 : (List TJJob)) (q32 : (List TJJob)) (q42 : (List TJTimer)) (out2 : (List TJJob)) : Option ((List TJJob) × TJLoop) :=
 self q02 q12 q22 q32 q42 out2 (wi (v17 + 1))
theorem Z2q {Γ : Glob} {Q : AExit → St → Prop} {v17 : Int} {asks : (List TJAsk)} {self : Int → Int → (List TJJob) → (List TJJob) → (List TJTimer) → (List TJJob) → Int → Option ((List TJJob) × TJLoop)} {K0_ : Int → Int → (List TJJob) → (List TJJob) → (List TJTimer) → (List TJJob) → Option ((List TJJob) × TJLoop)} {q02 : Int} {q12 : Int} {q22 : (List TJJob)} {q32 : (List TJJob)} {q42 : (List TJTimer)} {out2 : (List TJJob)} {zout2 : Bool} (hzout2 : zout2 = true → out2 = []) {o : ((List TJJob) × TJLoop)} (h : Z1e v17 asks self K0_ q02 q12 q22 q32 q42 out2 = some o)
  (hself : Z4w asks self o (Q .normal))
  (hK0 : Z4x K0_ o (Q (.exit 0)))
  (hr : ∀ s, Ends a17.results 0 (Z2a o) .ret s → Q .ret s) :
  Sv Try.prog Γ 0 a17_c1 Q ⟨(ue [(17, (I v17)), (16, (I (asks.length : Int))), (15, (.c (.ro false 7 (asks.map e_TJAsk)))), (5, (lstV zout2 2 7 out2.length)), (4, (.c (.ref 1 5 0 0))), (3, (.c (.ref 0 5 0 0)))]), (upd (upd (upd e0 0 (some (.cells 5 [[cI 0, cI 0, .ro true 7 [], .ro true 7 [], .ro true 5 []]]))) 1 (some (.cells 5 [[cI q02, cI q12, .ro false 7 (q22.map e_TJJob), .ro false 7 (q32.map e_TJJob), .ro false 5 (q42.map e_TJTimer)]]))) 2 (lstB zout2 7 (out2.map e_TJJob))), 3⟩ := by
 unfold Z1e at h
 refine srg <| un1 (v := (I (wi (v17 + 1)))) rfl <| un1 rfl <| dnil ?_
 exact hself q02 q12 q22 q32 q42 out2 (wi (v17 + 1)) zout2 hzout2 h _ (wcn [0, 1, 2] rfl (.cf rfl rfl (.cf rfl rfl (.cf rfl rfl (.cons rfl (.c (lsr rfl rfl)) (.cr rfl rfl rfl (.cr rfl rfl rfl .nil)))))) (.row (by decide) rfl (fr_map fun _ => rfl) (.box (by decide) rfl (blkAs_cells (.sm rfl (.sm rfl (.sm rfl (.sm rfl (.sm rfl .nil)))))) (.box (by decide) rfl (blkAs_cells (.sm rfl (.sm rfl (.sm rfl (.sm rfl (.sm rfl .nil)))))) .nil))))
abbrev Z7r (asks : (List TJAsk)) (v17 : Int) (F_ : Int → Int → (List TJJob) → (List TJJob) → (List TJTimer) → (List TJJob) → Option ((List TJJob) × TJLoop)) (o : ((List TJJob) × TJLoop)) (R_ : St → Prop) : Prop := ∀ (q04 : Int) (q14 : Int) (q24 : (List TJJob)) (q34 : (List TJJob)) (q44 : (List TJTimer)) (out4 : (List TJJob)) (zout4 : Bool) (_ : zout4 = true → out4 = []), F_ q04 q14 q24 q34 q44 out4 = some o → ∀ s, Weak 0 s ⟨(ue [(17, (I v17)), (16, (I (asks.length : Int))), (15, (.c (.ro false 7 (asks.map e_TJAsk)))), (5, (lstV zout4 2 7 out4.length)), (4, (.c (.ref 1 5 0 0))), (3, (.c (.ref 0 5 0 0)))]), (upd (upd (upd e0 0 (some (.cells 5 [[cI 0, cI 0, .ro true 7 [], .ro true 7 [], .ro true 5 []]]))) 1 (some (.cells 5 [[cI q04, cI q14, .ro false 7 (q24.map e_TJJob), .ro false 7 (q34.map e_TJJob), .ro false 5 (q44.map e_TJTimer)]]))) 2 (lstB zout4 7 (out4.map e_TJJob))), 3⟩ → R_ s
abbrev Z4y (q0 : Int) (x_ : TJAsk) (asks : (List TJAsk)) (v17 : Int) (F_ : Nat → Int → Int → (List TJJob) → (List TJJob) → (List TJTimer) → (List TJJob) → Option ((List TJJob) × TJLoop)) (o : ((List TJJob) × TJLoop)) : Nat → St → Prop := fun k s => ∃ (q03 : Int), ∃ (q13 : Int), ∃ (q23 : (List TJJob)), ∃ (q33 : (List TJJob)), ∃ (q43 : (List TJTimer)), ∃ (out3 : (List TJJob)), ∃ (zout3 : Bool), (zout3 = true → out3 = []) ∧ F_ k q03 q13 q23 q33 q43 out3 = some o ∧ s = ⟨(ue [(17, (I v17)), (16, (I (asks.length : Int))), (15, (.c (.ro false 7 (asks.map e_TJAsk)))), (11, (I (wi (q0 + x_.N)))), (5, (lstV zout3 2 7 out3.length)), (4, (.c (.ref 1 5 0 0))), (3, (.c (.ref 0 5 0 0)))]), (upd (upd (upd e0 0 (some (.cells 5 [[cI 0, cI 0, .ro true 7 [], .ro true 7 [], .ro true 5 []]]))) 1 (some (.cells 5 [[cI q03, cI q13, .ro false 7 (q23.map e_TJJob), .ro false 7 (q33.map e_TJJob), .ro false 5 (q43.map e_TJTimer)]]))) 2 (lstB zout3 7 (out3.map e_TJJob))), 3⟩
abbrev Z7s (q0 : Int) (x_ : TJAsk) (asks : (List TJAsk)) (v17 : Int) (F_ : Int → Int → (List TJJob) → (List TJJob) → (List TJTimer) → (List TJJob) → Option ((List TJJob) × TJLoop)) (o : ((List TJJob) × TJLoop)) (R_ : St → Prop) : Prop := ∀ (q03 : Int) (q13 : Int) (q23 : (List TJJob)) (q33 : (List TJJob)) (q43 : (List TJTimer)) (out3 : (List TJJob)) (zout3 : Bool) (_ : zout3 = true → out3 = []), F_ q03 q13 q23 q33 q43 out3 = some o → ∀ s, Weak 0 s ⟨(ue [(17, (I v17)), (16, (I (asks.length : Int))), (15, (.c (.ro false 7 (asks.map e_TJAsk)))), (11, (I (wi (q0 + x_.N)))), (5, (lstV zout3 2 7 out3.length)), (4, (.c (.ref 1 5 0 0))), (3, (.c (.ref 0 5 0 0)))]), (upd (upd (upd e0 0 (some (.cells 5 [[cI 0, cI 0, .ro true 7 [], .ro true 7 [], .ro true 5 []]]))) 1 (some (.cells 5 [[cI q03, cI q13, .ro false 7 (q23.map e_TJJob), .ro false 7 (q33.map e_TJJob), .ro false 5 (q43.map e_TJTimer)]]))) 2 (lstB zout3 7 (out3.map e_TJJob))), 3⟩ → R_ s
noncomputable def Ze (q0 : Int) (x_ : TJAsk) (asks : (List TJAsk)) (v17 : Int) (K2_ : Int → Int → (List TJJob) → (List TJJob) → (List TJTimer) → (List TJJob) → Option ((List TJJob) × TJLoop)) : Nat → Int → Int → (List TJJob) → (List TJJob) → (List TJTimer) → (List TJJob) → Option ((List TJJob) × TJLoop)
 | 0, _, _, _, _, _, _ => none
 | k + 1, q03, q13, q23, q33, q43, out3 =>
  if decide ((out3.length : Int) < 300) then
   (Z29 (⟨q03, q13, q23, q33, q43⟩ : TJLoop) (wi (q0 + x_.N))).bind fun r_1 =>
   if (!r_1.2.2) then
    K2_ r_1.1.Now r_1.1.Next r_1.1.Tasks r_1.1.Smalls r_1.1.Timers out3
   else
    (app? 72 out3 [r_1.2.1]).bind fun r_2 =>
    (Ze q0 x_ asks v17 K2_ k) r_1.1.Now r_1.1.Next r_1.1.Tasks r_1.1.Smalls r_1.1.Timers r_2
  else
   K2_ q03 q13 q23 q33 q43 out3
theorem Z7t {Γ : Glob} {Q : AExit → St → Prop} {q0 : Int} {x_ : TJAsk} {asks : (List TJAsk)} {v17 : Int} {K2_ : Int → Int → (List TJJob) → (List TJJob) → (List TJTimer) → (List TJJob) → Option ((List TJJob) × TJLoop)} {k : Nat} {q03 : Int} {q13 : Int} {q23 : (List TJJob)} {q33 : (List TJJob)} {q43 : (List TJTimer)} {out3 : (List TJJob)} {zout3 : Bool} (hzout3 : zout3 = true → out3 = []) {o : ((List TJJob) × TJLoop)} (h : Ze q0 x_ asks v17 K2_ k q03 q13 q23 q33 q43 out3 = some o)
  (hK2 : Z7r asks v17 K2_ o (Q (.exit 2)))
  (hr : ∀ s, Ends a17.results 0 (Z2a o) .ret s → Q .ret s) :
  Sv Try.prog Γ 0 (.loop a17_c0) Q ⟨(ue [(17, (I v17)), (16, (I (asks.length : Int))), (15, (.c (.ro false 7 (asks.map e_TJAsk)))), (11, (I (wi (q0 + x_.N)))), (5, (lstV zout3 2 7 out3.length)), (4, (.c (.ref 1 5 0 0))), (3, (.c (.ref 0 5 0 0)))]), (upd (upd (upd e0 0 (some (.cells 5 [[cI 0, cI 0, .ro true 7 [], .ro true 7 [], .ro true 5 []]]))) 1 (some (.cells 5 [[cI q03, cI q13, .ro false 7 (q23.map e_TJJob), .ro false 7 (q33.map e_TJJob), .ro false 5 (q43.map e_TJTimer)]]))) 2 (lstB zout3 7 (out3.map e_TJJob))), 3⟩ := by
 refine Sv.loop (I := Z4y q0 x_ asks v17 (Ze q0 x_ asks v17 K2_) o) (fun k s hI => ?_) ⟨q03, q13, q23, q33, q43, out3, zout3, hzout3, h, rfl⟩
 clear h
 clear hzout3 zout3 out3 q43 q33 q23 q13 q03
 obtain ⟨q03, q13, q23, q33, q43, out3, zout3, hzout3, h, rfl⟩ := hI
 cases k with
 | zero => cases h
 | succ k =>
 rw [Ze] at h
 have hself : Z7s q0 x_ asks v17 (Ze q0 x_ asks v17 K2_ k) o (rnd 0 (Z4y q0 x_ asks v17 (Ze q0 x_ asks v17 K2_) o) k Q) := fun q03 q13 q23 q33 q43 out3 zout3 hzout3 h s hw => ⟨_, k, hw, Nat.lt_succ_self k, q03, q13, q23, q33, q43, out3, zout3, hzout3, h, rfl⟩
 refine Sv.seq <| ssr <| un1 rfl <| un1 (v := (I (out3.length : Int))) (s_lenL rfl (len_nil_of hzout3)) <| un1 (v := (B (decide ((out3.length : Int) < 300)))) rfl <| dnil ?_
 refine Sv.cnd rfl h (fun h => ?_) fun h => ?_
 ·refine Sv.skip <| Sv.block <| ssr <| un1 (v := (.agg [cI q03, cI q13, .ro false 7 (q23.map e_TJJob), .ro false 7 (q33.map e_TJJob), .ro false 5 (q43.map e_TJTimer)])) rfl <| un1 rfl ?_
  obtain ⟨r_1, hr2, h⟩ := bnd h
  refine un <| ac_pure (Z7q hr2) rfl rfl rfl <| un1 rfl <| un1 (v := (.agg [cI r_1.1.Now, cI r_1.1.Next, .ro false 7 (r_1.1.Tasks.map e_TJJob), .ro false 7 (r_1.1.Smalls.map e_TJJob), .ro false 5 (r_1.1.Timers.map e_TJTimer)])) rfl <| un1 (v := (.agg (e_TJJob r_1.2.1))) rfl <| un1 (v := (B r_1.2.2)) rfl <| un <| a2v (v := (.c (.ref 3 5 0 0))) (h' := upd _ 3 (some (.cells 5 [[cI 0, cI 0, .ro true 7 [], .ro true 7 [], .ro true 5 []]]))) (n' := 4) rfl rfl hcs <| un <| a2v (v := (.c (.ref 4 7 0 0))) (h' := upd _ 4 (some (.cells 7 [[cI 0, cI 0, cB false, .str [], cI 0, cI 0, .str []]]))) (n' := 5) rfl rfl hcs <| un <| a2n (h' := upd _ 3 (some (.cells 5 [[cI r_1.1.Now, cI r_1.1.Next, .ro false 7 (r_1.1.Tasks.map e_TJJob), .ro false 7 (r_1.1.Smalls.map e_TJJob), .ro false 5 (r_1.1.Timers.map e_TJTimer)]]))) (n' := 5) rfl rfl hcs <| un <| a2n (h' := upd _ 4 (some (.cells 7 [(e_TJJob r_1.2.1)]))) (n' := 5) rfl rfl hcs <| un1 rfl <| dnil <| Sv.seq <| ssr <| un1 (v := (.agg [cI r_1.1.Now, cI r_1.1.Next, .ro false 7 (r_1.1.Tasks.map e_TJJob), .ro false 7 (r_1.1.Smalls.map e_TJJob), .ro false 5 (r_1.1.Timers.map e_TJTimer)])) rfl <| un <| a2n (h' := upd _ 1 (some (.cells 5 [[cI r_1.1.Now, cI r_1.1.Next, .ro false 7 (r_1.1.Tasks.map e_TJJob), .ro false 7 (r_1.1.Smalls.map e_TJJob), .ro false 5 (r_1.1.Timers.map e_TJTimer)]]))) (n' := 5) rfl rfl hcs <| dnil <| ssr <| un1 rfl <| un1 (v := (B (!r_1.2.2))) rfl <| dnil ?_
  refine Sv.cnd rfl h (fun h => ?_) fun h => ?_
  ·refine Sv.exit ?_
   exact hK2 r_1.1.Now r_1.1.Next r_1.1.Tasks r_1.1.Smalls r_1.1.Timers out3 zout3 hzout3 h _ (wcn [0, 1, 2] rfl (.cf rfl rfl (.cf rfl rfl (.cf rfl rfl (.cons rfl (.c (lsr rfl rfl)) (.cr rfl rfl rfl (.cr rfl rfl rfl .nil)))))) (.row (by decide) rfl (fr_map fun _ => rfl) (.box (by decide) rfl (blkAs_cells (.sm rfl (.sm rfl (.sm rfl (.sm rfl (.sm rfl .nil)))))) (.box (by decide) rfl (blkAs_cells (.sm rfl (.sm rfl (.sm rfl (.sm rfl (.sm rfl .nil)))))) .nil))))
  ·refine Sv.skip <| srg <| un1 rfl <| un1 (v := (.agg (e_TJJob r_1.2.1))) rfl <| un <| a2v (v := (lstV false 5 7 [r_1.2.1].length)) (h' := upd _ 5 (lstB false 7 ([r_1.2.1].map e_TJJob))) (n' := 6) rfl rfl hcs ?_
   obtain ⟨r_2, hr3, h⟩ := bnd h
   have hz1 : (zout3 && [r_1.2.1].isEmpty) = true → r_2 = [] := app_nil (z := zout3) (ys := [r_1.2.1]) hzout3 hr3
   refine un <| a2v rfl (s_app (xs := out3) (ys := [r_1.2.1]) (e := e_TJJob) (z := zout3) (b := 2) rfl rfl hzout3 rfl rfl (slc_lst rfl (List.length_map _).symm (map_nil_of hcs)) hr3) hcs <| un1 rfl <| dnil ?_
   exact hself r_1.1.Now r_1.1.Next r_1.1.Tasks r_1.1.Smalls r_1.1.Timers r_2 (zout3 && [r_1.2.1].isEmpty) hz1 h _ (wcn [0, 1, 6] rfl (.cf rfl rfl (.cf rfl rfl (.cf rfl rfl (.cf rfl rfl (.cons rfl (.c (lsr rfl rfl)) (.cr rfl rfl rfl (.cr rfl rfl rfl .nil))))))) (.row (by decide) rfl (fr_map fun _ => rfl) (.box (by decide) rfl (blkAs_cells (.sm rfl (.sm rfl (.sm rfl (.sm rfl (.sm rfl .nil)))))) (.box (by decide) rfl (blkAs_cells (.sm rfl (.sm rfl (.sm rfl (.sm rfl (.sm rfl .nil)))))) .nil))))
 ·refine Sv.exit ?_
  exact hK2 q03 q13 q23 q33 q43 out3 zout3 hzout3 h _ (wcn [0, 1, 2] rfl (.cf rfl rfl (.cf rfl rfl (.cf rfl rfl (.cons rfl (.c (lsr rfl rfl)) (.cr rfl rfl rfl (.cr rfl rfl rfl .nil)))))) (.row (by decide) rfl (fr_map fun _ => rfl) (.box (by decide) rfl (blkAs_cells (.sm rfl (.sm rfl (.sm rfl (.sm rfl (.sm rfl .nil)))))) (.box (by decide) rfl (blkAs_cells (.sm rfl (.sm rfl (.sm rfl (.sm rfl (.sm rfl .nil)))))) .nil))))
abbrev Z4z (asks : (List TJAsk)) (F_ : Nat → Int → Int → (List TJJob) → (List TJJob) → (List TJTimer) → (List TJJob) → Int → Option ((List TJJob) × TJLoop)) (o : ((List TJJob) × TJLoop)) : Nat → St → Prop := fun k s => ∃ (q0 : Int), ∃ (q1 : Int), ∃ (q2 : (List TJJob)), ∃ (q3 : (List TJJob)), ∃ (q4 : (List TJTimer)), ∃ (out : (List TJJob)), ∃ (v17 : Int), ∃ (zout : Bool), (zout = true → out = []) ∧ F_ k q0 q1 q2 q3 q4 out v17 = some o ∧ s = ⟨(ue [(17, (I v17)), (16, (I (asks.length : Int))), (15, (.c (.ro false 7 (asks.map e_TJAsk)))), (5, (lstV zout 2 7 out.length)), (4, (.c (.ref 1 5 0 0))), (3, (.c (.ref 0 5 0 0)))]), (upd (upd (upd e0 0 (some (.cells 5 [[cI 0, cI 0, .ro true 7 [], .ro true 7 [], .ro true 5 []]]))) 1 (some (.cells 5 [[cI q0, cI q1, .ro false 7 (q2.map e_TJJob), .ro false 7 (q3.map e_TJJob), .ro false 5 (q4.map e_TJTimer)]]))) 2 (lstB zout 7 (out.map e_TJJob))), 3⟩
noncomputable def Z5 (asks : (List TJAsk)) (K0_ : Int → Int → (List TJJob) → (List TJJob) → (List TJTimer) → (List TJJob) → Option ((List TJJob) × TJLoop)) : Nat → Int → Int → (List TJJob) → (List TJJob) → (List TJTimer) → (List TJJob) → Int → Option ((List TJJob) × TJLoop)
 | 0, _, _, _, _, _, _, _ => none
 | k + 1, q0, q1, q2, q3, q4, out, v17 =>
  if decide (v17 < (asks.length : Int)) then
   (at? asks v17).bind fun x_ =>
   if decide (x_.Do < 6) then
    (Z8 (⟨q0, q1, q2, q3, q4⟩ : TJLoop) x_).bind fun r_ =>
    if decide (r_.2.2 = 0) then
     Z1e v17 asks (Z5 asks K0_ k) K0_ r_.1.Now r_.1.Next r_.1.Tasks r_.1.Smalls r_.1.Timers out
    else
     Z1e v17 asks (Z5 asks K0_ k) K0_ q0 q1 q2 q3 q4 out
   else
    if ((!(Z3 x_.N 0 1000000)) || (decide (1000000000 < (wi (q0 + x_.N))))) then
     Z1e v17 asks (Z5 asks K0_ k) K0_ q0 q1 q2 q3 q4 out
    else
     lim fun kk => Ze q0 x_ asks v17 (fun (q04 : Int) (q14 : Int) (q24 : (List TJJob)) (q34 : (List TJJob)) (q44 : (List TJTimer)) (out4 : (List TJJob)) => 
       Z1e v17 asks (Z5 asks K0_ k) K0_ q04 q14 q24 q34 q44 out4) kk q0 q1 q2 q3 q4 out
  else
   K0_ q0 q1 q2 q3 q4 out
theorem Z7u {Γ : Glob} {Q : AExit → St → Prop} {asks : (List TJAsk)} {K0_ : Int → Int → (List TJJob) → (List TJJob) → (List TJTimer) → (List TJJob) → Option ((List TJJob) × TJLoop)} {k : Nat} {q0 : Int} {q1 : Int} {q2 : (List TJJob)} {q3 : (List TJJob)} {q4 : (List TJTimer)} {out : (List TJJob)} {v17 : Int} {zout : Bool} (hzout : zout = true → out = []) {o : ((List TJJob) × TJLoop)} (h : Z5 asks K0_ k q0 q1 q2 q3 q4 out v17 = some o)
  (hK0 : Z4x K0_ o (Q (.exit 0)))
  (hr : ∀ s, Ends a17.results 0 (Z2a o) .ret s → Q .ret s) :
  Sv Try.prog Γ 0 (.loop a17_c2) Q ⟨(ue [(17, (I v17)), (16, (I (asks.length : Int))), (15, (.c (.ro false 7 (asks.map e_TJAsk)))), (5, (lstV zout 2 7 out.length)), (4, (.c (.ref 1 5 0 0))), (3, (.c (.ref 0 5 0 0)))]), (upd (upd (upd e0 0 (some (.cells 5 [[cI 0, cI 0, .ro true 7 [], .ro true 7 [], .ro true 5 []]]))) 1 (some (.cells 5 [[cI q0, cI q1, .ro false 7 (q2.map e_TJJob), .ro false 7 (q3.map e_TJJob), .ro false 5 (q4.map e_TJTimer)]]))) 2 (lstB zout 7 (out.map e_TJJob))), 3⟩ := by
 refine Sv.loop (I := Z4z asks (Z5 asks K0_) o) (fun k s hI => ?_) ⟨q0, q1, q2, q3, q4, out, v17, zout, hzout, h, rfl⟩
 clear h
 clear hzout zout v17 out q4 q3 q2 q1 q0
 obtain ⟨q0, q1, q2, q3, q4, out, v17, zout, hzout, h, rfl⟩ := hI
 cases k with
 | zero => cases h
 | succ k =>
 rw [Z5] at h
 have hself : Z4w asks (Z5 asks K0_ k) o (rnd 0 (Z4z asks (Z5 asks K0_) o) k Q) := fun q0 q1 q2 q3 q4 out v17 zout hzout h s hw => ⟨_, k, hw, Nat.lt_succ_self k, q0, q1, q2, q3, q4, out, v17, zout, hzout, h, rfl⟩
 refine ssr <| un1 (v := (B (decide (v17 < (asks.length : Int))))) rfl <| dnil <| Sv.seq ?_
 refine Sv.cnd rfl h (fun h => ?_) fun h => ?_
 ·refine Sv.skip <| Sv.seq <| Sv.block <| ssr ?_
  obtain ⟨x_, hx1, h⟩ := bnd h
  refine un1 (v := (.c (.rop (e_TJAsk x_)))) (s_iaddr (e := e_TJAsk) (xs := asks) rfl rfl hx1) <| un1 (v := (.agg (e_TJAsk x_))) rfl <| un <| a2v (v := (.c (.ref 3 7 0 0))) (h' := upd _ 3 (some (.cells 7 [[cI 0, cI 0, cI 0, .str [], cI 0, cI 0, .str []]]))) (n' := 4) rfl rfl hcs <| un <| a2n (h' := upd _ 3 (some (.cells 7 [(e_TJAsk x_)]))) (n' := 4) rfl rfl hcs <| dnil <| Sv.seq <| ssr <| un1 (v := (.c (.ref 3 7 0 0))) rfl <| un1 (v := (I x_.Do)) rfl <| un1 (v := (B (decide (x_.Do < 6)))) rfl <| dnil ?_
  refine Sv.cnd rfl h (fun h => ?_) fun h => ?_
  ·refine Sv.seq <| ssr <| un1 (v := (.agg [cI q0, cI q1, .ro false 7 (q2.map e_TJJob), .ro false 7 (q3.map e_TJJob), .ro false 5 (q4.map e_TJTimer)])) rfl <| un1 (v := (.agg (e_TJAsk x_))) rfl ?_
   obtain ⟨r_, hr1, h⟩ := bnd h
   refine un <| ac_pure (Z7n hr1) rfl rfl rfl <| un1 rfl <| un1 (v := (.agg [cI r_.1.Now, cI r_.1.Next, .ro false 7 (r_.1.Tasks.map e_TJJob), .ro false 7 (r_.1.Smalls.map e_TJJob), .ro false 5 (r_.1.Timers.map e_TJTimer)])) rfl <| un1 (v := (I r_.2.1)) rfl <| un1 (v := (I r_.2.2)) rfl <| un <| a2v (v := (.c (.ref 4 5 0 0))) (h' := upd _ 4 (some (.cells 5 [[cI 0, cI 0, .ro true 7 [], .ro true 7 [], .ro true 5 []]]))) (n' := 5) rfl rfl hcs <| un <| a2n (h' := upd _ 4 (some (.cells 5 [[cI r_.1.Now, cI r_.1.Next, .ro false 7 (r_.1.Tasks.map e_TJJob), .ro false 7 (r_.1.Smalls.map e_TJJob), .ro false 5 (r_.1.Timers.map e_TJTimer)]]))) (n' := 5) rfl rfl hcs <| un1 rfl <| un1 rfl <| dnil <| ssr <| un1 rfl <| un1 (v := (B (decide (r_.2.2 = 0)))) rfl <| dnil ?_
   refine Sv.cnd rfl h (fun h => ?_) fun h => ?_
   ·refine srg <| un1 (v := (.agg [cI r_.1.Now, cI r_.1.Next, .ro false 7 (r_.1.Tasks.map e_TJJob), .ro false 7 (r_.1.Smalls.map e_TJJob), .ro false 5 (r_.1.Timers.map e_TJTimer)])) rfl <| un <| a2n (h' := upd _ 1 (some (.cells 5 [[cI r_.1.Now, cI r_.1.Next, .ro false 7 (r_.1.Tasks.map e_TJJob), .ro false 7 (r_.1.Smalls.map e_TJJob), .ro false 5 (r_.1.Timers.map e_TJTimer)]]))) (n' := 5) rfl rfl hcs <| dnil <| Sv.exit ?_
    exact Sv.weak (wcn [0, 1, 2] rfl (.cf rfl rfl (.cf rfl rfl (.cf rfl rfl (.cons rfl (.c (lsr rfl rfl)) (.cr rfl rfl rfl (.cr rfl rfl rfl .nil)))))) (.row (by decide) rfl (fr_map fun _ => rfl) (.box (by decide) rfl (blkAs_cells (.sm rfl (.sm rfl (.sm rfl (.sm rfl (.sm rfl .nil)))))) (.box (by decide) rfl (blkAs_cells (.sm rfl (.sm rfl (.sm rfl (.sm rfl (.sm rfl .nil)))))) .nil)))) (Z2q hzout h hself hK0 hr)
   ·refine Sv.skip <| Sv.exit ?_
    exact Sv.weak (wcn [0, 1, 2] rfl (.cf rfl rfl (.cf rfl rfl (.cf rfl rfl (.cons rfl (.c (lsr rfl rfl)) (.cr rfl rfl rfl (.cr rfl rfl rfl .nil)))))) (.row (by decide) rfl (fr_map fun _ => rfl) (.box (by decide) rfl (blkAs_cells (.sm rfl (.sm rfl (.sm rfl (.sm rfl (.sm rfl .nil)))))) (.box (by decide) rfl (blkAs_cells (.sm rfl (.sm rfl (.sm rfl (.sm rfl (.sm rfl .nil)))))) .nil)))) (Z2q hzout h hself hK0 hr)
  ·refine Sv.skip <| Sv.seq <| ssr <| un1 (v := (.c (.ref 3 7 0 2))) rfl <| un1 (v := (I x_.N)) rfl <| un <| ac_pure (Z2m (Γ := Γ) x_.N 0 1000000) rfl rfl rfl <| un1 (v := (B (!(Z3 x_.N 0 1000000)))) rfl <| un1 rfl ?_
   refine gjoin 7 (d := 45) (v := (B ((!(Z3 x_.N 0 1000000)) || (decide (1000000000 < (wi (q0 + x_.N))))))) (fun X hX => ?_) ?_
   ·refine split2 (fun hc4 => ?_) (fun hc4 => ?_)
    ·repeat (first | refine gu rfl ?_ | refine gs rfl rfl ?_)
     refine un1 (v := (B true)) rfl <| dnil ?_
     exact hX _ (.putEq (by rw [hc4]; rfl) (by repeat (first | exact .putEq (by rw [hc4]) (.refl _) | refine .skp ?_ rfl)))
    ·refine gt rfl <| a1 (v := (.c (.ref 1 5 0 0))) rfl <| gt rfl <| a1 (v := (I q0)) rfl <| gt rfl <| a1 (v := (.c (.ref 3 7 0 2))) rfl <| gt rfl <| a1 (v := (I x_.N)) rfl <| gt rfl <| a1 (v := (I (wi (q0 + x_.N)))) rfl <| gt rfl <| a1 (v := (B (decide (1000000000 < (wi (q0 + x_.N)))))) rfl <| un1 (v := (B (decide (1000000000 < (wi (q0 + x_.N)))))) rfl <| dnil ?_
     exact hX _ (.putEq (by rw [hc4]; rfl) (by repeat (first | exact .putEq (by rw [hc4]) (.refl _) | refine .skp ?_ rfl)))
   refine dnil ?_
   refine Sv.cnd rfl h (fun h => ?_) fun h => ?_
   ·refine Sv.exit ?_
    exact Sv.weak (wcn [0, 1, 2] rfl (.cf rfl rfl (.cf rfl rfl (.cf rfl rfl (.cons rfl (.c (lsr rfl rfl)) (.cr rfl rfl rfl (.cr rfl rfl rfl .nil)))))) (.row (by decide) rfl (fr_map fun _ => rfl) (.box (by decide) rfl (blkAs_cells (.sm rfl (.sm rfl (.sm rfl (.sm rfl (.sm rfl .nil)))))) (.box (by decide) rfl (blkAs_cells (.sm rfl (.sm rfl (.sm rfl (.sm rfl (.sm rfl .nil)))))) .nil)))) (Z2q hzout h hself hK0 hr)
   ·refine Sv.skip <| ssr <| un1 (v := (.c (.ref 1 5 0 0))) rfl <| un1 (v := (I q0)) rfl <| un1 (v := (.c (.ref 3 7 0 2))) rfl <| un1 (v := (I x_.N)) rfl <| un1 (v := (I (wi (q0 + x_.N)))) rfl <| un1 rfl <| dnil <| Sv.block ?_
    obtain ⟨kk, h⟩ := lim_some h
    refine Sv.weak (wcn [0, 1, 2] rfl (.cf rfl rfl (.cf rfl rfl (.cf rfl rfl (.cf rfl rfl (.cons rfl (.c (lsr rfl rfl)) (.cr rfl rfl rfl (.cr rfl rfl rfl .nil))))))) (.row (by decide) rfl (fr_map fun _ => rfl) (.box (by decide) rfl (blkAs_cells (.sm rfl (.sm rfl (.sm rfl (.sm rfl (.sm rfl .nil)))))) (.box (by decide) rfl (blkAs_cells (.sm rfl (.sm rfl (.sm rfl (.sm rfl (.sm rfl .nil)))))) .nil)))) (Z7t hzout h ?_ hr)
    ·intro q04 q14 q24 q34 q44 out4 zout4 hzout4 h _ hw1
     exact Sv.weak (hw1.trans (wcn [0, 1, 2] rfl (.cf rfl rfl (.cf rfl rfl (.cf rfl rfl (.cons rfl (.c (lsr rfl rfl)) (.cr rfl rfl rfl (.cr rfl rfl rfl .nil)))))) (.row (by decide) rfl (fr_map fun _ => rfl) (.box (by decide) rfl (blkAs_cells (.sm rfl (.sm rfl (.sm rfl (.sm rfl (.sm rfl .nil)))))) (.box (by decide) rfl (blkAs_cells (.sm rfl (.sm rfl (.sm rfl (.sm rfl (.sm rfl .nil)))))) .nil))))) (Z2q hzout4 h hself hK0 hr)
 ·refine Sv.exit ?_
  exact hK0 q0 q1 q2 q3 q4 out zout hzout h _ (wcn [0, 1, 2] rfl (.cons rfl (.c (lsr rfl rfl)) (.cr rfl rfl rfl (.cr rfl rfl rfl .nil))) (.row (by decide) rfl (fr_map fun _ => rfl) (.box (by decide) rfl (blkAs_cells (.sm rfl (.sm rfl (.sm rfl (.sm rfl (.sm rfl .nil)))))) (.box (by decide) rfl (blkAs_cells (.sm rfl (.sm rfl (.sm rfl (.sm rfl (.sm rfl .nil)))))) .nil))))
/-- clerestory/clerestoryref4.LoopPlayed -/
noncomputable def Z2b (asks : (List TJAsk)) : Option ((List TJJob) × TJLoop) :=
 lim fun kk1 => Z5 asks (fun (q01 : Int) (q11 : Int) (q21 : (List TJJob)) (q31 : (List TJJob)) (q41 : (List TJTimer)) (out1 : (List TJJob)) => 
   some (out1, (⟨q01, q11, q21, q31, q41⟩ : TJLoop))) kk1 0 0 ([] : List TJJob) ([] : List TJJob) ([] : List TJTimer) ([] : List TJJob) 0
theorem Z7v {Γ : Glob} {asks : (List TJAsk)} {r : ((List TJJob) × TJLoop)} (h : Z2b asks = some r) : ACalls Try.prog Γ 17 [(.c (.ro false 7 (asks.map e_TJAsk)))] e0 0 (Z2a r) := by
 refine acalls_of_sv hmix c17 (R := Z2a r) ?_
 unfold Z2b at h
 refine ssr <| un1 rfl <| un <| a2v (v := (.c (.ref 0 5 0 0))) (h' := upd _ 0 (some (.cells 5 [[cI 0, cI 0, .ro true 7 [], .ro true 7 [], .ro true 5 []]]))) (n' := 1) rfl rfl hcs <| dnil <| ssr <| un <| a2v (v := (.c (.ref 1 5 0 0))) (h' := upd _ 1 (some (.cells 5 [[cI 0, cI 0, .ro true 7 [], .ro true 7 [], .ro true 5 []]]))) (n' := 2) rfl rfl hcs <| dnil <| ssr <| un1 rfl <| dnil <| Sv.seq <| ssr <| un1 rfl <| un1 (v := (I (asks.length : Int))) (s_len (e := e_TJAsk) (xs := asks) rfl) <| un1 rfl <| dnil <| Sv.block ?_
 obtain ⟨kk1, h⟩ := lim_some h
 refine Sv.weak (wcn [0, 1, 1000] rfl (.cf rfl rfl (.cf rfl rfl (.cf rfl rfl (.cons rfl (.c (.same rfl)) (.cr rfl rfl rfl (.cr rfl rfl rfl .nil)))))) (.non (by decide) (.box (by decide) rfl (blkAs_cells (.sm rfl (.sm rfl (.cons .nil (.cons .nil (.cons .nil .nil)))))) (.box (by decide) rfl (blkAs_cells (.sm rfl (.sm rfl (.sm rfl (.sm rfl (.sm rfl .nil)))))) .nil)))) (Z7u (fun _ => rfl) h ?_ (fun s hs => hs))
 ·intro q01 q11 q21 q31 q41 out1 zout1 hzout1 h _ hw2
  refine Sv.weak hw2 <| Sv.seq <| Sv.drawn <| un1 rfl <| un1 (v := (.agg [cI q01, cI q11, .ro false 7 (q21.map e_TJJob), .ro false 7 (q31.map e_TJJob), .ro false 5 (q41.map e_TJTimer)])) rfl <| un1 rfl <| un <| a2n (h' := upd _ 0 (some (.cells 5 [[cI q01, cI q11, .ro false 7 (q21.map e_TJJob), .ro false 7 (q31.map e_TJJob), .ro false 5 (q41.map e_TJTimer)]]))) (n' := 3) rfl rfl hcs <| dnil <| Sv.ret ?_
  replace h := Option.some.inj h
  subst h
  exact ⟨_, .refl _, _, rfl, ⟨upd e0 0 (some (.tup [(lstV zout1 0 7 out1.length), (.agg [cI q01, cI q11, .ro false 7 (q21.map e_TJJob), .ro false 7 (q31.map e_TJJob), .ro false 5 (q41.map e_TJTimer)])])), (upd e0 0 (lstB zout1 7 (out1.map e_TJJob))), 1⟩, (.tup [(lstV zout1 0 7 out1.length), (.agg [cI q01, cI q11, .ro false 7 (q21.map e_TJJob), .ro false 7 (q31.map e_TJJob), .ro false 5 (q41.map e_TJTimer)])]), weak_canon2 [2] [0] (by decide) (by decide) nlz (.cons (by decide) .nil) (.cons rfl (avAs_tup (.cons (.c (lsr rfl rfl)) (.cons (avAs_free rfl) .nil))) .nil) (.row (by decide) rfl (fr_map fun _ => rfl) .nil), rfl, zout1, hzout1, rfl, rfl, rfl⟩
def a4_c1 : ACode := .ret
def a4_c3 : ACode := .ret
def a4_c2 : ACode := (sr [(mV 36 0), (oP 37 (.call 17 [(.tmp 36)])), (mV 35 37), (oP 38 (.ext (.tmp 35) 0)), (oP 39 (.ext (.tmp 35) 1)), (oP 8 (.box (.const (.agg [(.val (.int .i64 0)), (.val (.int .i64 0)), (.ro true 7 []), (.ro true 7 []), (.ro true 5 [])])))), (mV 7 38), (oN (.store 5 (.tmp 8) (.tmp 39)))]
 (sr [(mV 40 3), (mV 41 7), (oP 42 (.call 18 [(.tmp 40), (.tmp 41)])), (mV 43 42), ⟨(some 44), (.load true 5 (.tmp 4)), (some (43, true))⟩, ⟨(some 45), (.load true 5 (.tmp 8)), (some (43, true))⟩, ⟨(some 46), (.call 10 [(.tmp 44), (.tmp 45)]), (some (43, true))⟩, (oP 47 (.pick (.tmp 43) (.tmp 46) kF)), (mV 48 47), ⟨(some 49), (.mov (.tmp 5)), (some (48, true))⟩, ⟨(some 50), (.bin .eql (.tmp 49) (kI 0)), (some (48, true))⟩, (oP 51 (.pick (.tmp 48) (.tmp 50) kF)), (mV 2 51)]
 a4_c3))
def a4_c0 : ACode := (.seq (sr [(mV 20 6), (oP 21 (.bin .neq (.tmp 20) (kI 0)))]
 (.cond (.tmp 21) (sr [(mV 22 3), (oP 23 (.len (.tmp 22))), (oP 24 (.bin .eql (.tmp 23) (kI 0))), (mV 25 24), ⟨(some 26), (.load true 5 (.tmp 4)), (some (25, true))⟩, ⟨(some 27), (.build [(.val (.int .i64 0)), (.val (.int .i64 0)), (.ro true 7 []), (.ro true 7 []), (.ro true 5 [])] []), (some (25, true))⟩, ⟨(some 28), (.call 10 [(.tmp 26), (.tmp 27)]), (some (25, true))⟩, (oP 29 (.pick (.tmp 25) (.tmp 28) kF)), (mV 30 29), ⟨(some 31), (.mov (.tmp 5)), (some (30, true))⟩, ⟨(some 32), (.mov (.tmp 6)), (some (30, true))⟩, ⟨(some 33), (.bin .eql (.tmp 31) (.tmp 32)), (some (30, true))⟩, (oP 34 (.pick (.tmp 30) (.tmp 33) kF)), (mV 2 34)]
 a4_c1) .skip))
 a4_c2)
def a4 : AFunc := ⟨1, [(.tmp 2)], (sr [(oP 2 (.mov kF))]
 (sr [(mV 10 0), (oP 11 (.call 14 [(.tmp 10)])), (mV 9 11), (oP 12 (.ext (.tmp 9) 0)), (oP 13 (.ext (.tmp 9) 1)), (oP 14 (.ext (.tmp 9) 2)), (oP 4 (.box (.const (.agg [(.val (.int .i64 0)), (.val (.int .i64 0)), (.ro true 7 []), (.ro true 7 []), (.ro true 5 [])])))), (mV 3 12), (oN (.store 5 (.tmp 4) (.tmp 13))), (mV 5 14)]
 (sr [(oP 6 (.mov (kI 0)))]
 (.seq (sr [(mV 15 0), (oP 16 (.len (.tmp 15))), (oP 17 (.bin .gtr (.tmp 16) (kI 200)))]
 (.cond (.tmp 17) (.region [(oP 6 (.mov (kI 2)))]) (sr [(mV 18 0), (oP 19 (.call 15 [(.tmp 18), (.const (.c (.fn (.func 16) [] [])))]))]
 (.cond (.tmp 19) (.region [(oP 6 (.mov (kI 3)))]) .skip))))
 a4_c0))))⟩
theorem c4 : compFunc Try.prog 4 = some a4 := by kernel_rfl
def Z2c (r : Bool) : AV → Heap → Nat → Prop := fun v h' n' => v = (B r) ∧ (h' = e0) ∧ n' = 0
abbrev Z7w (Γ : Glob) (o : Bool) : AExit → St → Prop := AThen (Sv Try.prog Γ 0 a4_c2 (Ends a4.results 0 (Z2c o))) (Ends a4.results 0 (Z2c o))
noncomputable def Z2d (v2 : Bool) : Option Bool :=
 some v2
theorem Z50 {Γ : Glob} {v2 : Bool} {o : Bool} (h : Z2d v2 = some o) :
  Sv Try.prog Γ 0 a4_c1 (Z7w Γ o) ⟨(upd e0 2 (some (B v2))), e0, 0⟩ := by
 unfold Z2d at h
 refine Sv.ret ?_
 exact rt0 h rfl rfl ⟨rfl, rfl, rfl⟩
noncomputable def Z2e (v21 : Bool) : Option Bool :=
 some v21
theorem Z51 {Γ : Glob} {v21 : Bool} {o : Bool} (h : Z2e v21 = some o) :
  Sv Try.prog Γ 0 a4_c3 (Ends a4.results 0 (Z2c o)) ⟨(upd e0 2 (some (B v21))), e0, 0⟩ := by
 unfold Z2e at h
 refine Sv.ret ?_
 exact rt0 h rfl rfl ⟨rfl, rfl, rfl⟩
noncomputable def Z14 (r_ : ((List TJJob) × TJLoop × Int)) (asks : (List TJAsk)) (l_ : (List TJJob)) (q2 : (List TJJob)) (q3 : (List TJJob)) (q4 : (List TJTimer)) (say : Int) : Option Bool :=
 if (!decide (say = 0)) then
  if decide ((l_.length : Int) = 0) then
   (Z11 (⟨r_.2.1.Now, r_.2.1.Next, q2, q3, q4⟩ : TJLoop) (⟨0, 0, [], [], []⟩ : TJLoop)).bind fun r_1 =>
   Z2d (r_1 && (decide (r_.2.2 = say)))
  else
   Z2d false
 else
  (Z2b asks).bind fun r_2 =>
  (Z19 l_ r_2.1).bind fun r_3 =>
  if r_3 then
   (Z11 (⟨r_.2.1.Now, r_.2.1.Next, q2, q3, q4⟩ : TJLoop) r_2.2).bind fun r_4 =>
   Z2e (r_4 && (decide (r_.2.2 = 0)))
  else
   Z2e false
theorem Z35 {Γ : Glob} {r_ : ((List TJJob) × TJLoop × Int)} {asks : (List TJAsk)} {l_ : (List TJJob)} {q2 : (List TJJob)} {q3 : (List TJJob)} {q4 : (List TJTimer)} {say : Int} {zl : Bool} (hzl : zl = true → l_ = []) {zq2 : Bool} (hzq2 : zq2 = true → q2 = []) {zq3 : Bool} (hzq3 : zq3 = true → q3 = []) {zq4 : Bool} (hzq4 : zq4 = true → q4 = []) {o : Bool} (h : Z14 r_ asks l_ q2 q3 q4 say = some o) :
  Sv Try.prog Γ 0 a4_c0 (Ends a4.results 0 (Z2c o)) ⟨(ue [(6, (I say)), (5, (I r_.2.2)), (4, (.c (.ref 1 5 0 0))), (3, (lstV zl 0 7 l_.length)), (0, (.c (.ro false 7 (asks.map e_TJAsk))))]), (upd (upd (upd (upd (upd e0 0 (lstB zl 7 (l_.map e_TJJob))) 1 (some (.cells 5 [[cI r_.2.1.Now, cI r_.2.1.Next, lstC zq2 2 7 q2.length, lstC zq3 3 7 q3.length, lstC zq4 4 5 q4.length]]))) 2 (lstB zq2 7 (q2.map e_TJJob))) 3 (lstB zq3 7 (q3.map e_TJJob))) 4 (lstB zq4 5 (q4.map e_TJTimer))), 5⟩ := by
 unfold Z14 at h
 refine Sv.seq <| ssr <| un1 rfl <| un1 (v := (B (!decide (say = 0)))) rfl <| dnil ?_
 refine Sv.cnd rfl h (fun h => ?_) fun h => ?_
 ·refine ssr <| un1 rfl <| un1 (v := (I (l_.length : Int))) (s_lenL rfl (len_nil_of hzl)) <| un1 (v := (B (decide ((l_.length : Int) = 0)))) rfl <| un1 rfl ?_
  refine spl h (fun h => ?_) fun h => ?_
  ·refine gt rfl <| a1 (v := (.agg [cI r_.2.1.Now, cI r_.2.1.Next, lstC zq2 2 7 q2.length, lstC zq3 3 7 q3.length, lstC zq4 4 5 q4.length])) rfl <| gt rfl <| a1 (v := (.agg [cI 0, cI 0, .ro true 7 [], .ro true 7 [], .ro true 5 []])) rfl ?_
   obtain ⟨r_1, hr2, h⟩ := bnd h
   refine gt rfl <| ac_lend (h2 := (upd (upd (upd _ 2 none) 3 none) 4 none)) (Z4f hr2) rfl (.cons (avAs_agg (.sm rfl (.sm rfl (.cons (lstC_ro (es := List.map e_TJJob q2) rfl (List.length_map e_TJJob).symm (map_nil_of hzq2) (gone rfl) (fr_map fun _ => rfl)) (.cons (lstC_ro (es := List.map e_TJJob q3) rfl (List.length_map e_TJJob).symm (map_nil_of hzq3) (gone rfl) (fr_map fun _ => rfl)) (.cons (lstC_ro (es := List.map e_TJTimer q4) rfl (List.length_map e_TJTimer).symm (map_nil_of hzq4) (gone rfl) (fr_map fun _ => rfl)) .nil)))))) (.cons (avAs_agg (.sm rfl (.sm rfl (.cons .nil (.cons .nil (.cons .nil .nil)))))) .nil)) (hsub_none (hsub_none (hsub_none (hsub_refl _)))) rfl rfl (.inr rfl) <| un1 (v := (B r_1)) rfl <| un1 rfl ?_
   refine gjoin 4 (d := 34) (v := (B (r_1 && (decide (r_.2.2 = say))))) (fun X hX => ?_) ?_
   ·refine split2 (fun hc3 => ?_) (fun hc3 => ?_)
    ·refine gt rfl <| a1 rfl <| gt rfl <| a1 rfl <| gt rfl <| a1 (v := (B (decide (r_.2.2 = say)))) rfl <| un1 (v := (B (decide (r_.2.2 = say)))) rfl <| dnil ?_
     exact hX _ (.putEq (by rw [hc3]; rfl) (.skp (.skp (.skp (.putEq (by rw [hc3]) (.refl _)) rfl) rfl) rfl))
    ·refine gs rfl rfl <| gs rfl rfl <| gs rfl rfl <| un1 (v := (B false)) rfl <| dnil ?_
     exact hX _ (.putEq (by rw [hc3]; rfl) (.skp (.skp (.skp (.putEq (by rw [hc3]) (.refl _)) rfl) rfl) rfl))
   refine un1 rfl <| dnil ?_
   exact Sv.weak (wcn [] rfl (.cf rfl rfl .nil) .nil) (Z50 h)
  ·refine gs rfl rfl <| gs rfl rfl <| gs rfl rfl <| un1 (v := (B false)) rfl <| un1 rfl <| gs rfl rfl <| gs rfl rfl <| gs rfl rfl <| un1 (v := (B false)) rfl <| un1 rfl <| dnil ?_
   exact Sv.weak (wcn [] rfl (.cf rfl rfl .nil) .nil) (Z50 h)
 ·refine Sv.skip <| ssr <| un1 rfl ?_
  obtain ⟨r_2, hr3, h⟩ := bnd h
  refine un <| ac_gen (bs := []) («as» := [(.c (.ro false 7 (asks.map e_TJAsk)))]) (h2 := _) (h1 := e0) (Z7v hr3) rfl (.cons (avAs_free rfl) .nil) (hsub_refl _) (.nil _) (fun _ => rfl) (by decide) (by decide) (.cons (avAs_free rfl) .nil) .nil ?_
  rintro _ _ _ hn ⟨z_4, hz_4, rfl, rfl, rfl⟩
  refine ⟨.inl rfl, (upd (rem [] _) 5 (lstB z_4 7 (r_2.1.map e_TJJob))), fun hbd => (m3_cons (m3_row rfl (fr_map fun _ => rfl)) (m3_rem (in_nil _) (.cons (by decide) .nil) hbd)), (.tup [(lstV z_4 5 7 r_2.1.length), (.agg [cI r_2.2.Now, cI r_2.2.Next, .ro false 7 (r_2.2.Tasks.map e_TJJob), .ro false 7 (r_2.2.Smalls.map e_TJJob), .ro false 5 (r_2.2.Timers.map e_TJTimer)])]), 6, (by cases z_4 <;> rfl), rfl, ?_⟩
  refine un1 rfl <| un1 (v := (lstV z_4 5 7 r_2.1.length)) rfl <| un1 (v := (.agg [cI r_2.2.Now, cI r_2.2.Next, .ro false 7 (r_2.2.Tasks.map e_TJJob), .ro false 7 (r_2.2.Smalls.map e_TJJob), .ro false 5 (r_2.2.Timers.map e_TJTimer)])) rfl <| un <| a2v (v := (.c (.ref 6 5 0 0))) (h' := upd _ 6 (some (.cells 5 [[cI 0, cI 0, .ro true 7 [], .ro true 7 [], .ro true 5 []]]))) (n' := 7) rfl rfl hcs <| un1 rfl <| un <| a2n (h' := upd _ 6 (some (.cells 5 [[cI r_2.2.Now, cI r_2.2.Next, .ro false 7 (r_2.2.Tasks.map e_TJJob), .ro false 7 (r_2.2.Smalls.map e_TJJob), .ro false 5 (r_2.2.Timers.map e_TJTimer)]]))) (n' := 7) rfl rfl hcs <| dnil <| ssr <| un1 rfl <| un1 rfl ?_
  obtain ⟨r_3, hr4, h⟩ := bnd h
  refine un <| ac_lend (h2 := (upd (upd _ 0 none) 5 none)) (Z31 hr4) rfl (.cons (.c (lstC_ro (es := List.map e_TJJob l_) rfl (List.length_map e_TJJob).symm (map_nil_of hzl) (gone rfl) (fr_map fun _ => rfl))) (.cons (.c (lstC_ro (es := List.map e_TJJob r_2.1) rfl (List.length_map e_TJJob).symm (map_nil_of hz_4) (gone rfl) (fr_map fun _ => rfl))) .nil)) (hsub_none (hsub_none (hsub_refl _))) rfl rfl (.inr rfl) <| un1 rfl ?_
  refine spl h (fun h => ?_) fun h => ?_
  ·refine gt rfl <| a1 (v := (.agg [cI r_.2.1.Now, cI r_.2.1.Next, lstC zq2 2 7 q2.length, lstC zq3 3 7 q3.length, lstC zq4 4 5 q4.length])) rfl <| gt rfl <| a1 (v := (.agg [cI r_2.2.Now, cI r_2.2.Next, .ro false 7 (r_2.2.Tasks.map e_TJJob), .ro false 7 (r_2.2.Smalls.map e_TJJob), .ro false 5 (r_2.2.Timers.map e_TJTimer)])) rfl ?_
   obtain ⟨r_4, hr5, h⟩ := bnd h
   refine gt rfl <| ac_lend (h2 := (upd (upd (upd _ 2 none) 3 none) 4 none)) (Z4f hr5) rfl (.cons (avAs_agg (.sm rfl (.sm rfl (.cons (lstC_ro (es := List.map e_TJJob q2) rfl (List.length_map e_TJJob).symm (map_nil_of hzq2) (gone rfl) (fr_map fun _ => rfl)) (.cons (lstC_ro (es := List.map e_TJJob q3) rfl (List.length_map e_TJJob).symm (map_nil_of hzq3) (gone rfl) (fr_map fun _ => rfl)) (.cons (lstC_ro (es := List.map e_TJTimer q4) rfl (List.length_map e_TJTimer).symm (map_nil_of hzq4) (gone rfl) (fr_map fun _ => rfl)) .nil)))))) (.cons (avAs_free rfl) .nil)) (hsub_none (hsub_none (hsub_none (hsub_refl _)))) rfl rfl (.inr rfl) <| un1 (v := (B r_4)) rfl <| un1 rfl ?_
   refine gjoin 3 (d := 51) (v := (B (r_4 && (decide (r_.2.2 = 0))))) (fun X hX => ?_) ?_
   ·refine split2 (fun hc5 => ?_) (fun hc5 => ?_)
    ·refine gt rfl <| a1 rfl <| gt rfl <| a1 (v := (B (decide (r_.2.2 = 0)))) rfl <| un1 (v := (B (decide (r_.2.2 = 0)))) rfl <| dnil ?_
     exact hX _ (.putEq (by rw [hc5]; rfl) (.skp (.skp (.putEq (by rw [hc5]) (.refl _)) rfl) rfl))
    ·refine gs rfl rfl <| gs rfl rfl <| un1 (v := (B false)) rfl <| dnil ?_
     exact hX _ (.putEq (by rw [hc5]; rfl) (.skp (.skp (.putEq (by rw [hc5]) (.refl _)) rfl) rfl))
   refine un1 rfl <| dnil ?_
   exact Sv.weak (wcn [] rfl (.cf rfl rfl .nil) .nil) (Z51 h)
  ·refine gs rfl rfl <| gs rfl rfl <| gs rfl rfl <| un1 (v := (B false)) rfl <| un1 rfl <| gs rfl rfl <| gs rfl rfl <| un1 (v := (B false)) rfl <| un1 rfl <| dnil ?_
   exact Sv.weak (wcn [] rfl (.cf rfl rfl .nil) .nil) (Z51 h)
/-- clerestory/clerestorylaw4.LoopPlays -/
noncomputable def Z2r (asks : (List TJAsk)) : Option Bool :=
 (Z2l asks).bind fun r_ =>
 if decide (200 < (asks.length : Int)) then
  Z14 r_ asks r_.1 r_.2.1.Tasks r_.2.1.Smalls r_.2.1.Timers 2
 else
  (Z22 asks).bind fun r_5 =>
  if r_5 then
   Z14 r_ asks r_.1 r_.2.1.Tasks r_.2.1.Smalls r_.2.1.Timers 3
  else
   Z14 r_ asks r_.1 r_.2.1.Tasks r_.2.1.Smalls r_.2.1.Timers 0
theorem Z7x {Γ : Glob} {asks : (List TJAsk)} {r : Bool} (h : Z2r asks = some r) : CPure Try.prog Γ 4 [(.c (.ro false 7 (asks.map e_TJAsk)))] (B r) := by
 refine acalls_of_sv hmix c4 (R := Z2c r) ?_
 unfold Z2r at h
 refine ssr <| un1 rfl <| dnil <| ssr <| un1 rfl ?_
 obtain ⟨r_, hr1, h⟩ := bnd h
 refine un <| ac_gen (bs := []) («as» := [(.c (.ro false 7 (asks.map e_TJAsk)))]) (h2 := _) (h1 := e0) (Z6w hr1) rfl (.cons (avAs_free rfl) .nil) (hsub_refl _) (.nil _) (fun _ => rfl) (by decide) (by decide) (.cons (avAs_free rfl) .nil) .nil ?_
 rintro _ _ _ hn ⟨z_, hz_, z_1, hz_1, z_2, hz_2, z_3, hz_3, rfl, rfl, rfl⟩
 refine ⟨.inl rfl, (upd (upd (upd (upd (rem [] _) 0 (lstB z_ 7 (r_.1.map e_TJJob))) 1 (lstB z_1 7 (r_.2.1.Tasks.map e_TJJob))) 2 (lstB z_2 7 (r_.2.1.Smalls.map e_TJJob))) 3 (lstB z_3 5 (r_.2.1.Timers.map e_TJTimer))), fun hbd => (m3_cons (m3_row rfl (fr_map fun _ => rfl)) (m3_cons (m3_row rfl (fr_map fun _ => rfl)) (m3_cons (m3_row rfl (fr_map fun _ => rfl)) (m3_cons (m3_row rfl (fr_map fun _ => rfl)) (m3_rem (in_nil _) (.cons (by decide) (.cons (by decide) (.cons (by decide) (.cons (by decide) .nil)))) hbd))))), (.tup [(lstV z_ 0 7 r_.1.length), (.agg [cI r_.2.1.Now, cI r_.2.1.Next, lstC z_1 1 7 r_.2.1.Tasks.length, lstC z_2 2 7 r_.2.1.Smalls.length, lstC z_3 3 5 r_.2.1.Timers.length]), (I r_.2.2)]), 4, (by cases z_ <;> cases z_1 <;> cases z_2 <;> cases z_3 <;> rfl), rfl, ?_⟩
 refine un1 rfl <| un1 (v := (lstV z_ 0 7 r_.1.length)) rfl <| un1 (v := (.agg [cI r_.2.1.Now, cI r_.2.1.Next, lstC z_1 1 7 r_.2.1.Tasks.length, lstC z_2 2 7 r_.2.1.Smalls.length, lstC z_3 3 5 r_.2.1.Timers.length])) rfl <| un1 (v := (I r_.2.2)) rfl <| un <| a2v (v := (.c (.ref 4 5 0 0))) (h' := upd _ 4 (some (.cells 5 [[cI 0, cI 0, .ro true 7 [], .ro true 7 [], .ro true 5 []]]))) (n' := 5) rfl rfl hcs <| un1 rfl <| un <| a2n (h' := upd _ 4 (some (.cells 5 [[cI r_.2.1.Now, cI r_.2.1.Next, lstC z_1 1 7 r_.2.1.Tasks.length, lstC z_2 2 7 r_.2.1.Smalls.length, lstC z_3 3 5 r_.2.1.Timers.length]]))) (n' := 5) rfl rfl hcs <| un1 rfl <| dnil <| ssr <| un1 rfl <| dnil <| Sv.seq <| ssr <| un1 rfl <| un1 (v := (I (asks.length : Int))) (s_len (e := e_TJAsk) (xs := asks) rfl) <| un1 (v := (B (decide (200 < (asks.length : Int))))) rfl <| dnil ?_
 refine Sv.cnd rfl h (fun h => ?_) fun h => ?_
 ·refine srg <| un1 rfl <| dnil ?_
  exact Sv.weak (wcn [0, 4, 1, 2, 3] rfl (.cf rfl rfl (.cf rfl rfl (.cr rfl rfl rfl (.cons rfl (.c (lsr rfl rfl)) (.cf rfl rfl .nil))))) (.row (by decide) rfl (fr_map fun _ => rfl) (.row (by decide) rfl (fr_map fun _ => rfl) (.row (by decide) rfl (fr_map fun _ => rfl) (.box (by decide) rfl (blkAs_cells (.sm rfl (.sm rfl (.cons (lstC_ren rfl (by decide)) (.cons (lstC_ren rfl (by decide)) (.cons (lstC_ren rfl (by decide)) .nil)))))) (.row (by decide) rfl (fr_map fun _ => rfl) .nil)))))) (Z35 hz_ hz_1 hz_2 hz_3 h)
 ·refine ssr <| un1 rfl ?_
  obtain ⟨r_5, hr6, h⟩ := bnd h
  refine un <| ac_pure (Z75 hr6) rfl rfl rfl <| dnil ?_
  refine Sv.cnd rfl h (fun h => ?_) fun h => ?_
  ·refine srg <| un1 rfl <| dnil ?_
   exact Sv.weak (wcn [0, 4, 1, 2, 3] rfl (.cf rfl rfl (.cf rfl rfl (.cr rfl rfl rfl (.cons rfl (.c (lsr rfl rfl)) (.cf rfl rfl .nil))))) (.row (by decide) rfl (fr_map fun _ => rfl) (.row (by decide) rfl (fr_map fun _ => rfl) (.row (by decide) rfl (fr_map fun _ => rfl) (.box (by decide) rfl (blkAs_cells (.sm rfl (.sm rfl (.cons (lstC_ren rfl (by decide)) (.cons (lstC_ren rfl (by decide)) (.cons (lstC_ren rfl (by decide)) .nil)))))) (.row (by decide) rfl (fr_map fun _ => rfl) .nil)))))) (Z35 hz_ hz_1 hz_2 hz_3 h)
  ·refine Sv.skip ?_
   exact Sv.weak (wcn [0, 4, 1, 2, 3] rfl (.cf rfl rfl (.cf rfl rfl (.cr rfl rfl rfl (.cons rfl (.c (lsr rfl rfl)) (.cf rfl rfl .nil))))) (.row (by decide) rfl (fr_map fun _ => rfl) (.row (by decide) rfl (fr_map fun _ => rfl) (.row (by decide) rfl (fr_map fun _ => rfl) (.box (by decide) rfl (blkAs_cells (.sm rfl (.sm rfl (.cons (lstC_ren rfl (by decide)) (.cons (lstC_ren rfl (by decide)) (.cons (lstC_ren rfl (by decide)) .nil)))))) (.row (by decide) rfl (fr_map fun _ => rfl) .nil)))))) (Z35 hz_ hz_1 hz_2 hz_3 h)
end Go.Proofs.YtoomjemboekooaaBv
