/- Printed by a program of mine (bgen.py): plain functions, and the walks that show that the code comes to what they answer. -/
import Derived.Test.YtoomjemboekooaaGLoopPlays0
namespace Go.Proofs.YtoomjemboekooaaBv
open Go
set_option linter.unusedVariables false
set_option linter.unusedSimpArgs false
set_option maxRecDepth 100000
def a67_c0 : ACode := (sr [(oP 9 (.bin .lss (.tmp 8) (.tmp 7)))]
 (.seq (.cond (.tmp 9) .skip (.exit 0))
 (.seq (.block 1 (sr [(mV 10 8), (mV 5 10)]
 (sr [(mV 11 1), (mV 12 0), (mV 13 5), (oP 14 (.iaddr 5 (.tmp 12) (.tmp 13))), (oP 15 (.load true 5 (.tmp 14))), (oP 16 (.callv (.tmp 11) [(.tmp 15)]))]
 (.cond (.tmp 16) (sr [(mV 17 5), (mV 4 17)]
 .ret) .skip))))
 (.region [(oP 18 (.bin .add (.tmp 8) (kI 1))), (mV 8 18)]))))
def a67 : AFunc := ⟨2, [(.tmp 4)], (sr [(oP 4 (.mov (kI 0)))]
 (.seq (sr [(mV 6 0), (oP 7 (.len (.tmp 6))), (oP 8 (.mov (kI 0)))]
 (.block 0 (.loop a67_c0)))
 (sr [(oP 4 (.mov (.const (.c (.val (.int .i64 (-1)))))))]
 .ret)))⟩
theorem c67 : compFunc Try.prog 67 = some a67 := by kernel_rfl
def Z3w (r : Int) : AV → Heap → Nat → Prop := fun v h' n' => v = (I r) ∧ (h' = e0) ∧ n' = 0
abbrev Z6h (F_ : Unit → Option Int) (o : Int) (R_ : St → Prop) : Prop := ∀ (_ : Unit), F_ () = some o → ∀ s, Weak 0 s ⟨e0, e0, 0⟩ → R_ s
abbrev Z3x (s_ : (List TJTimer)) (fc0 : Int) (fc1 : Int) (fc2 : (List TJJob)) (fc3 : (List TJJob)) (fc4 : (List TJTimer)) (fc5 : Int) (fc6 : Int) (fc7 : Int) (fc8 : Tx) (fc9 : Int) (fc10 : Int) (fc11 : Tx) (F_ : Nat → Int → Option Int) (o : Int) : Nat → St → Prop := fun k s => ∃ (v8 : Int), F_ k v8 = some o ∧ s = ⟨(ue [(8, (I v8)), (7, (I (s_.length : Int))), (1, (.c (.fn (.func 68) [] [.rop [cI fc0, cI fc1, .ro false 7 (fc2.map e_TJJob), .ro false 7 (fc3.map e_TJJob), .ro false 5 (fc4.map e_TJTimer), cI fc5, cI fc6, cI fc7, .str fc8, cI fc9, cI fc10, .str fc11]]))), (0, (.c (.ro false 5 (s_.map e_TJTimer))))]), e0, 0⟩
abbrev Z6i (s_ : (List TJTimer)) (fc0 : Int) (fc1 : Int) (fc2 : (List TJJob)) (fc3 : (List TJJob)) (fc4 : (List TJTimer)) (fc5 : Int) (fc6 : Int) (fc7 : Int) (fc8 : Tx) (fc9 : Int) (fc10 : Int) (fc11 : Tx) (F_ : Int → Option Int) (o : Int) (R_ : St → Prop) : Prop := ∀ (v8 : Int), F_ v8 = some o → ∀ s, Weak 0 s ⟨(ue [(8, (I v8)), (7, (I (s_.length : Int))), (1, (.c (.fn (.func 68) [] [.rop [cI fc0, cI fc1, .ro false 7 (fc2.map e_TJJob), .ro false 7 (fc3.map e_TJJob), .ro false 5 (fc4.map e_TJTimer), cI fc5, cI fc6, cI fc7, .str fc8, cI fc9, cI fc10, .str fc11]]))), (0, (.c (.ro false 5 (s_.map e_TJTimer))))]), e0, 0⟩ → R_ s
noncomputable def Zo (s_ : (List TJTimer)) (fc0 : Int) (fc1 : Int) (fc2 : (List TJJob)) (fc3 : (List TJJob)) (fc4 : (List TJTimer)) (fc5 : Int) (fc6 : Int) (fc7 : Int) (fc8 : Tx) (fc9 : Int) (fc10 : Int) (fc11 : Tx) (K0_ : Unit → Option Int) : Nat → Int → Option Int
 | 0, _ => none
 | k + 1, v8 =>
  if decide (v8 < (s_.length : Int)) then
   (at? s_ v8).bind fun x_ =>
   letIn (Z1n x_ fc0 fc1 fc2 fc3 fc4 fc5 fc6 fc7 fc8 fc9 fc10 fc11) fun r_ : Bool =>
   if r_ then
    some v8
   else
    (Zo s_ fc0 fc1 fc2 fc3 fc4 fc5 fc6 fc7 fc8 fc9 fc10 fc11 K0_ k) (wi (v8 + 1))
  else
   K0_ ()
theorem Z6j {Γ : Glob} {Q : AExit → St → Prop} {s_ : (List TJTimer)} {fc0 : Int} {fc1 : Int} {fc2 : (List TJJob)} {fc3 : (List TJJob)} {fc4 : (List TJTimer)} {fc5 : Int} {fc6 : Int} {fc7 : Int} {fc8 : Tx} {fc9 : Int} {fc10 : Int} {fc11 : Tx} {K0_ : Unit → Option Int} {k : Nat} {v8 : Int} {o : Int} (h : Zo s_ fc0 fc1 fc2 fc3 fc4 fc5 fc6 fc7 fc8 fc9 fc10 fc11 K0_ k v8 = some o)
  (hK0 : Z6h K0_ o (Q (.exit 0)))
  (hr : ∀ s, Ends a67.results 0 (Z3w o) .ret s → Q .ret s) :
  Sv Try.prog Γ 0 (.loop a67_c0) Q ⟨(ue [(8, (I v8)), (7, (I (s_.length : Int))), (1, (.c (.fn (.func 68) [] [.rop [cI fc0, cI fc1, .ro false 7 (fc2.map e_TJJob), .ro false 7 (fc3.map e_TJJob), .ro false 5 (fc4.map e_TJTimer), cI fc5, cI fc6, cI fc7, .str fc8, cI fc9, cI fc10, .str fc11]]))), (0, (.c (.ro false 5 (s_.map e_TJTimer))))]), e0, 0⟩ := by
 refine Sv.loop (I := Z3x s_ fc0 fc1 fc2 fc3 fc4 fc5 fc6 fc7 fc8 fc9 fc10 fc11 (Zo s_ fc0 fc1 fc2 fc3 fc4 fc5 fc6 fc7 fc8 fc9 fc10 fc11 K0_) o) (fun k s hI => ?_) ⟨v8, h, rfl⟩
 clear h
 clear v8
 obtain ⟨v8, h, rfl⟩ := hI
 cases k with
 | zero => cases h
 | succ k =>
 rw [Zo] at h
 have hself : Z6i s_ fc0 fc1 fc2 fc3 fc4 fc5 fc6 fc7 fc8 fc9 fc10 fc11 (Zo s_ fc0 fc1 fc2 fc3 fc4 fc5 fc6 fc7 fc8 fc9 fc10 fc11 K0_ k) o (rnd 0 (Z3x s_ fc0 fc1 fc2 fc3 fc4 fc5 fc6 fc7 fc8 fc9 fc10 fc11 (Zo s_ fc0 fc1 fc2 fc3 fc4 fc5 fc6 fc7 fc8 fc9 fc10 fc11 K0_) o) k Q) := fun v8 h s hw => ⟨_, k, hw, Nat.lt_succ_self k, v8, h, rfl⟩
 refine ssr <| un1 (v := (B (decide (v8 < (s_.length : Int))))) rfl <| dnil <| Sv.seq ?_
 refine Sv.cnd rfl h (fun h => ?_) fun h => ?_
 ·refine Sv.skip <| Sv.seq <| Sv.block <| ssr <| un1 rfl <| un1 rfl <| dnil <| ssr <| un1 rfl <| un1 rfl <| un1 rfl ?_
  obtain ⟨x_, hx1, h⟩ := bnd h
  refine un1 (v := (.c (.rop (e_TJTimer x_)))) (s_iaddr (e := e_TJTimer) (xs := s_) rfl rfl hx1) <| un1 (v := (.agg (e_TJTimer x_))) rfl ?_
  obtain ⟨r_, hr_⟩ : ∃ r_ : Bool, r_ = (Z1n x_ fc0 fc1 fc2 fc3 fc4 fc5 fc6 fc7 fc8 fc9 fc10 fc11) := ⟨_, rfl⟩
  replace h := letAt hr_ h
  have pr_ := (Z6g (Γ := Γ) x_ fc0 fc1 fc2 fc3 fc4 fc5 fc6 fc7 fc8 fc9 fc10 fc11)
  rw [← hr_] at pr_
  refine un <| acv_gen (bs := []) («as» := [(.agg (e_TJTimer x_)), (.c (.rop [cI fc0, cI fc1, .ro false 7 (fc2.map e_TJJob), .ro false 7 (fc3.map e_TJJob), .ro false 5 (fc4.map e_TJTimer), cI fc5, cI fc6, cI fc7, .str fc8, cI fc9, cI fc10, .str fc11]))]) (h2 := _) (h1 := e0) rfl (by kernel_rfl) pr_ rfl (.cons (avAs_free rfl) (.cons (avAs_free rfl) .nil)) (hsub_refl _) (.nil _) (fun _ => rfl) (by decide) (by decide) (.cons (avAs_free rfl) (.cons (avAs_free rfl) .nil)) .nil ?_
  rintro _ _ _ hn ⟨rfl, rfl, rfl⟩
  refine ⟨.inl rfl, (rem [] _), fun hbd => (m3_rem (in_nil _) (.nil) hbd), (B r_), 0, rfl, rfl, ?_⟩
  refine dnil ?_
  refine Sv.cnd rfl h (fun h => ?_) fun h => ?_
  ·refine ssr <| un1 rfl <| un1 rfl <| dnil <| Sv.ret ?_
   exact hr _ (rt0 h rfl rfl ⟨rfl, rfl, rfl⟩)
  ·refine Sv.skip <| srg <| un1 (v := (I (wi (v8 + 1)))) rfl <| un1 rfl <| dnil ?_
   exact hself (wi (v8 + 1)) h _ (wcn [] rfl (.cf rfl rfl (.cf rfl rfl (.cons rfl (.c (fn_as .nil (.sm rfl .nil))) (.cf rfl rfl .nil)))) .nil)
 ·refine Sv.exit ?_
  exact hK0 () h _ (wcn [] rfl .nil .nil)
/-- slices.IndexFunc(()clerestory/api.JTimer,clerestory/api.JTimer) -/
noncomputable def Z18 (s_ : (List TJTimer)) (fc0 : Int) (fc1 : Int) (fc2 : (List TJJob)) (fc3 : (List TJJob)) (fc4 : (List TJTimer)) (fc5 : Int) (fc6 : Int) (fc7 : Int) (fc8 : Tx) (fc9 : Int) (fc10 : Int) (fc11 : Tx) : Option Int :=
 lim fun kk => Zo s_ fc0 fc1 fc2 fc3 fc4 fc5 fc6 fc7 fc8 fc9 fc10 fc11 (fun (_ : Unit) => 
   some (-1)) kk 0
theorem Z6k {Γ : Glob} {s_ : (List TJTimer)} {fc0 : Int} {fc1 : Int} {fc2 : (List TJJob)} {fc3 : (List TJJob)} {fc4 : (List TJTimer)} {fc5 : Int} {fc6 : Int} {fc7 : Int} {fc8 : Tx} {fc9 : Int} {fc10 : Int} {fc11 : Tx} {r : Int} (h : Z18 s_ fc0 fc1 fc2 fc3 fc4 fc5 fc6 fc7 fc8 fc9 fc10 fc11 = some r) : CPure Try.prog Γ 67 [(.c (.ro false 5 (s_.map e_TJTimer))), (.c (.fn (.func 68) [] [.rop [cI fc0, cI fc1, .ro false 7 (fc2.map e_TJJob), .ro false 7 (fc3.map e_TJJob), .ro false 5 (fc4.map e_TJTimer), cI fc5, cI fc6, cI fc7, .str fc8, cI fc9, cI fc10, .str fc11]]))] (I r) := by
 refine acalls_of_sv hmix c67 (R := Z3w r) ?_
 unfold Z18 at h
 refine ssr <| un1 rfl <| dnil <| Sv.seq <| ssr <| un1 rfl <| un1 (v := (I (s_.length : Int))) (s_len (e := e_TJTimer) (xs := s_) rfl) <| un1 rfl <| dnil <| Sv.block ?_
 obtain ⟨kk, h⟩ := lim_some h
 refine Sv.weak (wcn [] rfl (.cf rfl rfl (.cf rfl rfl (.cons rfl (.c (fn_as .nil (.sm rfl .nil))) (.cf rfl rfl .nil)))) .nil) (Z6j h ?_ (fun s hs => hs))
 ·intro _ h _ hw1
  refine Sv.weak hw1 <| ssr <| un1 rfl <| dnil <| Sv.ret ?_
  exact rt0 h rfl rfl ⟨rfl, rfl, rfl⟩
noncomputable abbrev Z1z (x_ : List TJTimer) (i_ j_ : Int) : Option (List TJTimer) := del? x_ i_ j_
theorem Z3y {Γ : Glob} {x_ r : List TJTimer} {i_ j_ : Int} {zx : Bool} (hzx : zx = true → x_ = []) (h : Z1z x_ i_ j_ = some r) : ACalls Try.prog Γ 69 [lstV zx 0 5 x_.length, I i_, I j_] (upd e0 0 (lstB zx 5 (x_.map e_TJTimer))) 1 (fun v h' n' => ∃ z' : Bool, (z' = true → r = []) ∧ v = lstV z' 1 5 r.length ∧ (h' = (upd e0 1 (lstB z' 5 (r.map e_TJTimer)))) ∧ n' = 2) := del_ok (e := e_TJTimer) (fun _ => rfl) (by decide) (fun blk n cap i j C T fr w a b c d e f g => del69_walk _ rfl rfl _ Try.zeroValue84 rfl (by decide) blk n cap i j C T fr w a b c d e f g) hzx h
def a34 : AFunc := ⟨1, [(.cell true 5 2), (.tmp 3), (.tmp 4)], (sr [(oP 1 (.box (.tmp 0))), (oP 2 (.box (.const (.agg [(.val (.int .i64 0)), (.val (.int .i64 0)), (.ro true 7 []), (.ro true 7 []), (.ro true 5 [])])))), (oP 3 (.mov (kI 0))), (oP 4 (.mov (kI 0)))]
 (.seq (sr [(oP 6 (.faddr 5 (.tmp 1))), (oP 7 (.faddr 0 (.tmp 6))), (oP 8 (.load false 1 (.tmp 7)))]
 (.block 0 (sr [(oP 10 (.bin .eql (.tmp 8) (kI 1))), (mV 9 10)]
 (.cond (.tmp 9) (sr [(oP 11 (.load true 12 (.tmp 1))), (oP 12 (.call 65 [(.tmp 11), kF])), (oP 13 (.ext (.tmp 12) 0)), (oP 14 (.ext (.tmp 12) 1)), (oP 15 (.ext (.tmp 12) 2)), (oN (.store 5 (.tmp 2) (.tmp 13))), (mV 3 14), (mV 4 15)]
 .ret) (sr [(oP 17 (.bin .eql (.tmp 8) (kI 2))), (mV 16 17)]
 (.cond (.tmp 16) (sr [(oP 18 (.load true 12 (.tmp 1))), (oP 19 (.call 65 [(.tmp 18), kT])), (oP 20 (.ext (.tmp 19) 0)), (oP 21 (.ext (.tmp 19) 1)), (oP 22 (.ext (.tmp 19) 2)), (oN (.store 5 (.tmp 2) (.tmp 20))), (mV 3 21), (mV 4 22)]
 .ret) (sr [(oP 24 (.bin .eql (.tmp 8) (kI 3))), (mV 23 24)]
 (.cond (.tmp 23) (sr [(oP 25 (.load true 12 (.tmp 1))), (oP 26 (.call 66 [(.tmp 25), kF])), (oP 27 (.ext (.tmp 26) 0)), (oP 28 (.ext (.tmp 26) 1)), (oP 29 (.ext (.tmp 26) 2)), (oN (.store 5 (.tmp 2) (.tmp 27))), (mV 3 28), (mV 4 29)]
 .ret) (sr [(oP 31 (.bin .eql (.tmp 8) (kI 4))), (mV 30 31)]
 (.cond (.tmp 30) (sr [(oP 32 (.load true 12 (.tmp 1))), (oP 33 (.call 66 [(.tmp 32), kT])), (oP 34 (.ext (.tmp 33) 0)), (oP 35 (.ext (.tmp 33) 1)), (oP 36 (.ext (.tmp 33) 2)), (oN (.store 5 (.tmp 2) (.tmp 34))), (mV 3 35), (mV 4 36)]
 .ret) .skip))))))))))
 (sr [(oP 37 (.faddr 0 (.tmp 1))), (oP 38 (.faddr 4 (.tmp 37))), (oP 39 (.load false 1 (.tmp 38))), (oP 40 (.mkfn (.func 68) [] [(.tmp 1)])), (oP 41 (.call 67 [(.tmp 39), (.tmp 40)])), (mV 5 41)]
 (.seq (sr [(mV 42 5), (oP 43 (.bin .lss (.tmp 42) (kI 0)))]
 (.cond (.tmp 43) (sr [(oP 44 (.faddr 0 (.tmp 1))), (oP 45 (.load true 5 (.tmp 44))), (oN (.store 5 (.tmp 2) (.tmp 45))), (oP 3 (.mov (kI 0))), (oP 4 (.mov (kI 5)))]
 .ret) .skip))
 (sr [(oP 46 (.faddr 0 (.tmp 1))), (oP 47 (.faddr 4 (.tmp 46))), (oP 48 (.load false 1 (.tmp 47))), (mV 49 5), (mV 50 5), (oP 51 (.bin .add (.tmp 50) (kI 1))), (oP 52 (.call 69 [(.tmp 48), (.tmp 49), (.tmp 51)])), (oP 53 (.faddr 0 (.tmp 1))), (oP 54 (.faddr 4 (.tmp 53))), (oN (.store 1 (.tmp 54) (.tmp 52)))]
 (sr [(oP 55 (.faddr 0 (.tmp 1))), (oP 56 (.load true 5 (.tmp 55))), (oN (.store 5 (.tmp 2) (.tmp 56))), (oP 3 (.mov (kI 0))), (oP 4 (.mov (kI 0)))]
 .ret))))))⟩
theorem c34 : compFunc Try.prog 34 = some a34 := by kernel_rfl
def Z3z (r : (TJLoop × Int × Int)) : AV → Heap → Nat → Prop := fun v h' n' => ∃ z0 : Bool, (z0 = true → r.1.Tasks = []) ∧ ∃ z1 : Bool, (z1 = true → r.1.Smalls = []) ∧ ∃ z2 : Bool, (z2 = true → r.1.Timers = []) ∧ v = (.tup [(.agg [cI r.1.Now, cI r.1.Next, lstC z0 3 7 r.1.Tasks.length, lstC z1 4 7 r.1.Smalls.length, lstC z2 5 5 r.1.Timers.length]), (I r.2.1), (I r.2.2)]) ∧ (h' = (upd (upd (upd e0 3 (lstB z0 7 (r.1.Tasks.map e_TJJob))) 4 (lstB z1 7 (r.1.Smalls.map e_TJJob))) 5 (lstB z2 5 (r.1.Timers.map e_TJTimer)))) ∧ n' = 6
/-- (clerestory/loop.asked).do -/
noncomputable def Zt (a_ : Tasked) : Option (TJLoop × Int × Int) :=
 if decide (a_.f_a.Do = 1) then
  (Z1j a_ false).bind fun r_ =>
  some (r_.1, r_.2.1, r_.2.2)
 else
  if decide (a_.f_a.Do = 2) then
   (Z1j a_ true).bind fun r_1 =>
   some (r_1.1, r_1.2.1, r_1.2.2)
  else
   if decide (a_.f_a.Do = 3) then
    (Z1m a_ false).bind fun r_2 =>
    some (r_2.1, r_2.2.1, r_2.2.2)
   else
    if decide (a_.f_a.Do = 4) then
     (Z1m a_ true).bind fun r_3 =>
     some (r_3.1, r_3.2.1, r_3.2.2)
    else
     (Z18 a_.f_q.Timers a_.f_q.Now a_.f_q.Next a_.f_q.Tasks a_.f_q.Smalls a_.f_q.Timers a_.f_a.Do a_.f_a.Source a_.f_a.N a_.f_a.Call a_.f_a.Arg.Kind a_.f_a.Arg.N a_.f_a.Arg.S).bind fun r_4 =>
     if decide (r_4 < 0) then
      some (a_.f_q, 0, 5)
     else
      (Z1z a_.f_q.Timers r_4 (wi (r_4 + 1))).bind fun r_5 =>
      some ((⟨a_.f_q.Now, a_.f_q.Next, a_.f_q.Tasks, a_.f_q.Smalls, r_5⟩ : TJLoop), 0, 0)
theorem Z6l {Γ : Glob} {a_ : Tasked} {za : Bool} (hza : za = true → a_.f_q.Tasks = []) {za1 : Bool} (hza1 : za1 = true → a_.f_q.Smalls = []) {za2 : Bool} (hza2 : za2 = true → a_.f_q.Timers = []) {r : (TJLoop × Int × Int)} (h : Zt a_ = some r) : ACalls Try.prog Γ 34 [(.agg [cI a_.f_q.Now, cI a_.f_q.Next, lstC za 0 7 a_.f_q.Tasks.length, lstC za1 1 7 a_.f_q.Smalls.length, lstC za2 2 5 a_.f_q.Timers.length, cI a_.f_a.Do, cI a_.f_a.Source, cI a_.f_a.N, .str a_.f_a.Call, cI a_.f_a.Arg.Kind, cI a_.f_a.Arg.N, .str a_.f_a.Arg.S])] (upd (upd (upd e0 0 (lstB za 7 (a_.f_q.Tasks.map e_TJJob))) 1 (lstB za1 7 (a_.f_q.Smalls.map e_TJJob))) 2 (lstB za2 5 (a_.f_q.Timers.map e_TJTimer))) 3 (Z3z r) := by
 refine acalls_of_sv hmix c34 (R := Z3z r) ?_
 unfold Zt at h
 refine ssr <| un <| a2v (v := (.c (.ref 3 12 0 0))) (h' := upd _ 3 (some (.cells 12 [[cI a_.f_q.Now, cI a_.f_q.Next, lstC za 0 7 a_.f_q.Tasks.length, lstC za1 1 7 a_.f_q.Smalls.length, lstC za2 2 5 a_.f_q.Timers.length, cI a_.f_a.Do, cI a_.f_a.Source, cI a_.f_a.N, .str a_.f_a.Call, cI a_.f_a.Arg.Kind, cI a_.f_a.Arg.N, .str a_.f_a.Arg.S]]))) (n' := 4) rfl rfl hcs <| un <| a2v (v := (.c (.ref 4 5 0 0))) (h' := upd _ 4 (some (.cells 5 [[cI 0, cI 0, .ro true 7 [], .ro true 7 [], .ro true 5 []]]))) (n' := 5) rfl rfl hcs <| un1 rfl <| un1 rfl <| dnil <| Sv.seq <| ssr <| un1 (v := (.c (.ref 3 12 0 5))) rfl <| un1 (v := (.c (.ref 3 12 0 5))) rfl <| un1 (v := (I a_.f_a.Do)) rfl <| dnil <| Sv.block <| ssr <| un1 (v := (B (decide (a_.f_a.Do = 1)))) rfl <| un1 rfl <| dnil ?_
 refine Sv.cnd rfl h (fun h => ?_) fun h => ?_
 ·refine ssr <| un1 (v := (.agg [cI a_.f_q.Now, cI a_.f_q.Next, lstC za 0 7 a_.f_q.Tasks.length, lstC za1 1 7 a_.f_q.Smalls.length, lstC za2 2 5 a_.f_q.Timers.length, cI a_.f_a.Do, cI a_.f_a.Source, cI a_.f_a.N, .str a_.f_a.Call, cI a_.f_a.Arg.Kind, cI a_.f_a.Arg.N, .str a_.f_a.Arg.S])) rfl ?_
  obtain ⟨r_, hr1, h⟩ := bnd h
  refine un <| ac_gen (bs := [0, 1, 2]) («as» := [(.agg [cI a_.f_q.Now, cI a_.f_q.Next, lstC za 0 7 a_.f_q.Tasks.length, lstC za1 1 7 a_.f_q.Smalls.length, lstC za2 2 5 a_.f_q.Timers.length, cI a_.f_a.Do, cI a_.f_a.Source, cI a_.f_a.N, .str a_.f_a.Call, cI a_.f_a.Arg.Kind, cI a_.f_a.Arg.N, .str a_.f_a.Arg.S]), (B false)]) (h2 := _) (h1 := (upd (upd (upd e0 0 (lstB za 7 (a_.f_q.Tasks.map e_TJJob))) 1 (lstB za1 7 (a_.f_q.Smalls.map e_TJJob))) 2 (lstB za2 5 (a_.f_q.Timers.map e_TJTimer)))) (Z3p hza hza1 hza2 hr1) rfl (.cons (avAs_agg (.sm rfl (.sm rfl (.cons (lstC_ren rfl (by decide)) (.cons (lstC_ren rfl (by decide)) (.cons (lstC_ren rfl (by decide)) (.sm rfl (.sm rfl (.sm rfl (.sm rfl (.sm rfl (.sm rfl (.sm rfl .nil))))))))))))) (.cons (avAs_free rfl) .nil)) (hsub_refl _) (.cons rfl (.cons rfl (.cons rfl (.nil _)))) hcs (by decide) (by decide) (.cons (avAs_agg (.sm rfl (.sm rfl (.cons (lstC_ren rfl (by decide)) (.cons (lstC_ren rfl (by decide)) (.cons (lstC_ren rfl (by decide)) (.sm rfl (.sm rfl (.sm rfl (.sm rfl (.sm rfl (.sm rfl (.sm rfl .nil))))))))))))) (.cons (avAs_free rfl) .nil)) (.row (by decide) rfl (fr_map fun _ => rfl) (.row (by decide) rfl (fr_map fun _ => rfl) (.row (by decide) rfl (fr_map fun _ => rfl) .nil))) ?_
  rintro _ _ _ hn ⟨z_, hz_, z_1, hz_1, z_2, hz_2, rfl, rfl, rfl⟩
  refine ⟨.inl rfl, (upd (upd (upd (rem [0, 1, 2] _) 5 (lstB z_ 7 (r_.1.Tasks.map e_TJJob))) 6 (lstB z_1 7 (r_.1.Smalls.map e_TJJob))) 7 (lstB z_2 5 (r_.1.Timers.map e_TJTimer))), fun hbd => (m3_cons (m3_row rfl (fr_map fun _ => rfl)) (m3_cons (m3_row rfl (fr_map fun _ => rfl)) (m3_cons (m3_row rfl (fr_map fun _ => rfl)) (m3_rem (in_cons (by decide) (in_cons (by decide) (in_cons (by decide) (in_nil _)))) (.cons (by decide) (.cons (by decide) (.cons (by decide) .nil))) hbd)))), (.tup [(.agg [cI r_.1.Now, cI r_.1.Next, lstC z_ 5 7 r_.1.Tasks.length, lstC z_1 6 7 r_.1.Smalls.length, lstC z_2 7 5 r_.1.Timers.length]), (I r_.2.1), (I r_.2.2)]), 8, (by cases z_ <;> cases z_1 <;> cases z_2 <;> rfl), rfl, ?_⟩
  refine un1 (v := (.agg [cI r_.1.Now, cI r_.1.Next, lstC z_ 5 7 r_.1.Tasks.length, lstC z_1 6 7 r_.1.Smalls.length, lstC z_2 7 5 r_.1.Timers.length])) rfl <| un1 (v := (I r_.2.1)) rfl <| un1 (v := (I r_.2.2)) rfl <| un <| a2n (h' := upd _ 4 (some (.cells 5 [[cI r_.1.Now, cI r_.1.Next, lstC z_ 5 7 r_.1.Tasks.length, lstC z_1 6 7 r_.1.Smalls.length, lstC z_2 7 5 r_.1.Timers.length]]))) (n' := 8) rfl rfl hcs <| un1 rfl <| un1 rfl <| dnil <| Sv.ret ?_
  replace h := Option.some.inj h
  subst h
  exact ⟨_, .refl _, _, rfl, ⟨upd e0 0 (some (.tup [(.agg [cI r_.1.Now, cI r_.1.Next, lstC z_ 3 7 r_.1.Tasks.length, lstC z_1 4 7 r_.1.Smalls.length, lstC z_2 5 5 r_.1.Timers.length]), (I r_.2.1), (I r_.2.2)])), (upd (upd (upd e0 3 (lstB z_ 7 (r_.1.Tasks.map e_TJJob))) 4 (lstB z_1 7 (r_.1.Smalls.map e_TJJob))) 5 (lstB z_2 5 (r_.1.Timers.map e_TJTimer))), 6⟩, (.tup [(.agg [cI r_.1.Now, cI r_.1.Next, lstC z_ 3 7 r_.1.Tasks.length, lstC z_1 4 7 r_.1.Smalls.length, lstC z_2 5 5 r_.1.Timers.length]), (I r_.2.1), (I r_.2.2)]), weak_canon2 [0, 1, 2, 5, 6, 7] [3, 4, 5] (by decide) (by decide) (by decide) (.cons (by decide) (.cons (by decide) (.cons (by decide) .nil))) (.cons rfl (avAs_tup (.cons (avAs_agg (.sm rfl (.sm rfl (.cons (lstC_ren rfl (by decide)) (.cons (lstC_ren rfl (by decide)) (.cons (lstC_ren rfl (by decide)) .nil)))))) (.cons (avAs_free rfl) (.cons (avAs_free rfl) .nil)))) .nil) (.row (by decide) rfl (fr_map fun _ => rfl) (.row (by decide) rfl (fr_map fun _ => rfl) (.row (by decide) rfl (fr_map fun _ => rfl) .nil))), rfl, z_, hz_, z_1, hz_1, z_2, hz_2, rfl, rfl, rfl⟩
 ·refine ssr <| un1 (v := (B (decide (a_.f_a.Do = 2)))) rfl <| un1 rfl <| dnil ?_
  refine Sv.cnd rfl h (fun h => ?_) fun h => ?_
  ·refine ssr <| un1 (v := (.agg [cI a_.f_q.Now, cI a_.f_q.Next, lstC za 0 7 a_.f_q.Tasks.length, lstC za1 1 7 a_.f_q.Smalls.length, lstC za2 2 5 a_.f_q.Timers.length, cI a_.f_a.Do, cI a_.f_a.Source, cI a_.f_a.N, .str a_.f_a.Call, cI a_.f_a.Arg.Kind, cI a_.f_a.Arg.N, .str a_.f_a.Arg.S])) rfl ?_
   obtain ⟨r_1, hr2, h⟩ := bnd h
   refine un <| ac_gen (bs := [0, 1, 2]) («as» := [(.agg [cI a_.f_q.Now, cI a_.f_q.Next, lstC za 0 7 a_.f_q.Tasks.length, lstC za1 1 7 a_.f_q.Smalls.length, lstC za2 2 5 a_.f_q.Timers.length, cI a_.f_a.Do, cI a_.f_a.Source, cI a_.f_a.N, .str a_.f_a.Call, cI a_.f_a.Arg.Kind, cI a_.f_a.Arg.N, .str a_.f_a.Arg.S]), (B true)]) (h2 := _) (h1 := (upd (upd (upd e0 0 (lstB za 7 (a_.f_q.Tasks.map e_TJJob))) 1 (lstB za1 7 (a_.f_q.Smalls.map e_TJJob))) 2 (lstB za2 5 (a_.f_q.Timers.map e_TJTimer)))) (Z3p hza hza1 hza2 hr2) rfl (.cons (avAs_agg (.sm rfl (.sm rfl (.cons (lstC_ren rfl (by decide)) (.cons (lstC_ren rfl (by decide)) (.cons (lstC_ren rfl (by decide)) (.sm rfl (.sm rfl (.sm rfl (.sm rfl (.sm rfl (.sm rfl (.sm rfl .nil))))))))))))) (.cons (avAs_free rfl) .nil)) (hsub_refl _) (.cons rfl (.cons rfl (.cons rfl (.nil _)))) hcs (by decide) (by decide) (.cons (avAs_agg (.sm rfl (.sm rfl (.cons (lstC_ren rfl (by decide)) (.cons (lstC_ren rfl (by decide)) (.cons (lstC_ren rfl (by decide)) (.sm rfl (.sm rfl (.sm rfl (.sm rfl (.sm rfl (.sm rfl (.sm rfl .nil))))))))))))) (.cons (avAs_free rfl) .nil)) (.row (by decide) rfl (fr_map fun _ => rfl) (.row (by decide) rfl (fr_map fun _ => rfl) (.row (by decide) rfl (fr_map fun _ => rfl) .nil))) ?_
   rintro _ _ _ hn ⟨z_3, hz_3, z_4, hz_4, z_5, hz_5, rfl, rfl, rfl⟩
   refine ⟨.inl rfl, (upd (upd (upd (rem [0, 1, 2] _) 5 (lstB z_3 7 (r_1.1.Tasks.map e_TJJob))) 6 (lstB z_4 7 (r_1.1.Smalls.map e_TJJob))) 7 (lstB z_5 5 (r_1.1.Timers.map e_TJTimer))), fun hbd => (m3_cons (m3_row rfl (fr_map fun _ => rfl)) (m3_cons (m3_row rfl (fr_map fun _ => rfl)) (m3_cons (m3_row rfl (fr_map fun _ => rfl)) (m3_rem (in_cons (by decide) (in_cons (by decide) (in_cons (by decide) (in_nil _)))) (.cons (by decide) (.cons (by decide) (.cons (by decide) .nil))) hbd)))), (.tup [(.agg [cI r_1.1.Now, cI r_1.1.Next, lstC z_3 5 7 r_1.1.Tasks.length, lstC z_4 6 7 r_1.1.Smalls.length, lstC z_5 7 5 r_1.1.Timers.length]), (I r_1.2.1), (I r_1.2.2)]), 8, (by cases z_3 <;> cases z_4 <;> cases z_5 <;> rfl), rfl, ?_⟩
   refine un1 (v := (.agg [cI r_1.1.Now, cI r_1.1.Next, lstC z_3 5 7 r_1.1.Tasks.length, lstC z_4 6 7 r_1.1.Smalls.length, lstC z_5 7 5 r_1.1.Timers.length])) rfl <| un1 (v := (I r_1.2.1)) rfl <| un1 (v := (I r_1.2.2)) rfl <| un <| a2n (h' := upd _ 4 (some (.cells 5 [[cI r_1.1.Now, cI r_1.1.Next, lstC z_3 5 7 r_1.1.Tasks.length, lstC z_4 6 7 r_1.1.Smalls.length, lstC z_5 7 5 r_1.1.Timers.length]]))) (n' := 8) rfl rfl hcs <| un1 rfl <| un1 rfl <| dnil <| Sv.ret ?_
   replace h := Option.some.inj h
   subst h
   exact ⟨_, .refl _, _, rfl, ⟨upd e0 0 (some (.tup [(.agg [cI r_1.1.Now, cI r_1.1.Next, lstC z_3 3 7 r_1.1.Tasks.length, lstC z_4 4 7 r_1.1.Smalls.length, lstC z_5 5 5 r_1.1.Timers.length]), (I r_1.2.1), (I r_1.2.2)])), (upd (upd (upd e0 3 (lstB z_3 7 (r_1.1.Tasks.map e_TJJob))) 4 (lstB z_4 7 (r_1.1.Smalls.map e_TJJob))) 5 (lstB z_5 5 (r_1.1.Timers.map e_TJTimer))), 6⟩, (.tup [(.agg [cI r_1.1.Now, cI r_1.1.Next, lstC z_3 3 7 r_1.1.Tasks.length, lstC z_4 4 7 r_1.1.Smalls.length, lstC z_5 5 5 r_1.1.Timers.length]), (I r_1.2.1), (I r_1.2.2)]), weak_canon2 [0, 1, 2, 5, 6, 7] [3, 4, 5] (by decide) (by decide) (by decide) (.cons (by decide) (.cons (by decide) (.cons (by decide) .nil))) (.cons rfl (avAs_tup (.cons (avAs_agg (.sm rfl (.sm rfl (.cons (lstC_ren rfl (by decide)) (.cons (lstC_ren rfl (by decide)) (.cons (lstC_ren rfl (by decide)) .nil)))))) (.cons (avAs_free rfl) (.cons (avAs_free rfl) .nil)))) .nil) (.row (by decide) rfl (fr_map fun _ => rfl) (.row (by decide) rfl (fr_map fun _ => rfl) (.row (by decide) rfl (fr_map fun _ => rfl) .nil))), rfl, z_3, hz_3, z_4, hz_4, z_5, hz_5, rfl, rfl, rfl⟩
  ·refine ssr <| un1 (v := (B (decide (a_.f_a.Do = 3)))) rfl <| un1 rfl <| dnil ?_
   refine Sv.cnd rfl h (fun h => ?_) fun h => ?_
   ·refine ssr <| un1 (v := (.agg [cI a_.f_q.Now, cI a_.f_q.Next, lstC za 0 7 a_.f_q.Tasks.length, lstC za1 1 7 a_.f_q.Smalls.length, lstC za2 2 5 a_.f_q.Timers.length, cI a_.f_a.Do, cI a_.f_a.Source, cI a_.f_a.N, .str a_.f_a.Call, cI a_.f_a.Arg.Kind, cI a_.f_a.Arg.N, .str a_.f_a.Arg.S])) rfl ?_
    obtain ⟨r_2, hr3, h⟩ := bnd h
    refine un <| ac_gen (bs := [0, 1, 2]) («as» := [(.agg [cI a_.f_q.Now, cI a_.f_q.Next, lstC za 0 7 a_.f_q.Tasks.length, lstC za1 1 7 a_.f_q.Smalls.length, lstC za2 2 5 a_.f_q.Timers.length, cI a_.f_a.Do, cI a_.f_a.Source, cI a_.f_a.N, .str a_.f_a.Call, cI a_.f_a.Arg.Kind, cI a_.f_a.Arg.N, .str a_.f_a.Arg.S]), (B false)]) (h2 := _) (h1 := (upd (upd (upd e0 0 (lstB za 7 (a_.f_q.Tasks.map e_TJJob))) 1 (lstB za1 7 (a_.f_q.Smalls.map e_TJJob))) 2 (lstB za2 5 (a_.f_q.Timers.map e_TJTimer)))) (Z3v hza hza1 hza2 hr3) rfl (.cons (avAs_agg (.sm rfl (.sm rfl (.cons (lstC_ren rfl (by decide)) (.cons (lstC_ren rfl (by decide)) (.cons (lstC_ren rfl (by decide)) (.sm rfl (.sm rfl (.sm rfl (.sm rfl (.sm rfl (.sm rfl (.sm rfl .nil))))))))))))) (.cons (avAs_free rfl) .nil)) (hsub_refl _) (.cons rfl (.cons rfl (.cons rfl (.nil _)))) hcs (by decide) (by decide) (.cons (avAs_agg (.sm rfl (.sm rfl (.cons (lstC_ren rfl (by decide)) (.cons (lstC_ren rfl (by decide)) (.cons (lstC_ren rfl (by decide)) (.sm rfl (.sm rfl (.sm rfl (.sm rfl (.sm rfl (.sm rfl (.sm rfl .nil))))))))))))) (.cons (avAs_free rfl) .nil)) (.row (by decide) rfl (fr_map fun _ => rfl) (.row (by decide) rfl (fr_map fun _ => rfl) (.row (by decide) rfl (fr_map fun _ => rfl) .nil))) ?_
    rintro _ _ _ hn ⟨z_6, hz_6, z_7, hz_7, z_8, hz_8, rfl, rfl, rfl⟩
    refine ⟨.inl rfl, (upd (upd (upd (rem [0, 1, 2] _) 5 (lstB z_6 7 (r_2.1.Tasks.map e_TJJob))) 6 (lstB z_7 7 (r_2.1.Smalls.map e_TJJob))) 7 (lstB z_8 5 (r_2.1.Timers.map e_TJTimer))), fun hbd => (m3_cons (m3_row rfl (fr_map fun _ => rfl)) (m3_cons (m3_row rfl (fr_map fun _ => rfl)) (m3_cons (m3_row rfl (fr_map fun _ => rfl)) (m3_rem (in_cons (by decide) (in_cons (by decide) (in_cons (by decide) (in_nil _)))) (.cons (by decide) (.cons (by decide) (.cons (by decide) .nil))) hbd)))), (.tup [(.agg [cI r_2.1.Now, cI r_2.1.Next, lstC z_6 5 7 r_2.1.Tasks.length, lstC z_7 6 7 r_2.1.Smalls.length, lstC z_8 7 5 r_2.1.Timers.length]), (I r_2.2.1), (I r_2.2.2)]), 8, (by cases z_6 <;> cases z_7 <;> cases z_8 <;> rfl), rfl, ?_⟩
    refine un1 (v := (.agg [cI r_2.1.Now, cI r_2.1.Next, lstC z_6 5 7 r_2.1.Tasks.length, lstC z_7 6 7 r_2.1.Smalls.length, lstC z_8 7 5 r_2.1.Timers.length])) rfl <| un1 (v := (I r_2.2.1)) rfl <| un1 (v := (I r_2.2.2)) rfl <| un <| a2n (h' := upd _ 4 (some (.cells 5 [[cI r_2.1.Now, cI r_2.1.Next, lstC z_6 5 7 r_2.1.Tasks.length, lstC z_7 6 7 r_2.1.Smalls.length, lstC z_8 7 5 r_2.1.Timers.length]]))) (n' := 8) rfl rfl hcs <| un1 rfl <| un1 rfl <| dnil <| Sv.ret ?_
    replace h := Option.some.inj h
    subst h
    exact ⟨_, .refl _, _, rfl, ⟨upd e0 0 (some (.tup [(.agg [cI r_2.1.Now, cI r_2.1.Next, lstC z_6 3 7 r_2.1.Tasks.length, lstC z_7 4 7 r_2.1.Smalls.length, lstC z_8 5 5 r_2.1.Timers.length]), (I r_2.2.1), (I r_2.2.2)])), (upd (upd (upd e0 3 (lstB z_6 7 (r_2.1.Tasks.map e_TJJob))) 4 (lstB z_7 7 (r_2.1.Smalls.map e_TJJob))) 5 (lstB z_8 5 (r_2.1.Timers.map e_TJTimer))), 6⟩, (.tup [(.agg [cI r_2.1.Now, cI r_2.1.Next, lstC z_6 3 7 r_2.1.Tasks.length, lstC z_7 4 7 r_2.1.Smalls.length, lstC z_8 5 5 r_2.1.Timers.length]), (I r_2.2.1), (I r_2.2.2)]), weak_canon2 [0, 1, 2, 5, 6, 7] [3, 4, 5] (by decide) (by decide) (by decide) (.cons (by decide) (.cons (by decide) (.cons (by decide) .nil))) (.cons rfl (avAs_tup (.cons (avAs_agg (.sm rfl (.sm rfl (.cons (lstC_ren rfl (by decide)) (.cons (lstC_ren rfl (by decide)) (.cons (lstC_ren rfl (by decide)) .nil)))))) (.cons (avAs_free rfl) (.cons (avAs_free rfl) .nil)))) .nil) (.row (by decide) rfl (fr_map fun _ => rfl) (.row (by decide) rfl (fr_map fun _ => rfl) (.row (by decide) rfl (fr_map fun _ => rfl) .nil))), rfl, z_6, hz_6, z_7, hz_7, z_8, hz_8, rfl, rfl, rfl⟩
   ·refine ssr <| un1 (v := (B (decide (a_.f_a.Do = 4)))) rfl <| un1 rfl <| dnil ?_
    refine Sv.cnd rfl h (fun h => ?_) fun h => ?_
    ·refine ssr <| un1 (v := (.agg [cI a_.f_q.Now, cI a_.f_q.Next, lstC za 0 7 a_.f_q.Tasks.length, lstC za1 1 7 a_.f_q.Smalls.length, lstC za2 2 5 a_.f_q.Timers.length, cI a_.f_a.Do, cI a_.f_a.Source, cI a_.f_a.N, .str a_.f_a.Call, cI a_.f_a.Arg.Kind, cI a_.f_a.Arg.N, .str a_.f_a.Arg.S])) rfl ?_
     obtain ⟨r_3, hr4, h⟩ := bnd h
     refine un <| ac_gen (bs := [0, 1, 2]) («as» := [(.agg [cI a_.f_q.Now, cI a_.f_q.Next, lstC za 0 7 a_.f_q.Tasks.length, lstC za1 1 7 a_.f_q.Smalls.length, lstC za2 2 5 a_.f_q.Timers.length, cI a_.f_a.Do, cI a_.f_a.Source, cI a_.f_a.N, .str a_.f_a.Call, cI a_.f_a.Arg.Kind, cI a_.f_a.Arg.N, .str a_.f_a.Arg.S]), (B true)]) (h2 := _) (h1 := (upd (upd (upd e0 0 (lstB za 7 (a_.f_q.Tasks.map e_TJJob))) 1 (lstB za1 7 (a_.f_q.Smalls.map e_TJJob))) 2 (lstB za2 5 (a_.f_q.Timers.map e_TJTimer)))) (Z3v hza hza1 hza2 hr4) rfl (.cons (avAs_agg (.sm rfl (.sm rfl (.cons (lstC_ren rfl (by decide)) (.cons (lstC_ren rfl (by decide)) (.cons (lstC_ren rfl (by decide)) (.sm rfl (.sm rfl (.sm rfl (.sm rfl (.sm rfl (.sm rfl (.sm rfl .nil))))))))))))) (.cons (avAs_free rfl) .nil)) (hsub_refl _) (.cons rfl (.cons rfl (.cons rfl (.nil _)))) hcs (by decide) (by decide) (.cons (avAs_agg (.sm rfl (.sm rfl (.cons (lstC_ren rfl (by decide)) (.cons (lstC_ren rfl (by decide)) (.cons (lstC_ren rfl (by decide)) (.sm rfl (.sm rfl (.sm rfl (.sm rfl (.sm rfl (.sm rfl (.sm rfl .nil))))))))))))) (.cons (avAs_free rfl) .nil)) (.row (by decide) rfl (fr_map fun _ => rfl) (.row (by decide) rfl (fr_map fun _ => rfl) (.row (by decide) rfl (fr_map fun _ => rfl) .nil))) ?_
     rintro _ _ _ hn ⟨z_9, hz_9, z_10, hz_10, z_11, hz_11, rfl, rfl, rfl⟩
     refine ⟨.inl rfl, (upd (upd (upd (rem [0, 1, 2] _) 5 (lstB z_9 7 (r_3.1.Tasks.map e_TJJob))) 6 (lstB z_10 7 (r_3.1.Smalls.map e_TJJob))) 7 (lstB z_11 5 (r_3.1.Timers.map e_TJTimer))), fun hbd => (m3_cons (m3_row rfl (fr_map fun _ => rfl)) (m3_cons (m3_row rfl (fr_map fun _ => rfl)) (m3_cons (m3_row rfl (fr_map fun _ => rfl)) (m3_rem (in_cons (by decide) (in_cons (by decide) (in_cons (by decide) (in_nil _)))) (.cons (by decide) (.cons (by decide) (.cons (by decide) .nil))) hbd)))), (.tup [(.agg [cI r_3.1.Now, cI r_3.1.Next, lstC z_9 5 7 r_3.1.Tasks.length, lstC z_10 6 7 r_3.1.Smalls.length, lstC z_11 7 5 r_3.1.Timers.length]), (I r_3.2.1), (I r_3.2.2)]), 8, (by cases z_9 <;> cases z_10 <;> cases z_11 <;> rfl), rfl, ?_⟩
     refine un1 (v := (.agg [cI r_3.1.Now, cI r_3.1.Next, lstC z_9 5 7 r_3.1.Tasks.length, lstC z_10 6 7 r_3.1.Smalls.length, lstC z_11 7 5 r_3.1.Timers.length])) rfl <| un1 (v := (I r_3.2.1)) rfl <| un1 (v := (I r_3.2.2)) rfl <| un <| a2n (h' := upd _ 4 (some (.cells 5 [[cI r_3.1.Now, cI r_3.1.Next, lstC z_9 5 7 r_3.1.Tasks.length, lstC z_10 6 7 r_3.1.Smalls.length, lstC z_11 7 5 r_3.1.Timers.length]]))) (n' := 8) rfl rfl hcs <| un1 rfl <| un1 rfl <| dnil <| Sv.ret ?_
     replace h := Option.some.inj h
     subst h
     exact ⟨_, .refl _, _, rfl, ⟨upd e0 0 (some (.tup [(.agg [cI r_3.1.Now, cI r_3.1.Next, lstC z_9 3 7 r_3.1.Tasks.length, lstC z_10 4 7 r_3.1.Smalls.length, lstC z_11 5 5 r_3.1.Timers.length]), (I r_3.2.1), (I r_3.2.2)])), (upd (upd (upd e0 3 (lstB z_9 7 (r_3.1.Tasks.map e_TJJob))) 4 (lstB z_10 7 (r_3.1.Smalls.map e_TJJob))) 5 (lstB z_11 5 (r_3.1.Timers.map e_TJTimer))), 6⟩, (.tup [(.agg [cI r_3.1.Now, cI r_3.1.Next, lstC z_9 3 7 r_3.1.Tasks.length, lstC z_10 4 7 r_3.1.Smalls.length, lstC z_11 5 5 r_3.1.Timers.length]), (I r_3.2.1), (I r_3.2.2)]), weak_canon2 [0, 1, 2, 5, 6, 7] [3, 4, 5] (by decide) (by decide) (by decide) (.cons (by decide) (.cons (by decide) (.cons (by decide) .nil))) (.cons rfl (avAs_tup (.cons (avAs_agg (.sm rfl (.sm rfl (.cons (lstC_ren rfl (by decide)) (.cons (lstC_ren rfl (by decide)) (.cons (lstC_ren rfl (by decide)) .nil)))))) (.cons (avAs_free rfl) (.cons (avAs_free rfl) .nil)))) .nil) (.row (by decide) rfl (fr_map fun _ => rfl) (.row (by decide) rfl (fr_map fun _ => rfl) (.row (by decide) rfl (fr_map fun _ => rfl) .nil))), rfl, z_9, hz_9, z_10, hz_10, z_11, hz_11, rfl, rfl, rfl⟩
    ·refine Sv.skip <| ssr <| un1 (v := (.c (.ref 3 12 0 0))) rfl <| un1 (v := (.c (.ref 3 12 0 4))) rfl <| un1 (v := (lstV za2 2 5 a_.f_q.Timers.length)) rfl <| un1 (v := (.c (.fn (.func 68) [] [.ref 3 12 0 0]))) rfl ?_
     obtain ⟨r_4, hr5, h⟩ := bnd h
     refine un <| ac_gen (bs := []) («as» := [(.c (.ro false 5 (a_.f_q.Timers.map e_TJTimer))), (.c (.fn (.func 68) [] [.rop [cI a_.f_q.Now, cI a_.f_q.Next, .ro false 7 (a_.f_q.Tasks.map e_TJJob), .ro false 7 (a_.f_q.Smalls.map e_TJJob), .ro false 5 (a_.f_q.Timers.map e_TJTimer), cI a_.f_a.Do, cI a_.f_a.Source, cI a_.f_a.N, .str a_.f_a.Call, cI a_.f_a.Arg.Kind, cI a_.f_a.Arg.N, .str a_.f_a.Arg.S]]))]) (h2 := (upd (upd (upd (upd _ 2 none) 3 none) 0 none) 1 none)) (h1 := e0) (Z6k hr5) rfl (.cons (.c (lstC_ro (es := List.map e_TJTimer a_.f_q.Timers) rfl (List.length_map e_TJTimer).symm (map_nil_of hza2) (gone rfl) (fr_map fun _ => rfl))) (.cons (.c (fn_as .nil (.cons (ref_ro rfl (gone rfl) (.sm rfl (.sm rfl (.cons (lstC_ro (es := List.map e_TJJob a_.f_q.Tasks) rfl (List.length_map e_TJJob).symm (map_nil_of hza) (gone rfl) (fr_map fun _ => rfl)) (.cons (lstC_ro (es := List.map e_TJJob a_.f_q.Smalls) rfl (List.length_map e_TJJob).symm (map_nil_of hza1) (gone rfl) (fr_map fun _ => rfl)) (.cons (lstC_ro (es := List.map e_TJTimer a_.f_q.Timers) rfl (List.length_map e_TJTimer).symm (map_nil_of hza2) (gone rfl) (fr_map fun _ => rfl)) (.sm rfl (.sm rfl (.sm rfl (.sm rfl (.sm rfl (.sm rfl (.sm rfl .nil)))))))))))) rfl) .nil))) .nil)) (hsub_none (hsub_none (hsub_none (hsub_none (hsub_refl _))))) (.nil _) (fun _ => rfl) (by decide) (by decide) (.cons (avAs_free rfl) (.cons (.c (fn_as .nil (.sm rfl .nil))) .nil)) .nil ?_
     rintro _ _ _ hn ⟨rfl, rfl, rfl⟩
     refine ⟨.inr ⟨rfl, .nil⟩, (rem [] _), fun hbd => (m3_rem (in_nil _) (.nil) hbd), (I r_4), 5, rfl, rfl, ?_⟩
     refine un1 rfl <| dnil <| Sv.seq <| ssr <| un1 rfl <| un1 (v := (B (decide (r_4 < 0)))) rfl <| dnil ?_
     refine Sv.cnd rfl h (fun h => ?_) fun h => ?_
     ·refine ssr <| un1 (v := (.c (.ref 3 12 0 0))) rfl <| un1 (v := (.agg [cI a_.f_q.Now, cI a_.f_q.Next, lstC za 0 7 a_.f_q.Tasks.length, lstC za1 1 7 a_.f_q.Smalls.length, lstC za2 2 5 a_.f_q.Timers.length])) rfl <| un <| a2n (h' := upd _ 4 (some (.cells 5 [[cI a_.f_q.Now, cI a_.f_q.Next, lstC za 0 7 a_.f_q.Tasks.length, lstC za1 1 7 a_.f_q.Smalls.length, lstC za2 2 5 a_.f_q.Timers.length]]))) (n' := 5) rfl rfl hcs <| un1 rfl <| un1 rfl <| dnil <| Sv.ret ?_
      replace h := Option.some.inj h
      subst h
      exact ⟨_, .refl _, _, rfl, ⟨upd e0 0 (some (.tup [(.agg [cI a_.f_q.Now, cI a_.f_q.Next, lstC za 3 7 a_.f_q.Tasks.length, lstC za1 4 7 a_.f_q.Smalls.length, lstC za2 5 5 a_.f_q.Timers.length]), (I 0), (I 5)])), (upd (upd (upd e0 3 (lstB za 7 (a_.f_q.Tasks.map e_TJJob))) 4 (lstB za1 7 (a_.f_q.Smalls.map e_TJJob))) 5 (lstB za2 5 (a_.f_q.Timers.map e_TJTimer))), 6⟩, (.tup [(.agg [cI a_.f_q.Now, cI a_.f_q.Next, lstC za 3 7 a_.f_q.Tasks.length, lstC za1 4 7 a_.f_q.Smalls.length, lstC za2 5 5 a_.f_q.Timers.length]), (I 0), (I 5)]), weak_canon2 [0, 1, 2, 0, 1, 2] [3, 4, 5] (by decide) (by decide) (by decide) (.cons (by decide) (.cons (by decide) (.cons (by decide) .nil))) (.cons rfl (avAs_tup (.cons (avAs_agg (.sm rfl (.sm rfl (.cons (lstC_ren rfl (by decide)) (.cons (lstC_ren rfl (by decide)) (.cons (lstC_ren rfl (by decide)) .nil)))))) (.cons (avAs_free rfl) (.cons (avAs_free rfl) .nil)))) .nil) (.row (by decide) rfl (fr_map fun _ => rfl) (.row (by decide) rfl (fr_map fun _ => rfl) (.row (by decide) rfl (fr_map fun _ => rfl) .nil))), rfl, za, hza, za1, hza1, za2, hza2, rfl, rfl, rfl⟩
     ·refine Sv.skip <| ssr <| un1 (v := (.c (.ref 3 12 0 0))) rfl <| un1 (v := (.c (.ref 3 12 0 4))) rfl <| un1 (v := (lstV za2 2 5 a_.f_q.Timers.length)) rfl <| un1 rfl <| un1 rfl <| un1 (v := (I (wi (r_4 + 1)))) rfl ?_
      obtain ⟨r_5, hr6, h⟩ := bnd h
      refine un <| ac_gen (bs := [2]) («as» := [(lstV za2 2 5 a_.f_q.Timers.length), (I r_4), (I (wi (r_4 + 1)))]) (h2 := _) (h1 := (upd e0 2 (lstB za2 5 (a_.f_q.Timers.map e_TJTimer)))) (Z3y hza2 hr6) rfl (.cons (.c (lsr rfl rfl)) (.cons (avAs_free rfl) (.cons (avAs_free rfl) .nil))) (hsub_refl _) (.cons rfl (.nil _)) hcs (by decide) (by decide) (.cons (.c (lsr rfl rfl)) (.cons (avAs_free rfl) (.cons (avAs_free rfl) .nil))) (.row (by decide) rfl (fr_map fun _ => rfl) .nil) ?_
      rintro _ _ _ hn ⟨z_12, hz_12, rfl, rfl, rfl⟩
      refine ⟨.inl rfl, (upd (rem [2] _) 5 (lstB z_12 5 (r_5.map e_TJTimer))), fun hbd => (m3_cons (m3_row rfl (fr_map fun _ => rfl)) (m3_rem (in_cons (by decide) (in_nil _)) (.cons (by decide) .nil) hbd)), (lstV z_12 5 5 r_5.length), 6, (by cases z_12 <;> rfl), rfl, ?_⟩
      refine un1 (v := (.c (.ref 3 12 0 0))) rfl <| un1 (v := (.c (.ref 3 12 0 4))) rfl <| un <| a2n (h' := upd _ 3 (some (.cells 12 [[cI a_.f_q.Now, cI a_.f_q.Next, lstC za 0 7 a_.f_q.Tasks.length, lstC za1 1 7 a_.f_q.Smalls.length, lstC z_12 5 5 r_5.length, cI a_.f_a.Do, cI a_.f_a.Source, cI a_.f_a.N, .str a_.f_a.Call, cI a_.f_a.Arg.Kind, cI a_.f_a.Arg.N, .str a_.f_a.Arg.S]]))) (n' := 6) rfl rfl hcs <| dnil <| ssr <| un1 (v := (.c (.ref 3 12 0 0))) rfl <| un1 (v := (.agg [cI a_.f_q.Now, cI a_.f_q.Next, lstC za 0 7 a_.f_q.Tasks.length, lstC za1 1 7 a_.f_q.Smalls.length, lstC z_12 5 5 r_5.length])) rfl <| un <| a2n (h' := upd _ 4 (some (.cells 5 [[cI a_.f_q.Now, cI a_.f_q.Next, lstC za 0 7 a_.f_q.Tasks.length, lstC za1 1 7 a_.f_q.Smalls.length, lstC z_12 5 5 r_5.length]]))) (n' := 6) rfl rfl hcs <| un1 rfl <| un1 rfl <| dnil <| Sv.ret ?_
      replace h := Option.some.inj h
      subst h
      exact ⟨_, .refl _, _, rfl, ⟨upd e0 0 (some (.tup [(.agg [cI a_.f_q.Now, cI a_.f_q.Next, lstC za 3 7 a_.f_q.Tasks.length, lstC za1 4 7 a_.f_q.Smalls.length, lstC z_12 5 5 r_5.length]), (I 0), (I 0)])), (upd (upd (upd e0 3 (lstB za 7 (a_.f_q.Tasks.map e_TJJob))) 4 (lstB za1 7 (a_.f_q.Smalls.map e_TJJob))) 5 (lstB z_12 5 (r_5.map e_TJTimer))), 6⟩, (.tup [(.agg [cI a_.f_q.Now, cI a_.f_q.Next, lstC za 3 7 a_.f_q.Tasks.length, lstC za1 4 7 a_.f_q.Smalls.length, lstC z_12 5 5 r_5.length]), (I 0), (I 0)]), weak_canon2 [0, 1, 2, 0, 1, 5] [3, 4, 5] (by decide) (by decide) (by decide) (.cons (by decide) (.cons (by decide) (.cons (by decide) .nil))) (.cons rfl (avAs_tup (.cons (avAs_agg (.sm rfl (.sm rfl (.cons (lstC_ren rfl (by decide)) (.cons (lstC_ren rfl (by decide)) (.cons (lstC_ren rfl (by decide)) .nil)))))) (.cons (avAs_free rfl) (.cons (avAs_free rfl) .nil)))) .nil) (.row (by decide) rfl (fr_map fun _ => rfl) (.row (by decide) rfl (fr_map fun _ => rfl) (.row (by decide) rfl (fr_map fun _ => rfl) .nil))), rfl, za, hza, za1, hza1, z_12, hz_12, rfl, rfl, rfl⟩
def a6 : AFunc := ⟨2, [(.cell true 5 4), (.tmp 5), (.tmp 6)], (sr [(oP 2 (.box (.tmp 0))), (oP 3 (.box (.tmp 1))), (oP 4 (.box (.const (.agg [(.val (.int .i64 0)), (.val (.int .i64 0)), (.ro true 7 []), (.ro true 7 []), (.ro true 5 [])])))), (oP 5 (.mov (kI 0))), (oP 6 (.mov (kI 0)))]
 (.seq (sr [(oP 10 (.load true 5 (.tmp 2))), (oP 11 (.call 9 [(.tmp 10)])), (mV 7 11)]
 (sr [(mV 12 7), (oP 13 (.bin .neq (.tmp 12) (kI 0)))]
 (.cond (.tmp 13) (sr [(oP 14 (.build [(.val (.int .i64 0)), (.val (.int .i64 0)), (.ro true 7 []), (.ro true 7 []), (.ro true 5 [])] [])), (mV 15 7), (oN (.store 5 (.tmp 4) (.tmp 14))), (oP 5 (.mov (kI 0))), (mV 6 15)]
 .ret) .skip)))
 (.seq (sr [(oP 16 (.faddr 0 (.tmp 3))), (oP 17 (.load false 1 (.tmp 16))), (oP 18 (.call 32 [(.tmp 17), (kI 1), (kI 5)])), (oP 19 (.un .not (.tmp 18)))]
 (.cond (.tmp 19) (sr [(oP 20 (.build [(.val (.int .i64 0)), (.val (.int .i64 0)), (.ro true 7 []), (.ro true 7 []), (.ro true 5 [])] [])), (oN (.store 5 (.tmp 4) (.tmp 20))), (oP 5 (.mov (kI 0))), (oP 6 (.mov (kI 3)))]
 .ret) .skip))
 (.seq (.drawn (.fin [((oP 22 (.load true 5 (.tmp 2))), (0, 0)), ((oP 24 (.load true 7 (.tmp 3))), (0, 2)), ((oP 23 (.call 33 [(.tmp 22)])), (1, 1)), ((oP 25 (.build [(.val (.int .i64 0)), (.val (.int .i64 0)), (.ro true 7 []), (.ro true 7 []), (.ro true 5 []), (.val (.int .i64 0)), (.val (.int .i64 0)), (.val (.int .i64 0)), (.str []), (.val (.int .i64 0)), (.val (.int .i64 0)), (.str [])] [(0, (5, (.tmp 23))), (5, (7, (.tmp 24)))])), (0, 3)), ((oP 26 (.call 34 [(.tmp 25)])), (2, 4)), ((mV 21 26), (0, 5)), ((oP 27 (.ext (.tmp 21) 0)), (0, 6)), ((oP 28 (.ext (.tmp 21) 1)), (0, 7)), ((oP 29 (.ext (.tmp 21) 2)), (0, 8)), ((oN (.store 5 (.tmp 2) (.tmp 27))), (2, 9)), ((mV 8 28), (0, 10)), ((mV 9 29), (0, 11))]))
 (.seq (sr [(mV 30 9), (oP 31 (.bin .neq (.tmp 30) (kI 0)))]
 (.cond (.tmp 31) (sr [(oP 32 (.build [(.val (.int .i64 0)), (.val (.int .i64 0)), (.ro true 7 []), (.ro true 7 []), (.ro true 5 [])] [])), (mV 33 9), (oN (.store 5 (.tmp 4) (.tmp 32))), (oP 5 (.mov (kI 0))), (mV 6 33)]
 .ret) .skip))
 (sr [(oP 34 (.load true 5 (.tmp 2))), (mV 35 8), (oN (.store 5 (.tmp 4) (.tmp 34))), (mV 5 35), (oP 6 (.mov (kI 0)))]
 .ret))))))⟩
theorem c6 : compFunc Try.prog 6 = some a6 := by kernel_rfl
def Z40 (r : (TJLoop × Int × Int)) : AV → Heap → Nat → Prop := fun v h' n' => ∃ z0 : Bool, (z0 = true → r.1.Tasks = []) ∧ ∃ z1 : Bool, (z1 = true → r.1.Smalls = []) ∧ ∃ z2 : Bool, (z2 = true → r.1.Timers = []) ∧ v = (.tup [(.agg [cI r.1.Now, cI r.1.Next, lstC z0 0 7 r.1.Tasks.length, lstC z1 1 7 r.1.Smalls.length, lstC z2 2 5 r.1.Timers.length]), (I r.2.1), (I r.2.2)]) ∧ (h' = (upd (upd (upd e0 0 (lstB z0 7 (r.1.Tasks.map e_TJJob))) 1 (lstB z1 7 (r.1.Smalls.map e_TJJob))) 2 (lstB z2 5 (r.1.Timers.map e_TJTimer)))) ∧ n' = 3
/-- clerestory/loop.Ask -/
noncomputable def Zu (q_ : TJLoop) (a_ : TJAsk) : Option (TJLoop × Int × Int) :=
 (Z1h q_).bind fun r_ =>
 if (!decide (r_ = 0)) then
  some ((⟨0, 0, [], [], []⟩ : TJLoop), 0, r_)
 else
  if (!(Z1 a_.Do 1 5)) then
   some ((⟨0, 0, [], [], []⟩ : TJLoop), 0, 3)
  else
   (Z1y q_).bind fun r_1 =>
   (Zt (⟨r_1, a_⟩ : Tasked)).bind fun r_2 =>
   if (!decide (r_2.2.2 = 0)) then
    some ((⟨0, 0, [], [], []⟩ : TJLoop), 0, r_2.2.2)
   else
    some (r_2.1, r_2.2.1, 0)
theorem Z6m {Γ : Glob} {q_ : TJLoop} {a_ : TJAsk} {r : (TJLoop × Int × Int)} (h : Zu q_ a_ = some r) : ACalls Try.prog Γ 6 [(.agg [cI q_.Now, cI q_.Next, .ro false 7 (q_.Tasks.map e_TJJob), .ro false 7 (q_.Smalls.map e_TJJob), .ro false 5 (q_.Timers.map e_TJTimer)]), (.agg (e_TJAsk a_))] e0 0 (Z40 r) := by
 refine acalls_of_sv hmix c6 (R := Z40 r) ?_
 unfold Zu at h
 refine ssr <| un <| a2v (v := (.c (.ref 0 5 0 0))) (h' := upd _ 0 (some (.cells 5 [[cI q_.Now, cI q_.Next, .ro false 7 (q_.Tasks.map e_TJJob), .ro false 7 (q_.Smalls.map e_TJJob), .ro false 5 (q_.Timers.map e_TJTimer)]]))) (n' := 1) rfl rfl hcs <| un <| a2v (v := (.c (.ref 1 7 0 0))) (h' := upd _ 1 (some (.cells 7 [(e_TJAsk a_)]))) (n' := 2) rfl rfl hcs <| un <| a2v (v := (.c (.ref 2 5 0 0))) (h' := upd _ 2 (some (.cells 5 [[cI 0, cI 0, .ro true 7 [], .ro true 7 [], .ro true 5 []]]))) (n' := 3) rfl rfl hcs <| un1 rfl <| un1 rfl <| dnil <| Sv.seq <| ssr <| un1 (v := (.agg [cI q_.Now, cI q_.Next, .ro false 7 (q_.Tasks.map e_TJJob), .ro false 7 (q_.Smalls.map e_TJJob), .ro false 5 (q_.Timers.map e_TJTimer)])) rfl ?_
 obtain ⟨r_, hr1, h⟩ := bnd h
 refine un <| ac_pure (Z66 hr1) rfl rfl rfl <| un1 rfl <| dnil <| ssr <| un1 rfl <| un1 (v := (B (!decide (r_ = 0)))) rfl <| dnil ?_
 refine Sv.cnd rfl h (fun h => ?_) fun h => ?_
 ·refine ssr <| un1 (v := (.agg [cI 0, cI 0, .ro true 7 [], .ro true 7 [], .ro true 5 []])) rfl <| un1 rfl <| un <| a2n (h' := upd _ 2 (some (.cells 5 [[cI 0, cI 0, .ro true 7 [], .ro true 7 [], .ro true 5 []]]))) (n' := 3) rfl rfl hcs <| un1 rfl <| un1 rfl <| dnil <| Sv.ret ?_
  replace h := Option.some.inj h
  subst h
  exact ⟨_, .refl _, _, rfl, ⟨upd e0 0 (some (.tup [(.agg [cI 0, cI 0, lstC true 0 7 ([] : List TJJob).length, lstC true 1 7 ([] : List TJJob).length, lstC true 2 5 ([] : List TJTimer).length]), (I 0), (I r_)])), (upd (upd (upd e0 0 (lstB true 7 (([] : List TJJob).map e_TJJob))) 1 (lstB true 7 (([] : List TJJob).map e_TJJob))) 2 (lstB true 5 (([] : List TJTimer).map e_TJTimer))), 3⟩, (.tup [(.agg [cI 0, cI 0, lstC true 0 7 ([] : List TJJob).length, lstC true 1 7 ([] : List TJJob).length, lstC true 2 5 ([] : List TJTimer).length]), (I 0), (I r_)]), weak_canon2 [1000, 1001, 1002] [0, 1, 2] (by decide) (by decide) nlz (.cons (by decide) (.cons (by decide) (.cons (by decide) .nil))) (.cons rfl (avAs_tup (.cons (avAs_agg (.sm rfl (.sm rfl (.sm rfl (.sm rfl (.sm rfl .nil)))))) (.cons (avAs_free rfl) (.cons (avAs_free rfl) .nil)))) .nil) (.non (by decide) (.non (by decide) (.non (by decide) .nil))), rfl, true, (fun _ => rfl), true, (fun _ => rfl), true, (fun _ => rfl), rfl, rfl, rfl⟩
 ·refine Sv.skip <| Sv.seq <| ssr <| un1 (v := (.c (.ref 1 7 0 0))) rfl <| un1 (v := (I a_.Do)) rfl <| un <| ac_pure (Zf (Γ := Γ) a_.Do 1 5) rfl rfl rfl <| un1 (v := (B (!(Z1 a_.Do 1 5)))) rfl <| dnil ?_
  refine Sv.cnd rfl h (fun h => ?_) fun h => ?_
  ·refine ssr <| un1 (v := (.agg [cI 0, cI 0, .ro true 7 [], .ro true 7 [], .ro true 5 []])) rfl <| un <| a2n (h' := upd _ 2 (some (.cells 5 [[cI 0, cI 0, .ro true 7 [], .ro true 7 [], .ro true 5 []]]))) (n' := 3) rfl rfl hcs <| un1 rfl <| un1 rfl <| dnil <| Sv.ret ?_
   replace h := Option.some.inj h
   subst h
   exact ⟨_, .refl _, _, rfl, ⟨upd e0 0 (some (.tup [(.agg [cI 0, cI 0, lstC true 0 7 ([] : List TJJob).length, lstC true 1 7 ([] : List TJJob).length, lstC true 2 5 ([] : List TJTimer).length]), (I 0), (I 3)])), (upd (upd (upd e0 0 (lstB true 7 (([] : List TJJob).map e_TJJob))) 1 (lstB true 7 (([] : List TJJob).map e_TJJob))) 2 (lstB true 5 (([] : List TJTimer).map e_TJTimer))), 3⟩, (.tup [(.agg [cI 0, cI 0, lstC true 0 7 ([] : List TJJob).length, lstC true 1 7 ([] : List TJJob).length, lstC true 2 5 ([] : List TJTimer).length]), (I 0), (I 3)]), weak_canon2 [1000, 1001, 1002] [0, 1, 2] (by decide) (by decide) nlz (.cons (by decide) (.cons (by decide) (.cons (by decide) .nil))) (.cons rfl (avAs_tup (.cons (avAs_agg (.sm rfl (.sm rfl (.sm rfl (.sm rfl (.sm rfl .nil)))))) (.cons (avAs_free rfl) (.cons (avAs_free rfl) .nil)))) .nil) (.non (by decide) (.non (by decide) (.non (by decide) .nil))), rfl, true, (fun _ => rfl), true, (fun _ => rfl), true, (fun _ => rfl), rfl, rfl, rfl⟩
  ·refine Sv.skip <| Sv.seq <| Sv.drawn <| un1 (v := (.agg [cI q_.Now, cI q_.Next, .ro false 7 (q_.Tasks.map e_TJJob), .ro false 7 (q_.Smalls.map e_TJJob), .ro false 5 (q_.Timers.map e_TJTimer)])) rfl <| un1 (v := (.agg (e_TJAsk a_))) rfl ?_
   obtain ⟨r_1, hr2, h⟩ := bnd h
   refine un <| ac_gen (bs := []) («as» := [(.agg [cI q_.Now, cI q_.Next, .ro false 7 (q_.Tasks.map e_TJJob), .ro false 7 (q_.Smalls.map e_TJJob), .ro false 5 (q_.Timers.map e_TJTimer)])]) (h2 := _) (h1 := e0) (Z68 hr2) rfl (.cons (avAs_free rfl) .nil) (hsub_refl _) (.nil _) (fun _ => rfl) (by decide) (by decide) (.cons (avAs_free rfl) .nil) .nil ?_
   rintro _ _ _ hn ⟨z_, hz_, z_1, hz_1, z_2, hz_2, rfl, rfl, rfl⟩
   refine ⟨.inl rfl, (upd (upd (upd (rem [] _) 3 (lstB z_ 7 (r_1.Tasks.map e_TJJob))) 4 (lstB z_1 7 (r_1.Smalls.map e_TJJob))) 5 (lstB z_2 5 (r_1.Timers.map e_TJTimer))), fun hbd => (m3_cons (m3_row rfl (fr_map fun _ => rfl)) (m3_cons (m3_row rfl (fr_map fun _ => rfl)) (m3_cons (m3_row rfl (fr_map fun _ => rfl)) (m3_rem (in_nil _) (.cons (by decide) (.cons (by decide) (.cons (by decide) .nil))) hbd)))), (.agg [cI r_1.Now, cI r_1.Next, lstC z_ 3 7 r_1.Tasks.length, lstC z_1 4 7 r_1.Smalls.length, lstC z_2 5 5 r_1.Timers.length]), 6, (by cases z_ <;> cases z_1 <;> cases z_2 <;> rfl), rfl, ?_⟩
   refine un1 (v := (.agg [cI r_1.Now, cI r_1.Next, lstC z_ 3 7 r_1.Tasks.length, lstC z_1 4 7 r_1.Smalls.length, lstC z_2 5 5 r_1.Timers.length, cI a_.Do, cI a_.Source, cI a_.N, .str a_.Call, cI a_.Arg.Kind, cI a_.Arg.N, .str a_.Arg.S])) rfl ?_
   obtain ⟨r_2, hr3, h⟩ := bnd h
   refine un <| ac_gen (bs := [3, 4, 5]) («as» := [(.agg [cI r_1.Now, cI r_1.Next, lstC z_ 3 7 r_1.Tasks.length, lstC z_1 4 7 r_1.Smalls.length, lstC z_2 5 5 r_1.Timers.length, cI a_.Do, cI a_.Source, cI a_.N, .str a_.Call, cI a_.Arg.Kind, cI a_.Arg.N, .str a_.Arg.S])]) (h2 := _) (h1 := (upd (upd (upd e0 3 (lstB z_ 7 (r_1.Tasks.map e_TJJob))) 4 (lstB z_1 7 (r_1.Smalls.map e_TJJob))) 5 (lstB z_2 5 (r_1.Timers.map e_TJTimer)))) (Z6l hz_ hz_1 hz_2 hr3) rfl (.cons (avAs_agg (.sm rfl (.sm rfl (.cons (lstC_ren rfl (by decide)) (.cons (lstC_ren rfl (by decide)) (.cons (lstC_ren rfl (by decide)) (.sm rfl (.sm rfl (.sm rfl (.sm rfl (.sm rfl (.sm rfl (.sm rfl .nil))))))))))))) .nil) (hsub_refl _) (.cons rfl (.cons rfl (.cons rfl (.nil _)))) hcs (by decide) (by decide) (.cons (avAs_agg (.sm rfl (.sm rfl (.cons (lstC_ren rfl (by decide)) (.cons (lstC_ren rfl (by decide)) (.cons (lstC_ren rfl (by decide)) (.sm rfl (.sm rfl (.sm rfl (.sm rfl (.sm rfl (.sm rfl (.sm rfl .nil))))))))))))) .nil) (.row (by decide) rfl (fr_map fun _ => rfl) (.row (by decide) rfl (fr_map fun _ => rfl) (.row (by decide) rfl (fr_map fun _ => rfl) .nil))) ?_
   rintro _ _ _ hn ⟨z_3, hz_3, z_4, hz_4, z_5, hz_5, rfl, rfl, rfl⟩
   refine ⟨.inl rfl, (upd (upd (upd (rem [3, 4, 5] _) 6 (lstB z_3 7 (r_2.1.Tasks.map e_TJJob))) 7 (lstB z_4 7 (r_2.1.Smalls.map e_TJJob))) 8 (lstB z_5 5 (r_2.1.Timers.map e_TJTimer))), fun hbd => (m3_cons (m3_row rfl (fr_map fun _ => rfl)) (m3_cons (m3_row rfl (fr_map fun _ => rfl)) (m3_cons (m3_row rfl (fr_map fun _ => rfl)) (m3_rem (in_cons (by decide) (in_cons (by decide) (in_cons (by decide) (in_nil _)))) (.cons (by decide) (.cons (by decide) (.cons (by decide) .nil))) hbd)))), (.tup [(.agg [cI r_2.1.Now, cI r_2.1.Next, lstC z_3 6 7 r_2.1.Tasks.length, lstC z_4 7 7 r_2.1.Smalls.length, lstC z_5 8 5 r_2.1.Timers.length]), (I r_2.2.1), (I r_2.2.2)]), 9, (by cases z_3 <;> cases z_4 <;> cases z_5 <;> rfl), rfl, ?_⟩
   refine un1 rfl <| un1 (v := (.agg [cI r_2.1.Now, cI r_2.1.Next, lstC z_3 6 7 r_2.1.Tasks.length, lstC z_4 7 7 r_2.1.Smalls.length, lstC z_5 8 5 r_2.1.Timers.length])) rfl <| un1 (v := (I r_2.2.1)) rfl <| un1 (v := (I r_2.2.2)) rfl <| un <| a2n (h' := upd _ 0 (some (.cells 5 [[cI r_2.1.Now, cI r_2.1.Next, lstC z_3 6 7 r_2.1.Tasks.length, lstC z_4 7 7 r_2.1.Smalls.length, lstC z_5 8 5 r_2.1.Timers.length]]))) (n' := 9) rfl rfl hcs <| un1 rfl <| un1 rfl <| dnil <| Sv.seq <| ssr <| un1 rfl <| un1 (v := (B (!decide (r_2.2.2 = 0)))) rfl <| dnil ?_
   refine Sv.cnd rfl h (fun h => ?_) fun h => ?_
   ·refine ssr <| un1 (v := (.agg [cI 0, cI 0, .ro true 7 [], .ro true 7 [], .ro true 5 []])) rfl <| un1 rfl <| un <| a2n (h' := upd _ 2 (some (.cells 5 [[cI 0, cI 0, .ro true 7 [], .ro true 7 [], .ro true 5 []]]))) (n' := 9) rfl rfl hcs <| un1 rfl <| un1 rfl <| dnil <| Sv.ret ?_
    replace h := Option.some.inj h
    subst h
    exact ⟨_, .refl _, _, rfl, ⟨upd e0 0 (some (.tup [(.agg [cI 0, cI 0, lstC true 0 7 ([] : List TJJob).length, lstC true 1 7 ([] : List TJJob).length, lstC true 2 5 ([] : List TJTimer).length]), (I 0), (I r_2.2.2)])), (upd (upd (upd e0 0 (lstB true 7 (([] : List TJJob).map e_TJJob))) 1 (lstB true 7 (([] : List TJJob).map e_TJJob))) 2 (lstB true 5 (([] : List TJTimer).map e_TJTimer))), 3⟩, (.tup [(.agg [cI 0, cI 0, lstC true 0 7 ([] : List TJJob).length, lstC true 1 7 ([] : List TJJob).length, lstC true 2 5 ([] : List TJTimer).length]), (I 0), (I r_2.2.2)]), weak_canon2 [1000, 1001, 1002] [0, 1, 2] (by decide) (by decide) nlz (.cons (by decide) (.cons (by decide) (.cons (by decide) .nil))) (.cons rfl (avAs_tup (.cons (avAs_agg (.sm rfl (.sm rfl (.sm rfl (.sm rfl (.sm rfl .nil)))))) (.cons (avAs_free rfl) (.cons (avAs_free rfl) .nil)))) .nil) (.non (by decide) (.non (by decide) (.non (by decide) .nil))), rfl, true, (fun _ => rfl), true, (fun _ => rfl), true, (fun _ => rfl), rfl, rfl, rfl⟩
   ·refine Sv.skip <| ssr <| un1 (v := (.agg [cI r_2.1.Now, cI r_2.1.Next, lstC z_3 6 7 r_2.1.Tasks.length, lstC z_4 7 7 r_2.1.Smalls.length, lstC z_5 8 5 r_2.1.Timers.length])) rfl <| un1 rfl <| un <| a2n (h' := upd _ 2 (some (.cells 5 [[cI r_2.1.Now, cI r_2.1.Next, lstC z_3 6 7 r_2.1.Tasks.length, lstC z_4 7 7 r_2.1.Smalls.length, lstC z_5 8 5 r_2.1.Timers.length]]))) (n' := 9) rfl rfl hcs <| un1 rfl <| un1 rfl <| dnil <| Sv.ret ?_
    replace h := Option.some.inj h
    subst h
    exact ⟨_, .refl _, _, rfl, ⟨upd e0 0 (some (.tup [(.agg [cI r_2.1.Now, cI r_2.1.Next, lstC z_3 0 7 r_2.1.Tasks.length, lstC z_4 1 7 r_2.1.Smalls.length, lstC z_5 2 5 r_2.1.Timers.length]), (I r_2.2.1), (I 0)])), (upd (upd (upd e0 0 (lstB z_3 7 (r_2.1.Tasks.map e_TJJob))) 1 (lstB z_4 7 (r_2.1.Smalls.map e_TJJob))) 2 (lstB z_5 5 (r_2.1.Timers.map e_TJTimer))), 3⟩, (.tup [(.agg [cI r_2.1.Now, cI r_2.1.Next, lstC z_3 0 7 r_2.1.Tasks.length, lstC z_4 1 7 r_2.1.Smalls.length, lstC z_5 2 5 r_2.1.Timers.length]), (I r_2.2.1), (I 0)]), weak_canon2 [6, 7, 8] [0, 1, 2] (by decide) (by decide) nlz (.cons (by decide) (.cons (by decide) (.cons (by decide) .nil))) (.cons rfl (avAs_tup (.cons (avAs_agg (.sm rfl (.sm rfl (.cons (lstC_ren rfl (by decide)) (.cons (lstC_ren rfl (by decide)) (.cons (lstC_ren rfl (by decide)) .nil)))))) (.cons (avAs_free rfl) (.cons (avAs_free rfl) .nil)))) .nil) (.row (by decide) rfl (fr_map fun _ => rfl) (.row (by decide) rfl (fr_map fun _ => rfl) (.row (by decide) rfl (fr_map fun _ => rfl) .nil))), rfl, z_3, hz_3, z_4, hz_4, z_5, hz_5, rfl, rfl, rfl⟩
noncomputable abbrev Z2j (x_ : List TJJob) (i_ j_ : Int) : Option (List TJJob) := del? x_ i_ j_
theorem Z41 {Γ : Glob} {x_ r : List TJJob} {i_ j_ : Int} {zx : Bool} (hzx : zx = true → x_ = []) (h : Z2j x_ i_ j_ = some r) : ACalls Try.prog Γ 70 [lstV zx 0 7 x_.length, I i_, I j_] (upd e0 0 (lstB zx 7 (x_.map e_TJJob))) 1 (fun v h' n' => ∃ z' : Bool, (z' = true → r = []) ∧ v = lstV z' 1 7 r.length ∧ (h' = (upd e0 1 (lstB z' 7 (r.map e_TJJob)))) ∧ n' = 2) := del_ok (e := e_TJJob) (fun _ => rfl) (by decide) (fun blk n cap i j C T fr w a b c d e f g => del70_walk _ rfl rfl _ Try.zeroValue34 rfl (by decide) blk n cap i j C T fr w a b c d e f g) hzx h
def a71_c0 : ACode := (.seq (.drawn (.alt [((oP 59 (.load true 5 (.tmp 1))), (0, 0))] (.fin [((oP 60 (.load true 7 (.tmp 5))), (1, 1)), ((oN (.store 5 (.tmp 2) (.tmp 59))), (2, 2)), ((oN (.store 7 (.tmp 3) (.tmp 60))), (2, 3))]) (.fin [((oN (.store 5 (.tmp 2) (.tmp 59))), (2, 2)), ((oP 60 (.load true 7 (.tmp 5))), (1, 1)), ((oN (.store 7 (.tmp 3) (.tmp 60))), (2, 3))])))
 .ret)
def a71 : AFunc := ⟨1, [(.cell true 5 2), (.cell true 7 3)], (sr [(oP 1 (.box (.tmp 0))), (oP 2 (.box (.const (.agg [(.val (.int .i64 0)), (.val (.int .i64 0)), (.ro true 7 []), (.ro true 7 []), (.ro true 5 [])])))), (oP 3 (.box (.const (.agg [(.val (.int .i64 0)), (.val (.int .i64 0)), (.val (.bool false)), (.str []), (.val (.int .i64 0)), (.val (.int .i64 0)), (.str [])]))))]
 (sr [(oP 6 (.faddr 4 (.tmp 1))), (oP 7 (.load false 1 (.tmp 6))), (oP 8 (.iaddr 5 (.tmp 7) (kI 0))), (oP 9 (.load true 5 (.tmp 8))), (oP 4 (.box (.const (.agg [(.val (.int .i64 0)), (.val (.int .i64 0)), (.val (.int .i64 0)), (.val (.int .i64 0)), (.str [])])))), (oN (.store 5 (.tmp 4) (.tmp 9)))]
 (sr [(oP 10 (.faddr 4 (.tmp 1))), (oP 11 (.load false 1 (.tmp 10))), (oP 12 (.call 69 [(.tmp 11), (kI 0), (kI 1)])), (oP 13 (.faddr 4 (.tmp 1))), (oN (.store 1 (.tmp 13) (.tmp 12)))]
 (sr [(oP 14 (.faddr 0 (.tmp 1))), (oP 15 (.load false 1 (.tmp 14))), (oP 16 (.faddr 1 (.tmp 4))), (oP 17 (.load false 1 (.tmp 16))), (oP 18 (.mm true [(.tmp 15), (.tmp 17)])), (oP 19 (.faddr 0 (.tmp 1))), (oN (.store 1 (.tmp 19) (.tmp 18)))]
 (sr [(oP 20 (.faddr 0 (.tmp 4))), (oP 21 (.load false 1 (.tmp 20))), (oP 22 (.faddr 4 (.tmp 4))), (oP 23 (.load false 1 (.tmp 22))), (oP 24 (.faddr 3 (.tmp 4))), (oP 25 (.load false 1 (.tmp 24))), (oP 26 (.build [(.val (.int .i64 0)), (.val (.int .i64 0)), (.str [])] [(0, (1, (kI 2))), (1, (1, (.tmp 25)))])), (oP 27 (.build [(.val (.int .i64 0)), (.val (.int .i64 0)), (.val (.bool false)), (.str []), (.val (.int .i64 0)), (.val (.int .i64 0)), (.str [])] [(0, (1, (.tmp 21))), (1, (1, (kI 3))), (3, (1, (.tmp 23))), (4, (3, (.tmp 26)))])), (oP 5 (.box (.const (.agg [(.val (.int .i64 0)), (.val (.int .i64 0)), (.val (.bool false)), (.str []), (.val (.int .i64 0)), (.val (.int .i64 0)), (.str [])])))), (oN (.store 7 (.tmp 5) (.tmp 27)))]
 (.seq (sr [(oP 28 (.faddr 2 (.tmp 4))), (oP 29 (.load false 1 (.tmp 28))), (oP 30 (.bin .gtr (.tmp 29) (kI 0))), (mV 31 30), ⟨(some 32), (.faddr 1 (.tmp 4)), (some (31, true))⟩, ⟨(some 33), (.load false 1 (.tmp 32)), (some (31, true))⟩, ⟨(some 34), (.faddr 2 (.tmp 4)), (some (31, true))⟩, ⟨(some 35), (.load false 1 (.tmp 34)), (some (31, true))⟩, ⟨(some 36), (.bin .add (.tmp 33) (.tmp 35)), (some (31, true))⟩, ⟨(some 37), (.bin .leq (.tmp 36) (kI 1000000000)), (some (31, true))⟩, (oP 38 (.pick (.tmp 31) (.tmp 37) kF)), (mV 39 38), ⟨(some 40), (.faddr 3 (.tmp 4)), (some (39, true))⟩, ⟨(some 41), (.load false 1 (.tmp 40)), (some (39, true))⟩, ⟨(some 42), (.bin .lss (.tmp 41) (kI 1000000000)), (some (39, true))⟩, (oP 43 (.pick (.tmp 39) (.tmp 42) kF))]
 (.cond (.tmp 43) (sr [(oP 44 (.faddr 1 (.tmp 4))), (oP 45 (.load false 1 (.tmp 44))), (oP 46 (.faddr 2 (.tmp 4))), (oP 47 (.load false 1 (.tmp 46))), (oP 48 (.bin .add (.tmp 45) (.tmp 47))), (oP 49 (.faddr 3 (.tmp 4))), (oP 50 (.load false 1 (.tmp 49))), (oP 51 (.bin .add (.tmp 50) (kI 1))), (oP 52 (.faddr 1 (.tmp 4))), (oN (.store 1 (.tmp 52) (.tmp 48))), (oP 53 (.faddr 3 (.tmp 4))), (oN (.store 1 (.tmp 53) (.tmp 51)))]
 (.region [(oP 54 (.faddr 4 (.tmp 1))), (oP 55 (.load false 1 (.tmp 54))), (oP 56 (.load true 5 (.tmp 4))), (oP 57 (.call 88 [(.tmp 55), (.tmp 56)])), (oP 58 (.faddr 4 (.tmp 1))), (oN (.store 1 (.tmp 58) (.tmp 57)))])) .skip))
 a71_c0))))))⟩
theorem c71 : compFunc Try.prog 71 = some a71 := by kernel_rfl
def Z2y (r : (TJLoop × TJJob)) : AV → Heap → Nat → Prop := fun v h' n' => ∃ z0 : Bool, (z0 = true → r.1.Tasks = []) ∧ ∃ z1 : Bool, (z1 = true → r.1.Smalls = []) ∧ ∃ z2 : Bool, (z2 = true → r.1.Timers = []) ∧ v = (.tup [(.agg [cI r.1.Now, cI r.1.Next, lstC z0 3 7 r.1.Tasks.length, lstC z1 4 7 r.1.Smalls.length, lstC z2 5 5 r.1.Timers.length]), (.agg (e_TJJob r.2))]) ∧ (h' = (upd (upd (upd e0 3 (lstB z0 7 (r.1.Tasks.map e_TJJob))) 4 (lstB z1 7 (r.1.Smalls.map e_TJJob))) 5 (lstB z2 5 (r.1.Timers.map e_TJTimer)))) ∧ n' = 6
noncomputable def Z20 (q_ : TJLoop) (x_ : TJTimer) (q2 : (List TJJob)) (q3 : (List TJJob)) (q4 : (List TJTimer)) : Option (TJLoop × TJJob) :=
 some ((⟨(mx q_.Now x_.At), q_.Next, q2, q3, q4⟩ : TJLoop), (⟨x_.ID, 3, false, x_.Call, (⟨2, x_.Turn, []⟩ : TJVal)⟩ : TJJob))
theorem Z42 {Γ : Glob} {q_ : TJLoop} {x_ : TJTimer} {q2 : (List TJJob)} {q3 : (List TJJob)} {q4 : (List TJTimer)} {zq21 : Bool} (hzq21 : zq21 = true → q2 = []) {zq3 : Bool} (hzq3 : zq3 = true → q3 = []) {zq4 : Bool} (hzq4 : zq4 = true → q4 = []) {o : (TJLoop × TJJob)} (h : Z20 q_ x_ q2 q3 q4 = some o) :
  Sv Try.prog Γ 3 a71_c0 (Ends a71.results 3 (Z2y o)) ⟨(ue [(5, (.c (.ref 7 7 0 0))), (3, (.c (.ref 6 7 0 0))), (2, (.c (.ref 5 5 0 0))), (1, (.c (.ref 3 5 0 0)))]), (upd (upd (upd (upd (upd (upd (upd e0 0 (lstB zq21 7 (q2.map e_TJJob))) 1 (lstB zq3 7 (q3.map e_TJJob))) 3 (some (.cells 5 [[cI (mx q_.Now x_.At), cI q_.Next, lstC zq21 0 7 q2.length, lstC zq3 1 7 q3.length, lstC zq4 4 5 q4.length]]))) 4 (lstB zq4 5 (q4.map e_TJTimer))) 5 (some (.cells 5 [[cI 0, cI 0, .ro true 7 [], .ro true 7 [], .ro true 5 []]]))) 6 (some (.cells 7 [[cI 0, cI 0, cB false, .str [], cI 0, cI 0, .str []]]))) 7 (some (.cells 7 [[cI x_.ID, cI 3, cB false, .str x_.Call, cI 2, cI x_.Turn, .str []]]))), 8⟩ := by
 unfold Z20 at h
 refine Sv.seq <| Sv.drawn2 <| un1 (v := (.agg [cI (mx q_.Now x_.At), cI q_.Next, lstC zq21 0 7 q2.length, lstC zq3 1 7 q3.length, lstC zq4 4 5 q4.length])) rfl <| dnil ?_
 refine ⟨?_, ?_⟩
 ·refine un1 (v := (.agg [cI x_.ID, cI 3, cB false, .str x_.Call, cI 2, cI x_.Turn, .str []])) rfl <| un <| a2n (h' := upd _ 5 (some (.cells 5 [[cI (mx q_.Now x_.At), cI q_.Next, lstC zq21 0 7 q2.length, lstC zq3 1 7 q3.length, lstC zq4 4 5 q4.length]]))) (n' := 8) rfl rfl hcs <| un <| a2n (h' := upd _ 6 (some (.cells 7 [[cI x_.ID, cI 3, cB false, .str x_.Call, cI 2, cI x_.Turn, .str []]]))) (n' := 8) rfl rfl hcs <| dnil <| Sv.ret ?_
  replace h := Option.some.inj h
  subst h
  exact ⟨_, .refl _, _, rfl, ⟨upd e0 0 (some (.tup [(.agg [cI (mx q_.Now x_.At), cI q_.Next, lstC zq21 3 7 q2.length, lstC zq3 4 7 q3.length, lstC zq4 5 5 q4.length]), (.agg [cI x_.ID, cI 3, cB false, .str x_.Call, cI 2, cI x_.Turn, .str []])])), (upd (upd (upd e0 3 (lstB zq21 7 (q2.map e_TJJob))) 4 (lstB zq3 7 (q3.map e_TJJob))) 5 (lstB zq4 5 (q4.map e_TJTimer))), 6⟩, (.tup [(.agg [cI (mx q_.Now x_.At), cI q_.Next, lstC zq21 3 7 q2.length, lstC zq3 4 7 q3.length, lstC zq4 5 5 q4.length]), (.agg [cI x_.ID, cI 3, cB false, .str x_.Call, cI 2, cI x_.Turn, .str []])]), weak_canon2 [0, 1, 2, 0, 1, 4] [3, 4, 5] (by decide) (by decide) (by decide) (.cons (by decide) (.cons (by decide) (.cons (by decide) .nil))) (.cons rfl (avAs_tup (.cons (avAs_agg (.sm rfl (.sm rfl (.cons (lstC_ren rfl (by decide)) (.cons (lstC_ren rfl (by decide)) (.cons (lstC_ren rfl (by decide)) .nil)))))) (.cons (avAs_free rfl) .nil))) .nil) (.row (by decide) rfl (fr_map fun _ => rfl) (.row (by decide) rfl (fr_map fun _ => rfl) (.row (by decide) rfl (fr_map fun _ => rfl) .nil))), rfl, zq21, hzq21, zq3, hzq3, zq4, hzq4, rfl, rfl, rfl⟩
 ·refine un <| a2n (h' := upd _ 5 (some (.cells 5 [[cI (mx q_.Now x_.At), cI q_.Next, lstC zq21 0 7 q2.length, lstC zq3 1 7 q3.length, lstC zq4 4 5 q4.length]]))) (n' := 8) rfl rfl hcs <| un1 (v := (.agg [cI x_.ID, cI 3, cB false, .str x_.Call, cI 2, cI x_.Turn, .str []])) rfl <| un <| a2n (h' := upd _ 6 (some (.cells 7 [[cI x_.ID, cI 3, cB false, .str x_.Call, cI 2, cI x_.Turn, .str []]]))) (n' := 8) rfl rfl hcs <| dnil <| Sv.ret ?_
  replace h := Option.some.inj h
  subst h
  exact ⟨_, .refl _, _, rfl, ⟨upd e0 0 (some (.tup [(.agg [cI (mx q_.Now x_.At), cI q_.Next, lstC zq21 3 7 q2.length, lstC zq3 4 7 q3.length, lstC zq4 5 5 q4.length]), (.agg [cI x_.ID, cI 3, cB false, .str x_.Call, cI 2, cI x_.Turn, .str []])])), (upd (upd (upd e0 3 (lstB zq21 7 (q2.map e_TJJob))) 4 (lstB zq3 7 (q3.map e_TJJob))) 5 (lstB zq4 5 (q4.map e_TJTimer))), 6⟩, (.tup [(.agg [cI (mx q_.Now x_.At), cI q_.Next, lstC zq21 3 7 q2.length, lstC zq3 4 7 q3.length, lstC zq4 5 5 q4.length]), (.agg [cI x_.ID, cI 3, cB false, .str x_.Call, cI 2, cI x_.Turn, .str []])]), weak_canon2 [0, 1, 2, 0, 1, 4] [3, 4, 5] (by decide) (by decide) (by decide) (.cons (by decide) (.cons (by decide) (.cons (by decide) .nil))) (.cons rfl (avAs_tup (.cons (avAs_agg (.sm rfl (.sm rfl (.cons (lstC_ren rfl (by decide)) (.cons (lstC_ren rfl (by decide)) (.cons (lstC_ren rfl (by decide)) .nil)))))) (.cons (avAs_free rfl) .nil))) .nil) (.row (by decide) rfl (fr_map fun _ => rfl) (.row (by decide) rfl (fr_map fun _ => rfl) (.row (by decide) rfl (fr_map fun _ => rfl) .nil))), rfl, zq21, hzq21, zq3, hzq3, zq4, hzq4, rfl, rfl, rfl⟩
/-- clerestory/loop.fire -/
noncomputable def Z21 (q_ : TJLoop) : Option (TJLoop × TJJob) :=
 (at? q_.Timers 0).bind fun x_ =>
 (Z1z q_.Timers 0 1).bind fun r_ =>
 if (((decide (0 < x_.Every)) && (decide ((wi (x_.At + x_.Every)) ≤ 1000000000))) && (decide (x_.Turn < 1000000000))) then
  (Z1k r_ (⟨x_.ID, (wi (x_.At + x_.Every)), x_.Every, (wi (x_.Turn + 1)), x_.Call⟩ : TJTimer)).bind fun r_1 =>
  Z20 q_ x_ q_.Tasks q_.Smalls r_1
 else
  Z20 q_ x_ q_.Tasks q_.Smalls r_
theorem Z6n {Γ : Glob} {q_ : TJLoop} {zq : Bool} (hzq : zq = true → q_.Tasks = []) {zq1 : Bool} (hzq1 : zq1 = true → q_.Smalls = []) {zq2 : Bool} (hzq2 : zq2 = true → q_.Timers = []) {r : (TJLoop × TJJob)} (h : Z21 q_ = some r) : ACalls Try.prog Γ 71 [(.agg [cI q_.Now, cI q_.Next, lstC zq 0 7 q_.Tasks.length, lstC zq1 1 7 q_.Smalls.length, lstC zq2 2 5 q_.Timers.length])] (upd (upd (upd e0 0 (lstB zq 7 (q_.Tasks.map e_TJJob))) 1 (lstB zq1 7 (q_.Smalls.map e_TJJob))) 2 (lstB zq2 5 (q_.Timers.map e_TJTimer))) 3 (Z2y r) := by
 refine acalls_of_sv hmix c71 (R := Z2y r) ?_
 unfold Z21 at h
 refine ssr <| un <| a2v (v := (.c (.ref 3 5 0 0))) (h' := upd _ 3 (some (.cells 5 [[cI q_.Now, cI q_.Next, lstC zq 0 7 q_.Tasks.length, lstC zq1 1 7 q_.Smalls.length, lstC zq2 2 5 q_.Timers.length]]))) (n' := 4) rfl rfl hcs <| un <| a2v (v := (.c (.ref 4 5 0 0))) (h' := upd _ 4 (some (.cells 5 [[cI 0, cI 0, .ro true 7 [], .ro true 7 [], .ro true 5 []]]))) (n' := 5) rfl rfl hcs <| un <| a2v (v := (.c (.ref 5 7 0 0))) (h' := upd _ 5 (some (.cells 7 [[cI 0, cI 0, cB false, .str [], cI 0, cI 0, .str []]]))) (n' := 6) rfl rfl hcs <| dnil <| ssr <| un1 (v := (.c (.ref 3 5 0 4))) rfl <| un1 (v := (lstV zq2 2 5 q_.Timers.length)) rfl ?_
 obtain ⟨x_, hx1, h⟩ := bnd h
 refine un1 (v := (.c (.ref 2 5 (0 : Int).toNat 0))) (s_iaddrL rfl rfl hzq2 hx1) <| un1 (v := (.agg (e_TJTimer x_))) (s_loadL (z := zq2) (e := e_TJTimer) rfl rfl hzq2 hx1 rfl rfl) <| un <| a2v (v := (.c (.ref 6 5 0 0))) (h' := upd _ 6 (some (.cells 5 [[cI 0, cI 0, cI 0, cI 0, .str []]]))) (n' := 7) rfl rfl hcs <| un <| a2n (h' := upd _ 6 (some (.cells 5 [(e_TJTimer x_)]))) (n' := 7) rfl rfl hcs <| dnil <| ssr <| un1 (v := (.c (.ref 3 5 0 4))) rfl <| un1 (v := (lstV zq2 2 5 q_.Timers.length)) rfl ?_
 obtain ⟨r_, hr1, h⟩ := bnd h
 refine un <| ac_gen (bs := [2]) («as» := [(lstV zq2 2 5 q_.Timers.length), (I 0), (I 1)]) (h2 := _) (h1 := (upd e0 2 (lstB zq2 5 (q_.Timers.map e_TJTimer)))) (Z3y hzq2 hr1) rfl (.cons (.c (lsr rfl rfl)) (.cons (avAs_free rfl) (.cons (avAs_free rfl) .nil))) (hsub_refl _) (.cons rfl (.nil _)) hcs (by decide) (by decide) (.cons (.c (lsr rfl rfl)) (.cons (avAs_free rfl) (.cons (avAs_free rfl) .nil))) (.row (by decide) rfl (fr_map fun _ => rfl) .nil) ?_
 rintro _ _ _ hn ⟨z_, hz_, rfl, rfl, rfl⟩
 refine ⟨.inl rfl, (upd (rem [2] _) 7 (lstB z_ 5 (r_.map e_TJTimer))), fun hbd => (m3_cons (m3_row rfl (fr_map fun _ => rfl)) (m3_rem (in_cons (by decide) (in_nil _)) (.cons (by decide) .nil) hbd)), (lstV z_ 7 5 r_.length), 8, (by cases z_ <;> rfl), rfl, ?_⟩
 refine un1 (v := (.c (.ref 3 5 0 4))) rfl <| un <| a2n (h' := upd _ 3 (some (.cells 5 [[cI q_.Now, cI q_.Next, lstC zq 0 7 q_.Tasks.length, lstC zq1 1 7 q_.Smalls.length, lstC z_ 7 5 r_.length]]))) (n' := 8) rfl rfl hcs <| dnil <| ssr <| un1 (v := (.c (.ref 3 5 0 0))) rfl <| un1 (v := (I q_.Now)) rfl <| un1 (v := (.c (.ref 6 5 0 1))) rfl <| un1 (v := (I x_.At)) rfl <| un1 (v := (I (mx q_.Now x_.At))) (s_mx rfl rfl) <| un1 (v := (.c (.ref 3 5 0 0))) rfl <| un <| a2n (h' := upd _ 3 (some (.cells 5 [[cI (mx q_.Now x_.At), cI q_.Next, lstC zq 0 7 q_.Tasks.length, lstC zq1 1 7 q_.Smalls.length, lstC z_ 7 5 r_.length]]))) (n' := 8) rfl rfl hcs <| dnil <| ssr <| un1 (v := (.c (.ref 6 5 0 0))) rfl <| un1 (v := (I x_.ID)) rfl <| un1 (v := (.c (.ref 6 5 0 4))) rfl <| un1 (v := (S x_.Call)) rfl <| un1 (v := (.c (.ref 6 5 0 3))) rfl <| un1 (v := (I x_.Turn)) rfl <| un1 (v := (.agg [cI 2, cI x_.Turn, .str []])) rfl <| un1 (v := (.agg [cI x_.ID, cI 3, cB false, .str x_.Call, cI 2, cI x_.Turn, .str []])) rfl <| un <| a2v (v := (.c (.ref 8 7 0 0))) (h' := upd _ 8 (some (.cells 7 [[cI 0, cI 0, cB false, .str [], cI 0, cI 0, .str []]]))) (n' := 9) rfl rfl hcs <| un <| a2n (h' := upd _ 8 (some (.cells 7 [[cI x_.ID, cI 3, cB false, .str x_.Call, cI 2, cI x_.Turn, .str []]]))) (n' := 9) rfl rfl hcs <| dnil <| Sv.seq <| ssr <| un1 (v := (.c (.ref 6 5 0 2))) rfl <| un1 (v := (I x_.Every)) rfl <| un1 (v := (B (decide (0 < x_.Every)))) rfl <| un1 rfl ?_
 refine gjoin 7 (d := 38) (v := (B ((decide (0 < x_.Every)) && (decide ((wi (x_.At + x_.Every)) ≤ 1000000000))))) (fun X hX => ?_) ?_
 ·refine split2 (fun hc1 => ?_) (fun hc1 => ?_)
  ·refine gt rfl <| a1 (v := (.c (.ref 6 5 0 1))) rfl <| gt rfl <| a1 (v := (I x_.At)) rfl <| gt rfl <| a1 (v := (.c (.ref 6 5 0 2))) rfl <| gt rfl <| a1 (v := (I x_.Every)) rfl <| gt rfl <| a1 (v := (I (wi (x_.At + x_.Every)))) rfl <| gt rfl <| a1 (v := (B (decide ((wi (x_.At + x_.Every)) ≤ 1000000000)))) rfl <| un1 (v := (B (decide ((wi (x_.At + x_.Every)) ≤ 1000000000)))) rfl <| dnil ?_
   exact hX _ (.putEq (by rw [hc1]; rfl) (by repeat (first | exact .putEq (by rw [hc1]) (.refl _) | refine .skp ?_ rfl)))
  ·repeat (first | refine gu rfl ?_ | refine gs rfl rfl ?_)
   refine un1 (v := (B false)) rfl <| dnil ?_
   exact hX _ (.putEq (by rw [hc1]; rfl) (by repeat (first | exact .putEq (by rw [hc1]) (.refl _) | refine .skp ?_ rfl)))
 refine un1 rfl ?_
 refine gjoin 4 (d := 43) (v := (B (((decide (0 < x_.Every)) && (decide ((wi (x_.At + x_.Every)) ≤ 1000000000))) && (decide (x_.Turn < 1000000000))))) (fun X hX => ?_) ?_
 ·refine split2 (fun hc2 => ?_) (fun hc2 => ?_)
  ·refine gt rfl <| a1 (v := (.c (.ref 6 5 0 3))) rfl <| gt rfl <| a1 (v := (I x_.Turn)) rfl <| gt rfl <| a1 (v := (B (decide (x_.Turn < 1000000000)))) rfl <| un1 (v := (B (decide (x_.Turn < 1000000000)))) rfl <| dnil ?_
   exact hX _ (.putEq (by rw [hc2]; rfl) (.skp (.skp (.skp (.putEq (by rw [hc2]) (.refl _)) rfl) rfl) rfl))
  ·refine gs rfl rfl <| gs rfl rfl <| gs rfl rfl <| un1 (v := (B false)) rfl <| dnil ?_
   exact hX _ (.putEq (by rw [hc2]; rfl) (.skp (.skp (.skp (.putEq (by rw [hc2]) (.refl _)) rfl) rfl) rfl))
 refine dnil ?_
 refine Sv.cnd rfl h (fun h => ?_) fun h => ?_
 ·refine ssr <| un1 (v := (.c (.ref 6 5 0 1))) rfl <| un1 (v := (I x_.At)) rfl <| un1 (v := (.c (.ref 6 5 0 2))) rfl <| un1 (v := (I x_.Every)) rfl <| un1 (v := (I (wi (x_.At + x_.Every)))) rfl <| un1 (v := (.c (.ref 6 5 0 3))) rfl <| un1 (v := (I x_.Turn)) rfl <| un1 (v := (I (wi (x_.Turn + 1)))) rfl <| un1 (v := (.c (.ref 6 5 0 1))) rfl <| un <| a2n (h' := upd _ 6 (some (.cells 5 [[cI x_.ID, cI (wi (x_.At + x_.Every)), cI x_.Every, cI x_.Turn, .str x_.Call]]))) (n' := 9) rfl rfl hcs <| un1 (v := (.c (.ref 6 5 0 3))) rfl <| un <| a2n (h' := upd _ 6 (some (.cells 5 [[cI x_.ID, cI (wi (x_.At + x_.Every)), cI x_.Every, cI (wi (x_.Turn + 1)), .str x_.Call]]))) (n' := 9) rfl rfl hcs <| dnil <| srg <| un1 (v := (.c (.ref 3 5 0 4))) rfl <| un1 (v := (lstV z_ 7 5 r_.length)) rfl <| un1 (v := (.agg [cI x_.ID, cI (wi (x_.At + x_.Every)), cI x_.Every, cI (wi (x_.Turn + 1)), .str x_.Call])) rfl ?_
  obtain ⟨r_1, hr2, h⟩ := bnd h
  refine un <| ac_gen (bs := [7]) («as» := [(lstV z_ 7 5 r_.length), (.agg [cI x_.ID, cI (wi (x_.At + x_.Every)), cI x_.Every, cI (wi (x_.Turn + 1)), .str x_.Call])]) (h2 := _) (h1 := (upd e0 7 (lstB z_ 5 (r_.map e_TJTimer)))) (Z3t hz_ hr2) rfl (.cons (.c (lsr rfl rfl)) (.cons (avAs_free rfl) .nil)) (hsub_refl _) (.cons rfl (.nil _)) hcs (by decide) (by decide) (.cons (.c (lsr rfl rfl)) (.cons (avAs_free rfl) .nil)) (.row (by decide) rfl (fr_map fun _ => rfl) .nil) ?_
  rintro _ _ _ hn ⟨z_1, hz_1, rfl, rfl, rfl⟩
  refine ⟨.inl rfl, (upd (rem [7] _) 9 (lstB z_1 5 (r_1.map e_TJTimer))), fun hbd => (m3_cons (m3_row rfl (fr_map fun _ => rfl)) (m3_rem (in_cons (by decide) (in_nil _)) (.cons (by decide) .nil) hbd)), (lstV z_1 9 5 r_1.length), 10, (by cases z_1 <;> rfl), rfl, ?_⟩
  refine un1 (v := (.c (.ref 3 5 0 4))) rfl <| un <| a2n (h' := upd _ 3 (some (.cells 5 [[cI (mx q_.Now x_.At), cI q_.Next, lstC zq 0 7 q_.Tasks.length, lstC zq1 1 7 q_.Smalls.length, lstC z_1 9 5 r_1.length]]))) (n' := 10) rfl rfl hcs <| dnil ?_
  exact Sv.weak (weak_canon [0, 1, 2, 3, 9, 4, 5, 8] rfl (by decide) (by decide) (by decide) (.cr rfl rfl rfl (.cr rfl rfl rfl (.cr rfl rfl rfl (.cr rfl rfl rfl .nil)))) (.box (by decide) rfl (blkAs_cells (.sm rfl (.sm rfl (.sm rfl (.sm rfl (.sm rfl (.sm rfl (.sm rfl .nil)))))))) (.box (by decide) rfl (blkAs_cells (.sm rfl (.sm rfl (.sm rfl (.sm rfl (.sm rfl (.sm rfl (.sm rfl .nil)))))))) (.box (by decide) rfl (blkAs_cells (.sm rfl (.sm rfl (.sm rfl (.sm rfl (.sm rfl .nil)))))) (.row (by decide) rfl (fr_map fun _ => rfl) (.box (by decide) rfl (blkAs_cells (.sm rfl (.sm rfl (.cons (lstC_ren rfl (by decide)) (.cons (lstC_ren rfl (by decide)) (.cons (lstC_ren rfl (by decide)) .nil)))))) (.row (by decide) rfl (fr_map fun _ => rfl) (.row (by decide) rfl (fr_map fun _ => rfl) .nil)))))))) (Z42 hzq hzq1 hz_1 h)
 ·refine Sv.skip ?_
  exact Sv.weak (weak_canon [0, 1, 2, 3, 7, 4, 5, 8] rfl (by decide) (by decide) (by decide) (.cr rfl rfl rfl (.cr rfl rfl rfl (.cr rfl rfl rfl (.cr rfl rfl rfl .nil)))) (.box (by decide) rfl (blkAs_cells (.sm rfl (.sm rfl (.sm rfl (.sm rfl (.sm rfl (.sm rfl (.sm rfl .nil)))))))) (.box (by decide) rfl (blkAs_cells (.sm rfl (.sm rfl (.sm rfl (.sm rfl (.sm rfl (.sm rfl (.sm rfl .nil)))))))) (.box (by decide) rfl (blkAs_cells (.sm rfl (.sm rfl (.sm rfl (.sm rfl (.sm rfl .nil)))))) (.row (by decide) rfl (fr_map fun _ => rfl) (.box (by decide) rfl (blkAs_cells (.sm rfl (.sm rfl (.cons (lstC_ren rfl (by decide)) (.cons (lstC_ren rfl (by decide)) (.cons (lstC_ren rfl (by decide)) .nil)))))) (.row (by decide) rfl (fr_map fun _ => rfl) (.row (by decide) rfl (fr_map fun _ => rfl) .nil)))))))) (Z42 hzq hzq1 hz_ h)
def a35_c0 : ACode := (.seq (.block 0 (sr [(oP 42 (.faddr 3 (.tmp 2))), (oP 43 (.load false 1 (.tmp 42))), (oP 44 (.len (.tmp 43))), (oP 45 (.bin .gtr (.tmp 44) (kI 0))), (mV 41 45)]
 (.cond (.tmp 41) (sr [(oP 46 (.faddr 3 (.tmp 2))), (oP 47 (.load false 1 (.tmp 46))), (oP 48 (.iaddr 7 (.tmp 47) (kI 0))), (oP 49 (.load true 7 (.tmp 48))), (oP 8 (.box (.const (.agg [(.val (.int .i64 0)), (.val (.int .i64 0)), (.val (.bool false)), (.str []), (.val (.int .i64 0)), (.val (.int .i64 0)), (.str [])])))), (oN (.store 7 (.tmp 8) (.tmp 49)))]
 (sr [(oP 50 (.faddr 3 (.tmp 2))), (oP 51 (.load false 1 (.tmp 50))), (oP 52 (.call 70 [(.tmp 51), (kI 0), (kI 1)])), (oP 53 (.faddr 3 (.tmp 2))), (oN (.store 1 (.tmp 53) (.tmp 52)))]
 (.seq (.drawn (.alt [((oP 54 (.load true 5 (.tmp 2))), (0, 0))] (.fin [((oP 55 (.load true 7 (.tmp 8))), (1, 1)), ((oN (.store 5 (.tmp 4) (.tmp 54))), (2, 2)), ((oN (.store 7 (.tmp 5) (.tmp 55))), (2, 3)), ((oP 6 (.mov kT)), (0, 4))]) (.fin [((oN (.store 5 (.tmp 4) (.tmp 54))), (2, 2)), ((oP 55 (.load true 7 (.tmp 8))), (1, 1)), ((oN (.store 7 (.tmp 5) (.tmp 55))), (2, 3)), ((oP 6 (.mov kT)), (0, 4))])))
 .ret))) (sr [(mV 57 7), (mV 56 57)]
 (.cond (.tmp 56) (sr [(oP 59 (.load true 5 (.tmp 2))), (oP 60 (.call 71 [(.tmp 59)])), (mV 58 60), (oP 61 (.ext (.tmp 58) 0)), (oP 62 (.ext (.tmp 58) 1)), (oP 9 (.box (.const (.agg [(.val (.int .i64 0)), (.val (.int .i64 0)), (.ro true 7 []), (.ro true 7 []), (.ro true 5 [])])))), (oP 10 (.box (.const (.agg [(.val (.int .i64 0)), (.val (.int .i64 0)), (.val (.bool false)), (.str []), (.val (.int .i64 0)), (.val (.int .i64 0)), (.str [])])))), (oN (.store 5 (.tmp 9) (.tmp 61))), (oN (.store 7 (.tmp 10) (.tmp 62)))]
 (.seq (.drawn (.alt [((oP 63 (.load true 5 (.tmp 9))), (0, 0))] (.fin [((oP 64 (.load true 7 (.tmp 10))), (1, 1)), ((oN (.store 5 (.tmp 4) (.tmp 63))), (2, 2)), ((oN (.store 7 (.tmp 5) (.tmp 64))), (2, 3)), ((oP 6 (.mov kT)), (0, 4))]) (.fin [((oN (.store 5 (.tmp 4) (.tmp 63))), (2, 2)), ((oP 64 (.load true 7 (.tmp 10))), (1, 1)), ((oN (.store 7 (.tmp 5) (.tmp 64))), (2, 3)), ((oP 6 (.mov kT)), (0, 4))])))
 .ret)) (sr [(oP 66 (.faddr 2 (.tmp 2))), (oP 67 (.load false 1 (.tmp 66))), (oP 68 (.len (.tmp 67))), (oP 69 (.bin .gtr (.tmp 68) (kI 0))), (mV 65 69)]
 (.cond (.tmp 65) (sr [(oP 70 (.faddr 2 (.tmp 2))), (oP 71 (.load false 1 (.tmp 70))), (oP 72 (.iaddr 7 (.tmp 71) (kI 0))), (oP 73 (.load true 7 (.tmp 72))), (oP 11 (.box (.const (.agg [(.val (.int .i64 0)), (.val (.int .i64 0)), (.val (.bool false)), (.str []), (.val (.int .i64 0)), (.val (.int .i64 0)), (.str [])])))), (oN (.store 7 (.tmp 11) (.tmp 73)))]
 (sr [(oP 74 (.faddr 2 (.tmp 2))), (oP 75 (.load false 1 (.tmp 74))), (oP 76 (.call 70 [(.tmp 75), (kI 0), (kI 1)])), (oP 77 (.faddr 2 (.tmp 2))), (oN (.store 1 (.tmp 77) (.tmp 76)))]
 (.seq (.drawn (.alt [((oP 78 (.load true 5 (.tmp 2))), (0, 0))] (.fin [((oP 79 (.load true 7 (.tmp 11))), (1, 1)), ((oN (.store 5 (.tmp 4) (.tmp 78))), (2, 2)), ((oN (.store 7 (.tmp 5) (.tmp 79))), (2, 3)), ((oP 6 (.mov kT)), (0, 4))]) (.fin [((oN (.store 5 (.tmp 4) (.tmp 78))), (2, 2)), ((oP 79 (.load true 7 (.tmp 11))), (1, 1)), ((oN (.store 7 (.tmp 5) (.tmp 79))), (2, 3)), ((oP 6 (.mov kT)), (0, 4))])))
 .ret))) .skip)))))))
 (sr [(mV 80 1), (oP 81 (.faddr 0 (.tmp 2))), (oN (.store 1 (.tmp 81) (.tmp 80)))]
 (sr [(oP 82 (.load true 5 (.tmp 2))), (oP 83 (.build [(.val (.int .i64 0)), (.val (.int .i64 0)), (.val (.bool false)), (.str []), (.val (.int .i64 0)), (.val (.int .i64 0)), (.str [])] [])), (oN (.store 5 (.tmp 4) (.tmp 82))), (oN (.store 7 (.tmp 5) (.tmp 83))), (oP 6 (.mov kF))]
 .ret)))
def a35 : AFunc := ⟨2, [(.cell true 5 4), (.cell true 7 5), (.tmp 6)], (sr [(oP 2 (.box (.tmp 0))), (oP 4 (.box (.const (.agg [(.val (.int .i64 0)), (.val (.int .i64 0)), (.ro true 7 []), (.ro true 7 []), (.ro true 5 [])])))), (oP 5 (.box (.const (.agg [(.val (.int .i64 0)), (.val (.int .i64 0)), (.val (.bool false)), (.str []), (.val (.int .i64 0)), (.val (.int .i64 0)), (.str [])])))), (oP 6 (.mov kF))]
 (.seq (.drawn (.fin [((oP 12 (.faddr 4 (.tmp 2))), (0, 0)), ((oP 13 (.load false 1 (.tmp 12))), (0, 1)), ((oP 14 (.len (.tmp 13))), (0, 2)), ((oP 15 (.bin .gtr (.tmp 14) (kI 0))), (0, 3)), ((mV 16 15), (0, 4)), (⟨(some 17), (.faddr 4 (.tmp 2)), (some (16, true))⟩, (0, 5)), (⟨(some 18), (.load false 1 (.tmp 17)), (some (16, true))⟩, (0, 6)), (⟨(some 19), (.iaddr 5 (.tmp 18) (kI 0)), (some (16, true))⟩, (0, 7)), (⟨(some 20), (.faddr 1 (.tmp 19)), (some (16, true))⟩, (0, 8)), (⟨(some 21), (.load false 1 (.tmp 20)), (some (16, true))⟩, (0, 9)), (⟨(some 22), (.faddr 0 (.tmp 2)), (some (16, true))⟩, (0, 10)), (⟨(some 23), (.load false 1 (.tmp 22)), (some (16, true))⟩, (0, 11)), (⟨(some 24), (.bin .leq (.tmp 21) (.tmp 23)), (some (16, true))⟩, (0, 12)), (⟨(some 25), (.mov (.tmp 24)), (some (16, true))⟩, (0, 13)), (⟨(some 26), (.faddr 2 (.tmp 2)), (some (25, false))⟩, (0, 14)), (⟨(some 27), (.load false 1 (.tmp 26)), (some (25, false))⟩, (0, 15)), (⟨(some 28), (.len (.tmp 27)), (some (25, false))⟩, (0, 16)), (⟨(some 29), (.bin .eql (.tmp 28) (kI 0)), (some (25, false))⟩, (0, 17)), (⟨(some 30), (.mov (.tmp 29)), (some (25, false))⟩, (0, 18)), (⟨(some 31), (.faddr 4 (.tmp 2)), (some (30, true))⟩, (0, 19)), (⟨(some 32), (.load false 1 (.tmp 31)), (some (30, true))⟩, (0, 20)), (⟨(some 33), (.iaddr 5 (.tmp 32) (kI 0)), (some (30, true))⟩, (0, 21)), (⟨(some 34), (.faddr 1 (.tmp 33)), (some (30, true))⟩, (0, 22)), (⟨(some 35), (.load false 1 (.tmp 34)), (some (30, true))⟩, (0, 23)), (⟨(some 36), (.mov (.tmp 1)), (some (30, true))⟩, (0, 24)), (⟨(some 37), (.bin .leq (.tmp 35) (.tmp 36)), (some (30, true))⟩, (0, 25)), (⟨(some 38), (.pick (.tmp 30) (.tmp 37) kF), (some (25, false))⟩, (0, 26)), (⟨(some 39), (.pick (.tmp 25) kT (.tmp 38)), (some (16, true))⟩, (0, 27)), ((oP 40 (.pick (.tmp 16) (.tmp 39) kF)), (0, 28)), ((mV 7 40), (0, 29))]))
 a35_c0))⟩
theorem c35 : compFunc Try.prog 35 = some a35 := by kernel_rfl
def Z2z (r : (TJLoop × TJJob × Bool)) : AV → Heap → Nat → Prop := fun v h' n' => ∃ z0 : Bool, (z0 = true → r.1.Tasks = []) ∧ ∃ z1 : Bool, (z1 = true → r.1.Smalls = []) ∧ ∃ z2 : Bool, (z2 = true → r.1.Timers = []) ∧ v = (.tup [(.agg [cI r.1.Now, cI r.1.Next, lstC z0 3 7 r.1.Tasks.length, lstC z1 4 7 r.1.Smalls.length, lstC z2 5 5 r.1.Timers.length]), (.agg (e_TJJob r.2.1)), (B r.2.2)]) ∧ (h' = (upd (upd (upd e0 3 (lstB z0 7 (r.1.Tasks.map e_TJJob))) 4 (lstB z1 7 (r.1.Smalls.map e_TJJob))) 5 (lstB z2 5 (r.1.Timers.map e_TJTimer)))) ∧ n' = 6
noncomputable def Z10 (q_ : TJLoop) (until_ : Int) (q2 : (List TJJob)) (q3 : (List TJJob)) (q4 : (List TJTimer)) (due : Bool) : Option (TJLoop × TJJob × Bool) :=
 if decide (0 < (q3.length : Int)) then
  (at? q3 0).bind fun x_ =>
  (Z2j q3 0 1).bind fun r_ =>
  some ((⟨q_.Now, q_.Next, q2, r_, q4⟩ : TJLoop), x_, true)
 else
  if due then
   (Z21 (⟨q_.Now, q_.Next, q2, q3, q4⟩ : TJLoop)).bind fun r_1 =>
   some (r_1.1, r_1.2, true)
  else
   if decide (0 < (q2.length : Int)) then
    (at? q2 0).bind fun x_1 =>
    (Z2j q2 0 1).bind fun r_2 =>
    some ((⟨q_.Now, q_.Next, r_2, q3, q4⟩ : TJLoop), x_1, true)
   else
    some ((⟨until_, q_.Next, q2, q3, q4⟩ : TJLoop), (⟨0, 0, false, [], (⟨0, 0, []⟩ : TJVal)⟩ : TJJob), false)
theorem Z2k {Γ : Glob} {q_ : TJLoop} {until_ : Int} {q2 : (List TJJob)} {q3 : (List TJJob)} {q4 : (List TJTimer)} {due : Bool} {zq21 : Bool} (hzq21 : zq21 = true → q2 = []) {zq3 : Bool} (hzq3 : zq3 = true → q3 = []) {zq4 : Bool} (hzq4 : zq4 = true → q4 = []) {o : (TJLoop × TJJob × Bool)} (h : Z10 q_ until_ q2 q3 q4 due = some o) :
  Sv Try.prog Γ 3 a35_c0 (Ends a35.results 3 (Z2z o)) ⟨(ue [(7, (B due)), (5, (.c (.ref 5 7 0 0))), (4, (.c (.ref 4 5 0 0))), (2, (.c (.ref 3 5 0 0))), (1, (I until_))]), (upd (upd (upd (upd (upd (upd e0 0 (lstB zq21 7 (q2.map e_TJJob))) 1 (lstB zq3 7 (q3.map e_TJJob))) 2 (lstB zq4 5 (q4.map e_TJTimer))) 3 (some (.cells 5 [[cI q_.Now, cI q_.Next, lstC zq21 0 7 q2.length, lstC zq3 1 7 q3.length, lstC zq4 2 5 q4.length]]))) 4 (some (.cells 5 [[cI 0, cI 0, .ro true 7 [], .ro true 7 [], .ro true 5 []]]))) 5 (some (.cells 7 [[cI 0, cI 0, cB false, .str [], cI 0, cI 0, .str []]]))), 6⟩ := by
 unfold Z10 at h
 refine Sv.seq <| Sv.block <| ssr <| un1 (v := (.c (.ref 3 5 0 3))) rfl <| un1 (v := (lstV zq3 1 7 q3.length)) rfl <| un1 (v := (I (q3.length : Int))) (s_lenL rfl (len_nil_of hzq3)) <| un1 (v := (B (decide (0 < (q3.length : Int))))) rfl <| un1 rfl <| dnil ?_
 refine Sv.cnd rfl h (fun h => ?_) fun h => ?_
 ·refine ssr <| un1 (v := (.c (.ref 3 5 0 3))) rfl <| un1 (v := (lstV zq3 1 7 q3.length)) rfl ?_
  obtain ⟨x_, hx1, h⟩ := bnd h
  refine un1 (v := (.c (.ref 1 7 (0 : Int).toNat 0))) (s_iaddrL rfl rfl hzq3 hx1) <| un1 (v := (.agg (e_TJJob x_))) (s_loadL (z := zq3) (e := e_TJJob) rfl rfl hzq3 hx1 rfl rfl) <| un <| a2v (v := (.c (.ref 6 7 0 0))) (h' := upd _ 6 (some (.cells 7 [[cI 0, cI 0, cB false, .str [], cI 0, cI 0, .str []]]))) (n' := 7) rfl rfl hcs <| un <| a2n (h' := upd _ 6 (some (.cells 7 [(e_TJJob x_)]))) (n' := 7) rfl rfl hcs <| dnil <| ssr <| un1 (v := (.c (.ref 3 5 0 3))) rfl <| un1 (v := (lstV zq3 1 7 q3.length)) rfl ?_
  obtain ⟨r_, hr1, h⟩ := bnd h
  refine un <| ac_gen (bs := [1]) («as» := [(lstV zq3 1 7 q3.length), (I 0), (I 1)]) (h2 := _) (h1 := (upd e0 1 (lstB zq3 7 (q3.map e_TJJob)))) (Z41 hzq3 hr1) rfl (.cons (.c (lsr rfl rfl)) (.cons (avAs_free rfl) (.cons (avAs_free rfl) .nil))) (hsub_refl _) (.cons rfl (.nil _)) hcs (by decide) (by decide) (.cons (.c (lsr rfl rfl)) (.cons (avAs_free rfl) (.cons (avAs_free rfl) .nil))) (.row (by decide) rfl (fr_map fun _ => rfl) .nil) ?_
  rintro _ _ _ hn ⟨z_, hz_, rfl, rfl, rfl⟩
  refine ⟨.inl rfl, (upd (rem [1] _) 7 (lstB z_ 7 (r_.map e_TJJob))), fun hbd => (m3_cons (m3_row rfl (fr_map fun _ => rfl)) (m3_rem (in_cons (by decide) (in_nil _)) (.cons (by decide) .nil) hbd)), (lstV z_ 7 7 r_.length), 8, (by cases z_ <;> rfl), rfl, ?_⟩
  refine un1 (v := (.c (.ref 3 5 0 3))) rfl <| un <| a2n (h' := upd _ 3 (some (.cells 5 [[cI q_.Now, cI q_.Next, lstC zq21 0 7 q2.length, lstC z_ 7 7 r_.length, lstC zq4 2 5 q4.length]]))) (n' := 8) rfl rfl hcs <| dnil <| Sv.seq <| Sv.drawn2 <| un1 (v := (.agg [cI q_.Now, cI q_.Next, lstC zq21 0 7 q2.length, lstC z_ 7 7 r_.length, lstC zq4 2 5 q4.length])) rfl <| dnil ?_
  refine ⟨?_, ?_⟩
  ·refine un1 (v := (.agg (e_TJJob x_))) rfl <| un <| a2n (h' := upd _ 4 (some (.cells 5 [[cI q_.Now, cI q_.Next, lstC zq21 0 7 q2.length, lstC z_ 7 7 r_.length, lstC zq4 2 5 q4.length]]))) (n' := 8) rfl rfl hcs <| un <| a2n (h' := upd _ 5 (some (.cells 7 [(e_TJJob x_)]))) (n' := 8) rfl rfl hcs <| un1 rfl <| dnil <| Sv.ret ?_
   replace h := Option.some.inj h
   subst h
   exact ⟨_, .refl _, _, rfl, ⟨upd e0 0 (some (.tup [(.agg [cI q_.Now, cI q_.Next, lstC zq21 3 7 q2.length, lstC z_ 4 7 r_.length, lstC zq4 5 5 q4.length]), (.agg (e_TJJob x_)), (B true)])), (upd (upd (upd e0 3 (lstB zq21 7 (q2.map e_TJJob))) 4 (lstB z_ 7 (r_.map e_TJJob))) 5 (lstB zq4 5 (q4.map e_TJTimer))), 6⟩, (.tup [(.agg [cI q_.Now, cI q_.Next, lstC zq21 3 7 q2.length, lstC z_ 4 7 r_.length, lstC zq4 5 5 q4.length]), (.agg (e_TJJob x_)), (B true)]), weak_canon2 [0, 1, 2, 0, 7, 2] [3, 4, 5] (by decide) (by decide) (by decide) (.cons (by decide) (.cons (by decide) (.cons (by decide) .nil))) (.cons rfl (avAs_tup (.cons (avAs_agg (.sm rfl (.sm rfl (.cons (lstC_ren rfl (by decide)) (.cons (lstC_ren rfl (by decide)) (.cons (lstC_ren rfl (by decide)) .nil)))))) (.cons (avAs_free rfl) (.cons (avAs_free rfl) .nil)))) .nil) (.row (by decide) rfl (fr_map fun _ => rfl) (.row (by decide) rfl (fr_map fun _ => rfl) (.row (by decide) rfl (fr_map fun _ => rfl) .nil))), rfl, zq21, hzq21, z_, hz_, zq4, hzq4, rfl, rfl, rfl⟩
  ·refine un <| a2n (h' := upd _ 4 (some (.cells 5 [[cI q_.Now, cI q_.Next, lstC zq21 0 7 q2.length, lstC z_ 7 7 r_.length, lstC zq4 2 5 q4.length]]))) (n' := 8) rfl rfl hcs <| un1 (v := (.agg (e_TJJob x_))) rfl <| un <| a2n (h' := upd _ 5 (some (.cells 7 [(e_TJJob x_)]))) (n' := 8) rfl rfl hcs <| un1 rfl <| dnil <| Sv.ret ?_
   replace h := Option.some.inj h
   subst h
   exact ⟨_, .refl _, _, rfl, ⟨upd e0 0 (some (.tup [(.agg [cI q_.Now, cI q_.Next, lstC zq21 3 7 q2.length, lstC z_ 4 7 r_.length, lstC zq4 5 5 q4.length]), (.agg (e_TJJob x_)), (B true)])), (upd (upd (upd e0 3 (lstB zq21 7 (q2.map e_TJJob))) 4 (lstB z_ 7 (r_.map e_TJJob))) 5 (lstB zq4 5 (q4.map e_TJTimer))), 6⟩, (.tup [(.agg [cI q_.Now, cI q_.Next, lstC zq21 3 7 q2.length, lstC z_ 4 7 r_.length, lstC zq4 5 5 q4.length]), (.agg (e_TJJob x_)), (B true)]), weak_canon2 [0, 1, 2, 0, 7, 2] [3, 4, 5] (by decide) (by decide) (by decide) (.cons (by decide) (.cons (by decide) (.cons (by decide) .nil))) (.cons rfl (avAs_tup (.cons (avAs_agg (.sm rfl (.sm rfl (.cons (lstC_ren rfl (by decide)) (.cons (lstC_ren rfl (by decide)) (.cons (lstC_ren rfl (by decide)) .nil)))))) (.cons (avAs_free rfl) (.cons (avAs_free rfl) .nil)))) .nil) (.row (by decide) rfl (fr_map fun _ => rfl) (.row (by decide) rfl (fr_map fun _ => rfl) (.row (by decide) rfl (fr_map fun _ => rfl) .nil))), rfl, zq21, hzq21, z_, hz_, zq4, hzq4, rfl, rfl, rfl⟩
 ·refine ssr <| un1 rfl <| un1 rfl <| dnil ?_
  refine Sv.cnd rfl h (fun h => ?_) fun h => ?_
  ·refine ssr <| un1 (v := (.agg [cI q_.Now, cI q_.Next, lstC zq21 0 7 q2.length, lstC zq3 1 7 q3.length, lstC zq4 2 5 q4.length])) rfl ?_
   obtain ⟨r_1, hr2, h⟩ := bnd h
   refine un <| ac_gen (bs := [0, 1, 2]) («as» := [(.agg [cI q_.Now, cI q_.Next, lstC zq21 0 7 q2.length, lstC zq3 1 7 q3.length, lstC zq4 2 5 q4.length])]) (h2 := _) (h1 := (upd (upd (upd e0 0 (lstB zq21 7 (q2.map e_TJJob))) 1 (lstB zq3 7 (q3.map e_TJJob))) 2 (lstB zq4 5 (q4.map e_TJTimer)))) (Z6n hzq21 hzq3 hzq4 hr2) rfl (.cons (avAs_agg (.sm rfl (.sm rfl (.cons (lstC_ren rfl (by decide)) (.cons (lstC_ren rfl (by decide)) (.cons (lstC_ren rfl (by decide)) .nil)))))) .nil) (hsub_refl _) (.cons rfl (.cons rfl (.cons rfl (.nil _)))) hcs (by decide) (by decide) (.cons (avAs_agg (.sm rfl (.sm rfl (.cons (lstC_ren rfl (by decide)) (.cons (lstC_ren rfl (by decide)) (.cons (lstC_ren rfl (by decide)) .nil)))))) .nil) (.row (by decide) rfl (fr_map fun _ => rfl) (.row (by decide) rfl (fr_map fun _ => rfl) (.row (by decide) rfl (fr_map fun _ => rfl) .nil))) ?_
   rintro _ _ _ hn ⟨z_1, hz_1, z_2, hz_2, z_3, hz_3, rfl, rfl, rfl⟩
   refine ⟨.inl rfl, (upd (upd (upd (rem [0, 1, 2] _) 6 (lstB z_1 7 (r_1.1.Tasks.map e_TJJob))) 7 (lstB z_2 7 (r_1.1.Smalls.map e_TJJob))) 8 (lstB z_3 5 (r_1.1.Timers.map e_TJTimer))), fun hbd => (m3_cons (m3_row rfl (fr_map fun _ => rfl)) (m3_cons (m3_row rfl (fr_map fun _ => rfl)) (m3_cons (m3_row rfl (fr_map fun _ => rfl)) (m3_rem (in_cons (by decide) (in_cons (by decide) (in_cons (by decide) (in_nil _)))) (.cons (by decide) (.cons (by decide) (.cons (by decide) .nil))) hbd)))), (.tup [(.agg [cI r_1.1.Now, cI r_1.1.Next, lstC z_1 6 7 r_1.1.Tasks.length, lstC z_2 7 7 r_1.1.Smalls.length, lstC z_3 8 5 r_1.1.Timers.length]), (.agg (e_TJJob r_1.2))]), 9, (by cases z_1 <;> cases z_2 <;> cases z_3 <;> rfl), rfl, ?_⟩
   refine un1 rfl <| un1 (v := (.agg [cI r_1.1.Now, cI r_1.1.Next, lstC z_1 6 7 r_1.1.Tasks.length, lstC z_2 7 7 r_1.1.Smalls.length, lstC z_3 8 5 r_1.1.Timers.length])) rfl <| un1 (v := (.agg (e_TJJob r_1.2))) rfl <| un <| a2v (v := (.c (.ref 9 5 0 0))) (h' := upd _ 9 (some (.cells 5 [[cI 0, cI 0, .ro true 7 [], .ro true 7 [], .ro true 5 []]]))) (n' := 10) rfl rfl hcs <| un <| a2v (v := (.c (.ref 10 7 0 0))) (h' := upd _ 10 (some (.cells 7 [[cI 0, cI 0, cB false, .str [], cI 0, cI 0, .str []]]))) (n' := 11) rfl rfl hcs <| un <| a2n (h' := upd _ 9 (some (.cells 5 [[cI r_1.1.Now, cI r_1.1.Next, lstC z_1 6 7 r_1.1.Tasks.length, lstC z_2 7 7 r_1.1.Smalls.length, lstC z_3 8 5 r_1.1.Timers.length]]))) (n' := 11) rfl rfl hcs <| un <| a2n (h' := upd _ 10 (some (.cells 7 [(e_TJJob r_1.2)]))) (n' := 11) rfl rfl hcs <| dnil <| Sv.seq <| Sv.drawn2 <| un1 (v := (.agg [cI r_1.1.Now, cI r_1.1.Next, lstC z_1 6 7 r_1.1.Tasks.length, lstC z_2 7 7 r_1.1.Smalls.length, lstC z_3 8 5 r_1.1.Timers.length])) rfl <| dnil ?_
   refine ⟨?_, ?_⟩
   ·refine un1 (v := (.agg (e_TJJob r_1.2))) rfl <| un <| a2n (h' := upd _ 4 (some (.cells 5 [[cI r_1.1.Now, cI r_1.1.Next, lstC z_1 6 7 r_1.1.Tasks.length, lstC z_2 7 7 r_1.1.Smalls.length, lstC z_3 8 5 r_1.1.Timers.length]]))) (n' := 11) rfl rfl hcs <| un <| a2n (h' := upd _ 5 (some (.cells 7 [(e_TJJob r_1.2)]))) (n' := 11) rfl rfl hcs <| un1 rfl <| dnil <| Sv.ret ?_
    replace h := Option.some.inj h
    subst h
    exact ⟨_, .refl _, _, rfl, ⟨upd e0 0 (some (.tup [(.agg [cI r_1.1.Now, cI r_1.1.Next, lstC z_1 3 7 r_1.1.Tasks.length, lstC z_2 4 7 r_1.1.Smalls.length, lstC z_3 5 5 r_1.1.Timers.length]), (.agg (e_TJJob r_1.2)), (B true)])), (upd (upd (upd e0 3 (lstB z_1 7 (r_1.1.Tasks.map e_TJJob))) 4 (lstB z_2 7 (r_1.1.Smalls.map e_TJJob))) 5 (lstB z_3 5 (r_1.1.Timers.map e_TJTimer))), 6⟩, (.tup [(.agg [cI r_1.1.Now, cI r_1.1.Next, lstC z_1 3 7 r_1.1.Tasks.length, lstC z_2 4 7 r_1.1.Smalls.length, lstC z_3 5 5 r_1.1.Timers.length]), (.agg (e_TJJob r_1.2)), (B true)]), weak_canon2 [0, 1, 2, 6, 7, 8] [3, 4, 5] (by decide) (by decide) (by decide) (.cons (by decide) (.cons (by decide) (.cons (by decide) .nil))) (.cons rfl (avAs_tup (.cons (avAs_agg (.sm rfl (.sm rfl (.cons (lstC_ren rfl (by decide)) (.cons (lstC_ren rfl (by decide)) (.cons (lstC_ren rfl (by decide)) .nil)))))) (.cons (avAs_free rfl) (.cons (avAs_free rfl) .nil)))) .nil) (.row (by decide) rfl (fr_map fun _ => rfl) (.row (by decide) rfl (fr_map fun _ => rfl) (.row (by decide) rfl (fr_map fun _ => rfl) .nil))), rfl, z_1, hz_1, z_2, hz_2, z_3, hz_3, rfl, rfl, rfl⟩
   ·refine un <| a2n (h' := upd _ 4 (some (.cells 5 [[cI r_1.1.Now, cI r_1.1.Next, lstC z_1 6 7 r_1.1.Tasks.length, lstC z_2 7 7 r_1.1.Smalls.length, lstC z_3 8 5 r_1.1.Timers.length]]))) (n' := 11) rfl rfl hcs <| un1 (v := (.agg (e_TJJob r_1.2))) rfl <| un <| a2n (h' := upd _ 5 (some (.cells 7 [(e_TJJob r_1.2)]))) (n' := 11) rfl rfl hcs <| un1 rfl <| dnil <| Sv.ret ?_
    replace h := Option.some.inj h
    subst h
    exact ⟨_, .refl _, _, rfl, ⟨upd e0 0 (some (.tup [(.agg [cI r_1.1.Now, cI r_1.1.Next, lstC z_1 3 7 r_1.1.Tasks.length, lstC z_2 4 7 r_1.1.Smalls.length, lstC z_3 5 5 r_1.1.Timers.length]), (.agg (e_TJJob r_1.2)), (B true)])), (upd (upd (upd e0 3 (lstB z_1 7 (r_1.1.Tasks.map e_TJJob))) 4 (lstB z_2 7 (r_1.1.Smalls.map e_TJJob))) 5 (lstB z_3 5 (r_1.1.Timers.map e_TJTimer))), 6⟩, (.tup [(.agg [cI r_1.1.Now, cI r_1.1.Next, lstC z_1 3 7 r_1.1.Tasks.length, lstC z_2 4 7 r_1.1.Smalls.length, lstC z_3 5 5 r_1.1.Timers.length]), (.agg (e_TJJob r_1.2)), (B true)]), weak_canon2 [0, 1, 2, 6, 7, 8] [3, 4, 5] (by decide) (by decide) (by decide) (.cons (by decide) (.cons (by decide) (.cons (by decide) .nil))) (.cons rfl (avAs_tup (.cons (avAs_agg (.sm rfl (.sm rfl (.cons (lstC_ren rfl (by decide)) (.cons (lstC_ren rfl (by decide)) (.cons (lstC_ren rfl (by decide)) .nil)))))) (.cons (avAs_free rfl) (.cons (avAs_free rfl) .nil)))) .nil) (.row (by decide) rfl (fr_map fun _ => rfl) (.row (by decide) rfl (fr_map fun _ => rfl) (.row (by decide) rfl (fr_map fun _ => rfl) .nil))), rfl, z_1, hz_1, z_2, hz_2, z_3, hz_3, rfl, rfl, rfl⟩
  ·refine ssr <| un1 (v := (.c (.ref 3 5 0 2))) rfl <| un1 (v := (lstV zq21 0 7 q2.length)) rfl <| un1 (v := (I (q2.length : Int))) (s_lenL rfl (len_nil_of hzq21)) <| un1 (v := (B (decide (0 < (q2.length : Int))))) rfl <| un1 rfl <| dnil ?_
   refine Sv.cnd rfl h (fun h => ?_) fun h => ?_
   ·refine ssr <| un1 (v := (.c (.ref 3 5 0 2))) rfl <| un1 (v := (lstV zq21 0 7 q2.length)) rfl ?_
    obtain ⟨x_1, hx2, h⟩ := bnd h
    refine un1 (v := (.c (.ref 0 7 (0 : Int).toNat 0))) (s_iaddrL rfl rfl hzq21 hx2) <| un1 (v := (.agg (e_TJJob x_1))) (s_loadL (z := zq21) (e := e_TJJob) rfl rfl hzq21 hx2 rfl rfl) <| un <| a2v (v := (.c (.ref 6 7 0 0))) (h' := upd _ 6 (some (.cells 7 [[cI 0, cI 0, cB false, .str [], cI 0, cI 0, .str []]]))) (n' := 7) rfl rfl hcs <| un <| a2n (h' := upd _ 6 (some (.cells 7 [(e_TJJob x_1)]))) (n' := 7) rfl rfl hcs <| dnil <| ssr <| un1 (v := (.c (.ref 3 5 0 2))) rfl <| un1 (v := (lstV zq21 0 7 q2.length)) rfl ?_
    obtain ⟨r_2, hr3, h⟩ := bnd h
    refine un <| ac_gen (bs := [0]) («as» := [(lstV zq21 0 7 q2.length), (I 0), (I 1)]) (h2 := _) (h1 := (upd e0 0 (lstB zq21 7 (q2.map e_TJJob)))) (Z41 hzq21 hr3) rfl (.cons (.c (lsr rfl rfl)) (.cons (avAs_free rfl) (.cons (avAs_free rfl) .nil))) (hsub_refl _) (.cons rfl (.nil _)) hcs (by decide) (by decide) (.cons (.c (lsr rfl rfl)) (.cons (avAs_free rfl) (.cons (avAs_free rfl) .nil))) (.row (by decide) rfl (fr_map fun _ => rfl) .nil) ?_
    rintro _ _ _ hn ⟨z_4, hz_4, rfl, rfl, rfl⟩
    refine ⟨.inl rfl, (upd (rem [0] _) 7 (lstB z_4 7 (r_2.map e_TJJob))), fun hbd => (m3_cons (m3_row rfl (fr_map fun _ => rfl)) (m3_rem (in_cons (by decide) (in_nil _)) (.cons (by decide) .nil) hbd)), (lstV z_4 7 7 r_2.length), 8, (by cases z_4 <;> rfl), rfl, ?_⟩
    refine un1 (v := (.c (.ref 3 5 0 2))) rfl <| un <| a2n (h' := upd _ 3 (some (.cells 5 [[cI q_.Now, cI q_.Next, lstC z_4 7 7 r_2.length, lstC zq3 1 7 q3.length, lstC zq4 2 5 q4.length]]))) (n' := 8) rfl rfl hcs <| dnil <| Sv.seq <| Sv.drawn2 <| un1 (v := (.agg [cI q_.Now, cI q_.Next, lstC z_4 7 7 r_2.length, lstC zq3 1 7 q3.length, lstC zq4 2 5 q4.length])) rfl <| dnil ?_
    refine ⟨?_, ?_⟩
    ·refine un1 (v := (.agg (e_TJJob x_1))) rfl <| un <| a2n (h' := upd _ 4 (some (.cells 5 [[cI q_.Now, cI q_.Next, lstC z_4 7 7 r_2.length, lstC zq3 1 7 q3.length, lstC zq4 2 5 q4.length]]))) (n' := 8) rfl rfl hcs <| un <| a2n (h' := upd _ 5 (some (.cells 7 [(e_TJJob x_1)]))) (n' := 8) rfl rfl hcs <| un1 rfl <| dnil <| Sv.ret ?_
     replace h := Option.some.inj h
     subst h
     exact ⟨_, .refl _, _, rfl, ⟨upd e0 0 (some (.tup [(.agg [cI q_.Now, cI q_.Next, lstC z_4 3 7 r_2.length, lstC zq3 4 7 q3.length, lstC zq4 5 5 q4.length]), (.agg (e_TJJob x_1)), (B true)])), (upd (upd (upd e0 3 (lstB z_4 7 (r_2.map e_TJJob))) 4 (lstB zq3 7 (q3.map e_TJJob))) 5 (lstB zq4 5 (q4.map e_TJTimer))), 6⟩, (.tup [(.agg [cI q_.Now, cI q_.Next, lstC z_4 3 7 r_2.length, lstC zq3 4 7 q3.length, lstC zq4 5 5 q4.length]), (.agg (e_TJJob x_1)), (B true)]), weak_canon2 [0, 1, 2, 7, 1, 2] [3, 4, 5] (by decide) (by decide) (by decide) (.cons (by decide) (.cons (by decide) (.cons (by decide) .nil))) (.cons rfl (avAs_tup (.cons (avAs_agg (.sm rfl (.sm rfl (.cons (lstC_ren rfl (by decide)) (.cons (lstC_ren rfl (by decide)) (.cons (lstC_ren rfl (by decide)) .nil)))))) (.cons (avAs_free rfl) (.cons (avAs_free rfl) .nil)))) .nil) (.row (by decide) rfl (fr_map fun _ => rfl) (.row (by decide) rfl (fr_map fun _ => rfl) (.row (by decide) rfl (fr_map fun _ => rfl) .nil))), rfl, z_4, hz_4, zq3, hzq3, zq4, hzq4, rfl, rfl, rfl⟩
    ·refine un <| a2n (h' := upd _ 4 (some (.cells 5 [[cI q_.Now, cI q_.Next, lstC z_4 7 7 r_2.length, lstC zq3 1 7 q3.length, lstC zq4 2 5 q4.length]]))) (n' := 8) rfl rfl hcs <| un1 (v := (.agg (e_TJJob x_1))) rfl <| un <| a2n (h' := upd _ 5 (some (.cells 7 [(e_TJJob x_1)]))) (n' := 8) rfl rfl hcs <| un1 rfl <| dnil <| Sv.ret ?_
     replace h := Option.some.inj h
     subst h
     exact ⟨_, .refl _, _, rfl, ⟨upd e0 0 (some (.tup [(.agg [cI q_.Now, cI q_.Next, lstC z_4 3 7 r_2.length, lstC zq3 4 7 q3.length, lstC zq4 5 5 q4.length]), (.agg (e_TJJob x_1)), (B true)])), (upd (upd (upd e0 3 (lstB z_4 7 (r_2.map e_TJJob))) 4 (lstB zq3 7 (q3.map e_TJJob))) 5 (lstB zq4 5 (q4.map e_TJTimer))), 6⟩, (.tup [(.agg [cI q_.Now, cI q_.Next, lstC z_4 3 7 r_2.length, lstC zq3 4 7 q3.length, lstC zq4 5 5 q4.length]), (.agg (e_TJJob x_1)), (B true)]), weak_canon2 [0, 1, 2, 7, 1, 2] [3, 4, 5] (by decide) (by decide) (by decide) (.cons (by decide) (.cons (by decide) (.cons (by decide) .nil))) (.cons rfl (avAs_tup (.cons (avAs_agg (.sm rfl (.sm rfl (.cons (lstC_ren rfl (by decide)) (.cons (lstC_ren rfl (by decide)) (.cons (lstC_ren rfl (by decide)) .nil)))))) (.cons (avAs_free rfl) (.cons (avAs_free rfl) .nil)))) .nil) (.row (by decide) rfl (fr_map fun _ => rfl) (.row (by decide) rfl (fr_map fun _ => rfl) (.row (by decide) rfl (fr_map fun _ => rfl) .nil))), rfl, z_4, hz_4, zq3, hzq3, zq4, hzq4, rfl, rfl, rfl⟩
   ·refine Sv.skip <| ssr <| un1 rfl <| un1 (v := (.c (.ref 3 5 0 0))) rfl <| un <| a2n (h' := upd _ 3 (some (.cells 5 [[cI until_, cI q_.Next, lstC zq21 0 7 q2.length, lstC zq3 1 7 q3.length, lstC zq4 2 5 q4.length]]))) (n' := 6) rfl rfl hcs <| dnil <| ssr <| un1 (v := (.agg [cI until_, cI q_.Next, lstC zq21 0 7 q2.length, lstC zq3 1 7 q3.length, lstC zq4 2 5 q4.length])) rfl <| un1 (v := (.agg [cI 0, cI 0, cB false, .str [], cI 0, cI 0, .str []])) rfl <| un <| a2n (h' := upd _ 4 (some (.cells 5 [[cI until_, cI q_.Next, lstC zq21 0 7 q2.length, lstC zq3 1 7 q3.length, lstC zq4 2 5 q4.length]]))) (n' := 6) rfl rfl hcs <| un <| a2n (h' := upd _ 5 (some (.cells 7 [[cI 0, cI 0, cB false, .str [], cI 0, cI 0, .str []]]))) (n' := 6) rfl rfl hcs <| un1 rfl <| dnil <| Sv.ret ?_
    replace h := Option.some.inj h
    subst h
    exact ⟨_, .refl _, _, rfl, ⟨upd e0 0 (some (.tup [(.agg [cI until_, cI q_.Next, lstC zq21 3 7 q2.length, lstC zq3 4 7 q3.length, lstC zq4 5 5 q4.length]), (.agg [cI 0, cI 0, cB false, .str [], cI 0, cI 0, .str []]), (B false)])), (upd (upd (upd e0 3 (lstB zq21 7 (q2.map e_TJJob))) 4 (lstB zq3 7 (q3.map e_TJJob))) 5 (lstB zq4 5 (q4.map e_TJTimer))), 6⟩, (.tup [(.agg [cI until_, cI q_.Next, lstC zq21 3 7 q2.length, lstC zq3 4 7 q3.length, lstC zq4 5 5 q4.length]), (.agg [cI 0, cI 0, cB false, .str [], cI 0, cI 0, .str []]), (B false)]), weak_canon2 [0, 1, 2, 0, 1, 2] [3, 4, 5] (by decide) (by decide) (by decide) (.cons (by decide) (.cons (by decide) (.cons (by decide) .nil))) (.cons rfl (avAs_tup (.cons (avAs_agg (.sm rfl (.sm rfl (.cons (lstC_ren rfl (by decide)) (.cons (lstC_ren rfl (by decide)) (.cons (lstC_ren rfl (by decide)) .nil)))))) (.cons (avAs_free rfl) (.cons (avAs_free rfl) .nil)))) .nil) (.row (by decide) rfl (fr_map fun _ => rfl) (.row (by decide) rfl (fr_map fun _ => rfl) (.row (by decide) rfl (fr_map fun _ => rfl) .nil))), rfl, zq21, hzq21, zq3, hzq3, zq4, hzq4, rfl, rfl, rfl⟩
/-- clerestory/loop.next -/
noncomputable def Z1o (q_ : TJLoop) (until_ : Int) : Option (TJLoop × TJJob × Bool) :=
 if decide (0 < (q_.Timers.length : Int)) then
  (at? q_.Timers 0).bind fun x_2 =>
  if decide (x_2.At ≤ q_.Now) then
   Z10 q_ until_ q_.Tasks q_.Smalls q_.Timers true
  else
   if decide ((q_.Tasks.length : Int) = 0) then
    (at? q_.Timers 0).bind fun x_3 =>
    Z10 q_ until_ q_.Tasks q_.Smalls q_.Timers (decide (x_3.At ≤ until_))
   else
    Z10 q_ until_ q_.Tasks q_.Smalls q_.Timers false
 else
  Z10 q_ until_ q_.Tasks q_.Smalls q_.Timers false
theorem Z6o {Γ : Glob} {q_ : TJLoop} {until_ : Int} {zq : Bool} (hzq : zq = true → q_.Tasks = []) {zq1 : Bool} (hzq1 : zq1 = true → q_.Smalls = []) {zq2 : Bool} (hzq2 : zq2 = true → q_.Timers = []) {r : (TJLoop × TJJob × Bool)} (h : Z1o q_ until_ = some r) : ACalls Try.prog Γ 35 [(.agg [cI q_.Now, cI q_.Next, lstC zq 0 7 q_.Tasks.length, lstC zq1 1 7 q_.Smalls.length, lstC zq2 2 5 q_.Timers.length]), (I until_)] (upd (upd (upd e0 0 (lstB zq 7 (q_.Tasks.map e_TJJob))) 1 (lstB zq1 7 (q_.Smalls.map e_TJJob))) 2 (lstB zq2 5 (q_.Timers.map e_TJTimer))) 3 (Z2z r) := by
 refine acalls_of_sv hmix c35 (R := Z2z r) ?_
 unfold Z1o at h
 refine ssr <| un <| a2v (v := (.c (.ref 3 5 0 0))) (h' := upd _ 3 (some (.cells 5 [[cI q_.Now, cI q_.Next, lstC zq 0 7 q_.Tasks.length, lstC zq1 1 7 q_.Smalls.length, lstC zq2 2 5 q_.Timers.length]]))) (n' := 4) rfl rfl hcs <| un <| a2v (v := (.c (.ref 4 5 0 0))) (h' := upd _ 4 (some (.cells 5 [[cI 0, cI 0, .ro true 7 [], .ro true 7 [], .ro true 5 []]]))) (n' := 5) rfl rfl hcs <| un <| a2v (v := (.c (.ref 5 7 0 0))) (h' := upd _ 5 (some (.cells 7 [[cI 0, cI 0, cB false, .str [], cI 0, cI 0, .str []]]))) (n' := 6) rfl rfl hcs <| un1 rfl <| dnil <| Sv.seq <| Sv.drawn <| un1 (v := (.c (.ref 3 5 0 4))) rfl <| un1 (v := (lstV zq2 2 5 q_.Timers.length)) rfl <| un1 (v := (I (q_.Timers.length : Int))) (s_lenL rfl (len_nil_of hzq2)) <| un1 (v := (B (decide (0 < (q_.Timers.length : Int))))) rfl <| un1 rfl ?_
 refine spl h (fun h => ?_) fun h => ?_
 ·refine gt rfl <| a1 (v := (.c (.ref 3 5 0 4))) rfl <| gt rfl <| a1 (v := (lstV zq2 2 5 q_.Timers.length)) rfl ?_
  obtain ⟨x_2, hx3, h⟩ := bnd h
  refine gt rfl <| a1 (v := (.c (.ref 2 5 (0 : Int).toNat 0))) (s_iaddrL rfl rfl hzq2 hx3) <| gt rfl <| a1 (v := (.c (.ref 2 5 (0 : Int).toNat 1))) rfl <| gt rfl <| a1 (v := (I x_2.At)) (s_loadL (z := zq2) (e := e_TJTimer) rfl rfl hzq2 hx3 rfl rfl) <| gt rfl <| a1 (v := (.c (.ref 3 5 0 0))) rfl <| gt rfl <| a1 (v := (I q_.Now)) rfl <| gt rfl <| a1 (v := (B (decide (x_2.At ≤ q_.Now)))) rfl <| gt rfl <| a1 rfl ?_
  refine spl h (fun h => ?_) fun h => ?_
  ·repeat (first | refine gu rfl ?_ | refine gs rfl rfl ?_)
   refine gt rfl <| a1 (v := (B true)) rfl <| un1 (v := (B true)) rfl <| un1 rfl <| dnil ?_
   exact Sv.weak (weak_canon [0, 1, 2, 3, 4, 5] rfl (by decide) (by decide) (by decide) (.cf rfl rfl (.cr rfl rfl rfl (.cr rfl rfl rfl (.cr rfl rfl rfl (.cf rfl rfl .nil))))) (.box (by decide) rfl (blkAs_cells (.sm rfl (.sm rfl (.sm rfl (.sm rfl (.sm rfl (.sm rfl (.sm rfl .nil)))))))) (.box (by decide) rfl (blkAs_cells (.sm rfl (.sm rfl (.sm rfl (.sm rfl (.sm rfl .nil)))))) (.box (by decide) rfl (blkAs_cells (.sm rfl (.sm rfl (.cons (lstC_ren rfl (by decide)) (.cons (lstC_ren rfl (by decide)) (.cons (lstC_ren rfl (by decide)) .nil)))))) (.row (by decide) rfl (fr_map fun _ => rfl) (.row (by decide) rfl (fr_map fun _ => rfl) (.row (by decide) rfl (fr_map fun _ => rfl) .nil))))))) (Z2k hzq hzq1 hzq2 h)
  ·refine gt rfl <| a1 (v := (.c (.ref 3 5 0 2))) rfl <| gt rfl <| a1 (v := (lstV zq 0 7 q_.Tasks.length)) rfl <| gt rfl <| a1 (v := (I (q_.Tasks.length : Int))) (s_lenL rfl (len_nil_of hzq)) <| gt rfl <| a1 (v := (B (decide ((q_.Tasks.length : Int) = 0)))) rfl <| gt rfl <| a1 rfl ?_
   refine spl h (fun h => ?_) fun h => ?_
   ·refine gt rfl <| a1 (v := (.c (.ref 3 5 0 4))) rfl <| gt rfl <| a1 (v := (lstV zq2 2 5 q_.Timers.length)) rfl ?_
    obtain ⟨x_3, hx4, h⟩ := bnd h
    refine gt rfl <| a1 (v := (.c (.ref 2 5 (0 : Int).toNat 0))) (s_iaddrL rfl rfl hzq2 hx4) <| gt rfl <| a1 (v := (.c (.ref 2 5 (0 : Int).toNat 1))) rfl <| gt rfl <| a1 (v := (I x_3.At)) (s_loadL (z := zq2) (e := e_TJTimer) rfl rfl hzq2 hx4 rfl rfl) <| gt rfl <| a1 rfl <| gt rfl <| a1 (v := (B (decide (x_3.At ≤ until_)))) rfl <| gt rfl <| a1 (v := (B (decide (x_3.At ≤ until_)))) rfl <| gt rfl <| a1 (v := (B (decide (x_3.At ≤ until_)))) rfl <| un1 (v := (B (decide (x_3.At ≤ until_)))) rfl <| un1 rfl <| dnil ?_
    exact Sv.weak (weak_canon [0, 1, 2, 3, 4, 5] rfl (by decide) (by decide) (by decide) (.cf rfl rfl (.cr rfl rfl rfl (.cr rfl rfl rfl (.cr rfl rfl rfl (.cf rfl rfl .nil))))) (.box (by decide) rfl (blkAs_cells (.sm rfl (.sm rfl (.sm rfl (.sm rfl (.sm rfl (.sm rfl (.sm rfl .nil)))))))) (.box (by decide) rfl (blkAs_cells (.sm rfl (.sm rfl (.sm rfl (.sm rfl (.sm rfl .nil)))))) (.box (by decide) rfl (blkAs_cells (.sm rfl (.sm rfl (.cons (lstC_ren rfl (by decide)) (.cons (lstC_ren rfl (by decide)) (.cons (lstC_ren rfl (by decide)) .nil)))))) (.row (by decide) rfl (fr_map fun _ => rfl) (.row (by decide) rfl (fr_map fun _ => rfl) (.row (by decide) rfl (fr_map fun _ => rfl) .nil))))))) (Z2k hzq hzq1 hzq2 h)
   ·repeat (first | refine gu rfl ?_ | refine gs rfl rfl ?_)
    refine gt rfl <| a1 (v := (B false)) rfl <| gt rfl <| a1 (v := (B false)) rfl <| un1 (v := (B false)) rfl <| un1 rfl <| dnil ?_
    exact Sv.weak (weak_canon [0, 1, 2, 3, 4, 5] rfl (by decide) (by decide) (by decide) (.cf rfl rfl (.cr rfl rfl rfl (.cr rfl rfl rfl (.cr rfl rfl rfl (.cf rfl rfl .nil))))) (.box (by decide) rfl (blkAs_cells (.sm rfl (.sm rfl (.sm rfl (.sm rfl (.sm rfl (.sm rfl (.sm rfl .nil)))))))) (.box (by decide) rfl (blkAs_cells (.sm rfl (.sm rfl (.sm rfl (.sm rfl (.sm rfl .nil)))))) (.box (by decide) rfl (blkAs_cells (.sm rfl (.sm rfl (.cons (lstC_ren rfl (by decide)) (.cons (lstC_ren rfl (by decide)) (.cons (lstC_ren rfl (by decide)) .nil)))))) (.row (by decide) rfl (fr_map fun _ => rfl) (.row (by decide) rfl (fr_map fun _ => rfl) (.row (by decide) rfl (fr_map fun _ => rfl) .nil))))))) (Z2k hzq hzq1 hzq2 h)
 ·repeat (first | refine gu rfl ?_ | refine gs rfl rfl ?_)
  refine un1 (v := (B false)) rfl <| un1 rfl <| dnil ?_
  exact Sv.weak (weak_canon [0, 1, 2, 3, 4, 5] rfl (by decide) (by decide) (by decide) (.cf rfl rfl (.cr rfl rfl rfl (.cr rfl rfl rfl (.cr rfl rfl rfl (.cf rfl rfl .nil))))) (.box (by decide) rfl (blkAs_cells (.sm rfl (.sm rfl (.sm rfl (.sm rfl (.sm rfl (.sm rfl (.sm rfl .nil)))))))) (.box (by decide) rfl (blkAs_cells (.sm rfl (.sm rfl (.sm rfl (.sm rfl (.sm rfl .nil)))))) (.box (by decide) rfl (blkAs_cells (.sm rfl (.sm rfl (.cons (lstC_ren rfl (by decide)) (.cons (lstC_ren rfl (by decide)) (.cons (lstC_ren rfl (by decide)) .nil)))))) (.row (by decide) rfl (fr_map fun _ => rfl) (.row (by decide) rfl (fr_map fun _ => rfl) (.row (by decide) rfl (fr_map fun _ => rfl) .nil))))))) (Z2k hzq hzq1 hzq2 h)
def a14_c0 : ACode := (sr [(oP 24 (.bin .lss (.tmp 23) (.tmp 22)))]
 (.seq (.cond (.tmp 24) .skip (.exit 0))
 (.seq (.block 1 (sr [(oP 25 (.iaddr 7 (.tmp 21) (.tmp 23))), (oP 26 (.load true 7 (.tmp 25))), (oP 6 (.box (.const (.agg [(.val (.int .i64 0)), (.val (.int .i64 0)), (.val (.int .i64 0)), (.str []), (.val (.int .i64 0)), (.val (.int .i64 0)), (.str [])])))), (oN (.store 7 (.tmp 6) (.tmp 26)))]
 (sr [(oP 27 (.faddr 0 (.tmp 6))), (oP 28 (.load false 1 (.tmp 27))), (oP 29 (.call 32 [(.tmp 28), (kI 1), (kI 6)])), (oP 30 (.un .not (.tmp 29)))]
 (.cond (.tmp 30) (sr [(oP 31 (.build [(.val (.int .i64 0)), (.val (.int .i64 0)), (.ro true 7 []), (.ro true 7 []), (.ro true 5 [])] [])), (oP 2 (.mov (.const (.c (.ro true 7 []))))), (oN (.store 5 (.tmp 3) (.tmp 31))), (oP 4 (.mov (kI 3)))]
 .ret) .skip))))
 (.region [(oP 32 (.bin .add (.tmp 23) (kI 1))), (mV 23 32)]))))
def a14_c1 : ACode := (.seq (sr [(mV 64 15), (mV 65 64), ⟨(some 66), (.mov (.tmp 8)), (some (65, true))⟩, ⟨(some 67), (.len (.tmp 66)), (some (65, true))⟩, ⟨(some 68), (.bin .lss (.tmp 67) (kI 300)), (some (65, true))⟩, (oP 69 (.pick (.tmp 65) (.tmp 68) kF))]
 (.cond (.tmp 69) .skip (.exit 4)))
 (.block 5 (sr [(oP 16 (.box (.const (.agg [(.val (.int .i64 0)), (.val (.int .i64 0)), (.val (.bool false)), (.str []), (.val (.int .i64 0)), (.val (.int .i64 0)), (.str [])]))))]
 (sr [(oP 71 (.load true 5 (.tmp 7))), (mV 72 14), (oP 73 (.call 35 [(.tmp 71), (.tmp 72)])), (mV 70 73), (oP 74 (.ext (.tmp 70) 0)), (oP 75 (.ext (.tmp 70) 1)), (oP 76 (.ext (.tmp 70) 2)), (oN (.store 5 (.tmp 7) (.tmp 74))), (oN (.store 7 (.tmp 16) (.tmp 75))), (mV 15 76)]
 (sr [(mV 77 15)]
 (.cond (.tmp 77) (.region [(mV 78 8), (oP 79 (.load true 7 (.tmp 16))), (oP 80 (.bslice 7 [(.val (.int .i64 0)), (.val (.int .i64 0)), (.val (.bool false)), (.str []), (.val (.int .i64 0)), (.val (.int .i64 0)), (.str [])] 1 [(0, (.tmp 79))])), (oP 81 (.app 7 72 (.tmp 78) (.tmp 80))), (mV 8 81)]) .skip))))))
def a14_c2 : ACode := (.region [(oP 82 (.bin .add (.tmp 35) (kI 1))), (mV 35 82)])
def a14_c3 : ACode := (sr [(oP 36 (.bin .lss (.tmp 35) (.tmp 34)))]
 (.seq (.cond (.tmp 36) .skip (.exit 2))
 (.seq (.block 3 (sr [(oP 37 (.iaddr 7 (.tmp 33) (.tmp 35))), (oP 38 (.load true 7 (.tmp 37))), (oP 10 (.box (.const (.agg [(.val (.int .i64 0)), (.val (.int .i64 0)), (.val (.int .i64 0)), (.str []), (.val (.int .i64 0)), (.val (.int .i64 0)), (.str [])])))), (oN (.store 7 (.tmp 10) (.tmp 38)))]
 (.seq (sr [(oP 39 (.faddr 0 (.tmp 10))), (oP 40 (.load false 1 (.tmp 39))), (oP 41 (.bin .neq (.tmp 40) (kI 6)))]
 (.cond (.tmp 41) (.seq (sr [(oP 43 (.load true 5 (.tmp 7))), (oP 44 (.load true 7 (.tmp 10))), (oP 45 (.call 6 [(.tmp 43), (.tmp 44)])), (mV 42 45), (oP 46 (.ext (.tmp 42) 0)), (oP 47 (.ext (.tmp 42) 1)), (oP 48 (.ext (.tmp 42) 2)), (oP 11 (.box (.const (.agg [(.val (.int .i64 0)), (.val (.int .i64 0)), (.ro true 7 []), (.ro true 7 []), (.ro true 5 [])])))), (oN (.store 5 (.tmp 11) (.tmp 46))), (mV 12 47), (mV 13 48)]
 (sr [(mV 49 13), (oP 50 (.bin .eql (.tmp 49) (kI 0)))]
 (.cond (.tmp 50) (.region [(oP 51 (.load true 5 (.tmp 11))), (oN (.store 5 (.tmp 7) (.tmp 51)))]) .skip)))
 (.exit 3)) .skip))
 (sr [(oP 52 (.faddr 0 (.tmp 7))), (oP 53 (.load false 1 (.tmp 52))), (oP 54 (.faddr 2 (.tmp 10))), (oP 55 (.load false 1 (.tmp 54))), (oP 56 (.bin .add (.tmp 53) (.tmp 55))), (mV 14 56)]
 (sr [(oP 57 (.faddr 2 (.tmp 10))), (oP 58 (.load false 1 (.tmp 57))), (oP 59 (.call 32 [(.tmp 58), (kI 0), (kI 1000000)])), (mV 60 59), ⟨(some 61), (.mov (.tmp 14)), (some (60, true))⟩, ⟨(some 62), (.bin .leq (.tmp 61) (kI 1000000000)), (some (60, true))⟩, (oP 63 (.pick (.tmp 60) (.tmp 62) kF)), (mV 15 63)]
 (.block 4 (.loop a14_c1)))))))
 a14_c2)))
def a14 : AFunc := ⟨1, [(.tmp 2), (.cell true 5 3), (.tmp 4)], (sr [(oP 2 (.mov (.const (.c (.ro true 7 []))))), (oP 3 (.box (.const (.agg [(.val (.int .i64 0)), (.val (.int .i64 0)), (.ro true 7 []), (.ro true 7 []), (.ro true 5 [])])))), (oP 4 (.mov (kI 0)))]
 (.seq (sr [(mV 17 0), (oP 18 (.len (.tmp 17))), (oP 19 (.bin .gtr (.tmp 18) (kI 200)))]
 (.cond (.tmp 19) (sr [(oP 20 (.build [(.val (.int .i64 0)), (.val (.int .i64 0)), (.ro true 7 []), (.ro true 7 []), (.ro true 5 [])] [])), (oP 2 (.mov (.const (.c (.ro true 7 []))))), (oN (.store 5 (.tmp 3) (.tmp 20))), (oP 4 (.mov (kI 2)))]
 .ret) .skip))
 (.seq (sr [(mV 21 0), (oP 22 (.len (.tmp 21))), (oP 23 (.mov (kI 0)))]
 (.block 0 (.loop a14_c0)))
 (sr [(oP 7 (.box (.const (.agg [(.val (.int .i64 0)), (.val (.int .i64 0)), (.ro true 7 []), (.ro true 7 []), (.ro true 5 [])]))))]
 (sr [(oP 8 (.mov (.const (.c (.ro true 7 [])))))]
 (.seq (sr [(mV 33 0), (oP 34 (.len (.tmp 33))), (oP 35 (.mov (kI 0)))]
 (.block 2 (.loop a14_c3)))
 (.seq (.drawn (.fin [((mV 83 8), (0, 0)), ((oP 84 (.load true 5 (.tmp 7))), (0, 1)), ((mV 2 83), (0, 2)), ((oN (.store 5 (.tmp 3) (.tmp 84))), (2, 3)), ((oP 4 (.mov (kI 0))), (0, 4))]))
 .ret)))))))⟩
theorem c14 : compFunc Try.prog 14 = some a14 := by kernel_rfl
def Z1p (r : ((List TJJob) × TJLoop × Int)) : AV → Heap → Nat → Prop := fun v h' n' => ∃ z0 : Bool, (z0 = true → r.1 = []) ∧ ∃ z1 : Bool, (z1 = true → r.2.1.Tasks = []) ∧ ∃ z2 : Bool, (z2 = true → r.2.1.Smalls = []) ∧ ∃ z3 : Bool, (z3 = true → r.2.1.Timers = []) ∧ v = (.tup [(lstV z0 0 7 r.1.length), (.agg [cI r.2.1.Now, cI r.2.1.Next, lstC z1 1 7 r.2.1.Tasks.length, lstC z2 2 7 r.2.1.Smalls.length, lstC z3 3 5 r.2.1.Timers.length]), (I r.2.2)]) ∧ (h' = (upd (upd (upd (upd e0 0 (lstB z0 7 (r.1.map e_TJJob))) 1 (lstB z1 7 (r.2.1.Tasks.map e_TJJob))) 2 (lstB z2 7 (r.2.1.Smalls.map e_TJJob))) 3 (lstB z3 5 (r.2.1.Timers.map e_TJTimer)))) ∧ n' = 4
abbrev Z6p (asks : (List TJAsk)) (F_ : Unit → Option ((List TJJob) × TJLoop × Int)) (o : ((List TJJob) × TJLoop × Int)) (R_ : St → Prop) : Prop := ∀ (_ : Unit), F_ () = some o → ∀ s, Weak 0 s ⟨(ue [(3, (.c (.ref 0 5 0 0))), (0, (.c (.ro false 7 (asks.map e_TJAsk))))]), (upd e0 0 (some (.cells 5 [[cI 0, cI 0, .ro true 7 [], .ro true 7 [], .ro true 5 []]]))), 1⟩ → R_ s
abbrev Z43 (asks : (List TJAsk)) (F_ : Nat → Int → Option ((List TJJob) × TJLoop × Int)) (o : ((List TJJob) × TJLoop × Int)) : Nat → St → Prop := fun k s => ∃ (v23 : Int), F_ k v23 = some o ∧ s = ⟨(ue [(23, (I v23)), (22, (I (asks.length : Int))), (21, (.c (.ro false 7 (asks.map e_TJAsk)))), (3, (.c (.ref 0 5 0 0))), (0, (.c (.ro false 7 (asks.map e_TJAsk))))]), (upd e0 0 (some (.cells 5 [[cI 0, cI 0, .ro true 7 [], .ro true 7 [], .ro true 5 []]]))), 1⟩
abbrev Z6q (asks : (List TJAsk)) (F_ : Int → Option ((List TJJob) × TJLoop × Int)) (o : ((List TJJob) × TJLoop × Int)) (R_ : St → Prop) : Prop := ∀ (v23 : Int), F_ v23 = some o → ∀ s, Weak 0 s ⟨(ue [(23, (I v23)), (22, (I (asks.length : Int))), (21, (.c (.ro false 7 (asks.map e_TJAsk)))), (3, (.c (.ref 0 5 0 0))), (0, (.c (.ro false 7 (asks.map e_TJAsk))))]), (upd e0 0 (some (.cells 5 [[cI 0, cI 0, .ro true 7 [], .ro true 7 [], .ro true 5 []]]))), 1⟩ → R_ s
noncomputable def Zc (asks : (List TJAsk)) (K0_ : Unit → Option ((List TJJob) × TJLoop × Int)) : Nat → Int → Option ((List TJJob) × TJLoop × Int)
 | 0, _ => none
 | k + 1, v23 =>
  if decide (v23 < (asks.length : Int)) then
   (at? asks v23).bind fun x_ =>
   if (!(Z1 x_.Do 1 6)) then
    some (([] : List TJJob), (⟨0, 0, [], [], []⟩ : TJLoop), 3)
   else
    (Zc asks K0_ k) (wi (v23 + 1))
  else
   K0_ ()
theorem Z6r {Γ : Glob} {Q : AExit → St → Prop} {asks : (List TJAsk)} {K0_ : Unit → Option ((List TJJob) × TJLoop × Int)} {k : Nat} {v23 : Int} {o : ((List TJJob) × TJLoop × Int)} (h : Zc asks K0_ k v23 = some o)
  (hK0 : Z6p asks K0_ o (Q (.exit 0)))
  (hr : ∀ s, Ends a14.results 0 (Z1p o) .ret s → Q .ret s) :
  Sv Try.prog Γ 0 (.loop a14_c0) Q ⟨(ue [(23, (I v23)), (22, (I (asks.length : Int))), (21, (.c (.ro false 7 (asks.map e_TJAsk)))), (3, (.c (.ref 0 5 0 0))), (0, (.c (.ro false 7 (asks.map e_TJAsk))))]), (upd e0 0 (some (.cells 5 [[cI 0, cI 0, .ro true 7 [], .ro true 7 [], .ro true 5 []]]))), 1⟩ := by
 refine Sv.loop (I := Z43 asks (Zc asks K0_) o) (fun k s hI => ?_) ⟨v23, h, rfl⟩
 clear h
 clear v23
 obtain ⟨v23, h, rfl⟩ := hI
 cases k with
 | zero => cases h
 | succ k =>
 rw [Zc] at h
 have hself : Z6q asks (Zc asks K0_ k) o (rnd 0 (Z43 asks (Zc asks K0_) o) k Q) := fun v23 h s hw => ⟨_, k, hw, Nat.lt_succ_self k, v23, h, rfl⟩
 refine ssr <| un1 (v := (B (decide (v23 < (asks.length : Int))))) rfl <| dnil <| Sv.seq ?_
 refine Sv.cnd rfl h (fun h => ?_) fun h => ?_
 ·refine Sv.skip <| Sv.seq <| Sv.block <| ssr ?_
  obtain ⟨x_, hx1, h⟩ := bnd h
  refine un1 (v := (.c (.rop (e_TJAsk x_)))) (s_iaddr (e := e_TJAsk) (xs := asks) rfl rfl hx1) <| un1 (v := (.agg (e_TJAsk x_))) rfl <| un <| a2v (v := (.c (.ref 1 7 0 0))) (h' := upd _ 1 (some (.cells 7 [[cI 0, cI 0, cI 0, .str [], cI 0, cI 0, .str []]]))) (n' := 2) rfl rfl hcs <| un <| a2n (h' := upd _ 1 (some (.cells 7 [(e_TJAsk x_)]))) (n' := 2) rfl rfl hcs <| dnil <| ssr <| un1 (v := (.c (.ref 1 7 0 0))) rfl <| un1 (v := (I x_.Do)) rfl <| un <| ac_pure (Zf (Γ := Γ) x_.Do 1 6) rfl rfl rfl <| un1 (v := (B (!(Z1 x_.Do 1 6)))) rfl <| dnil ?_
  refine Sv.cnd rfl h (fun h => ?_) fun h => ?_
  ·refine ssr <| un1 (v := (.agg [cI 0, cI 0, .ro true 7 [], .ro true 7 [], .ro true 5 []])) rfl <| un1 rfl <| un <| a2n (h' := upd _ 0 (some (.cells 5 [[cI 0, cI 0, .ro true 7 [], .ro true 7 [], .ro true 5 []]]))) (n' := 2) rfl rfl hcs <| un1 rfl <| dnil <| Sv.ret ?_
   replace h := Option.some.inj h
   subst h
   exact hr _ ⟨_, .refl _, _, rfl, ⟨upd e0 0 (some (.tup [(lstV true 0 7 ([] : List TJJob).length), (.agg [cI 0, cI 0, lstC true 1 7 ([] : List TJJob).length, lstC true 2 7 ([] : List TJJob).length, lstC true 3 5 ([] : List TJTimer).length]), (I 3)])), (upd (upd (upd (upd e0 0 (lstB true 7 (([] : List TJJob).map e_TJJob))) 1 (lstB true 7 (([] : List TJJob).map e_TJJob))) 2 (lstB true 7 (([] : List TJJob).map e_TJJob))) 3 (lstB true 5 (([] : List TJTimer).map e_TJTimer))), 4⟩, (.tup [(lstV true 0 7 ([] : List TJJob).length), (.agg [cI 0, cI 0, lstC true 1 7 ([] : List TJJob).length, lstC true 2 7 ([] : List TJJob).length, lstC true 3 5 ([] : List TJTimer).length]), (I 3)]), weak_canon2 [1000, 1001, 1002, 1003] [0, 1, 2, 3] (by decide) (by decide) nlz (.cons (by decide) (.cons (by decide) (.cons (by decide) (.cons (by decide) .nil)))) (.cons rfl (avAs_tup (.cons (.c (.same rfl)) (.cons (avAs_agg (.sm rfl (.sm rfl (.sm rfl (.sm rfl (.sm rfl .nil)))))) (.cons (avAs_free rfl) .nil)))) .nil) (.non (by decide) (.non (by decide) (.non (by decide) (.non (by decide) .nil)))), rfl, true, (fun _ => rfl), true, (fun _ => rfl), true, (fun _ => rfl), true, (fun _ => rfl), rfl, rfl, rfl⟩
  ·refine Sv.skip <| srg <| un1 (v := (I (wi (v23 + 1)))) rfl <| un1 rfl <| dnil ?_
   exact hself (wi (v23 + 1)) h _ (wcn [0] rfl (.cf rfl rfl (.cf rfl rfl (.cf rfl rfl (.cr rfl rfl rfl (.cf rfl rfl .nil))))) (.box (by decide) rfl (blkAs_cells (.sm rfl (.sm rfl (.sm rfl (.sm rfl (.sm rfl .nil)))))) .nil))
 ·refine Sv.exit ?_
  exact hK0 () h _ (wcn [0] rfl (.cr rfl rfl rfl (.cf rfl rfl .nil)) (.box (by decide) rfl (blkAs_cells (.sm rfl (.sm rfl (.sm rfl (.sm rfl (.sm rfl .nil)))))) .nil))
abbrev Z44 (asks : (List TJAsk)) (F_ : Int → Int → (List TJJob) → (List TJJob) → (List TJTimer) → (List TJJob) → Int → Option ((List TJJob) × TJLoop × Int)) (o : ((List TJJob) × TJLoop × Int)) (R_ : St → Prop) : Prop := ∀ (q0 : Int) (q1 : Int) (q2 : (List TJJob)) (q3 : (List TJJob)) (q4 : (List TJTimer)) (out : (List TJJob)) (v35 : Int) (zq2 : Bool) (_ : zq2 = true → q2 = []) (zq3 : Bool) (_ : zq3 = true → q3 = []) (zq4 : Bool) (_ : zq4 = true → q4 = []) (zout : Bool) (_ : zout = true → out = []), F_ q0 q1 q2 q3 q4 out v35 = some o → ∀ s, Weak 0 s ⟨(ue [(35, (I v35)), (34, (I (asks.length : Int))), (33, (.c (.ro false 7 (asks.map e_TJAsk)))), (8, (lstV zout 5 7 out.length)), (7, (.c (.ref 1 5 0 0))), (3, (.c (.ref 0 5 0 0)))]), (upd (upd (upd (upd (upd (upd e0 0 (some (.cells 5 [[cI 0, cI 0, .ro true 7 [], .ro true 7 [], .ro true 5 []]]))) 1 (some (.cells 5 [[cI q0, cI q1, lstC zq2 2 7 q2.length, lstC zq3 3 7 q3.length, lstC zq4 4 5 q4.length]]))) 2 (lstB zq2 7 (q2.map e_TJJob))) 3 (lstB zq3 7 (q3.map e_TJJob))) 4 (lstB zq4 5 (q4.map e_TJTimer))) 5 (lstB zout 7 (out.map e_TJJob))), 6⟩ → R_ s
abbrev Z45 (F_ : Int → Int → (List TJJob) → (List TJJob) → (List TJTimer) → (List TJJob) → Option ((List TJJob) × TJLoop × Int)) (o : ((List TJJob) × TJLoop × Int)) (R_ : St → Prop) : Prop := ∀ (q01 : Int) (q11 : Int) (q21 : (List TJJob)) (q31 : (List TJJob)) (q41 : (List TJTimer)) (out1 : (List TJJob)) (zq21 : Bool) (_ : zq21 = true → q21 = []) (zq31 : Bool) (_ : zq31 = true → q31 = []) (zq41 : Bool) (_ : zq41 = true → q41 = []) (zout1 : Bool) (_ : zout1 = true → out1 = []), F_ q01 q11 q21 q31 q41 out1 = some o → ∀ s, Weak 0 s ⟨(ue [(8, (lstV zout1 5 7 out1.length)), (7, (.c (.ref 1 5 0 0))), (3, (.c (.ref 0 5 0 0)))]), (upd (upd (upd (upd (upd (upd e0 0 (some (.cells 5 [[cI 0, cI 0, .ro true 7 [], .ro true 7 [], .ro true 5 []]]))) 1 (some (.cells 5 [[cI q01, cI q11, lstC zq21 2 7 q21.length, lstC zq31 3 7 q31.length, lstC zq41 4 5 q41.length]]))) 2 (lstB zq21 7 (q21.map e_TJJob))) 3 (lstB zq31 7 (q31.map e_TJJob))) 4 (lstB zq41 5 (q41.map e_TJTimer))) 5 (lstB zout1 7 (out1.map e_TJJob))), 6⟩ → R_ s
noncomputable def Z1q (v35 : Int) (asks : (List TJAsk)) (self : Int → Int → (List TJJob) → (List TJJob) → (List TJTimer) → (List TJJob) → Int → Option ((List TJJob) × TJLoop × Int)) (K2_ : Int → Int → (List TJJob) → (List TJJob) → (List TJTimer) → (List TJJob) → Option ((List TJJob) × TJLoop × Int)) (q02 : Int) (q12 : Int) (q22 : (List TJJob)) (q32 : (List TJJob)) (q42 : (List TJTimer)) (out2 : (List TJJob)) : Option ((List TJJob) × TJLoop × Int) :=
 self q02 q12 q22 q32 q42 out2 (wi (v35 + 1))
theorem Z30 {Γ : Glob} {Q : AExit → St → Prop} {v35 : Int} {asks : (List TJAsk)} {self : Int → Int → (List TJJob) → (List TJJob) → (List TJTimer) → (List TJJob) → Int → Option ((List TJJob) × TJLoop × Int)} {K2_ : Int → Int → (List TJJob) → (List TJJob) → (List TJTimer) → (List TJJob) → Option ((List TJJob) × TJLoop × Int)} {q02 : Int} {q12 : Int} {q22 : (List TJJob)} {q32 : (List TJJob)} {q42 : (List TJTimer)} {out2 : (List TJJob)} {zq22 : Bool} (hzq22 : zq22 = true → q22 = []) {zq32 : Bool} (hzq32 : zq32 = true → q32 = []) {zq42 : Bool} (hzq42 : zq42 = true → q42 = []) {zout2 : Bool} (hzout2 : zout2 = true → out2 = []) {o : ((List TJJob) × TJLoop × Int)} (h : Z1q v35 asks self K2_ q02 q12 q22 q32 q42 out2 = some o)
  (hself : Z44 asks self o (Q .normal))
  (hK2 : Z45 K2_ o (Q (.exit 2)))
  (hr : ∀ s, Ends a14.results 0 (Z1p o) .ret s → Q .ret s) :
  Sv Try.prog Γ 0 a14_c2 Q ⟨(ue [(35, (I v35)), (34, (I (asks.length : Int))), (33, (.c (.ro false 7 (asks.map e_TJAsk)))), (8, (lstV zout2 5 7 out2.length)), (7, (.c (.ref 1 5 0 0))), (3, (.c (.ref 0 5 0 0)))]), (upd (upd (upd (upd (upd (upd e0 0 (some (.cells 5 [[cI 0, cI 0, .ro true 7 [], .ro true 7 [], .ro true 5 []]]))) 1 (some (.cells 5 [[cI q02, cI q12, lstC zq22 2 7 q22.length, lstC zq32 3 7 q32.length, lstC zq42 4 5 q42.length]]))) 2 (lstB zq22 7 (q22.map e_TJJob))) 3 (lstB zq32 7 (q32.map e_TJJob))) 4 (lstB zq42 5 (q42.map e_TJTimer))) 5 (lstB zout2 7 (out2.map e_TJJob))), 6⟩ := by
 unfold Z1q at h
 refine srg <| un1 (v := (I (wi (v35 + 1)))) rfl <| un1 rfl <| dnil ?_
 exact hself q02 q12 q22 q32 q42 out2 (wi (v35 + 1)) zq22 hzq22 zq32 hzq32 zq42 hzq42 zout2 hzout2 h _ (wcn [0, 1, 2, 3, 4, 5] rfl (.cf rfl rfl (.cf rfl rfl (.cf rfl rfl (.cons rfl (.c (lsr rfl rfl)) (.cr rfl rfl rfl (.cr rfl rfl rfl .nil)))))) (.row (by decide) rfl (fr_map fun _ => rfl) (.row (by decide) rfl (fr_map fun _ => rfl) (.row (by decide) rfl (fr_map fun _ => rfl) (.row (by decide) rfl (fr_map fun _ => rfl) (.box (by decide) rfl (blkAs_cells (.sm rfl (.sm rfl (.cons (lstC_ren rfl (by decide)) (.cons (lstC_ren rfl (by decide)) (.cons (lstC_ren rfl (by decide)) .nil)))))) (.box (by decide) rfl (blkAs_cells (.sm rfl (.sm rfl (.sm rfl (.sm rfl (.sm rfl .nil)))))) .nil)))))))
abbrev Z6s (asks : (List TJAsk)) (v35 : Int) (F_ : Int → Int → (List TJJob) → (List TJJob) → (List TJTimer) → (List TJJob) → Option ((List TJJob) × TJLoop × Int)) (o : ((List TJJob) × TJLoop × Int)) (R_ : St → Prop) : Prop := ∀ (q04 : Int) (q14 : Int) (q24 : (List TJJob)) (q34 : (List TJJob)) (q44 : (List TJTimer)) (out4 : (List TJJob)) (zq24 : Bool) (_ : zq24 = true → q24 = []) (zq34 : Bool) (_ : zq34 = true → q34 = []) (zq44 : Bool) (_ : zq44 = true → q44 = []) (zout4 : Bool) (_ : zout4 = true → out4 = []), F_ q04 q14 q24 q34 q44 out4 = some o → ∀ s, Weak 0 s ⟨(ue [(35, (I v35)), (34, (I (asks.length : Int))), (33, (.c (.ro false 7 (asks.map e_TJAsk)))), (8, (lstV zout4 5 7 out4.length)), (7, (.c (.ref 1 5 0 0))), (3, (.c (.ref 0 5 0 0)))]), (upd (upd (upd (upd (upd (upd e0 0 (some (.cells 5 [[cI 0, cI 0, .ro true 7 [], .ro true 7 [], .ro true 5 []]]))) 1 (some (.cells 5 [[cI q04, cI q14, lstC zq24 2 7 q24.length, lstC zq34 3 7 q34.length, lstC zq44 4 5 q44.length]]))) 2 (lstB zq24 7 (q24.map e_TJJob))) 3 (lstB zq34 7 (q34.map e_TJJob))) 4 (lstB zq44 5 (q44.map e_TJTimer))) 5 (lstB zout4 7 (out4.map e_TJJob))), 6⟩ → R_ s
abbrev Z46 (q0 : Int) (x_1 : TJAsk) (asks : (List TJAsk)) (v35 : Int) (F_ : Nat → Int → Int → (List TJJob) → (List TJJob) → (List TJTimer) → (List TJJob) → Bool → Option ((List TJJob) × TJLoop × Int)) (o : ((List TJJob) × TJLoop × Int)) : Nat → St → Prop := fun k s => ∃ (q03 : Int), ∃ (q13 : Int), ∃ (q23 : (List TJJob)), ∃ (q33 : (List TJJob)), ∃ (q43 : (List TJTimer)), ∃ (out3 : (List TJJob)), ∃ (more : Bool), ∃ (zq23 : Bool), (zq23 = true → q23 = []) ∧ ∃ (zq33 : Bool), (zq33 = true → q33 = []) ∧ ∃ (zq43 : Bool), (zq43 = true → q43 = []) ∧ ∃ (zout3 : Bool), (zout3 = true → out3 = []) ∧ F_ k q03 q13 q23 q33 q43 out3 more = some o ∧ s = ⟨(ue [(35, (I v35)), (34, (I (asks.length : Int))), (33, (.c (.ro false 7 (asks.map e_TJAsk)))), (15, (B more)), (14, (I (wi (q0 + x_1.N)))), (8, (lstV zout3 5 7 out3.length)), (7, (.c (.ref 1 5 0 0))), (3, (.c (.ref 0 5 0 0)))]), (upd (upd (upd (upd (upd (upd e0 0 (some (.cells 5 [[cI 0, cI 0, .ro true 7 [], .ro true 7 [], .ro true 5 []]]))) 1 (some (.cells 5 [[cI q03, cI q13, lstC zq23 2 7 q23.length, lstC zq33 3 7 q33.length, lstC zq43 4 5 q43.length]]))) 2 (lstB zq23 7 (q23.map e_TJJob))) 3 (lstB zq33 7 (q33.map e_TJJob))) 4 (lstB zq43 5 (q43.map e_TJTimer))) 5 (lstB zout3 7 (out3.map e_TJJob))), 6⟩
abbrev Z6t (q0 : Int) (x_1 : TJAsk) (asks : (List TJAsk)) (v35 : Int) (F_ : Int → Int → (List TJJob) → (List TJJob) → (List TJTimer) → (List TJJob) → Bool → Option ((List TJJob) × TJLoop × Int)) (o : ((List TJJob) × TJLoop × Int)) (R_ : St → Prop) : Prop := ∀ (q03 : Int) (q13 : Int) (q23 : (List TJJob)) (q33 : (List TJJob)) (q43 : (List TJTimer)) (out3 : (List TJJob)) (more : Bool) (zq23 : Bool) (_ : zq23 = true → q23 = []) (zq33 : Bool) (_ : zq33 = true → q33 = []) (zq43 : Bool) (_ : zq43 = true → q43 = []) (zout3 : Bool) (_ : zout3 = true → out3 = []), F_ q03 q13 q23 q33 q43 out3 more = some o → ∀ s, Weak 0 s ⟨(ue [(35, (I v35)), (34, (I (asks.length : Int))), (33, (.c (.ro false 7 (asks.map e_TJAsk)))), (15, (B more)), (14, (I (wi (q0 + x_1.N)))), (8, (lstV zout3 5 7 out3.length)), (7, (.c (.ref 1 5 0 0))), (3, (.c (.ref 0 5 0 0)))]), (upd (upd (upd (upd (upd (upd e0 0 (some (.cells 5 [[cI 0, cI 0, .ro true 7 [], .ro true 7 [], .ro true 5 []]]))) 1 (some (.cells 5 [[cI q03, cI q13, lstC zq23 2 7 q23.length, lstC zq33 3 7 q33.length, lstC zq43 4 5 q43.length]]))) 2 (lstB zq23 7 (q23.map e_TJJob))) 3 (lstB zq33 7 (q33.map e_TJJob))) 4 (lstB zq43 5 (q43.map e_TJTimer))) 5 (lstB zout3 7 (out3.map e_TJJob))), 6⟩ → R_ s
noncomputable def Z7 (q0 : Int) (x_1 : TJAsk) (asks : (List TJAsk)) (v35 : Int) (K4_ : Int → Int → (List TJJob) → (List TJJob) → (List TJTimer) → (List TJJob) → Option ((List TJJob) × TJLoop × Int)) : Nat → Int → Int → (List TJJob) → (List TJJob) → (List TJTimer) → (List TJJob) → Bool → Option ((List TJJob) × TJLoop × Int)
 | 0, _, _, _, _, _, _, _ => none
 | k + 1, q03, q13, q23, q33, q43, out3, more =>
  if (more && (decide ((out3.length : Int) < 300))) then
   (Z1o (⟨q03, q13, q23, q33, q43⟩ : TJLoop) (wi (q0 + x_1.N))).bind fun r_1 =>
   if r_1.2.2 then
    (app? 72 out3 [r_1.2.1]).bind fun r_2 =>
    (Z7 q0 x_1 asks v35 K4_ k) r_1.1.Now r_1.1.Next r_1.1.Tasks r_1.1.Smalls r_1.1.Timers r_2 r_1.2.2
   else
    (Z7 q0 x_1 asks v35 K4_ k) r_1.1.Now r_1.1.Next r_1.1.Tasks r_1.1.Smalls r_1.1.Timers out3 r_1.2.2
  else
   K4_ q03 q13 q23 q33 q43 out3
theorem Z6u {Γ : Glob} {Q : AExit → St → Prop} {q0 : Int} {x_1 : TJAsk} {asks : (List TJAsk)} {v35 : Int} {K4_ : Int → Int → (List TJJob) → (List TJJob) → (List TJTimer) → (List TJJob) → Option ((List TJJob) × TJLoop × Int)} {k : Nat} {q03 : Int} {q13 : Int} {q23 : (List TJJob)} {q33 : (List TJJob)} {q43 : (List TJTimer)} {out3 : (List TJJob)} {more : Bool} {zq23 : Bool} (hzq23 : zq23 = true → q23 = []) {zq33 : Bool} (hzq33 : zq33 = true → q33 = []) {zq43 : Bool} (hzq43 : zq43 = true → q43 = []) {zout3 : Bool} (hzout3 : zout3 = true → out3 = []) {o : ((List TJJob) × TJLoop × Int)} (h : Z7 q0 x_1 asks v35 K4_ k q03 q13 q23 q33 q43 out3 more = some o)
  (hK4 : Z6s asks v35 K4_ o (Q (.exit 4)))
  (hr : ∀ s, Ends a14.results 0 (Z1p o) .ret s → Q .ret s) :
  Sv Try.prog Γ 0 (.loop a14_c1) Q ⟨(ue [(35, (I v35)), (34, (I (asks.length : Int))), (33, (.c (.ro false 7 (asks.map e_TJAsk)))), (15, (B more)), (14, (I (wi (q0 + x_1.N)))), (8, (lstV zout3 5 7 out3.length)), (7, (.c (.ref 1 5 0 0))), (3, (.c (.ref 0 5 0 0)))]), (upd (upd (upd (upd (upd (upd e0 0 (some (.cells 5 [[cI 0, cI 0, .ro true 7 [], .ro true 7 [], .ro true 5 []]]))) 1 (some (.cells 5 [[cI q03, cI q13, lstC zq23 2 7 q23.length, lstC zq33 3 7 q33.length, lstC zq43 4 5 q43.length]]))) 2 (lstB zq23 7 (q23.map e_TJJob))) 3 (lstB zq33 7 (q33.map e_TJJob))) 4 (lstB zq43 5 (q43.map e_TJTimer))) 5 (lstB zout3 7 (out3.map e_TJJob))), 6⟩ := by
 refine Sv.loop (I := Z46 q0 x_1 asks v35 (Z7 q0 x_1 asks v35 K4_) o) (fun k s hI => ?_) ⟨q03, q13, q23, q33, q43, out3, more, zq23, hzq23, zq33, hzq33, zq43, hzq43, zout3, hzout3, h, rfl⟩
 clear h
 clear hzout3 hzq43 hzq33 hzq23 zout3 zq43 zq33 zq23 more out3 q43 q33 q23 q13 q03
 obtain ⟨q03, q13, q23, q33, q43, out3, more, zq23, hzq23, zq33, hzq33, zq43, hzq43, zout3, hzout3, h, rfl⟩ := hI
 cases k with
 | zero => cases h
 | succ k =>
 rw [Z7] at h
 have hself : Z6t q0 x_1 asks v35 (Z7 q0 x_1 asks v35 K4_ k) o (rnd 0 (Z46 q0 x_1 asks v35 (Z7 q0 x_1 asks v35 K4_) o) k Q) := fun q03 q13 q23 q33 q43 out3 more zq23 hzq23 zq33 hzq33 zq43 hzq43 zout3 hzout3 h s hw => ⟨_, k, hw, Nat.lt_succ_self k, q03, q13, q23, q33, q43, out3, more, zq23, hzq23, zq33, hzq33, zq43, hzq43, zout3, hzout3, h, rfl⟩
 refine Sv.seq <| ssr <| un1 rfl <| un1 rfl ?_
 refine gjoin 4 (d := 69) (v := (B (more && (decide ((out3.length : Int) < 300))))) (fun X hX => ?_) ?_
 ·refine split2 (fun hc8 => ?_) (fun hc8 => ?_)
  ·refine gt rfl <| a1 rfl <| gt rfl <| a1 (v := (I (out3.length : Int))) (s_lenL rfl (len_nil_of hzout3)) <| gt rfl <| a1 (v := (B (decide ((out3.length : Int) < 300)))) rfl <| un1 (v := (B (decide ((out3.length : Int) < 300)))) rfl <| dnil ?_
   exact hX _ (.putEq (by rw [hc8]; rfl) (.skp (.skp (.skp (.putEq (by rw [hc8]) (.refl _)) rfl) rfl) rfl))
  ·refine gs rfl rfl <| gs rfl rfl <| gs rfl rfl <| un1 (v := (B false)) rfl <| dnil ?_
   exact hX _ (.putEq (by rw [hc8]; rfl) (.skp (.skp (.skp (.putEq (by rw [hc8]) (.refl _)) rfl) rfl) rfl))
 refine dnil ?_
 refine Sv.cnd rfl h (fun h => ?_) fun h => ?_
 ·refine Sv.skip <| Sv.block <| ssr <| un <| a2v (v := (.c (.ref 6 7 0 0))) (h' := upd _ 6 (some (.cells 7 [[cI 0, cI 0, cB false, .str [], cI 0, cI 0, .str []]]))) (n' := 7) rfl rfl hcs <| dnil <| ssr <| un1 (v := (.agg [cI q03, cI q13, lstC zq23 2 7 q23.length, lstC zq33 3 7 q33.length, lstC zq43 4 5 q43.length])) rfl <| un1 rfl ?_
  obtain ⟨r_1, hr2, h⟩ := bnd h
  refine un <| ac_gen (bs := [2, 3, 4]) («as» := [(.agg [cI q03, cI q13, lstC zq23 2 7 q23.length, lstC zq33 3 7 q33.length, lstC zq43 4 5 q43.length]), (I (wi (q0 + x_1.N)))]) (h2 := _) (h1 := (upd (upd (upd e0 2 (lstB zq23 7 (q23.map e_TJJob))) 3 (lstB zq33 7 (q33.map e_TJJob))) 4 (lstB zq43 5 (q43.map e_TJTimer)))) (Z6o hzq23 hzq33 hzq43 hr2) rfl (.cons (avAs_agg (.sm rfl (.sm rfl (.cons (lstC_ren rfl (by decide)) (.cons (lstC_ren rfl (by decide)) (.cons (lstC_ren rfl (by decide)) .nil)))))) (.cons (avAs_free rfl) .nil)) (hsub_refl _) (.cons rfl (.cons rfl (.cons rfl (.nil _)))) hcs (by decide) (by decide) (.cons (avAs_agg (.sm rfl (.sm rfl (.cons (lstC_ren rfl (by decide)) (.cons (lstC_ren rfl (by decide)) (.cons (lstC_ren rfl (by decide)) .nil)))))) (.cons (avAs_free rfl) .nil)) (.row (by decide) rfl (fr_map fun _ => rfl) (.row (by decide) rfl (fr_map fun _ => rfl) (.row (by decide) rfl (fr_map fun _ => rfl) .nil))) ?_
  rintro _ _ _ hn ⟨z_3, hz_3, z_4, hz_4, z_5, hz_5, rfl, rfl, rfl⟩
  refine ⟨.inl rfl, (upd (upd (upd (rem [2, 3, 4] _) 7 (lstB z_3 7 (r_1.1.Tasks.map e_TJJob))) 8 (lstB z_4 7 (r_1.1.Smalls.map e_TJJob))) 9 (lstB z_5 5 (r_1.1.Timers.map e_TJTimer))), fun hbd => (m3_cons (m3_row rfl (fr_map fun _ => rfl)) (m3_cons (m3_row rfl (fr_map fun _ => rfl)) (m3_cons (m3_row rfl (fr_map fun _ => rfl)) (m3_rem (in_cons (by decide) (in_cons (by decide) (in_cons (by decide) (in_nil _)))) (.cons (by decide) (.cons (by decide) (.cons (by decide) .nil))) hbd)))), (.tup [(.agg [cI r_1.1.Now, cI r_1.1.Next, lstC z_3 7 7 r_1.1.Tasks.length, lstC z_4 8 7 r_1.1.Smalls.length, lstC z_5 9 5 r_1.1.Timers.length]), (.agg (e_TJJob r_1.2.1)), (B r_1.2.2)]), 10, (by cases z_3 <;> cases z_4 <;> cases z_5 <;> rfl), rfl, ?_⟩
  refine un1 rfl <| un1 (v := (.agg [cI r_1.1.Now, cI r_1.1.Next, lstC z_3 7 7 r_1.1.Tasks.length, lstC z_4 8 7 r_1.1.Smalls.length, lstC z_5 9 5 r_1.1.Timers.length])) rfl <| un1 (v := (.agg (e_TJJob r_1.2.1))) rfl <| un1 (v := (B r_1.2.2)) rfl <| un <| a2n (h' := upd _ 1 (some (.cells 5 [[cI r_1.1.Now, cI r_1.1.Next, lstC z_3 7 7 r_1.1.Tasks.length, lstC z_4 8 7 r_1.1.Smalls.length, lstC z_5 9 5 r_1.1.Timers.length]]))) (n' := 10) rfl rfl hcs <| un <| a2n (h' := upd _ 6 (some (.cells 7 [(e_TJJob r_1.2.1)]))) (n' := 10) rfl rfl hcs <| un1 rfl <| dnil <| ssr <| un1 rfl <| dnil ?_
  refine Sv.cnd rfl h (fun h => ?_) fun h => ?_
  ·refine srg <| un1 rfl <| un1 (v := (.agg (e_TJJob r_1.2.1))) rfl <| un <| a2v (v := (lstV false 10 7 [r_1.2.1].length)) (h' := upd _ 10 (lstB false 7 ([r_1.2.1].map e_TJJob))) (n' := 11) rfl rfl hcs ?_
   obtain ⟨r_2, hr3, h⟩ := bnd h
   have hz1 : (zout3 && [r_1.2.1].isEmpty) = true → r_2 = [] := app_nil (z := zout3) (ys := [r_1.2.1]) hzout3 hr3
   refine un <| a2v rfl (s_app (xs := out3) (ys := [r_1.2.1]) (e := e_TJJob) (z := zout3) (b := 5) rfl rfl hzout3 rfl rfl (slc_lst rfl (List.length_map _).symm (map_nil_of hcs)) hr3) hcs <| un1 rfl <| dnil ?_
   exact hself r_1.1.Now r_1.1.Next r_1.1.Tasks r_1.1.Smalls r_1.1.Timers r_2 r_1.2.2 z_3 hz_3 z_4 hz_4 z_5 hz_5 (zout3 && [r_1.2.1].isEmpty) hz1 h _ (wcn [0, 1, 7, 8, 9, 11] rfl (.cf rfl rfl (.cf rfl rfl (.cf rfl rfl (.cf rfl rfl (.cf rfl rfl (.cons rfl (.c (lsr rfl rfl)) (.cr rfl rfl rfl (.cr rfl rfl rfl .nil)))))))) (.row (by decide) rfl (fr_map fun _ => rfl) (.row (by decide) rfl (fr_map fun _ => rfl) (.row (by decide) rfl (fr_map fun _ => rfl) (.row (by decide) rfl (fr_map fun _ => rfl) (.box (by decide) rfl (blkAs_cells (.sm rfl (.sm rfl (.cons (lstC_ren rfl (by decide)) (.cons (lstC_ren rfl (by decide)) (.cons (lstC_ren rfl (by decide)) .nil)))))) (.box (by decide) rfl (blkAs_cells (.sm rfl (.sm rfl (.sm rfl (.sm rfl (.sm rfl .nil)))))) .nil)))))))
  ·refine Sv.skip ?_
   exact hself r_1.1.Now r_1.1.Next r_1.1.Tasks r_1.1.Smalls r_1.1.Timers out3 r_1.2.2 z_3 hz_3 z_4 hz_4 z_5 hz_5 zout3 hzout3 h _ (wcn [0, 1, 7, 8, 9, 5] rfl (.cf rfl rfl (.cf rfl rfl (.cf rfl rfl (.cf rfl rfl (.cf rfl rfl (.cons rfl (.c (lsr rfl rfl)) (.cr rfl rfl rfl (.cr rfl rfl rfl .nil)))))))) (.row (by decide) rfl (fr_map fun _ => rfl) (.row (by decide) rfl (fr_map fun _ => rfl) (.row (by decide) rfl (fr_map fun _ => rfl) (.row (by decide) rfl (fr_map fun _ => rfl) (.box (by decide) rfl (blkAs_cells (.sm rfl (.sm rfl (.cons (lstC_ren rfl (by decide)) (.cons (lstC_ren rfl (by decide)) (.cons (lstC_ren rfl (by decide)) .nil)))))) (.box (by decide) rfl (blkAs_cells (.sm rfl (.sm rfl (.sm rfl (.sm rfl (.sm rfl .nil)))))) .nil)))))))
 ·refine Sv.exit ?_
  exact hK4 q03 q13 q23 q33 q43 out3 zq23 hzq23 zq33 hzq33 zq43 hzq43 zout3 hzout3 h _ (wcn [0, 1, 2, 3, 4, 5] rfl (.cf rfl rfl (.cf rfl rfl (.cf rfl rfl (.cons rfl (.c (lsr rfl rfl)) (.cr rfl rfl rfl (.cr rfl rfl rfl .nil)))))) (.row (by decide) rfl (fr_map fun _ => rfl) (.row (by decide) rfl (fr_map fun _ => rfl) (.row (by decide) rfl (fr_map fun _ => rfl) (.row (by decide) rfl (fr_map fun _ => rfl) (.box (by decide) rfl (blkAs_cells (.sm rfl (.sm rfl (.cons (lstC_ren rfl (by decide)) (.cons (lstC_ren rfl (by decide)) (.cons (lstC_ren rfl (by decide)) .nil)))))) (.box (by decide) rfl (blkAs_cells (.sm rfl (.sm rfl (.sm rfl (.sm rfl (.sm rfl .nil)))))) .nil)))))))
abbrev Z47 (asks : (List TJAsk)) (F_ : Nat → Int → Int → (List TJJob) → (List TJJob) → (List TJTimer) → (List TJJob) → Int → Option ((List TJJob) × TJLoop × Int)) (o : ((List TJJob) × TJLoop × Int)) : Nat → St → Prop := fun k s => ∃ (q0 : Int), ∃ (q1 : Int), ∃ (q2 : (List TJJob)), ∃ (q3 : (List TJJob)), ∃ (q4 : (List TJTimer)), ∃ (out : (List TJJob)), ∃ (v35 : Int), ∃ (zq2 : Bool), (zq2 = true → q2 = []) ∧ ∃ (zq3 : Bool), (zq3 = true → q3 = []) ∧ ∃ (zq4 : Bool), (zq4 = true → q4 = []) ∧ ∃ (zout : Bool), (zout = true → out = []) ∧ F_ k q0 q1 q2 q3 q4 out v35 = some o ∧ s = ⟨(ue [(35, (I v35)), (34, (I (asks.length : Int))), (33, (.c (.ro false 7 (asks.map e_TJAsk)))), (8, (lstV zout 5 7 out.length)), (7, (.c (.ref 1 5 0 0))), (3, (.c (.ref 0 5 0 0)))]), (upd (upd (upd (upd (upd (upd e0 0 (some (.cells 5 [[cI 0, cI 0, .ro true 7 [], .ro true 7 [], .ro true 5 []]]))) 1 (some (.cells 5 [[cI q0, cI q1, lstC zq2 2 7 q2.length, lstC zq3 3 7 q3.length, lstC zq4 4 5 q4.length]]))) 2 (lstB zq2 7 (q2.map e_TJJob))) 3 (lstB zq3 7 (q3.map e_TJJob))) 4 (lstB zq4 5 (q4.map e_TJTimer))) 5 (lstB zout 7 (out.map e_TJJob))), 6⟩
noncomputable def Z4 (asks : (List TJAsk)) (K2_ : Int → Int → (List TJJob) → (List TJJob) → (List TJTimer) → (List TJJob) → Option ((List TJJob) × TJLoop × Int)) : Nat → Int → Int → (List TJJob) → (List TJJob) → (List TJTimer) → (List TJJob) → Int → Option ((List TJJob) × TJLoop × Int)
 | 0, _, _, _, _, _, _, _ => none
 | k + 1, q0, q1, q2, q3, q4, out, v35 =>
  if decide (v35 < (asks.length : Int)) then
   (at? asks v35).bind fun x_1 =>
   if (!decide (x_1.Do = 6)) then
    (Zu (⟨q0, q1, q2, q3, q4⟩ : TJLoop) x_1).bind fun r_ =>
    if decide (r_.2.2 = 0) then
     Z1q v35 asks (Z4 asks K2_ k) K2_ r_.1.Now r_.1.Next r_.1.Tasks r_.1.Smalls r_.1.Timers out
    else
     Z1q v35 asks (Z4 asks K2_ k) K2_ q0 q1 q2 q3 q4 out
   else
    lim fun kk => Z7 q0 x_1 asks v35 (fun (q04 : Int) (q14 : Int) (q24 : (List TJJob)) (q34 : (List TJJob)) (q44 : (List TJTimer)) (out4 : (List TJJob)) => 
      Z1q v35 asks (Z4 asks K2_ k) K2_ q04 q14 q24 q34 q44 out4) kk q0 q1 q2 q3 q4 out ((Z1 x_1.N 0 1000000) && (decide ((wi (q0 + x_1.N)) ≤ 1000000000)))
  else
   K2_ q0 q1 q2 q3 q4 out
theorem Z6v {Γ : Glob} {Q : AExit → St → Prop} {asks : (List TJAsk)} {K2_ : Int → Int → (List TJJob) → (List TJJob) → (List TJTimer) → (List TJJob) → Option ((List TJJob) × TJLoop × Int)} {k : Nat} {q0 : Int} {q1 : Int} {q2 : (List TJJob)} {q3 : (List TJJob)} {q4 : (List TJTimer)} {out : (List TJJob)} {v35 : Int} {zq2 : Bool} (hzq2 : zq2 = true → q2 = []) {zq3 : Bool} (hzq3 : zq3 = true → q3 = []) {zq4 : Bool} (hzq4 : zq4 = true → q4 = []) {zout : Bool} (hzout : zout = true → out = []) {o : ((List TJJob) × TJLoop × Int)} (h : Z4 asks K2_ k q0 q1 q2 q3 q4 out v35 = some o)
  (hK2 : Z45 K2_ o (Q (.exit 2)))
  (hr : ∀ s, Ends a14.results 0 (Z1p o) .ret s → Q .ret s) :
  Sv Try.prog Γ 0 (.loop a14_c3) Q ⟨(ue [(35, (I v35)), (34, (I (asks.length : Int))), (33, (.c (.ro false 7 (asks.map e_TJAsk)))), (8, (lstV zout 5 7 out.length)), (7, (.c (.ref 1 5 0 0))), (3, (.c (.ref 0 5 0 0)))]), (upd (upd (upd (upd (upd (upd e0 0 (some (.cells 5 [[cI 0, cI 0, .ro true 7 [], .ro true 7 [], .ro true 5 []]]))) 1 (some (.cells 5 [[cI q0, cI q1, lstC zq2 2 7 q2.length, lstC zq3 3 7 q3.length, lstC zq4 4 5 q4.length]]))) 2 (lstB zq2 7 (q2.map e_TJJob))) 3 (lstB zq3 7 (q3.map e_TJJob))) 4 (lstB zq4 5 (q4.map e_TJTimer))) 5 (lstB zout 7 (out.map e_TJJob))), 6⟩ := by
 refine Sv.loop (I := Z47 asks (Z4 asks K2_) o) (fun k s hI => ?_) ⟨q0, q1, q2, q3, q4, out, v35, zq2, hzq2, zq3, hzq3, zq4, hzq4, zout, hzout, h, rfl⟩
 clear h
 clear hzout hzq4 hzq3 hzq2 zout zq4 zq3 zq2 v35 out q4 q3 q2 q1 q0
 obtain ⟨q0, q1, q2, q3, q4, out, v35, zq2, hzq2, zq3, hzq3, zq4, hzq4, zout, hzout, h, rfl⟩ := hI
 cases k with
 | zero => cases h
 | succ k =>
 rw [Z4] at h
 have hself : Z44 asks (Z4 asks K2_ k) o (rnd 0 (Z47 asks (Z4 asks K2_) o) k Q) := fun q0 q1 q2 q3 q4 out v35 zq2 hzq2 zq3 hzq3 zq4 hzq4 zout hzout h s hw => ⟨_, k, hw, Nat.lt_succ_self k, q0, q1, q2, q3, q4, out, v35, zq2, hzq2, zq3, hzq3, zq4, hzq4, zout, hzout, h, rfl⟩
 refine ssr <| un1 (v := (B (decide (v35 < (asks.length : Int))))) rfl <| dnil <| Sv.seq ?_
 refine Sv.cnd rfl h (fun h => ?_) fun h => ?_
 ·refine Sv.skip <| Sv.seq <| Sv.block <| ssr ?_
  obtain ⟨x_1, hx2, h⟩ := bnd h
  refine un1 (v := (.c (.rop (e_TJAsk x_1)))) (s_iaddr (e := e_TJAsk) (xs := asks) rfl rfl hx2) <| un1 (v := (.agg (e_TJAsk x_1))) rfl <| un <| a2v (v := (.c (.ref 6 7 0 0))) (h' := upd _ 6 (some (.cells 7 [[cI 0, cI 0, cI 0, .str [], cI 0, cI 0, .str []]]))) (n' := 7) rfl rfl hcs <| un <| a2n (h' := upd _ 6 (some (.cells 7 [(e_TJAsk x_1)]))) (n' := 7) rfl rfl hcs <| dnil <| Sv.seq <| ssr <| un1 (v := (.c (.ref 6 7 0 0))) rfl <| un1 (v := (I x_1.Do)) rfl <| un1 (v := (B (!decide (x_1.Do = 6)))) rfl <| dnil ?_
  refine Sv.cnd rfl h (fun h => ?_) fun h => ?_
  ·refine Sv.seq <| ssr <| un1 (v := (.agg [cI q0, cI q1, lstC zq2 2 7 q2.length, lstC zq3 3 7 q3.length, lstC zq4 4 5 q4.length])) rfl <| un1 (v := (.agg (e_TJAsk x_1))) rfl ?_
   obtain ⟨r_, hr1, h⟩ := bnd h
   refine un <| ac_gen (bs := []) («as» := [(.agg [cI q0, cI q1, .ro false 7 (q2.map e_TJJob), .ro false 7 (q3.map e_TJJob), .ro false 5 (q4.map e_TJTimer)]), (.agg (e_TJAsk x_1))]) (h2 := (upd (upd (upd _ 2 none) 3 none) 4 none)) (h1 := e0) (Z6m hr1) rfl (.cons (avAs_agg (.sm rfl (.sm rfl (.cons (lstC_ro (es := List.map e_TJJob q2) rfl (List.length_map e_TJJob).symm (map_nil_of hzq2) (gone rfl) (fr_map fun _ => rfl)) (.cons (lstC_ro (es := List.map e_TJJob q3) rfl (List.length_map e_TJJob).symm (map_nil_of hzq3) (gone rfl) (fr_map fun _ => rfl)) (.cons (lstC_ro (es := List.map e_TJTimer q4) rfl (List.length_map e_TJTimer).symm (map_nil_of hzq4) (gone rfl) (fr_map fun _ => rfl)) .nil)))))) (.cons (avAs_free rfl) .nil)) (hsub_none (hsub_none (hsub_none (hsub_refl _)))) (.nil _) (fun _ => rfl) (by decide) (by decide) (.cons (avAs_free rfl) (.cons (avAs_free rfl) .nil)) .nil ?_
   rintro _ _ _ hn ⟨z_, hz_, z_1, hz_1, z_2, hz_2, rfl, rfl, rfl⟩
   refine ⟨.inr ⟨(by cases z_ <;> cases z_1 <;> cases z_2 <;> rfl), (.row (cl_map fun _ => rfl) (.row (cl_map fun _ => rfl) (.row (cl_map fun _ => rfl) .nil)))⟩, (upd (upd (upd (rem [] _) 7 (lstB z_ 7 (r_.1.Tasks.map e_TJJob))) 8 (lstB z_1 7 (r_.1.Smalls.map e_TJJob))) 9 (lstB z_2 5 (r_.1.Timers.map e_TJTimer))), fun hbd => (m3_cons (m3_row rfl (fr_map fun _ => rfl)) (m3_cons (m3_row rfl (fr_map fun _ => rfl)) (m3_cons (m3_row rfl (fr_map fun _ => rfl)) (m3_rem (in_nil _) (.cons (by decide) (.cons (by decide) (.cons (by decide) .nil))) hbd)))), (.tup [(.agg [cI r_.1.Now, cI r_.1.Next, lstC z_ 7 7 r_.1.Tasks.length, lstC z_1 8 7 r_.1.Smalls.length, lstC z_2 9 5 r_.1.Timers.length]), (I r_.2.1), (I r_.2.2)]), 10, (by cases z_ <;> cases z_1 <;> cases z_2 <;> rfl), rfl, ?_⟩
   refine un1 rfl <| un1 (v := (.agg [cI r_.1.Now, cI r_.1.Next, lstC z_ 7 7 r_.1.Tasks.length, lstC z_1 8 7 r_.1.Smalls.length, lstC z_2 9 5 r_.1.Timers.length])) rfl <| un1 (v := (I r_.2.1)) rfl <| un1 (v := (I r_.2.2)) rfl <| un <| a2v (v := (.c (.ref 10 5 0 0))) (h' := upd _ 10 (some (.cells 5 [[cI 0, cI 0, .ro true 7 [], .ro true 7 [], .ro true 5 []]]))) (n' := 11) rfl rfl hcs <| un <| a2n (h' := upd _ 10 (some (.cells 5 [[cI r_.1.Now, cI r_.1.Next, lstC z_ 7 7 r_.1.Tasks.length, lstC z_1 8 7 r_.1.Smalls.length, lstC z_2 9 5 r_.1.Timers.length]]))) (n' := 11) rfl rfl hcs <| un1 rfl <| un1 rfl <| dnil <| ssr <| un1 rfl <| un1 (v := (B (decide (r_.2.2 = 0)))) rfl <| dnil ?_
   refine Sv.cnd rfl h (fun h => ?_) fun h => ?_
   ·refine srg <| un1 (v := (.agg [cI r_.1.Now, cI r_.1.Next, lstC z_ 7 7 r_.1.Tasks.length, lstC z_1 8 7 r_.1.Smalls.length, lstC z_2 9 5 r_.1.Timers.length])) rfl <| un <| a2n (h' := upd _ 1 (some (.cells 5 [[cI r_.1.Now, cI r_.1.Next, lstC z_ 7 7 r_.1.Tasks.length, lstC z_1 8 7 r_.1.Smalls.length, lstC z_2 9 5 r_.1.Timers.length]]))) (n' := 11) rfl rfl hcs <| dnil <| Sv.exit ?_
    exact Sv.weak (wcn [0, 1, 7, 8, 9, 5] rfl (.cf rfl rfl (.cf rfl rfl (.cf rfl rfl (.cons rfl (.c (lsr rfl rfl)) (.cr rfl rfl rfl (.cr rfl rfl rfl .nil)))))) (.row (by decide) rfl (fr_map fun _ => rfl) (.row (by decide) rfl (fr_map fun _ => rfl) (.row (by decide) rfl (fr_map fun _ => rfl) (.row (by decide) rfl (fr_map fun _ => rfl) (.box (by decide) rfl (blkAs_cells (.sm rfl (.sm rfl (.cons (lstC_ren rfl (by decide)) (.cons (lstC_ren rfl (by decide)) (.cons (lstC_ren rfl (by decide)) .nil)))))) (.box (by decide) rfl (blkAs_cells (.sm rfl (.sm rfl (.sm rfl (.sm rfl (.sm rfl .nil)))))) .nil))))))) (Z30 hz_ hz_1 hz_2 hzout h hself hK2 hr)
   ·refine Sv.skip <| Sv.exit ?_
    exact Sv.weak (wcn [0, 1, 2, 3, 4, 5] rfl (.cf rfl rfl (.cf rfl rfl (.cf rfl rfl (.cons rfl (.c (lsr rfl rfl)) (.cr rfl rfl rfl (.cr rfl rfl rfl .nil)))))) (.row (by decide) rfl (fr_map fun _ => rfl) (.row (by decide) rfl (fr_map fun _ => rfl) (.row (by decide) rfl (fr_map fun _ => rfl) (.row (by decide) rfl (fr_map fun _ => rfl) (.box (by decide) rfl (blkAs_cells (.sm rfl (.sm rfl (.cons (lstC_ren rfl (by decide)) (.cons (lstC_ren rfl (by decide)) (.cons (lstC_ren rfl (by decide)) .nil)))))) (.box (by decide) rfl (blkAs_cells (.sm rfl (.sm rfl (.sm rfl (.sm rfl (.sm rfl .nil)))))) .nil))))))) (Z30 hzq2 hzq3 hzq4 hzout h hself hK2 hr)
  ·refine Sv.skip <| ssr <| un1 (v := (.c (.ref 1 5 0 0))) rfl <| un1 (v := (I q0)) rfl <| un1 (v := (.c (.ref 6 7 0 2))) rfl <| un1 (v := (I x_1.N)) rfl <| un1 (v := (I (wi (q0 + x_1.N)))) rfl <| un1 rfl <| dnil <| ssr <| un1 (v := (.c (.ref 6 7 0 2))) rfl <| un1 (v := (I x_1.N)) rfl <| un <| ac_pure (Zf (Γ := Γ) x_1.N 0 1000000) rfl rfl rfl <| un1 rfl ?_
   refine gjoin 3 (d := 63) (v := (B ((Z1 x_1.N 0 1000000) && (decide ((wi (q0 + x_1.N)) ≤ 1000000000))))) (fun X hX => ?_) ?_
   ·refine split2 (fun hc7 => ?_) (fun hc7 => ?_)
    ·refine gt rfl <| a1 rfl <| gt rfl <| a1 (v := (B (decide ((wi (q0 + x_1.N)) ≤ 1000000000)))) rfl <| un1 (v := (B (decide ((wi (q0 + x_1.N)) ≤ 1000000000)))) rfl <| dnil ?_
     exact hX _ (.putEq (by rw [hc7]; rfl) (.skp (.skp (.putEq (by rw [hc7]) (.refl _)) rfl) rfl))
    ·refine gs rfl rfl <| gs rfl rfl <| un1 (v := (B false)) rfl <| dnil ?_
     exact hX _ (.putEq (by rw [hc7]; rfl) (.skp (.skp (.putEq (by rw [hc7]) (.refl _)) rfl) rfl))
   refine un1 rfl <| dnil <| Sv.block ?_
   obtain ⟨kk, h⟩ := lim_some h
   refine Sv.weak (wcn [0, 1, 2, 3, 4, 5] rfl (.cf rfl rfl (.cf rfl rfl (.cf rfl rfl (.cf rfl rfl (.cf rfl rfl (.cons rfl (.c (lsr rfl rfl)) (.cr rfl rfl rfl (.cr rfl rfl rfl .nil)))))))) (.row (by decide) rfl (fr_map fun _ => rfl) (.row (by decide) rfl (fr_map fun _ => rfl) (.row (by decide) rfl (fr_map fun _ => rfl) (.row (by decide) rfl (fr_map fun _ => rfl) (.box (by decide) rfl (blkAs_cells (.sm rfl (.sm rfl (.cons (lstC_ren rfl (by decide)) (.cons (lstC_ren rfl (by decide)) (.cons (lstC_ren rfl (by decide)) .nil)))))) (.box (by decide) rfl (blkAs_cells (.sm rfl (.sm rfl (.sm rfl (.sm rfl (.sm rfl .nil)))))) .nil))))))) (Z6u hzq2 hzq3 hzq4 hzout h ?_ hr)
   ·intro q04 q14 q24 q34 q44 out4 zq24 hzq24 zq34 hzq34 zq44 hzq44 zout4 hzout4 h _ hw2
    exact Sv.weak (hw2.trans (wcn [0, 1, 2, 3, 4, 5] rfl (.cf rfl rfl (.cf rfl rfl (.cf rfl rfl (.cons rfl (.c (lsr rfl rfl)) (.cr rfl rfl rfl (.cr rfl rfl rfl .nil)))))) (.row (by decide) rfl (fr_map fun _ => rfl) (.row (by decide) rfl (fr_map fun _ => rfl) (.row (by decide) rfl (fr_map fun _ => rfl) (.row (by decide) rfl (fr_map fun _ => rfl) (.box (by decide) rfl (blkAs_cells (.sm rfl (.sm rfl (.cons (lstC_ren rfl (by decide)) (.cons (lstC_ren rfl (by decide)) (.cons (lstC_ren rfl (by decide)) .nil)))))) (.box (by decide) rfl (blkAs_cells (.sm rfl (.sm rfl (.sm rfl (.sm rfl (.sm rfl .nil)))))) .nil)))))))) (Z30 hzq24 hzq34 hzq44 hzout4 h hself hK2 hr)
 ·refine Sv.exit ?_
  exact hK2 q0 q1 q2 q3 q4 out zq2 hzq2 zq3 hzq3 zq4 hzq4 zout hzout h _ (wcn [0, 1, 2, 3, 4, 5] rfl (.cons rfl (.c (lsr rfl rfl)) (.cr rfl rfl rfl (.cr rfl rfl rfl .nil))) (.row (by decide) rfl (fr_map fun _ => rfl) (.row (by decide) rfl (fr_map fun _ => rfl) (.row (by decide) rfl (fr_map fun _ => rfl) (.row (by decide) rfl (fr_map fun _ => rfl) (.box (by decide) rfl (blkAs_cells (.sm rfl (.sm rfl (.cons (lstC_ren rfl (by decide)) (.cons (lstC_ren rfl (by decide)) (.cons (lstC_ren rfl (by decide)) .nil)))))) (.box (by decide) rfl (blkAs_cells (.sm rfl (.sm rfl (.sm rfl (.sm rfl (.sm rfl .nil)))))) .nil)))))))
/-- clerestory/loop.Play -/
noncomputable def Z2l (asks : (List TJAsk)) : Option ((List TJJob) × TJLoop × Int) :=
 if decide (200 < (asks.length : Int)) then
  some (([] : List TJJob), (⟨0, 0, [], [], []⟩ : TJLoop), 2)
 else
  lim fun kk2 => Zc asks (fun (_ : Unit) => 
    lim fun kk1 => Z4 asks (fun (q01 : Int) (q11 : Int) (q21 : (List TJJob)) (q31 : (List TJJob)) (q41 : (List TJTimer)) (out1 : (List TJJob)) => 
      some (out1, (⟨q01, q11, q21, q31, q41⟩ : TJLoop), 0)) kk1 0 0 ([] : List TJJob) ([] : List TJJob) ([] : List TJTimer) ([] : List TJJob) 0) kk2 0
theorem Z6w {Γ : Glob} {asks : (List TJAsk)} {r : ((List TJJob) × TJLoop × Int)} (h : Z2l asks = some r) : ACalls Try.prog Γ 14 [(.c (.ro false 7 (asks.map e_TJAsk)))] e0 0 (Z1p r) := by
 refine acalls_of_sv hmix c14 (R := Z1p r) ?_
 unfold Z2l at h
 refine ssr <| un1 rfl <| un <| a2v (v := (.c (.ref 0 5 0 0))) (h' := upd _ 0 (some (.cells 5 [[cI 0, cI 0, .ro true 7 [], .ro true 7 [], .ro true 5 []]]))) (n' := 1) rfl rfl hcs <| un1 rfl <| dnil <| Sv.seq <| ssr <| un1 rfl <| un1 (v := (I (asks.length : Int))) (s_len (e := e_TJAsk) (xs := asks) rfl) <| un1 (v := (B (decide (200 < (asks.length : Int))))) rfl <| dnil ?_
 refine Sv.cnd rfl h (fun h => ?_) fun h => ?_
 ·refine ssr <| un1 (v := (.agg [cI 0, cI 0, .ro true 7 [], .ro true 7 [], .ro true 5 []])) rfl <| un1 rfl <| un <| a2n (h' := upd _ 0 (some (.cells 5 [[cI 0, cI 0, .ro true 7 [], .ro true 7 [], .ro true 5 []]]))) (n' := 1) rfl rfl hcs <| un1 rfl <| dnil <| Sv.ret ?_
  replace h := Option.some.inj h
  subst h
  exact ⟨_, .refl _, _, rfl, ⟨upd e0 0 (some (.tup [(lstV true 0 7 ([] : List TJJob).length), (.agg [cI 0, cI 0, lstC true 1 7 ([] : List TJJob).length, lstC true 2 7 ([] : List TJJob).length, lstC true 3 5 ([] : List TJTimer).length]), (I 2)])), (upd (upd (upd (upd e0 0 (lstB true 7 (([] : List TJJob).map e_TJJob))) 1 (lstB true 7 (([] : List TJJob).map e_TJJob))) 2 (lstB true 7 (([] : List TJJob).map e_TJJob))) 3 (lstB true 5 (([] : List TJTimer).map e_TJTimer))), 4⟩, (.tup [(lstV true 0 7 ([] : List TJJob).length), (.agg [cI 0, cI 0, lstC true 1 7 ([] : List TJJob).length, lstC true 2 7 ([] : List TJJob).length, lstC true 3 5 ([] : List TJTimer).length]), (I 2)]), weak_canon2 [1000, 1001, 1002, 1003] [0, 1, 2, 3] (by decide) (by decide) nlz (.cons (by decide) (.cons (by decide) (.cons (by decide) (.cons (by decide) .nil)))) (.cons rfl (avAs_tup (.cons (.c (.same rfl)) (.cons (avAs_agg (.sm rfl (.sm rfl (.sm rfl (.sm rfl (.sm rfl .nil)))))) (.cons (avAs_free rfl) .nil)))) .nil) (.non (by decide) (.non (by decide) (.non (by decide) (.non (by decide) .nil)))), rfl, true, (fun _ => rfl), true, (fun _ => rfl), true, (fun _ => rfl), true, (fun _ => rfl), rfl, rfl, rfl⟩
 ·refine Sv.skip <| Sv.seq <| ssr <| un1 rfl <| un1 (v := (I (asks.length : Int))) (s_len (e := e_TJAsk) (xs := asks) rfl) <| un1 rfl <| dnil <| Sv.block ?_
  obtain ⟨kk2, h⟩ := lim_some h
  refine Sv.weak (wcn [0] rfl (.cf rfl rfl (.cf rfl rfl (.cf rfl rfl (.cr rfl rfl rfl (.cf rfl rfl .nil))))) (.box (by decide) rfl (blkAs_cells (.sm rfl (.sm rfl (.sm rfl (.sm rfl (.sm rfl .nil)))))) .nil)) (Z6r h ?_ (fun s hs => hs))
  ·intro _ h _ hw1
   refine Sv.weak hw1 <| ssr <| un <| a2v (v := (.c (.ref 1 5 0 0))) (h' := upd _ 1 (some (.cells 5 [[cI 0, cI 0, .ro true 7 [], .ro true 7 [], .ro true 5 []]]))) (n' := 2) rfl rfl hcs <| dnil <| ssr <| un1 rfl <| dnil <| Sv.seq <| ssr <| un1 rfl <| un1 (v := (I (asks.length : Int))) (s_len (e := e_TJAsk) (xs := asks) rfl) <| un1 rfl <| dnil <| Sv.block ?_
   obtain ⟨kk1, h⟩ := lim_some h
   refine Sv.weak (wcn [0, 1, 1000, 1001, 1002, 1003] rfl (.cf rfl rfl (.cf rfl rfl (.cf rfl rfl (.cons rfl (.c (.same rfl)) (.cr rfl rfl rfl (.cr rfl rfl rfl .nil)))))) (.non (by decide) (.non (by decide) (.non (by decide) (.non (by decide) (.box (by decide) rfl (blkAs_cells (.sm rfl (.sm rfl (.sm rfl (.sm rfl (.sm rfl .nil)))))) (.box (by decide) rfl (blkAs_cells (.sm rfl (.sm rfl (.sm rfl (.sm rfl (.sm rfl .nil)))))) .nil))))))) (Z6v (fun _ => rfl) (fun _ => rfl) (fun _ => rfl) (fun _ => rfl) h ?_ (fun s hs => hs))
   ·intro q01 q11 q21 q31 q41 out1 zq21 hzq21 zq31 hzq31 zq41 hzq41 zout1 hzout1 h _ hw3
    refine Sv.weak hw3 <| Sv.seq <| Sv.drawn <| un1 rfl <| un1 (v := (.agg [cI q01, cI q11, lstC zq21 2 7 q21.length, lstC zq31 3 7 q31.length, lstC zq41 4 5 q41.length])) rfl <| un1 rfl <| un <| a2n (h' := upd _ 0 (some (.cells 5 [[cI q01, cI q11, lstC zq21 2 7 q21.length, lstC zq31 3 7 q31.length, lstC zq41 4 5 q41.length]]))) (n' := 6) rfl rfl hcs <| un1 rfl <| dnil <| Sv.ret ?_
    replace h := Option.some.inj h
    subst h
    exact ⟨_, .refl _, _, rfl, ⟨upd e0 0 (some (.tup [(lstV zout1 0 7 out1.length), (.agg [cI q01, cI q11, lstC zq21 1 7 q21.length, lstC zq31 2 7 q31.length, lstC zq41 3 5 q41.length]), (I 0)])), (upd (upd (upd (upd e0 0 (lstB zout1 7 (out1.map e_TJJob))) 1 (lstB zq21 7 (q21.map e_TJJob))) 2 (lstB zq31 7 (q31.map e_TJJob))) 3 (lstB zq41 5 (q41.map e_TJTimer))), 4⟩, (.tup [(lstV zout1 0 7 out1.length), (.agg [cI q01, cI q11, lstC zq21 1 7 q21.length, lstC zq31 2 7 q31.length, lstC zq41 3 5 q41.length]), (I 0)]), weak_canon2 [5, 2, 3, 4] [0, 1, 2, 3] (by decide) (by decide) nlz (.cons (by decide) (.cons (by decide) (.cons (by decide) (.cons (by decide) .nil)))) (.cons rfl (avAs_tup (.cons (.c (lsr rfl rfl)) (.cons (avAs_agg (.sm rfl (.sm rfl (.cons (lstC_ren rfl (by decide)) (.cons (lstC_ren rfl (by decide)) (.cons (lstC_ren rfl (by decide)) .nil)))))) (.cons (avAs_free rfl) .nil)))) .nil) (.row (by decide) rfl (fr_map fun _ => rfl) (.row (by decide) rfl (fr_map fun _ => rfl) (.row (by decide) rfl (fr_map fun _ => rfl) (.row (by decide) rfl (fr_map fun _ => rfl) .nil)))), rfl, zout1, hzout1, zq21, hzq21, zq31, hzq31, zq41, hzq41, rfl, rfl, rfl⟩
def a12 : AFunc := ⟨3, [(.tmp 6)], (sr [(oP 6 (.mov kF))]
 (sr [(mV 7 1), (mV 8 0), (oP 9 (.bin .leq (.tmp 7) (.tmp 8))), (mV 10 9), ⟨(some 11), (.mov (.tmp 0)), (some (10, true))⟩, ⟨(some 12), (.mov (.tmp 2)), (some (10, true))⟩, ⟨(some 13), (.bin .leq (.tmp 11) (.tmp 12)), (some (10, true))⟩, (oP 14 (.pick (.tmp 10) (.tmp 13) kF)), (mV 6 14)]
 .ret))⟩
theorem c12 : compFunc Try.prog 12 = some a12 := by kernel_rfl
def Z6x (r : Bool) : AV → Heap → Nat → Prop := fun v h' n' => v = (B r) ∧ (h' = e0) ∧ n' = 0
/-- clerestory/clerestoryref4.Between -/
def Z3 (n_ : Int) (low : Int) (high : Int) : Bool :=
 ((decide (low ≤ n_)) && (decide (n_ ≤ high)))
theorem Z2m {Γ : Glob} (n_ : Int) (low : Int) (high : Int) : CPure Try.prog Γ 12 [(I n_), (I low), (I high)] (B (Z3 n_ low high)) := by
 generalize h : Z3 n_ low high = o
 refine acalls_of_sv hmix c12 (R := Z6x o) ?_
 unfold Z3 at h
 refine ssr <| un1 rfl <| dnil <| ssr <| un1 rfl <| un1 rfl <| un1 (v := (B (decide (low ≤ n_)))) rfl <| un1 rfl ?_
 refine gjoin 4 (d := 14) (v := (B ((decide (low ≤ n_)) && (decide (n_ ≤ high))))) (fun X hX => ?_) ?_
 ·refine split2 (fun hc1 => ?_) (fun hc1 => ?_)
  ·refine gt rfl <| a1 rfl <| gt rfl <| a1 rfl <| gt rfl <| a1 (v := (B (decide (n_ ≤ high)))) rfl <| un1 (v := (B (decide (n_ ≤ high)))) rfl <| dnil ?_
   exact hX _ (.putEq (by rw [hc1]; rfl) (.skp (.skp (.skp (.putEq (by rw [hc1]) (.refl _)) rfl) rfl) rfl))
  ·refine gs rfl rfl <| gs rfl rfl <| gs rfl rfl <| un1 (v := (B false)) rfl <| dnil ?_
   exact hX _ (.putEq (by rw [hc1]; rfl) (.skp (.skp (.skp (.putEq (by rw [hc1]) (.refl _)) rfl) rfl) rfl))
 refine un1 rfl <| dnil <| Sv.ret ?_
 subst h
 exact ⟨_, .refl _, _, rfl, ⟨upd e0 0 (some (B ((decide (low ≤ n_)) && (decide (n_ ≤ high))))), e0, 0⟩, (B ((decide (low ≤ n_)) && (decide (n_ ≤ high)))), weak_canon [] rfl ndl nll nlz (.cf rfl rfl .nil) .nil, rfl, rfl, rfl, rfl⟩
def a16 : AFunc := ⟨1, [(.tmp 2)], (sr [(oP 1 (.box (.tmp 0))), (oP 2 (.mov kF))]
 (sr [(oP 3 (.faddr 0 (.tmp 1))), (oP 4 (.load false 1 (.tmp 3))), (oP 5 (.call 12 [(.tmp 4), (kI 1), (kI 6)])), (oP 6 (.un .not (.tmp 5))), (mV 2 6)]
 .ret))⟩
theorem c16 : compFunc Try.prog 16 = some a16 := by kernel_rfl
def Z6y (r : Bool) : AV → Heap → Nat → Prop := fun v h' n' => v = (B r) ∧ (h' = e0) ∧ n' = 0
/-- clerestory/clerestorylaw4.LoopPlays$1 -/
def Z1r (a_ : TJAsk) : Bool :=
 (!(Z3 a_.Do 1 6))
theorem Z6z {Γ : Glob} (a_ : TJAsk) : CPure Try.prog Γ 16 [(.agg (e_TJAsk a_))] (B (Z1r a_)) := by
 generalize h : Z1r a_ = o
 refine acalls_of_sv hmix c16 (R := Z6y o) ?_
 unfold Z1r at h
 refine ssr <| un <| a2v (v := (.c (.ref 0 7 0 0))) (h' := upd _ 0 (some (.cells 7 [(e_TJAsk a_)]))) (n' := 1) rfl rfl hcs <| un1 rfl <| dnil <| ssr <| un1 (v := (.c (.ref 0 7 0 0))) rfl <| un1 (v := (I a_.Do)) rfl <| un <| ac_pure (Z2m (Γ := Γ) a_.Do 1 6) rfl rfl rfl <| un1 (v := (B (!(Z3 a_.Do 1 6)))) rfl <| un1 rfl <| dnil <| Sv.ret ?_
 subst h
 exact ⟨_, .refl _, _, rfl, ⟨upd e0 0 (some (B (!(Z3 a_.Do 1 6)))), e0, 0⟩, (B (!(Z3 a_.Do 1 6))), weak_canon [] rfl ndl nll nlz (.cf rfl rfl .nil) .nil, rfl, rfl, rfl, rfl⟩
def a48_c0 : ACode := (sr [(oP 9 (.bin .lss (.tmp 8) (.tmp 7)))]
 (.seq (.cond (.tmp 9) .skip (.exit 0))
 (.seq (.block 1 (sr [(mV 10 8), (mV 5 10)]
 (sr [(mV 11 1), (mV 12 0), (mV 13 5), (oP 14 (.iaddr 7 (.tmp 12) (.tmp 13))), (oP 15 (.load true 7 (.tmp 14))), (oP 16 (.callv (.tmp 11) [(.tmp 15)]))]
 (.cond (.tmp 16) (sr [(mV 17 5), (mV 4 17)]
 .ret) .skip))))
 (.region [(oP 18 (.bin .add (.tmp 8) (kI 1))), (mV 8 18)]))))
def a48 : AFunc := ⟨2, [(.tmp 4)], (sr [(oP 4 (.mov (kI 0)))]
 (.seq (sr [(mV 6 0), (oP 7 (.len (.tmp 6))), (oP 8 (.mov (kI 0)))]
 (.block 0 (.loop a48_c0)))
 (sr [(oP 4 (.mov (.const (.c (.val (.int .i64 (-1)))))))]
 .ret)))⟩
theorem c48 : compFunc Try.prog 48 = some a48 := by kernel_rfl
def Z48 (r : Int) : AV → Heap → Nat → Prop := fun v h' n' => v = (I r) ∧ (h' = e0) ∧ n' = 0
abbrev Z70 (F_ : Unit → Option Int) (o : Int) (R_ : St → Prop) : Prop := ∀ (_ : Unit), F_ () = some o → ∀ s, Weak 0 s ⟨e0, e0, 0⟩ → R_ s
abbrev Z49 (s_ : (List TJAsk)) (F_ : Nat → Int → Option Int) (o : Int) : Nat → St → Prop := fun k s => ∃ (v8 : Int), F_ k v8 = some o ∧ s = ⟨(ue [(8, (I v8)), (7, (I (s_.length : Int))), (1, (.c (.fn (.func 16) [] []))), (0, (.c (.ro false 7 (s_.map e_TJAsk))))]), e0, 0⟩
abbrev Z71 (s_ : (List TJAsk)) (F_ : Int → Option Int) (o : Int) (R_ : St → Prop) : Prop := ∀ (v8 : Int), F_ v8 = some o → ∀ s, Weak 0 s ⟨(ue [(8, (I v8)), (7, (I (s_.length : Int))), (1, (.c (.fn (.func 16) [] []))), (0, (.c (.ro false 7 (s_.map e_TJAsk))))]), e0, 0⟩ → R_ s
noncomputable def Zp (s_ : (List TJAsk)) (K0_ : Unit → Option Int) : Nat → Int → Option Int
 | 0, _ => none
 | k + 1, v8 =>
  if decide (v8 < (s_.length : Int)) then
   (at? s_ v8).bind fun x_ =>
   if (Z1r x_) then
    some v8
   else
    (Zp s_ K0_ k) (wi (v8 + 1))
  else
   K0_ ()
theorem Z72 {Γ : Glob} {Q : AExit → St → Prop} {s_ : (List TJAsk)} {K0_ : Unit → Option Int} {k : Nat} {v8 : Int} {o : Int} (h : Zp s_ K0_ k v8 = some o)
  (hK0 : Z70 K0_ o (Q (.exit 0)))
  (hr : ∀ s, Ends a48.results 0 (Z48 o) .ret s → Q .ret s) :
  Sv Try.prog Γ 0 (.loop a48_c0) Q ⟨(ue [(8, (I v8)), (7, (I (s_.length : Int))), (1, (.c (.fn (.func 16) [] []))), (0, (.c (.ro false 7 (s_.map e_TJAsk))))]), e0, 0⟩ := by
 refine Sv.loop (I := Z49 s_ (Zp s_ K0_) o) (fun k s hI => ?_) ⟨v8, h, rfl⟩
 clear h
 clear v8
 obtain ⟨v8, h, rfl⟩ := hI
 cases k with
 | zero => cases h
 | succ k =>
 rw [Zp] at h
 have hself : Z71 s_ (Zp s_ K0_ k) o (rnd 0 (Z49 s_ (Zp s_ K0_) o) k Q) := fun v8 h s hw => ⟨_, k, hw, Nat.lt_succ_self k, v8, h, rfl⟩
 refine ssr <| un1 (v := (B (decide (v8 < (s_.length : Int))))) rfl <| dnil <| Sv.seq ?_
 refine Sv.cnd rfl h (fun h => ?_) fun h => ?_
 ·refine Sv.skip <| Sv.seq <| Sv.block <| ssr <| un1 rfl <| un1 rfl <| dnil <| ssr <| un1 rfl <| un1 rfl <| un1 rfl ?_
  obtain ⟨x_, hx1, h⟩ := bnd h
  refine un1 (v := (.c (.rop (e_TJAsk x_)))) (s_iaddr (e := e_TJAsk) (xs := s_) rfl rfl hx1) <| un1 (v := (.agg (e_TJAsk x_))) rfl <| un <| acv_gen (bs := []) («as» := [(.agg (e_TJAsk x_))]) (h2 := _) (h1 := e0) rfl (by kernel_rfl) (Z6z (Γ := Γ) x_) rfl (.cons (avAs_free rfl) .nil) (hsub_refl _) (.nil _) (fun _ => rfl) (by decide) (by decide) (.cons (avAs_free rfl) .nil) .nil ?_
  rintro _ _ _ hn ⟨rfl, rfl, rfl⟩
  refine ⟨.inl rfl, (rem [] _), fun hbd => (m3_rem (in_nil _) (.nil) hbd), (B (Z1r x_)), 0, rfl, rfl, ?_⟩
  refine dnil ?_
  refine Sv.cnd rfl h (fun h => ?_) fun h => ?_
  ·refine ssr <| un1 rfl <| un1 rfl <| dnil <| Sv.ret ?_
   exact hr _ (rt0 h rfl rfl ⟨rfl, rfl, rfl⟩)
  ·refine Sv.skip <| srg <| un1 (v := (I (wi (v8 + 1)))) rfl <| un1 rfl <| dnil ?_
   exact hself (wi (v8 + 1)) h _ (wcn [] rfl (.cf rfl rfl (.cf rfl rfl (.cf rfl rfl (.cf rfl rfl .nil)))) .nil)
 ·refine Sv.exit ?_
  exact hK0 () h _ (wcn [] rfl .nil .nil)
/-- slices.IndexFunc(()clerestory/api.JAsk,clerestory/api.JAsk) -/
noncomputable def Z2n (s_ : (List TJAsk)) : Option Int :=
 lim fun kk => Zp s_ (fun (_ : Unit) => 
   some (-1)) kk 0
theorem Z73 {Γ : Glob} {s_ : (List TJAsk)} {r : Int} (h : Z2n s_ = some r) : CPure Try.prog Γ 48 [(.c (.ro false 7 (s_.map e_TJAsk))), (.c (.fn (.func 16) [] []))] (I r) := by
 refine acalls_of_sv hmix c48 (R := Z48 r) ?_
 unfold Z2n at h
 refine ssr <| un1 rfl <| dnil <| Sv.seq <| ssr <| un1 rfl <| un1 (v := (I (s_.length : Int))) (s_len (e := e_TJAsk) (xs := s_) rfl) <| un1 rfl <| dnil <| Sv.block ?_
 obtain ⟨kk, h⟩ := lim_some h
 refine Sv.weak (wcn [] rfl (.cf rfl rfl (.cf rfl rfl (.cf rfl rfl (.cf rfl rfl .nil)))) .nil) (Z72 h ?_ (fun s hs => hs))
 ·intro _ h _ hw1
  refine Sv.weak hw1 <| ssr <| un1 rfl <| dnil <| Sv.ret ?_
  exact rt0 h rfl rfl ⟨rfl, rfl, rfl⟩
def a15 : AFunc := ⟨2, [(.tmp 4)], (sr [(oP 4 (.mov kF))]
 (sr [(mV 5 0), (mV 6 1), (oP 7 (.call 48 [(.tmp 5), (.tmp 6)])), (oP 8 (.bin .geq (.tmp 7) (kI 0))), (mV 4 8)]
 .ret))⟩
theorem c15 : compFunc Try.prog 15 = some a15 := by kernel_rfl
def Z74 (r : Bool) : AV → Heap → Nat → Prop := fun v h' n' => v = (B r) ∧ (h' = e0) ∧ n' = 0
/-- slices.ContainsFunc(()clerestory/api.JAsk,clerestory/api.JAsk) -/
noncomputable def Z22 (s_ : (List TJAsk)) : Option Bool :=
 (Z2n s_).bind fun r_ =>
 some (decide (0 ≤ r_))
theorem Z75 {Γ : Glob} {s_ : (List TJAsk)} {r : Bool} (h : Z22 s_ = some r) : CPure Try.prog Γ 15 [(.c (.ro false 7 (s_.map e_TJAsk))), (.c (.fn (.func 16) [] []))] (B r) := by
 refine acalls_of_sv hmix c15 (R := Z74 r) ?_
 unfold Z22 at h
 refine ssr <| un1 rfl <| dnil <| ssr <| un1 rfl <| un1 rfl ?_
 obtain ⟨r_, hr1, h⟩ := bnd h
 refine un <| ac_pure (Z73 hr1) rfl rfl rfl <| un1 (v := (B (decide (0 ≤ r_)))) rfl <| un1 rfl <| dnil <| Sv.ret ?_
 exact rt0 h rfl rfl ⟨rfl, rfl, rfl⟩
def a18_c0 : ACode := (sr [(oP 14 (.bin .lss (.tmp 13) (.tmp 12)))]
 (.seq (.cond (.tmp 14) .skip (.exit 0))
 (.seq (.block 1 (sr [(mV 15 13), (mV 5 15)]
 (.seq (.drawn (.fin [((mV 16 0), (0, 0)), ((mV 17 5), (0, 1)), ((oP 18 (.iaddr 7 (.tmp 16) (.tmp 17))), (0, 2)), ((oP 19 (.load true 7 (.tmp 18))), (0, 3)), ((mV 20 1), (0, 4)), ((mV 21 5), (0, 5)), ((oP 22 (.iaddr 7 (.tmp 20) (.tmp 21))), (0, 6)), ((oP 23 (.load true 7 (.tmp 22))), (0, 7)), ((oP 24 (.eqs true true [.i, .i, .b, .s, .i, .i, .s] (.tmp 19) (.tmp 23))), (0, 8))]))
 (.cond (.tmp 24) (sr [(oP 4 (.mov kF))]
 .ret) .skip))))
 (.region [(oP 25 (.bin .add (.tmp 13) (kI 1))), (mV 13 25)]))))
def a18 : AFunc := ⟨2, [(.tmp 4)], (sr [(oP 4 (.mov kF))]
 (.seq (sr [(mV 6 0), (oP 7 (.len (.tmp 6))), (mV 8 1), (oP 9 (.len (.tmp 8))), (oP 10 (.bin .neq (.tmp 7) (.tmp 9)))]
 (.cond (.tmp 10) (sr [(oP 4 (.mov kF))]
 .ret) .skip))
 (.seq (sr [(mV 11 0), (oP 12 (.len (.tmp 11))), (oP 13 (.mov (kI 0)))]
 (.block 0 (.loop a18_c0)))
 (sr [(oP 4 (.mov kT))]
 .ret))))⟩
theorem c18 : compFunc Try.prog 18 = some a18 := by kernel_rfl
def Z4a (r : Bool) : AV → Heap → Nat → Prop := fun v h' n' => v = (B r) ∧ (h' = e0) ∧ n' = 0
abbrev Z76 (F_ : Unit → Option Bool) (o : Bool) (R_ : St → Prop) : Prop := ∀ (_ : Unit), F_ () = some o → ∀ s, Weak 0 s ⟨e0, e0, 0⟩ → R_ s
abbrev Z4b (s1 : (List TJJob)) (s2 : (List TJJob)) (F_ : Nat → Int → Option Bool) (o : Bool) : Nat → St → Prop := fun k s => ∃ (v13 : Int), F_ k v13 = some o ∧ s = ⟨(ue [(13, (I v13)), (12, (I (s1.length : Int))), (1, (.c (.ro false 7 (s2.map e_TJJob)))), (0, (.c (.ro false 7 (s1.map e_TJJob))))]), e0, 0⟩
abbrev Z77 (s1 : (List TJJob)) (s2 : (List TJJob)) (F_ : Int → Option Bool) (o : Bool) (R_ : St → Prop) : Prop := ∀ (v13 : Int), F_ v13 = some o → ∀ s, Weak 0 s ⟨(ue [(13, (I v13)), (12, (I (s1.length : Int))), (1, (.c (.ro false 7 (s2.map e_TJJob)))), (0, (.c (.ro false 7 (s1.map e_TJJob))))]), e0, 0⟩ → R_ s
noncomputable def Zv (s1 : (List TJJob)) (s2 : (List TJJob)) (K0_ : Unit → Option Bool) : Nat → Int → Option Bool
 | 0, _ => none
 | k + 1, v13 =>
  if decide (v13 < (s1.length : Int)) then
   (at? s1 v13).bind fun x_ =>
   (at? s2 v13).bind fun x_1 =>
   letIn (!(decide (x_.ID = x_1.ID) && (decide (x_.Source = x_1.Source) && ((x_.Small == x_1.Small) && (decide (x_.Call = x_1.Call) && (decide (x_.Arg.Kind = x_1.Arg.Kind) && (decide (x_.Arg.N = x_1.Arg.N) && (decide (x_.Arg.S = x_1.Arg.S) && true)))))))) fun v24 : Bool =>
   if v24 then
    some false
   else
    (Zv s1 s2 K0_ k) (wi (v13 + 1))
  else
   K0_ ()
theorem Z78 {Γ : Glob} {Q : AExit → St → Prop} {s1 : (List TJJob)} {s2 : (List TJJob)} {K0_ : Unit → Option Bool} {k : Nat} {v13 : Int} {o : Bool} (h : Zv s1 s2 K0_ k v13 = some o)
  (hK0 : Z76 K0_ o (Q (.exit 0)))
  (hr : ∀ s, Ends a18.results 0 (Z4a o) .ret s → Q .ret s) :
  Sv Try.prog Γ 0 (.loop a18_c0) Q ⟨(ue [(13, (I v13)), (12, (I (s1.length : Int))), (1, (.c (.ro false 7 (s2.map e_TJJob)))), (0, (.c (.ro false 7 (s1.map e_TJJob))))]), e0, 0⟩ := by
 refine Sv.loop (I := Z4b s1 s2 (Zv s1 s2 K0_) o) (fun k s hI => ?_) ⟨v13, h, rfl⟩
 clear h
 clear v13
 obtain ⟨v13, h, rfl⟩ := hI
 cases k with
 | zero => cases h
 | succ k =>
 rw [Zv] at h
 have hself : Z77 s1 s2 (Zv s1 s2 K0_ k) o (rnd 0 (Z4b s1 s2 (Zv s1 s2 K0_) o) k Q) := fun v13 h s hw => ⟨_, k, hw, Nat.lt_succ_self k, v13, h, rfl⟩
 refine ssr <| un1 (v := (B (decide (v13 < (s1.length : Int))))) rfl <| dnil <| Sv.seq ?_
 refine Sv.cnd rfl h (fun h => ?_) fun h => ?_
 ·refine Sv.skip <| Sv.seq <| Sv.block <| ssr <| un1 rfl <| un1 rfl <| dnil <| Sv.seq <| Sv.drawn <| un1 rfl <| un1 rfl ?_
  obtain ⟨x_, hx1, h⟩ := bnd h
  refine un1 (v := (.c (.rop (e_TJJob x_)))) (s_iaddr (e := e_TJJob) (xs := s1) rfl rfl hx1) <| un1 (v := (.agg (e_TJJob x_))) rfl <| un1 rfl <| un1 rfl ?_
  obtain ⟨x_1, hx2, h⟩ := bnd h
  refine un1 (v := (.c (.rop (e_TJJob x_1)))) (s_iaddr (e := e_TJJob) (xs := s2) rfl rfl hx2) <| un1 (v := (.agg (e_TJJob x_1))) rfl ?_
  obtain ⟨v24, hv24⟩ : ∃ v24 : Bool, v24 = (!(decide (x_.ID = x_1.ID) && (decide (x_.Source = x_1.Source) && ((x_.Small == x_1.Small) && (decide (x_.Call = x_1.Call) && (decide (x_.Arg.Kind = x_1.Arg.Kind) && (decide (x_.Arg.N = x_1.Arg.N) && (decide (x_.Arg.S = x_1.Arg.S) && true)))))))) := ⟨_, rfl⟩
  replace h := letAt hv24 h
  refine un1 (v := (B v24)) (by rw [hv24]; rfl) ?_
  clear hv24
  refine dnil ?_
  refine Sv.cnd rfl h (fun h => ?_) fun h => ?_
  ·refine ssr <| un1 rfl <| dnil <| Sv.ret ?_
   exact hr _ (rt0 h rfl rfl ⟨rfl, rfl, rfl⟩)
  ·refine Sv.skip <| srg <| un1 (v := (I (wi (v13 + 1)))) rfl <| un1 rfl <| dnil ?_
   exact hself (wi (v13 + 1)) h _ (wcn [] rfl (.cf rfl rfl (.cf rfl rfl (.cf rfl rfl (.cf rfl rfl .nil)))) .nil)
 ·refine Sv.exit ?_
  exact hK0 () h _ (wcn [] rfl .nil .nil)
/-- slices.Equal(()clerestory/api.JJob,clerestory/api.JJob) -/
noncomputable def Z19 (s1 : (List TJJob)) (s2 : (List TJJob)) : Option Bool :=
 if (!decide ((s1.length : Int) = (s2.length : Int))) then
  some false
 else
  lim fun kk => Zv s1 s2 (fun (_ : Unit) => 
    some true) kk 0
theorem Z31 {Γ : Glob} {s1 : (List TJJob)} {s2 : (List TJJob)} {r : Bool} (h : Z19 s1 s2 = some r) : CPure Try.prog Γ 18 [(.c (.ro false 7 (s1.map e_TJJob))), (.c (.ro false 7 (s2.map e_TJJob)))] (B r) := by
 refine acalls_of_sv hmix c18 (R := Z4a r) ?_
 unfold Z19 at h
 refine ssr <| un1 rfl <| dnil <| Sv.seq <| ssr <| un1 rfl <| un1 (v := (I (s1.length : Int))) (s_len (e := e_TJJob) (xs := s1) rfl) <| un1 rfl <| un1 (v := (I (s2.length : Int))) (s_len (e := e_TJJob) (xs := s2) rfl) <| un1 (v := (B (!decide ((s1.length : Int) = (s2.length : Int))))) rfl <| dnil ?_
 refine Sv.cnd rfl h (fun h => ?_) fun h => ?_
 ·refine ssr <| un1 rfl <| dnil <| Sv.ret ?_
  exact rt0 h rfl rfl ⟨rfl, rfl, rfl⟩
 ·refine Sv.skip <| Sv.seq <| ssr <| un1 rfl <| un1 (v := (I (s1.length : Int))) (s_len (e := e_TJJob) (xs := s1) rfl) <| un1 rfl <| dnil <| Sv.block ?_
  obtain ⟨kk, h⟩ := lim_some h
  refine Sv.weak (wcn [] rfl (.cf rfl rfl (.cf rfl rfl (.cf rfl rfl (.cf rfl rfl .nil)))) .nil) (Z78 h ?_ (fun s hs => hs))
  ·intro _ h _ hw1
   refine Sv.weak hw1 <| ssr <| un1 rfl <| dnil <| Sv.ret ?_
   exact rt0 h rfl rfl ⟨rfl, rfl, rfl⟩
end Go.Proofs.YtoomjemboekooaaBv
