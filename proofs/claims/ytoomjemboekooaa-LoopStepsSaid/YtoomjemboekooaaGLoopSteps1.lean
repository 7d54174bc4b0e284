/- Printed by a program of mine (bgen.py): plain functions, and the walks that show that the code comes to what they answer. -/
import Derived.Test.YtoomjemboekooaaGLoopSteps0
namespace Go.Proofs.YtoomjemboekooaaBv
open Go
set_option linter.unusedVariables false
set_option linter.unusedSimpArgs false
set_option maxRecDepth 100000
def a67_c0 : ACode := (sr [(oP 9 (.bin .lss (.tmp 8) (.tmp 7)))]
 (.seq (.cond (.tmp 9) .skip (.exit 0))
 (.seq (.block 1 (sr [(mV 10 8), (mV 5 10)]
 (sr [(mV 11 1), (mV 12 0), (mV 13 5), (oP 14 (.iaddr 5 (.tmp 12) (.tmp 13))), (oP 15 (.load true 5 (.tmp 14))), (oP 16 (.callv (.tmp 11) [(.tmp 15)]))]
 (.cond (.tmp 16) (sr [(mV 17 5), (mV 4 17)]
 .ret) .skip))))
 (.region [(oP 18 (.bin .add (.tmp 8) (kI 1))), (mV 8 18)]))))
def a67 : AFunc := ⟨2, [(.tmp 4)], (sr [(oP 4 (.mov (kI 0)))]
 (.seq (sr [(mV 6 0), (oP 7 (.len (.tmp 6))), (oP 8 (.mov (kI 0)))]
 (.block 0 (.loop a67_c0)))
 (sr [(oP 4 (.mov (.const (.c (.val (.int .i64 (-1)))))))]
 .ret)))⟩
theorem c67 : compFunc Try.prog 67 = some a67 := by kernel_rfl
def Z3s (r : Int) : AV → Heap → Nat → Prop := fun v h' n' => v = (I r) ∧ (h' = e0) ∧ n' = 0
abbrev Z67 (F_ : Unit → Option Int) (o : Int) (R_ : St → Prop) : Prop := ∀ (_ : Unit), F_ () = some o → ∀ s, Weak 0 s ⟨e0, e0, 0⟩ → R_ s
abbrev Z3t (s_ : (List TJTimer)) (fc0 : Int) (fc1 : Int) (fc2 : (List TJJob)) (fc3 : (List TJJob)) (fc4 : (List TJTimer)) (fc5 : Int) (fc6 : Int) (fc7 : Int) (fc8 : Tx) (fc9 : Int) (fc10 : Int) (fc11 : Tx) (F_ : Nat → Int → Option Int) (o : Int) : Nat → St → Prop := fun k s => ∃ (v8 : Int), F_ k v8 = some o ∧ s = ⟨(ue [(8, (I v8)), (7, (I (s_.length : Int))), (1, (.c (.fn (.func 68) [] [.rop [cI fc0, cI fc1, .ro false 7 (fc2.map e_TJJob), .ro false 7 (fc3.map e_TJJob), .ro false 5 (fc4.map e_TJTimer), cI fc5, cI fc6, cI fc7, .str fc8, cI fc9, cI fc10, .str fc11]]))), (0, (.c (.ro false 5 (s_.map e_TJTimer))))]), e0, 0⟩
abbrev Z68 (s_ : (List TJTimer)) (fc0 : Int) (fc1 : Int) (fc2 : (List TJJob)) (fc3 : (List TJJob)) (fc4 : (List TJTimer)) (fc5 : Int) (fc6 : Int) (fc7 : Int) (fc8 : Tx) (fc9 : Int) (fc10 : Int) (fc11 : Tx) (F_ : Int → Option Int) (o : Int) (R_ : St → Prop) : Prop := ∀ (v8 : Int), F_ v8 = some o → ∀ s, Weak 0 s ⟨(ue [(8, (I v8)), (7, (I (s_.length : Int))), (1, (.c (.fn (.func 68) [] [.rop [cI fc0, cI fc1, .ro false 7 (fc2.map e_TJJob), .ro false 7 (fc3.map e_TJJob), .ro false 5 (fc4.map e_TJTimer), cI fc5, cI fc6, cI fc7, .str fc8, cI fc9, cI fc10, .str fc11]]))), (0, (.c (.ro false 5 (s_.map e_TJTimer))))]), e0, 0⟩ → R_ s
noncomputable def Zm (s_ : (List TJTimer)) (fc0 : Int) (fc1 : Int) (fc2 : (List TJJob)) (fc3 : (List TJJob)) (fc4 : (List TJTimer)) (fc5 : Int) (fc6 : Int) (fc7 : Int) (fc8 : Tx) (fc9 : Int) (fc10 : Int) (fc11 : Tx) (K0_ : Unit → Option Int) : Nat → Int → Option Int
 | 0, _ => none
 | k + 1, v8 =>
  if decide (v8 < (s_.length : Int)) then
   (at? s_ v8).bind fun x_ =>
   letIn (Z1m x_ fc0 fc1 fc2 fc3 fc4 fc5 fc6 fc7 fc8 fc9 fc10 fc11) fun r_ : Bool =>
   if r_ then
    some v8
   else
    (Zm s_ fc0 fc1 fc2 fc3 fc4 fc5 fc6 fc7 fc8 fc9 fc10 fc11 K0_ k) (wi (v8 + 1))
  else
   K0_ ()
theorem Z69 {Γ : Glob} {Q : AExit → St → Prop} {s_ : (List TJTimer)} {fc0 : Int} {fc1 : Int} {fc2 : (List TJJob)} {fc3 : (List TJJob)} {fc4 : (List TJTimer)} {fc5 : Int} {fc6 : Int} {fc7 : Int} {fc8 : Tx} {fc9 : Int} {fc10 : Int} {fc11 : Tx} {K0_ : Unit → Option Int} {k : Nat} {v8 : Int} {o : Int} (h : Zm s_ fc0 fc1 fc2 fc3 fc4 fc5 fc6 fc7 fc8 fc9 fc10 fc11 K0_ k v8 = some o)
  (hK0 : Z67 K0_ o (Q (.exit 0)))
  (hr : ∀ s, Ends a67.results 0 (Z3s o) .ret s → Q .ret s) :
  Sv Try.prog Γ 0 (.loop a67_c0) Q ⟨(ue [(8, (I v8)), (7, (I (s_.length : Int))), (1, (.c (.fn (.func 68) [] [.rop [cI fc0, cI fc1, .ro false 7 (fc2.map e_TJJob), .ro false 7 (fc3.map e_TJJob), .ro false 5 (fc4.map e_TJTimer), cI fc5, cI fc6, cI fc7, .str fc8, cI fc9, cI fc10, .str fc11]]))), (0, (.c (.ro false 5 (s_.map e_TJTimer))))]), e0, 0⟩ := by
 refine Sv.loop (I := Z3t s_ fc0 fc1 fc2 fc3 fc4 fc5 fc6 fc7 fc8 fc9 fc10 fc11 (Zm s_ fc0 fc1 fc2 fc3 fc4 fc5 fc6 fc7 fc8 fc9 fc10 fc11 K0_) o) (fun k s hI => ?_) ⟨v8, h, rfl⟩
 clear h
 clear v8
 obtain ⟨v8, h, rfl⟩ := hI
 cases k with
 | zero => cases h
 | succ k =>
 rw [Zm] at h
 have hself : Z68 s_ fc0 fc1 fc2 fc3 fc4 fc5 fc6 fc7 fc8 fc9 fc10 fc11 (Zm s_ fc0 fc1 fc2 fc3 fc4 fc5 fc6 fc7 fc8 fc9 fc10 fc11 K0_ k) o (rnd 0 (Z3t s_ fc0 fc1 fc2 fc3 fc4 fc5 fc6 fc7 fc8 fc9 fc10 fc11 (Zm s_ fc0 fc1 fc2 fc3 fc4 fc5 fc6 fc7 fc8 fc9 fc10 fc11 K0_) o) k Q) := fun v8 h s hw => ⟨_, k, hw, Nat.lt_succ_self k, v8, h, rfl⟩
 refine ssr <| un1 (v := (B (decide (v8 < (s_.length : Int))))) rfl <| dnil <| Sv.seq ?_
 refine Sv.cnd rfl h (fun h => ?_) fun h => ?_
 ·refine Sv.skip <| Sv.seq <| Sv.block <| ssr <| un1 rfl <| un1 rfl <| dnil <| ssr <| un1 rfl <| un1 rfl <| un1 rfl ?_
  obtain ⟨x_, hx1, h⟩ := bnd h
  refine un1 (v := (.c (.rop (e_TJTimer x_)))) (s_iaddr (e := e_TJTimer) (xs := s_) rfl rfl hx1) <| un1 (v := (.agg (e_TJTimer x_))) rfl ?_
  obtain ⟨r_, hr_⟩ : ∃ r_ : Bool, r_ = (Z1m x_ fc0 fc1 fc2 fc3 fc4 fc5 fc6 fc7 fc8 fc9 fc10 fc11) := ⟨_, rfl⟩
  replace h := letAt hr_ h
  have pr_ := (Z66 (Γ := Γ) x_ fc0 fc1 fc2 fc3 fc4 fc5 fc6 fc7 fc8 fc9 fc10 fc11)
  rw [← hr_] at pr_
  refine un <| acv_gen (bs := []) («as» := [(.agg (e_TJTimer x_)), (.c (.rop [cI fc0, cI fc1, .ro false 7 (fc2.map e_TJJob), .ro false 7 (fc3.map e_TJJob), .ro false 5 (fc4.map e_TJTimer), cI fc5, cI fc6, cI fc7, .str fc8, cI fc9, cI fc10, .str fc11]))]) (h2 := _) (h1 := e0) rfl (by kernel_rfl) pr_ rfl (.cons (avAs_free rfl) (.cons (avAs_free rfl) .nil)) (hsub_refl _) (.nil _) (fun _ => rfl) (by decide) (by decide) (.cons (avAs_free rfl) (.cons (avAs_free rfl) .nil)) .nil ?_
  rintro _ _ _ hn ⟨rfl, rfl, rfl⟩
  refine ⟨.inl rfl, (rem [] _), fun hbd => (m3_rem (in_nil _) (.nil) hbd), (B r_), 0, rfl, rfl, ?_⟩
  refine dnil ?_
  refine Sv.cnd rfl h (fun h => ?_) fun h => ?_
  ·refine ssr <| un1 rfl <| un1 rfl <| dnil <| Sv.ret ?_
   exact hr _ (rt0 h rfl rfl ⟨rfl, rfl, rfl⟩)
  ·refine Sv.skip <| srg <| un1 (v := (I (wi (v8 + 1)))) rfl <| un1 rfl <| dnil ?_
   exact hself (wi (v8 + 1)) h _ (wcn [] rfl (.cf rfl rfl (.cf rfl rfl (.cons rfl (.c (fn_as .nil (.sm rfl .nil))) (.cf rfl rfl .nil)))) .nil)
 ·refine Sv.exit ?_
  exact hK0 () h _ (wcn [] rfl .nil .nil)
/-- slices.IndexFunc(()clerestory/api.JTimer,clerestory/api.JTimer) -/
noncomputable def Z18 (s_ : (List TJTimer)) (fc0 : Int) (fc1 : Int) (fc2 : (List TJJob)) (fc3 : (List TJJob)) (fc4 : (List TJTimer)) (fc5 : Int) (fc6 : Int) (fc7 : Int) (fc8 : Tx) (fc9 : Int) (fc10 : Int) (fc11 : Tx) : Option Int :=
 lim fun kk => Zm s_ fc0 fc1 fc2 fc3 fc4 fc5 fc6 fc7 fc8 fc9 fc10 fc11 (fun (_ : Unit) => 
   some (-1)) kk 0
theorem Z6a {Γ : Glob} {s_ : (List TJTimer)} {fc0 : Int} {fc1 : Int} {fc2 : (List TJJob)} {fc3 : (List TJJob)} {fc4 : (List TJTimer)} {fc5 : Int} {fc6 : Int} {fc7 : Int} {fc8 : Tx} {fc9 : Int} {fc10 : Int} {fc11 : Tx} {r : Int} (h : Z18 s_ fc0 fc1 fc2 fc3 fc4 fc5 fc6 fc7 fc8 fc9 fc10 fc11 = some r) : CPure Try.prog Γ 67 [(.c (.ro false 5 (s_.map e_TJTimer))), (.c (.fn (.func 68) [] [.rop [cI fc0, cI fc1, .ro false 7 (fc2.map e_TJJob), .ro false 7 (fc3.map e_TJJob), .ro false 5 (fc4.map e_TJTimer), cI fc5, cI fc6, cI fc7, .str fc8, cI fc9, cI fc10, .str fc11]]))] (I r) := by
 refine acalls_of_sv hmix c67 (R := Z3s r) ?_
 unfold Z18 at h
 refine ssr <| un1 rfl <| dnil <| Sv.seq <| ssr <| un1 rfl <| un1 (v := (I (s_.length : Int))) (s_len (e := e_TJTimer) (xs := s_) rfl) <| un1 rfl <| dnil <| Sv.block ?_
 obtain ⟨kk, h⟩ := lim_some h
 refine Sv.weak (wcn [] rfl (.cf rfl rfl (.cf rfl rfl (.cons rfl (.c (fn_as .nil (.sm rfl .nil))) (.cf rfl rfl .nil)))) .nil) (Z69 h ?_ (fun s hs => hs))
 ·intro _ h _ hw1
  refine Sv.weak hw1 <| ssr <| un1 rfl <| dnil <| Sv.ret ?_
  exact rt0 h rfl rfl ⟨rfl, rfl, rfl⟩
noncomputable abbrev Z1w (x_ : List TJTimer) (i_ j_ : Int) : Option (List TJTimer) := del? x_ i_ j_
theorem Z3u {Γ : Glob} {x_ r : List TJTimer} {i_ j_ : Int} {zx : Bool} (hzx : zx = true → x_ = []) (h : Z1w x_ i_ j_ = some r) : ACalls Try.prog Γ 69 [lstV zx 0 5 x_.length, I i_, I j_] (upd e0 0 (lstB zx 5 (x_.map e_TJTimer))) 1 (fun v h' n' => ∃ z' : Bool, (z' = true → r = []) ∧ v = lstV z' 1 5 r.length ∧ (h' = (upd e0 1 (lstB z' 5 (r.map e_TJTimer)))) ∧ n' = 2) := del_ok (e := e_TJTimer) (fun _ => rfl) (by decide) (fun blk n cap i j C T fr w a b c d e f g => del69_walk _ rfl rfl _ Try.zeroValue84 rfl (by decide) blk n cap i j C T fr w a b c d e f g) hzx h
def a34 : AFunc := ⟨1, [(.cell true 5 2), (.tmp 3), (.tmp 4)], (sr [(oP 1 (.box (.tmp 0))), (oP 2 (.box (.const (.agg [(.val (.int .i64 0)), (.val (.int .i64 0)), (.ro true 7 []), (.ro true 7 []), (.ro true 5 [])])))), (oP 3 (.mov (kI 0))), (oP 4 (.mov (kI 0)))]
 (.seq (sr [(oP 6 (.faddr 5 (.tmp 1))), (oP 7 (.faddr 0 (.tmp 6))), (oP 8 (.load false 1 (.tmp 7)))]
 (.block 0 (sr [(oP 10 (.bin .eql (.tmp 8) (kI 1))), (mV 9 10)]
 (.cond (.tmp 9) (sr [(oP 11 (.load true 12 (.tmp 1))), (oP 12 (.call 65 [(.tmp 11), kF])), (oP 13 (.ext (.tmp 12) 0)), (oP 14 (.ext (.tmp 12) 1)), (oP 15 (.ext (.tmp 12) 2)), (oN (.store 5 (.tmp 2) (.tmp 13))), (mV 3 14), (mV 4 15)]
 .ret) (sr [(oP 17 (.bin .eql (.tmp 8) (kI 2))), (mV 16 17)]
 (.cond (.tmp 16) (sr [(oP 18 (.load true 12 (.tmp 1))), (oP 19 (.call 65 [(.tmp 18), kT])), (oP 20 (.ext (.tmp 19) 0)), (oP 21 (.ext (.tmp 19) 1)), (oP 22 (.ext (.tmp 19) 2)), (oN (.store 5 (.tmp 2) (.tmp 20))), (mV 3 21), (mV 4 22)]
 .ret) (sr [(oP 24 (.bin .eql (.tmp 8) (kI 3))), (mV 23 24)]
 (.cond (.tmp 23) (sr [(oP 25 (.load true 12 (.tmp 1))), (oP 26 (.call 66 [(.tmp 25), kF])), (oP 27 (.ext (.tmp 26) 0)), (oP 28 (.ext (.tmp 26) 1)), (oP 29 (.ext (.tmp 26) 2)), (oN (.store 5 (.tmp 2) (.tmp 27))), (mV 3 28), (mV 4 29)]
 .ret) (sr [(oP 31 (.bin .eql (.tmp 8) (kI 4))), (mV 30 31)]
 (.cond (.tmp 30) (sr [(oP 32 (.load true 12 (.tmp 1))), (oP 33 (.call 66 [(.tmp 32), kT])), (oP 34 (.ext (.tmp 33) 0)), (oP 35 (.ext (.tmp 33) 1)), (oP 36 (.ext (.tmp 33) 2)), (oN (.store 5 (.tmp 2) (.tmp 34))), (mV 3 35), (mV 4 36)]
 .ret) .skip))))))))))
 (sr [(oP 37 (.faddr 0 (.tmp 1))), (oP 38 (.faddr 4 (.tmp 37))), (oP 39 (.load false 1 (.tmp 38))), (oP 40 (.mkfn (.func 68) [] [(.tmp 1)])), (oP 41 (.call 67 [(.tmp 39), (.tmp 40)])), (mV 5 41)]
 (.seq (sr [(mV 42 5), (oP 43 (.bin .lss (.tmp 42) (kI 0)))]
 (.cond (.tmp 43) (sr [(oP 44 (.faddr 0 (.tmp 1))), (oP 45 (.load true 5 (.tmp 44))), (oN (.store 5 (.tmp 2) (.tmp 45))), (oP 3 (.mov (kI 0))), (oP 4 (.mov (kI 5)))]
 .ret) .skip))
 (sr [(oP 46 (.faddr 0 (.tmp 1))), (oP 47 (.faddr 4 (.tmp 46))), (oP 48 (.load false 1 (.tmp 47))), (mV 49 5), (mV 50 5), (oP 51 (.bin .add (.tmp 50) (kI 1))), (oP 52 (.call 69 [(.tmp 48), (.tmp 49), (.tmp 51)])), (oP 53 (.faddr 0 (.tmp 1))), (oP 54 (.faddr 4 (.tmp 53))), (oN (.store 1 (.tmp 54) (.tmp 52)))]
 (sr [(oP 55 (.faddr 0 (.tmp 1))), (oP 56 (.load true 5 (.tmp 55))), (oN (.store 5 (.tmp 2) (.tmp 56))), (oP 3 (.mov (kI 0))), (oP 4 (.mov (kI 0)))]
 .ret))))))⟩
theorem c34 : compFunc Try.prog 34 = some a34 := by kernel_rfl
def Z3v (r : (TJLoop × Int × Int)) : AV → Heap → Nat → Prop := fun v h' n' => ∃ z0 : Bool, (z0 = true → r.1.Tasks = []) ∧ ∃ z1 : Bool, (z1 = true → r.1.Smalls = []) ∧ ∃ z2 : Bool, (z2 = true → r.1.Timers = []) ∧ v = (.tup [(.agg [cI r.1.Now, cI r.1.Next, lstC z0 3 7 r.1.Tasks.length, lstC z1 4 7 r.1.Smalls.length, lstC z2 5 5 r.1.Timers.length]), (I r.2.1), (I r.2.2)]) ∧ (h' = (upd (upd (upd e0 3 (lstB z0 7 (r.1.Tasks.map e_TJJob))) 4 (lstB z1 7 (r.1.Smalls.map e_TJJob))) 5 (lstB z2 5 (r.1.Timers.map e_TJTimer)))) ∧ n' = 6
/-- (clerestory/loop.asked).do -/
noncomputable def Zu (a_ : Tasked) : Option (TJLoop × Int × Int) :=
 if decide (a_.f_a.Do = 1) then
  (Z1i a_ false).bind fun r_ =>
  some (r_.1, r_.2.1, r_.2.2)
 else
  if decide (a_.f_a.Do = 2) then
   (Z1i a_ true).bind fun r_1 =>
   some (r_1.1, r_1.2.1, r_1.2.2)
  else
   if decide (a_.f_a.Do = 3) then
    (Z1l a_ false).bind fun r_2 =>
    some (r_2.1, r_2.2.1, r_2.2.2)
   else
    if decide (a_.f_a.Do = 4) then
     (Z1l a_ true).bind fun r_3 =>
     some (r_3.1, r_3.2.1, r_3.2.2)
    else
     (Z18 a_.f_q.Timers a_.f_q.Now a_.f_q.Next a_.f_q.Tasks a_.f_q.Smalls a_.f_q.Timers a_.f_a.Do a_.f_a.Source a_.f_a.N a_.f_a.Call a_.f_a.Arg.Kind a_.f_a.Arg.N a_.f_a.Arg.S).bind fun r_4 =>
     if decide (r_4 < 0) then
      some (a_.f_q, 0, 5)
     else
      (Z1w a_.f_q.Timers r_4 (wi (r_4 + 1))).bind fun r_5 =>
      some ((⟨a_.f_q.Now, a_.f_q.Next, a_.f_q.Tasks, a_.f_q.Smalls, r_5⟩ : TJLoop), 0, 0)
theorem Z6b {Γ : Glob} {a_ : Tasked} {za : Bool} (hza : za = true → a_.f_q.Tasks = []) {za1 : Bool} (hza1 : za1 = true → a_.f_q.Smalls = []) {za2 : Bool} (hza2 : za2 = true → a_.f_q.Timers = []) {r : (TJLoop × Int × Int)} (h : Zu a_ = some r) : ACalls Try.prog Γ 34 [(.agg [cI a_.f_q.Now, cI a_.f_q.Next, lstC za 0 7 a_.f_q.Tasks.length, lstC za1 1 7 a_.f_q.Smalls.length, lstC za2 2 5 a_.f_q.Timers.length, cI a_.f_a.Do, cI a_.f_a.Source, cI a_.f_a.N, .str a_.f_a.Call, cI a_.f_a.Arg.Kind, cI a_.f_a.Arg.N, .str a_.f_a.Arg.S])] (upd (upd (upd e0 0 (lstB za 7 (a_.f_q.Tasks.map e_TJJob))) 1 (lstB za1 7 (a_.f_q.Smalls.map e_TJJob))) 2 (lstB za2 5 (a_.f_q.Timers.map e_TJTimer))) 3 (Z3v r) := by
 refine acalls_of_sv hmix c34 (R := Z3v r) ?_
 unfold Zu at h
 refine ssr <| un <| a2v (v := (.c (.ref 3 12 0 0))) (h' := upd _ 3 (some (.cells 12 [[cI a_.f_q.Now, cI a_.f_q.Next, lstC za 0 7 a_.f_q.Tasks.length, lstC za1 1 7 a_.f_q.Smalls.length, lstC za2 2 5 a_.f_q.Timers.length, cI a_.f_a.Do, cI a_.f_a.Source, cI a_.f_a.N, .str a_.f_a.Call, cI a_.f_a.Arg.Kind, cI a_.f_a.Arg.N, .str a_.f_a.Arg.S]]))) (n' := 4) rfl rfl hcs <| un <| a2v (v := (.c (.ref 4 5 0 0))) (h' := upd _ 4 (some (.cells 5 [[cI 0, cI 0, .ro true 7 [], .ro true 7 [], .ro true 5 []]]))) (n' := 5) rfl rfl hcs <| un1 rfl <| un1 rfl <| dnil <| Sv.seq <| ssr <| un1 (v := (.c (.ref 3 12 0 5))) rfl <| un1 (v := (.c (.ref 3 12 0 5))) rfl <| un1 (v := (I a_.f_a.Do)) rfl <| dnil <| Sv.block <| ssr <| un1 (v := (B (decide (a_.f_a.Do = 1)))) rfl <| un1 rfl <| dnil ?_
 refine Sv.cnd rfl h (fun h => ?_) fun h => ?_
 ·refine ssr <| un1 (v := (.agg [cI a_.f_q.Now, cI a_.f_q.Next, lstC za 0 7 a_.f_q.Tasks.length, lstC za1 1 7 a_.f_q.Smalls.length, lstC za2 2 5 a_.f_q.Timers.length, cI a_.f_a.Do, cI a_.f_a.Source, cI a_.f_a.N, .str a_.f_a.Call, cI a_.f_a.Arg.Kind, cI a_.f_a.Arg.N, .str a_.f_a.Arg.S])) rfl ?_
  obtain ⟨r_, hr1, h⟩ := bnd h
  refine un <| ac_gen (bs := [0, 1, 2]) («as» := [(.agg [cI a_.f_q.Now, cI a_.f_q.Next, lstC za 0 7 a_.f_q.Tasks.length, lstC za1 1 7 a_.f_q.Smalls.length, lstC za2 2 5 a_.f_q.Timers.length, cI a_.f_a.Do, cI a_.f_a.Source, cI a_.f_a.N, .str a_.f_a.Call, cI a_.f_a.Arg.Kind, cI a_.f_a.Arg.N, .str a_.f_a.Arg.S]), (B false)]) (h2 := _) (h1 := (upd (upd (upd e0 0 (lstB za 7 (a_.f_q.Tasks.map e_TJJob))) 1 (lstB za1 7 (a_.f_q.Smalls.map e_TJJob))) 2 (lstB za2 5 (a_.f_q.Timers.map e_TJTimer)))) (Z3l hza hza1 hza2 hr1) rfl (.cons (avAs_agg (.sm rfl (.sm rfl (.cons (lstC_ren rfl (by decide)) (.cons (lstC_ren rfl (by decide)) (.cons (lstC_ren rfl (by decide)) (.sm rfl (.sm rfl (.sm rfl (.sm rfl (.sm rfl (.sm rfl (.sm rfl .nil))))))))))))) (.cons (avAs_free rfl) .nil)) (hsub_refl _) (.cons rfl (.cons rfl (.cons rfl (.nil _)))) hcs (by decide) (by decide) (.cons (avAs_agg (.sm rfl (.sm rfl (.cons (lstC_ren rfl (by decide)) (.cons (lstC_ren rfl (by decide)) (.cons (lstC_ren rfl (by decide)) (.sm rfl (.sm rfl (.sm rfl (.sm rfl (.sm rfl (.sm rfl (.sm rfl .nil))))))))))))) (.cons (avAs_free rfl) .nil)) (.row (by decide) rfl (fr_map fun _ => rfl) (.row (by decide) rfl (fr_map fun _ => rfl) (.row (by decide) rfl (fr_map fun _ => rfl) .nil))) ?_
  rintro _ _ _ hn ⟨z_, hz_, z_1, hz_1, z_2, hz_2, rfl, rfl, rfl⟩
  refine ⟨.inl rfl, (upd (upd (upd (rem [0, 1, 2] _) 5 (lstB z_ 7 (r_.1.Tasks.map e_TJJob))) 6 (lstB z_1 7 (r_.1.Smalls.map e_TJJob))) 7 (lstB z_2 5 (r_.1.Timers.map e_TJTimer))), fun hbd => (m3_cons (m3_row rfl (fr_map fun _ => rfl)) (m3_cons (m3_row rfl (fr_map fun _ => rfl)) (m3_cons (m3_row rfl (fr_map fun _ => rfl)) (m3_rem (in_cons (by decide) (in_cons (by decide) (in_cons (by decide) (in_nil _)))) (.cons (by decide) (.cons (by decide) (.cons (by decide) .nil))) hbd)))), (.tup [(.agg [cI r_.1.Now, cI r_.1.Next, lstC z_ 5 7 r_.1.Tasks.length, lstC z_1 6 7 r_.1.Smalls.length, lstC z_2 7 5 r_.1.Timers.length]), (I r_.2.1), (I r_.2.2)]), 8, (by cases z_ <;> cases z_1 <;> cases z_2 <;> rfl), rfl, ?_⟩
  refine un1 (v := (.agg [cI r_.1.Now, cI r_.1.Next, lstC z_ 5 7 r_.1.Tasks.length, lstC z_1 6 7 r_.1.Smalls.length, lstC z_2 7 5 r_.1.Timers.length])) rfl <| un1 (v := (I r_.2.1)) rfl <| un1 (v := (I r_.2.2)) rfl <| un <| a2n (h' := upd _ 4 (some (.cells 5 [[cI r_.1.Now, cI r_.1.Next, lstC z_ 5 7 r_.1.Tasks.length, lstC z_1 6 7 r_.1.Smalls.length, lstC z_2 7 5 r_.1.Timers.length]]))) (n' := 8) rfl rfl hcs <| un1 rfl <| un1 rfl <| dnil <| Sv.ret ?_
  replace h := Option.some.inj h
  subst h
  exact ⟨_, .refl _, _, rfl, ⟨upd e0 0 (some (.tup [(.agg [cI r_.1.Now, cI r_.1.Next, lstC z_ 3 7 r_.1.Tasks.length, lstC z_1 4 7 r_.1.Smalls.length, lstC z_2 5 5 r_.1.Timers.length]), (I r_.2.1), (I r_.2.2)])), (upd (upd (upd e0 3 (lstB z_ 7 (r_.1.Tasks.map e_TJJob))) 4 (lstB z_1 7 (r_.1.Smalls.map e_TJJob))) 5 (lstB z_2 5 (r_.1.Timers.map e_TJTimer))), 6⟩, (.tup [(.agg [cI r_.1.Now, cI r_.1.Next, lstC z_ 3 7 r_.1.Tasks.length, lstC z_1 4 7 r_.1.Smalls.length, lstC z_2 5 5 r_.1.Timers.length]), (I r_.2.1), (I r_.2.2)]), weak_canon2 [0, 1, 2, 5, 6, 7] [3, 4, 5] (by decide) (by decide) (by decide) (.cons (by decide) (.cons (by decide) (.cons (by decide) .nil))) (.cons rfl (avAs_tup (.cons (avAs_agg (.sm rfl (.sm rfl (.cons (lstC_ren rfl (by decide)) (.cons (lstC_ren rfl (by decide)) (.cons (lstC_ren rfl (by decide)) .nil)))))) (.cons (avAs_free rfl) (.cons (avAs_free rfl) .nil)))) .nil) (.row (by decide) rfl (fr_map fun _ => rfl) (.row (by decide) rfl (fr_map fun _ => rfl) (.row (by decide) rfl (fr_map fun _ => rfl) .nil))), rfl, z_, hz_, z_1, hz_1, z_2, hz_2, rfl, rfl, rfl⟩
 ·refine ssr <| un1 (v := (B (decide (a_.f_a.Do = 2)))) rfl <| un1 rfl <| dnil ?_
  refine Sv.cnd rfl h (fun h => ?_) fun h => ?_
  ·refine ssr <| un1 (v := (.agg [cI a_.f_q.Now, cI a_.f_q.Next, lstC za 0 7 a_.f_q.Tasks.length, lstC za1 1 7 a_.f_q.Smalls.length, lstC za2 2 5 a_.f_q.Timers.length, cI a_.f_a.Do, cI a_.f_a.Source, cI a_.f_a.N, .str a_.f_a.Call, cI a_.f_a.Arg.Kind, cI a_.f_a.Arg.N, .str a_.f_a.Arg.S])) rfl ?_
   obtain ⟨r_1, hr2, h⟩ := bnd h
   refine un <| ac_gen (bs := [0, 1, 2]) («as» := [(.agg [cI a_.f_q.Now, cI a_.f_q.Next, lstC za 0 7 a_.f_q.Tasks.length, lstC za1 1 7 a_.f_q.Smalls.length, lstC za2 2 5 a_.f_q.Timers.length, cI a_.f_a.Do, cI a_.f_a.Source, cI a_.f_a.N, .str a_.f_a.Call, cI a_.f_a.Arg.Kind, cI a_.f_a.Arg.N, .str a_.f_a.Arg.S]), (B true)]) (h2 := _) (h1 := (upd (upd (upd e0 0 (lstB za 7 (a_.f_q.Tasks.map e_TJJob))) 1 (lstB za1 7 (a_.f_q.Smalls.map e_TJJob))) 2 (lstB za2 5 (a_.f_q.Timers.map e_TJTimer)))) (Z3l hza hza1 hza2 hr2) rfl (.cons (avAs_agg (.sm rfl (.sm rfl (.cons (lstC_ren rfl (by decide)) (.cons (lstC_ren rfl (by decide)) (.cons (lstC_ren rfl (by decide)) (.sm rfl (.sm rfl (.sm rfl (.sm rfl (.sm rfl (.sm rfl (.sm rfl .nil))))))))))))) (.cons (avAs_free rfl) .nil)) (hsub_refl _) (.cons rfl (.cons rfl (.cons rfl (.nil _)))) hcs (by decide) (by decide) (.cons (avAs_agg (.sm rfl (.sm rfl (.cons (lstC_ren rfl (by decide)) (.cons (lstC_ren rfl (by decide)) (.cons (lstC_ren rfl (by decide)) (.sm rfl (.sm rfl (.sm rfl (.sm rfl (.sm rfl (.sm rfl (.sm rfl .nil))))))))))))) (.cons (avAs_free rfl) .nil)) (.row (by decide) rfl (fr_map fun _ => rfl) (.row (by decide) rfl (fr_map fun _ => rfl) (.row (by decide) rfl (fr_map fun _ => rfl) .nil))) ?_
   rintro _ _ _ hn ⟨z_3, hz_3, z_4, hz_4, z_5, hz_5, rfl, rfl, rfl⟩
   refine ⟨.inl rfl, (upd (upd (upd (rem [0, 1, 2] _) 5 (lstB z_3 7 (r_1.1.Tasks.map e_TJJob))) 6 (lstB z_4 7 (r_1.1.Smalls.map e_TJJob))) 7 (lstB z_5 5 (r_1.1.Timers.map e_TJTimer))), fun hbd => (m3_cons (m3_row rfl (fr_map fun _ => rfl)) (m3_cons (m3_row rfl (fr_map fun _ => rfl)) (m3_cons (m3_row rfl (fr_map fun _ => rfl)) (m3_rem (in_cons (by decide) (in_cons (by decide) (in_cons (by decide) (in_nil _)))) (.cons (by decide) (.cons (by decide) (.cons (by decide) .nil))) hbd)))), (.tup [(.agg [cI r_1.1.Now, cI r_1.1.Next, lstC z_3 5 7 r_1.1.Tasks.length, lstC z_4 6 7 r_1.1.Smalls.length, lstC z_5 7 5 r_1.1.Timers.length]), (I r_1.2.1), (I r_1.2.2)]), 8, (by cases z_3 <;> cases z_4 <;> cases z_5 <;> rfl), rfl, ?_⟩
   refine un1 (v := (.agg [cI r_1.1.Now, cI r_1.1.Next, lstC z_3 5 7 r_1.1.Tasks.length, lstC z_4 6 7 r_1.1.Smalls.length, lstC z_5 7 5 r_1.1.Timers.length])) rfl <| un1 (v := (I r_1.2.1)) rfl <| un1 (v := (I r_1.2.2)) rfl <| un <| a2n (h' := upd _ 4 (some (.cells 5 [[cI r_1.1.Now, cI r_1.1.Next, lstC z_3 5 7 r_1.1.Tasks.length, lstC z_4 6 7 r_1.1.Smalls.length, lstC z_5 7 5 r_1.1.Timers.length]]))) (n' := 8) rfl rfl hcs <| un1 rfl <| un1 rfl <| dnil <| Sv.ret ?_
   replace h := Option.some.inj h
   subst h
   exact ⟨_, .refl _, _, rfl, ⟨upd e0 0 (some (.tup [(.agg [cI r_1.1.Now, cI r_1.1.Next, lstC z_3 3 7 r_1.1.Tasks.length, lstC z_4 4 7 r_1.1.Smalls.length, lstC z_5 5 5 r_1.1.Timers.length]), (I r_1.2.1), (I r_1.2.2)])), (upd (upd (upd e0 3 (lstB z_3 7 (r_1.1.Tasks.map e_TJJob))) 4 (lstB z_4 7 (r_1.1.Smalls.map e_TJJob))) 5 (lstB z_5 5 (r_1.1.Timers.map e_TJTimer))), 6⟩, (.tup [(.agg [cI r_1.1.Now, cI r_1.1.Next, lstC z_3 3 7 r_1.1.Tasks.length, lstC z_4 4 7 r_1.1.Smalls.length, lstC z_5 5 5 r_1.1.Timers.length]), (I r_1.2.1), (I r_1.2.2)]), weak_canon2 [0, 1, 2, 5, 6, 7] [3, 4, 5] (by decide) (by decide) (by decide) (.cons (by decide) (.cons (by decide) (.cons (by decide) .nil))) (.cons rfl (avAs_tup (.cons (avAs_agg (.sm rfl (.sm rfl (.cons (lstC_ren rfl (by decide)) (.cons (lstC_ren rfl (by decide)) (.cons (lstC_ren rfl (by decide)) .nil)))))) (.cons (avAs_free rfl) (.cons (avAs_free rfl) .nil)))) .nil) (.row (by decide) rfl (fr_map fun _ => rfl) (.row (by decide) rfl (fr_map fun _ => rfl) (.row (by decide) rfl (fr_map fun _ => rfl) .nil))), rfl, z_3, hz_3, z_4, hz_4, z_5, hz_5, rfl, rfl, rfl⟩
  ·refine ssr <| un1 (v := (B (decide (a_.f_a.Do = 3)))) rfl <| un1 rfl <| dnil ?_
   refine Sv.cnd rfl h (fun h => ?_) fun h => ?_
   ·refine ssr <| un1 (v := (.agg [cI a_.f_q.Now, cI a_.f_q.Next, lstC za 0 7 a_.f_q.Tasks.length, lstC za1 1 7 a_.f_q.Smalls.length, lstC za2 2 5 a_.f_q.Timers.length, cI a_.f_a.Do, cI a_.f_a.Source, cI a_.f_a.N, .str a_.f_a.Call, cI a_.f_a.Arg.Kind, cI a_.f_a.Arg.N, .str a_.f_a.Arg.S])) rfl ?_
    obtain ⟨r_2, hr3, h⟩ := bnd h
    refine un <| ac_gen (bs := [0, 1, 2]) («as» := [(.agg [cI a_.f_q.Now, cI a_.f_q.Next, lstC za 0 7 a_.f_q.Tasks.length, lstC za1 1 7 a_.f_q.Smalls.length, lstC za2 2 5 a_.f_q.Timers.length, cI a_.f_a.Do, cI a_.f_a.Source, cI a_.f_a.N, .str a_.f_a.Call, cI a_.f_a.Arg.Kind, cI a_.f_a.Arg.N, .str a_.f_a.Arg.S]), (B false)]) (h2 := _) (h1 := (upd (upd (upd e0 0 (lstB za 7 (a_.f_q.Tasks.map e_TJJob))) 1 (lstB za1 7 (a_.f_q.Smalls.map e_TJJob))) 2 (lstB za2 5 (a_.f_q.Timers.map e_TJTimer)))) (Z3r hza hza1 hza2 hr3) rfl (.cons (avAs_agg (.sm rfl (.sm rfl (.cons (lstC_ren rfl (by decide)) (.cons (lstC_ren rfl (by decide)) (.cons (lstC_ren rfl (by decide)) (.sm rfl (.sm rfl (.sm rfl (.sm rfl (.sm rfl (.sm rfl (.sm rfl .nil))))))))))))) (.cons (avAs_free rfl) .nil)) (hsub_refl _) (.cons rfl (.cons rfl (.cons rfl (.nil _)))) hcs (by decide) (by decide) (.cons (avAs_agg (.sm rfl (.sm rfl (.cons (lstC_ren rfl (by decide)) (.cons (lstC_ren rfl (by decide)) (.cons (lstC_ren rfl (by decide)) (.sm rfl (.sm rfl (.sm rfl (.sm rfl (.sm rfl (.sm rfl (.sm rfl .nil))))))))))))) (.cons (avAs_free rfl) .nil)) (.row (by decide) rfl (fr_map fun _ => rfl) (.row (by decide) rfl (fr_map fun _ => rfl) (.row (by decide) rfl (fr_map fun _ => rfl) .nil))) ?_
    rintro _ _ _ hn ⟨z_6, hz_6, z_7, hz_7, z_8, hz_8, rfl, rfl, rfl⟩
    refine ⟨.inl rfl, (upd (upd (upd (rem [0, 1, 2] _) 5 (lstB z_6 7 (r_2.1.Tasks.map e_TJJob))) 6 (lstB z_7 7 (r_2.1.Smalls.map e_TJJob))) 7 (lstB z_8 5 (r_2.1.Timers.map e_TJTimer))), fun hbd => (m3_cons (m3_row rfl (fr_map fun _ => rfl)) (m3_cons (m3_row rfl (fr_map fun _ => rfl)) (m3_cons (m3_row rfl (fr_map fun _ => rfl)) (m3_rem (in_cons (by decide) (in_cons (by decide) (in_cons (by decide) (in_nil _)))) (.cons (by decide) (.cons (by decide) (.cons (by decide) .nil))) hbd)))), (.tup [(.agg [cI r_2.1.Now, cI r_2.1.Next, lstC z_6 5 7 r_2.1.Tasks.length, lstC z_7 6 7 r_2.1.Smalls.length, lstC z_8 7 5 r_2.1.Timers.length]), (I r_2.2.1), (I r_2.2.2)]), 8, (by cases z_6 <;> cases z_7 <;> cases z_8 <;> rfl), rfl, ?_⟩
    refine un1 (v := (.agg [cI r_2.1.Now, cI r_2.1.Next, lstC z_6 5 7 r_2.1.Tasks.length, lstC z_7 6 7 r_2.1.Smalls.length, lstC z_8 7 5 r_2.1.Timers.length])) rfl <| un1 (v := (I r_2.2.1)) rfl <| un1 (v := (I r_2.2.2)) rfl <| un <| a2n (h' := upd _ 4 (some (.cells 5 [[cI r_2.1.Now, cI r_2.1.Next, lstC z_6 5 7 r_2.1.Tasks.length, lstC z_7 6 7 r_2.1.Smalls.length, lstC z_8 7 5 r_2.1.Timers.length]]))) (n' := 8) rfl rfl hcs <| un1 rfl <| un1 rfl <| dnil <| Sv.ret ?_
    replace h := Option.some.inj h
    subst h
    exact ⟨_, .refl _, _, rfl, ⟨upd e0 0 (some (.tup [(.agg [cI r_2.1.Now, cI r_2.1.Next, lstC z_6 3 7 r_2.1.Tasks.length, lstC z_7 4 7 r_2.1.Smalls.length, lstC z_8 5 5 r_2.1.Timers.length]), (I r_2.2.1), (I r_2.2.2)])), (upd (upd (upd e0 3 (lstB z_6 7 (r_2.1.Tasks.map e_TJJob))) 4 (lstB z_7 7 (r_2.1.Smalls.map e_TJJob))) 5 (lstB z_8 5 (r_2.1.Timers.map e_TJTimer))), 6⟩, (.tup [(.agg [cI r_2.1.Now, cI r_2.1.Next, lstC z_6 3 7 r_2.1.Tasks.length, lstC z_7 4 7 r_2.1.Smalls.length, lstC z_8 5 5 r_2.1.Timers.length]), (I r_2.2.1), (I r_2.2.2)]), weak_canon2 [0, 1, 2, 5, 6, 7] [3, 4, 5] (by decide) (by decide) (by decide) (.cons (by decide) (.cons (by decide) (.cons (by decide) .nil))) (.cons rfl (avAs_tup (.cons (avAs_agg (.sm rfl (.sm rfl (.cons (lstC_ren rfl (by decide)) (.cons (lstC_ren rfl (by decide)) (.cons (lstC_ren rfl (by decide)) .nil)))))) (.cons (avAs_free rfl) (.cons (avAs_free rfl) .nil)))) .nil) (.row (by decide) rfl (fr_map fun _ => rfl) (.row (by decide) rfl (fr_map fun _ => rfl) (.row (by decide) rfl (fr_map fun _ => rfl) .nil))), rfl, z_6, hz_6, z_7, hz_7, z_8, hz_8, rfl, rfl, rfl⟩
   ·refine ssr <| un1 (v := (B (decide (a_.f_a.Do = 4)))) rfl <| un1 rfl <| dnil ?_
    refine Sv.cnd rfl h (fun h => ?_) fun h => ?_
    ·refine ssr <| un1 (v := (.agg [cI a_.f_q.Now, cI a_.f_q.Next, lstC za 0 7 a_.f_q.Tasks.length, lstC za1 1 7 a_.f_q.Smalls.length, lstC za2 2 5 a_.f_q.Timers.length, cI a_.f_a.Do, cI a_.f_a.Source, cI a_.f_a.N, .str a_.f_a.Call, cI a_.f_a.Arg.Kind, cI a_.f_a.Arg.N, .str a_.f_a.Arg.S])) rfl ?_
     obtain ⟨r_3, hr4, h⟩ := bnd h
     refine un <| ac_gen (bs := [0, 1, 2]) («as» := [(.agg [cI a_.f_q.Now, cI a_.f_q.Next, lstC za 0 7 a_.f_q.Tasks.length, lstC za1 1 7 a_.f_q.Smalls.length, lstC za2 2 5 a_.f_q.Timers.length, cI a_.f_a.Do, cI a_.f_a.Source, cI a_.f_a.N, .str a_.f_a.Call, cI a_.f_a.Arg.Kind, cI a_.f_a.Arg.N, .str a_.f_a.Arg.S]), (B true)]) (h2 := _) (h1 := (upd (upd (upd e0 0 (lstB za 7 (a_.f_q.Tasks.map e_TJJob))) 1 (lstB za1 7 (a_.f_q.Smalls.map e_TJJob))) 2 (lstB za2 5 (a_.f_q.Timers.map e_TJTimer)))) (Z3r hza hza1 hza2 hr4) rfl (.cons (avAs_agg (.sm rfl (.sm rfl (.cons (lstC_ren rfl (by decide)) (.cons (lstC_ren rfl (by decide)) (.cons (lstC_ren rfl (by decide)) (.sm rfl (.sm rfl (.sm rfl (.sm rfl (.sm rfl (.sm rfl (.sm rfl .nil))))))))))))) (.cons (avAs_free rfl) .nil)) (hsub_refl _) (.cons rfl (.cons rfl (.cons rfl (.nil _)))) hcs (by decide) (by decide) (.cons (avAs_agg (.sm rfl (.sm rfl (.cons (lstC_ren rfl (by decide)) (.cons (lstC_ren rfl (by decide)) (.cons (lstC_ren rfl (by decide)) (.sm rfl (.sm rfl (.sm rfl (.sm rfl (.sm rfl (.sm rfl (.sm rfl .nil))))))))))))) (.cons (avAs_free rfl) .nil)) (.row (by decide) rfl (fr_map fun _ => rfl) (.row (by decide) rfl (fr_map fun _ => rfl) (.row (by decide) rfl (fr_map fun _ => rfl) .nil))) ?_
     rintro _ _ _ hn ⟨z_9, hz_9, z_10, hz_10, z_11, hz_11, rfl, rfl, rfl⟩
     refine ⟨.inl rfl, (upd (upd (upd (rem [0, 1, 2] _) 5 (lstB z_9 7 (r_3.1.Tasks.map e_TJJob))) 6 (lstB z_10 7 (r_3.1.Smalls.map e_TJJob))) 7 (lstB z_11 5 (r_3.1.Timers.map e_TJTimer))), fun hbd => (m3_cons (m3_row rfl (fr_map fun _ => rfl)) (m3_cons (m3_row rfl (fr_map fun _ => rfl)) (m3_cons (m3_row rfl (fr_map fun _ => rfl)) (m3_rem (in_cons (by decide) (in_cons (by decide) (in_cons (by decide) (in_nil _)))) (.cons (by decide) (.cons (by decide) (.cons (by decide) .nil))) hbd)))), (.tup [(.agg [cI r_3.1.Now, cI r_3.1.Next, lstC z_9 5 7 r_3.1.Tasks.length, lstC z_10 6 7 r_3.1.Smalls.length, lstC z_11 7 5 r_3.1.Timers.length]), (I r_3.2.1), (I r_3.2.2)]), 8, (by cases z_9 <;> cases z_10 <;> cases z_11 <;> rfl), rfl, ?_⟩
     refine un1 (v := (.agg [cI r_3.1.Now, cI r_3.1.Next, lstC z_9 5 7 r_3.1.Tasks.length, lstC z_10 6 7 r_3.1.Smalls.length, lstC z_11 7 5 r_3.1.Timers.length])) rfl <| un1 (v := (I r_3.2.1)) rfl <| un1 (v := (I r_3.2.2)) rfl <| un <| a2n (h' := upd _ 4 (some (.cells 5 [[cI r_3.1.Now, cI r_3.1.Next, lstC z_9 5 7 r_3.1.Tasks.length, lstC z_10 6 7 r_3.1.Smalls.length, lstC z_11 7 5 r_3.1.Timers.length]]))) (n' := 8) rfl rfl hcs <| un1 rfl <| un1 rfl <| dnil <| Sv.ret ?_
     replace h := Option.some.inj h
     subst h
     exact ⟨_, .refl _, _, rfl, ⟨upd e0 0 (some (.tup [(.agg [cI r_3.1.Now, cI r_3.1.Next, lstC z_9 3 7 r_3.1.Tasks.length, lstC z_10 4 7 r_3.1.Smalls.length, lstC z_11 5 5 r_3.1.Timers.length]), (I r_3.2.1), (I r_3.2.2)])), (upd (upd (upd e0 3 (lstB z_9 7 (r_3.1.Tasks.map e_TJJob))) 4 (lstB z_10 7 (r_3.1.Smalls.map e_TJJob))) 5 (lstB z_11 5 (r_3.1.Timers.map e_TJTimer))), 6⟩, (.tup [(.agg [cI r_3.1.Now, cI r_3.1.Next, lstC z_9 3 7 r_3.1.Tasks.length, lstC z_10 4 7 r_3.1.Smalls.length, lstC z_11 5 5 r_3.1.Timers.length]), (I r_3.2.1), (I r_3.2.2)]), weak_canon2 [0, 1, 2, 5, 6, 7] [3, 4, 5] (by decide) (by decide) (by decide) (.cons (by decide) (.cons (by decide) (.cons (by decide) .nil))) (.cons rfl (avAs_tup (.cons (avAs_agg (.sm rfl (.sm rfl (.cons (lstC_ren rfl (by decide)) (.cons (lstC_ren rfl (by decide)) (.cons (lstC_ren rfl (by decide)) .nil)))))) (.cons (avAs_free rfl) (.cons (avAs_free rfl) .nil)))) .nil) (.row (by decide) rfl (fr_map fun _ => rfl) (.row (by decide) rfl (fr_map fun _ => rfl) (.row (by decide) rfl (fr_map fun _ => rfl) .nil))), rfl, z_9, hz_9, z_10, hz_10, z_11, hz_11, rfl, rfl, rfl⟩
    ·refine Sv.skip <| ssr <| un1 (v := (.c (.ref 3 12 0 0))) rfl <| un1 (v := (.c (.ref 3 12 0 4))) rfl <| un1 (v := (lstV za2 2 5 a_.f_q.Timers.length)) rfl <| un1 (v := (.c (.fn (.func 68) [] [.ref 3 12 0 0]))) rfl ?_
     obtain ⟨r_4, hr5, h⟩ := bnd h
     refine un <| ac_gen (bs := []) («as» := [(.c (.ro false 5 (a_.f_q.Timers.map e_TJTimer))), (.c (.fn (.func 68) [] [.rop [cI a_.f_q.Now, cI a_.f_q.Next, .ro false 7 (a_.f_q.Tasks.map e_TJJob), .ro false 7 (a_.f_q.Smalls.map e_TJJob), .ro false 5 (a_.f_q.Timers.map e_TJTimer), cI a_.f_a.Do, cI a_.f_a.Source, cI a_.f_a.N, .str a_.f_a.Call, cI a_.f_a.Arg.Kind, cI a_.f_a.Arg.N, .str a_.f_a.Arg.S]]))]) (h2 := (upd (upd (upd (upd _ 2 none) 3 none) 0 none) 1 none)) (h1 := e0) (Z6a hr5) rfl (.cons (.c (lstC_ro (es := List.map e_TJTimer a_.f_q.Timers) rfl (List.length_map e_TJTimer).symm (map_nil_of hza2) (gone rfl) (fr_map fun _ => rfl))) (.cons (.c (fn_as .nil (.cons (ref_ro rfl (gone rfl) (.sm rfl (.sm rfl (.cons (lstC_ro (es := List.map e_TJJob a_.f_q.Tasks) rfl (List.length_map e_TJJob).symm (map_nil_of hza) (gone rfl) (fr_map fun _ => rfl)) (.cons (lstC_ro (es := List.map e_TJJob a_.f_q.Smalls) rfl (List.length_map e_TJJob).symm (map_nil_of hza1) (gone rfl) (fr_map fun _ => rfl)) (.cons (lstC_ro (es := List.map e_TJTimer a_.f_q.Timers) rfl (List.length_map e_TJTimer).symm (map_nil_of hza2) (gone rfl) (fr_map fun _ => rfl)) (.sm rfl (.sm rfl (.sm rfl (.sm rfl (.sm rfl (.sm rfl (.sm rfl .nil)))))))))))) rfl) .nil))) .nil)) (hsub_none (hsub_none (hsub_none (hsub_none (hsub_refl _))))) (.nil _) (fun _ => rfl) (by decide) (by decide) (.cons (avAs_free rfl) (.cons (.c (fn_as .nil (.sm rfl .nil))) .nil)) .nil ?_
     rintro _ _ _ hn ⟨rfl, rfl, rfl⟩
     refine ⟨.inr ⟨rfl, .nil⟩, (rem [] _), fun hbd => (m3_rem (in_nil _) (.nil) hbd), (I r_4), 5, rfl, rfl, ?_⟩
     refine un1 rfl <| dnil <| Sv.seq <| ssr <| un1 rfl <| un1 (v := (B (decide (r_4 < 0)))) rfl <| dnil ?_
     refine Sv.cnd rfl h (fun h => ?_) fun h => ?_
     ·refine ssr <| un1 (v := (.c (.ref 3 12 0 0))) rfl <| un1 (v := (.agg [cI a_.f_q.Now, cI a_.f_q.Next, lstC za 0 7 a_.f_q.Tasks.length, lstC za1 1 7 a_.f_q.Smalls.length, lstC za2 2 5 a_.f_q.Timers.length])) rfl <| un <| a2n (h' := upd _ 4 (some (.cells 5 [[cI a_.f_q.Now, cI a_.f_q.Next, lstC za 0 7 a_.f_q.Tasks.length, lstC za1 1 7 a_.f_q.Smalls.length, lstC za2 2 5 a_.f_q.Timers.length]]))) (n' := 5) rfl rfl hcs <| un1 rfl <| un1 rfl <| dnil <| Sv.ret ?_
      replace h := Option.some.inj h
      subst h
      exact ⟨_, .refl _, _, rfl, ⟨upd e0 0 (some (.tup [(.agg [cI a_.f_q.Now, cI a_.f_q.Next, lstC za 3 7 a_.f_q.Tasks.length, lstC za1 4 7 a_.f_q.Smalls.length, lstC za2 5 5 a_.f_q.Timers.length]), (I 0), (I 5)])), (upd (upd (upd e0 3 (lstB za 7 (a_.f_q.Tasks.map e_TJJob))) 4 (lstB za1 7 (a_.f_q.Smalls.map e_TJJob))) 5 (lstB za2 5 (a_.f_q.Timers.map e_TJTimer))), 6⟩, (.tup [(.agg [cI a_.f_q.Now, cI a_.f_q.Next, lstC za 3 7 a_.f_q.Tasks.length, lstC za1 4 7 a_.f_q.Smalls.length, lstC za2 5 5 a_.f_q.Timers.length]), (I 0), (I 5)]), weak_canon2 [0, 1, 2, 0, 1, 2] [3, 4, 5] (by decide) (by decide) (by decide) (.cons (by decide) (.cons (by decide) (.cons (by decide) .nil))) (.cons rfl (avAs_tup (.cons (avAs_agg (.sm rfl (.sm rfl (.cons (lstC_ren rfl (by decide)) (.cons (lstC_ren rfl (by decide)) (.cons (lstC_ren rfl (by decide)) .nil)))))) (.cons (avAs_free rfl) (.cons (avAs_free rfl) .nil)))) .nil) (.row (by decide) rfl (fr_map fun _ => rfl) (.row (by decide) rfl (fr_map fun _ => rfl) (.row (by decide) rfl (fr_map fun _ => rfl) .nil))), rfl, za, hza, za1, hza1, za2, hza2, rfl, rfl, rfl⟩
     ·refine Sv.skip <| ssr <| un1 (v := (.c (.ref 3 12 0 0))) rfl <| un1 (v := (.c (.ref 3 12 0 4))) rfl <| un1 (v := (lstV za2 2 5 a_.f_q.Timers.length)) rfl <| un1 rfl <| un1 rfl <| un1 (v := (I (wi (r_4 + 1)))) rfl ?_
      obtain ⟨r_5, hr6, h⟩ := bnd h
      refine un <| ac_gen (bs := [2]) («as» := [(lstV za2 2 5 a_.f_q.Timers.length), (I r_4), (I (wi (r_4 + 1)))]) (h2 := _) (h1 := (upd e0 2 (lstB za2 5 (a_.f_q.Timers.map e_TJTimer)))) (Z3u hza2 hr6) rfl (.cons (.c (lsr rfl rfl)) (.cons (avAs_free rfl) (.cons (avAs_free rfl) .nil))) (hsub_refl _) (.cons rfl (.nil _)) hcs (by decide) (by decide) (.cons (.c (lsr rfl rfl)) (.cons (avAs_free rfl) (.cons (avAs_free rfl) .nil))) (.row (by decide) rfl (fr_map fun _ => rfl) .nil) ?_
      rintro _ _ _ hn ⟨z_12, hz_12, rfl, rfl, rfl⟩
      refine ⟨.inl rfl, (upd (rem [2] _) 5 (lstB z_12 5 (r_5.map e_TJTimer))), fun hbd => (m3_cons (m3_row rfl (fr_map fun _ => rfl)) (m3_rem (in_cons (by decide) (in_nil _)) (.cons (by decide) .nil) hbd)), (lstV z_12 5 5 r_5.length), 6, (by cases z_12 <;> rfl), rfl, ?_⟩
      refine un1 (v := (.c (.ref 3 12 0 0))) rfl <| un1 (v := (.c (.ref 3 12 0 4))) rfl <| un <| a2n (h' := upd _ 3 (some (.cells 12 [[cI a_.f_q.Now, cI a_.f_q.Next, lstC za 0 7 a_.f_q.Tasks.length, lstC za1 1 7 a_.f_q.Smalls.length, lstC z_12 5 5 r_5.length, cI a_.f_a.Do, cI a_.f_a.Source, cI a_.f_a.N, .str a_.f_a.Call, cI a_.f_a.Arg.Kind, cI a_.f_a.Arg.N, .str a_.f_a.Arg.S]]))) (n' := 6) rfl rfl hcs <| dnil <| ssr <| un1 (v := (.c (.ref 3 12 0 0))) rfl <| un1 (v := (.agg [cI a_.f_q.Now, cI a_.f_q.Next, lstC za 0 7 a_.f_q.Tasks.length, lstC za1 1 7 a_.f_q.Smalls.length, lstC z_12 5 5 r_5.length])) rfl <| un <| a2n (h' := upd _ 4 (some (.cells 5 [[cI a_.f_q.Now, cI a_.f_q.Next, lstC za 0 7 a_.f_q.Tasks.length, lstC za1 1 7 a_.f_q.Smalls.length, lstC z_12 5 5 r_5.length]]))) (n' := 6) rfl rfl hcs <| un1 rfl <| un1 rfl <| dnil <| Sv.ret ?_
      replace h := Option.some.inj h
      subst h
      exact ⟨_, .refl _, _, rfl, ⟨upd e0 0 (some (.tup [(.agg [cI a_.f_q.Now, cI a_.f_q.Next, lstC za 3 7 a_.f_q.Tasks.length, lstC za1 4 7 a_.f_q.Smalls.length, lstC z_12 5 5 r_5.length]), (I 0), (I 0)])), (upd (upd (upd e0 3 (lstB za 7 (a_.f_q.Tasks.map e_TJJob))) 4 (lstB za1 7 (a_.f_q.Smalls.map e_TJJob))) 5 (lstB z_12 5 (r_5.map e_TJTimer))), 6⟩, (.tup [(.agg [cI a_.f_q.Now, cI a_.f_q.Next, lstC za 3 7 a_.f_q.Tasks.length, lstC za1 4 7 a_.f_q.Smalls.length, lstC z_12 5 5 r_5.length]), (I 0), (I 0)]), weak_canon2 [0, 1, 2, 0, 1, 5] [3, 4, 5] (by decide) (by decide) (by decide) (.cons (by decide) (.cons (by decide) (.cons (by decide) .nil))) (.cons rfl (avAs_tup (.cons (avAs_agg (.sm rfl (.sm rfl (.cons (lstC_ren rfl (by decide)) (.cons (lstC_ren rfl (by decide)) (.cons (lstC_ren rfl (by decide)) .nil)))))) (.cons (avAs_free rfl) (.cons (avAs_free rfl) .nil)))) .nil) (.row (by decide) rfl (fr_map fun _ => rfl) (.row (by decide) rfl (fr_map fun _ => rfl) (.row (by decide) rfl (fr_map fun _ => rfl) .nil))), rfl, za, hza, za1, hza1, z_12, hz_12, rfl, rfl, rfl⟩
def a6 : AFunc := ⟨2, [(.cell true 5 4), (.tmp 5), (.tmp 6)], (sr [(oP 2 (.box (.tmp 0))), (oP 3 (.box (.tmp 1))), (oP 4 (.box (.const (.agg [(.val (.int .i64 0)), (.val (.int .i64 0)), (.ro true 7 []), (.ro true 7 []), (.ro true 5 [])])))), (oP 5 (.mov (kI 0))), (oP 6 (.mov (kI 0)))]
 (.seq (sr [(oP 10 (.load true 5 (.tmp 2))), (oP 11 (.call 9 [(.tmp 10)])), (mV 7 11)]
 (sr [(mV 12 7), (oP 13 (.bin .neq (.tmp 12) (kI 0)))]
 (.cond (.tmp 13) (sr [(oP 14 (.build [(.val (.int .i64 0)), (.val (.int .i64 0)), (.ro true 7 []), (.ro true 7 []), (.ro true 5 [])] [])), (mV 15 7), (oN (.store 5 (.tmp 4) (.tmp 14))), (oP 5 (.mov (kI 0))), (mV 6 15)]
 .ret) .skip)))
 (.seq (sr [(oP 16 (.faddr 0 (.tmp 3))), (oP 17 (.load false 1 (.tmp 16))), (oP 18 (.call 32 [(.tmp 17), (kI 1), (kI 5)])), (oP 19 (.un .not (.tmp 18)))]
 (.cond (.tmp 19) (sr [(oP 20 (.build [(.val (.int .i64 0)), (.val (.int .i64 0)), (.ro true 7 []), (.ro true 7 []), (.ro true 5 [])] [])), (oN (.store 5 (.tmp 4) (.tmp 20))), (oP 5 (.mov (kI 0))), (oP 6 (.mov (kI 3)))]
 .ret) .skip))
 (.seq (.drawn (.fin [((oP 22 (.load true 5 (.tmp 2))), (0, 0)), ((oP 24 (.load true 7 (.tmp 3))), (0, 2)), ((oP 23 (.call 33 [(.tmp 22)])), (1, 1)), ((oP 25 (.build [(.val (.int .i64 0)), (.val (.int .i64 0)), (.ro true 7 []), (.ro true 7 []), (.ro true 5 []), (.val (.int .i64 0)), (.val (.int .i64 0)), (.val (.int .i64 0)), (.str []), (.val (.int .i64 0)), (.val (.int .i64 0)), (.str [])] [(0, (5, (.tmp 23))), (5, (7, (.tmp 24)))])), (0, 3)), ((oP 26 (.call 34 [(.tmp 25)])), (2, 4)), ((mV 21 26), (0, 5)), ((oP 27 (.ext (.tmp 21) 0)), (0, 6)), ((oP 28 (.ext (.tmp 21) 1)), (0, 7)), ((oP 29 (.ext (.tmp 21) 2)), (0, 8)), ((oN (.store 5 (.tmp 2) (.tmp 27))), (2, 9)), ((mV 8 28), (0, 10)), ((mV 9 29), (0, 11))]))
 (.seq (sr [(mV 30 9), (oP 31 (.bin .neq (.tmp 30) (kI 0)))]
 (.cond (.tmp 31) (sr [(oP 32 (.build [(.val (.int .i64 0)), (.val (.int .i64 0)), (.ro true 7 []), (.ro true 7 []), (.ro true 5 [])] [])), (mV 33 9), (oN (.store 5 (.tmp 4) (.tmp 32))), (oP 5 (.mov (kI 0))), (mV 6 33)]
 .ret) .skip))
 (sr [(oP 34 (.load true 5 (.tmp 2))), (mV 35 8), (oN (.store 5 (.tmp 4) (.tmp 34))), (mV 5 35), (oP 6 (.mov (kI 0)))]
 .ret))))))⟩
theorem c6 : compFunc Try.prog 6 = some a6 := by kernel_rfl
def Z3w (r : (TJLoop × Int × Int)) : AV → Heap → Nat → Prop := fun v h' n' => ∃ z0 : Bool, (z0 = true → r.1.Tasks = []) ∧ ∃ z1 : Bool, (z1 = true → r.1.Smalls = []) ∧ ∃ z2 : Bool, (z2 = true → r.1.Timers = []) ∧ v = (.tup [(.agg [cI r.1.Now, cI r.1.Next, lstC z0 0 7 r.1.Tasks.length, lstC z1 1 7 r.1.Smalls.length, lstC z2 2 5 r.1.Timers.length]), (I r.2.1), (I r.2.2)]) ∧ (h' = (upd (upd (upd e0 0 (lstB z0 7 (r.1.Tasks.map e_TJJob))) 1 (lstB z1 7 (r.1.Smalls.map e_TJJob))) 2 (lstB z2 5 (r.1.Timers.map e_TJTimer)))) ∧ n' = 3
/-- clerestory/loop.Ask -/
noncomputable def Zn (q_ : TJLoop) (a_ : TJAsk) : Option (TJLoop × Int × Int) :=
 (Zz q_).bind fun r_ =>
 if (!decide (r_ = 0)) then
  some ((⟨0, 0, [], [], []⟩ : TJLoop), 0, r_)
 else
  if (!(Z1 a_.Do 1 5)) then
   some ((⟨0, 0, [], [], []⟩ : TJLoop), 0, 3)
  else
   (Z1h q_).bind fun r_1 =>
   (Zu (⟨r_1, a_⟩ : Tasked)).bind fun r_2 =>
   if (!decide (r_2.2.2 = 0)) then
    some ((⟨0, 0, [], [], []⟩ : TJLoop), 0, r_2.2.2)
   else
    some (r_2.1, r_2.2.1, 0)
theorem Z6c {Γ : Glob} {q_ : TJLoop} {a_ : TJAsk} {r : (TJLoop × Int × Int)} (h : Zn q_ a_ = some r) : ACalls Try.prog Γ 6 [(.agg (e_TJLoop q_)), (.agg (e_TJAsk a_))] e0 0 (Z3w r) := by
 refine acalls_of_sv hmix c6 (R := Z3w r) ?_
 unfold Zn at h
 refine ssr <| un <| a2v (v := (.c (.ref 0 5 0 0))) (h' := upd _ 0 (some (.cells 5 [(e_TJLoop q_)]))) (n' := 1) rfl rfl hcs <| un <| a2v (v := (.c (.ref 1 7 0 0))) (h' := upd _ 1 (some (.cells 7 [(e_TJAsk a_)]))) (n' := 2) rfl rfl hcs <| un <| a2v (v := (.c (.ref 2 5 0 0))) (h' := upd _ 2 (some (.cells 5 [[cI 0, cI 0, .ro true 7 [], .ro true 7 [], .ro true 5 []]]))) (n' := 3) rfl rfl hcs <| un1 rfl <| un1 rfl <| dnil <| Sv.seq <| ssr <| un1 (v := (.agg (e_TJLoop q_))) rfl ?_
 obtain ⟨r_, hr1, h⟩ := bnd h
 refine un <| ac_pure (Z2o hr1) rfl rfl rfl <| un1 rfl <| dnil <| ssr <| un1 rfl <| un1 (v := (B (!decide (r_ = 0)))) rfl <| dnil ?_
 refine Sv.cnd rfl h (fun h => ?_) fun h => ?_
 ·refine ssr <| un1 (v := (.agg [cI 0, cI 0, .ro true 7 [], .ro true 7 [], .ro true 5 []])) rfl <| un1 rfl <| un <| a2n (h' := upd _ 2 (some (.cells 5 [[cI 0, cI 0, .ro true 7 [], .ro true 7 [], .ro true 5 []]]))) (n' := 3) rfl rfl hcs <| un1 rfl <| un1 rfl <| dnil <| Sv.ret ?_
  replace h := Option.some.inj h
  subst h
  exact ⟨_, .refl _, _, rfl, ⟨upd e0 0 (some (.tup [(.agg [cI 0, cI 0, lstC true 0 7 ([] : List TJJob).length, lstC true 1 7 ([] : List TJJob).length, lstC true 2 5 ([] : List TJTimer).length]), (I 0), (I r_)])), (upd (upd (upd e0 0 (lstB true 7 (([] : List TJJob).map e_TJJob))) 1 (lstB true 7 (([] : List TJJob).map e_TJJob))) 2 (lstB true 5 (([] : List TJTimer).map e_TJTimer))), 3⟩, (.tup [(.agg [cI 0, cI 0, lstC true 0 7 ([] : List TJJob).length, lstC true 1 7 ([] : List TJJob).length, lstC true 2 5 ([] : List TJTimer).length]), (I 0), (I r_)]), weak_canon2 [1000, 1001, 1002] [0, 1, 2] (by decide) (by decide) nlz (.cons (by decide) (.cons (by decide) (.cons (by decide) .nil))) (.cons rfl (avAs_tup (.cons (avAs_agg (.sm rfl (.sm rfl (.sm rfl (.sm rfl (.sm rfl .nil)))))) (.cons (avAs_free rfl) (.cons (avAs_free rfl) .nil)))) .nil) (.non (by decide) (.non (by decide) (.non (by decide) .nil))), rfl, true, (fun _ => rfl), true, (fun _ => rfl), true, (fun _ => rfl), rfl, rfl, rfl⟩
 ·refine Sv.skip <| Sv.seq <| ssr <| un1 (v := (.c (.ref 1 7 0 0))) rfl <| un1 (v := (I a_.Do)) rfl <| un <| ac_pure (Zf (Γ := Γ) a_.Do 1 5) rfl rfl rfl <| un1 (v := (B (!(Z1 a_.Do 1 5)))) rfl <| dnil ?_
  refine Sv.cnd rfl h (fun h => ?_) fun h => ?_
  ·refine ssr <| un1 (v := (.agg [cI 0, cI 0, .ro true 7 [], .ro true 7 [], .ro true 5 []])) rfl <| un <| a2n (h' := upd _ 2 (some (.cells 5 [[cI 0, cI 0, .ro true 7 [], .ro true 7 [], .ro true 5 []]]))) (n' := 3) rfl rfl hcs <| un1 rfl <| un1 rfl <| dnil <| Sv.ret ?_
   replace h := Option.some.inj h
   subst h
   exact ⟨_, .refl _, _, rfl, ⟨upd e0 0 (some (.tup [(.agg [cI 0, cI 0, lstC true 0 7 ([] : List TJJob).length, lstC true 1 7 ([] : List TJJob).length, lstC true 2 5 ([] : List TJTimer).length]), (I 0), (I 3)])), (upd (upd (upd e0 0 (lstB true 7 (([] : List TJJob).map e_TJJob))) 1 (lstB true 7 (([] : List TJJob).map e_TJJob))) 2 (lstB true 5 (([] : List TJTimer).map e_TJTimer))), 3⟩, (.tup [(.agg [cI 0, cI 0, lstC true 0 7 ([] : List TJJob).length, lstC true 1 7 ([] : List TJJob).length, lstC true 2 5 ([] : List TJTimer).length]), (I 0), (I 3)]), weak_canon2 [1000, 1001, 1002] [0, 1, 2] (by decide) (by decide) nlz (.cons (by decide) (.cons (by decide) (.cons (by decide) .nil))) (.cons rfl (avAs_tup (.cons (avAs_agg (.sm rfl (.sm rfl (.sm rfl (.sm rfl (.sm rfl .nil)))))) (.cons (avAs_free rfl) (.cons (avAs_free rfl) .nil)))) .nil) (.non (by decide) (.non (by decide) (.non (by decide) .nil))), rfl, true, (fun _ => rfl), true, (fun _ => rfl), true, (fun _ => rfl), rfl, rfl, rfl⟩
  ·refine Sv.skip <| Sv.seq <| Sv.drawn <| un1 (v := (.agg (e_TJLoop q_))) rfl <| un1 (v := (.agg (e_TJAsk a_))) rfl ?_
   obtain ⟨r_1, hr2, h⟩ := bnd h
   refine un <| ac_gen (bs := []) («as» := [(.agg (e_TJLoop q_))]) (h2 := _) (h1 := e0) (Z3j hr2) rfl (.cons (avAs_free rfl) .nil) (hsub_refl _) (.nil _) (fun _ => rfl) (by decide) (by decide) (.cons (avAs_free rfl) .nil) .nil ?_
   rintro _ _ _ hn ⟨z_, hz_, z_1, hz_1, z_2, hz_2, rfl, rfl, rfl⟩
   refine ⟨.inl rfl, (upd (upd (upd (rem [] _) 3 (lstB z_ 7 (r_1.Tasks.map e_TJJob))) 4 (lstB z_1 7 (r_1.Smalls.map e_TJJob))) 5 (lstB z_2 5 (r_1.Timers.map e_TJTimer))), fun hbd => (m3_cons (m3_row rfl (fr_map fun _ => rfl)) (m3_cons (m3_row rfl (fr_map fun _ => rfl)) (m3_cons (m3_row rfl (fr_map fun _ => rfl)) (m3_rem (in_nil _) (.cons (by decide) (.cons (by decide) (.cons (by decide) .nil))) hbd)))), (.agg [cI r_1.Now, cI r_1.Next, lstC z_ 3 7 r_1.Tasks.length, lstC z_1 4 7 r_1.Smalls.length, lstC z_2 5 5 r_1.Timers.length]), 6, (by cases z_ <;> cases z_1 <;> cases z_2 <;> rfl), rfl, ?_⟩
   refine un1 (v := (.agg [cI r_1.Now, cI r_1.Next, lstC z_ 3 7 r_1.Tasks.length, lstC z_1 4 7 r_1.Smalls.length, lstC z_2 5 5 r_1.Timers.length, cI a_.Do, cI a_.Source, cI a_.N, .str a_.Call, cI a_.Arg.Kind, cI a_.Arg.N, .str a_.Arg.S])) rfl ?_
   obtain ⟨r_2, hr3, h⟩ := bnd h
   refine un <| ac_gen (bs := [3, 4, 5]) («as» := [(.agg [cI r_1.Now, cI r_1.Next, lstC z_ 3 7 r_1.Tasks.length, lstC z_1 4 7 r_1.Smalls.length, lstC z_2 5 5 r_1.Timers.length, cI a_.Do, cI a_.Source, cI a_.N, .str a_.Call, cI a_.Arg.Kind, cI a_.Arg.N, .str a_.Arg.S])]) (h2 := _) (h1 := (upd (upd (upd e0 3 (lstB z_ 7 (r_1.Tasks.map e_TJJob))) 4 (lstB z_1 7 (r_1.Smalls.map e_TJJob))) 5 (lstB z_2 5 (r_1.Timers.map e_TJTimer)))) (Z6b hz_ hz_1 hz_2 hr3) rfl (.cons (avAs_agg (.sm rfl (.sm rfl (.cons (lstC_ren rfl (by decide)) (.cons (lstC_ren rfl (by decide)) (.cons (lstC_ren rfl (by decide)) (.sm rfl (.sm rfl (.sm rfl (.sm rfl (.sm rfl (.sm rfl (.sm rfl .nil))))))))))))) .nil) (hsub_refl _) (.cons rfl (.cons rfl (.cons rfl (.nil _)))) hcs (by decide) (by decide) (.cons (avAs_agg (.sm rfl (.sm rfl (.cons (lstC_ren rfl (by decide)) (.cons (lstC_ren rfl (by decide)) (.cons (lstC_ren rfl (by decide)) (.sm rfl (.sm rfl (.sm rfl (.sm rfl (.sm rfl (.sm rfl (.sm rfl .nil))))))))))))) .nil) (.row (by decide) rfl (fr_map fun _ => rfl) (.row (by decide) rfl (fr_map fun _ => rfl) (.row (by decide) rfl (fr_map fun _ => rfl) .nil))) ?_
   rintro _ _ _ hn ⟨z_3, hz_3, z_4, hz_4, z_5, hz_5, rfl, rfl, rfl⟩
   refine ⟨.inl rfl, (upd (upd (upd (rem [3, 4, 5] _) 6 (lstB z_3 7 (r_2.1.Tasks.map e_TJJob))) 7 (lstB z_4 7 (r_2.1.Smalls.map e_TJJob))) 8 (lstB z_5 5 (r_2.1.Timers.map e_TJTimer))), fun hbd => (m3_cons (m3_row rfl (fr_map fun _ => rfl)) (m3_cons (m3_row rfl (fr_map fun _ => rfl)) (m3_cons (m3_row rfl (fr_map fun _ => rfl)) (m3_rem (in_cons (by decide) (in_cons (by decide) (in_cons (by decide) (in_nil _)))) (.cons (by decide) (.cons (by decide) (.cons (by decide) .nil))) hbd)))), (.tup [(.agg [cI r_2.1.Now, cI r_2.1.Next, lstC z_3 6 7 r_2.1.Tasks.length, lstC z_4 7 7 r_2.1.Smalls.length, lstC z_5 8 5 r_2.1.Timers.length]), (I r_2.2.1), (I r_2.2.2)]), 9, (by cases z_3 <;> cases z_4 <;> cases z_5 <;> rfl), rfl, ?_⟩
   refine un1 rfl <| un1 (v := (.agg [cI r_2.1.Now, cI r_2.1.Next, lstC z_3 6 7 r_2.1.Tasks.length, lstC z_4 7 7 r_2.1.Smalls.length, lstC z_5 8 5 r_2.1.Timers.length])) rfl <| un1 (v := (I r_2.2.1)) rfl <| un1 (v := (I r_2.2.2)) rfl <| un <| a2n (h' := upd _ 0 (some (.cells 5 [[cI r_2.1.Now, cI r_2.1.Next, lstC z_3 6 7 r_2.1.Tasks.length, lstC z_4 7 7 r_2.1.Smalls.length, lstC z_5 8 5 r_2.1.Timers.length]]))) (n' := 9) rfl rfl hcs <| un1 rfl <| un1 rfl <| dnil <| Sv.seq <| ssr <| un1 rfl <| un1 (v := (B (!decide (r_2.2.2 = 0)))) rfl <| dnil ?_
   refine Sv.cnd rfl h (fun h => ?_) fun h => ?_
   ·refine ssr <| un1 (v := (.agg [cI 0, cI 0, .ro true 7 [], .ro true 7 [], .ro true 5 []])) rfl <| un1 rfl <| un <| a2n (h' := upd _ 2 (some (.cells 5 [[cI 0, cI 0, .ro true 7 [], .ro true 7 [], .ro true 5 []]]))) (n' := 9) rfl rfl hcs <| un1 rfl <| un1 rfl <| dnil <| Sv.ret ?_
    replace h := Option.some.inj h
    subst h
    exact ⟨_, .refl _, _, rfl, ⟨upd e0 0 (some (.tup [(.agg [cI 0, cI 0, lstC true 0 7 ([] : List TJJob).length, lstC true 1 7 ([] : List TJJob).length, lstC true 2 5 ([] : List TJTimer).length]), (I 0), (I r_2.2.2)])), (upd (upd (upd e0 0 (lstB true 7 (([] : List TJJob).map e_TJJob))) 1 (lstB true 7 (([] : List TJJob).map e_TJJob))) 2 (lstB true 5 (([] : List TJTimer).map e_TJTimer))), 3⟩, (.tup [(.agg [cI 0, cI 0, lstC true 0 7 ([] : List TJJob).length, lstC true 1 7 ([] : List TJJob).length, lstC true 2 5 ([] : List TJTimer).length]), (I 0), (I r_2.2.2)]), weak_canon2 [1000, 1001, 1002] [0, 1, 2] (by decide) (by decide) nlz (.cons (by decide) (.cons (by decide) (.cons (by decide) .nil))) (.cons rfl (avAs_tup (.cons (avAs_agg (.sm rfl (.sm rfl (.sm rfl (.sm rfl (.sm rfl .nil)))))) (.cons (avAs_free rfl) (.cons (avAs_free rfl) .nil)))) .nil) (.non (by decide) (.non (by decide) (.non (by decide) .nil))), rfl, true, (fun _ => rfl), true, (fun _ => rfl), true, (fun _ => rfl), rfl, rfl, rfl⟩
   ·refine Sv.skip <| ssr <| un1 (v := (.agg [cI r_2.1.Now, cI r_2.1.Next, lstC z_3 6 7 r_2.1.Tasks.length, lstC z_4 7 7 r_2.1.Smalls.length, lstC z_5 8 5 r_2.1.Timers.length])) rfl <| un1 rfl <| un <| a2n (h' := upd _ 2 (some (.cells 5 [[cI r_2.1.Now, cI r_2.1.Next, lstC z_3 6 7 r_2.1.Tasks.length, lstC z_4 7 7 r_2.1.Smalls.length, lstC z_5 8 5 r_2.1.Timers.length]]))) (n' := 9) rfl rfl hcs <| un1 rfl <| un1 rfl <| dnil <| Sv.ret ?_
    replace h := Option.some.inj h
    subst h
    exact ⟨_, .refl _, _, rfl, ⟨upd e0 0 (some (.tup [(.agg [cI r_2.1.Now, cI r_2.1.Next, lstC z_3 0 7 r_2.1.Tasks.length, lstC z_4 1 7 r_2.1.Smalls.length, lstC z_5 2 5 r_2.1.Timers.length]), (I r_2.2.1), (I 0)])), (upd (upd (upd e0 0 (lstB z_3 7 (r_2.1.Tasks.map e_TJJob))) 1 (lstB z_4 7 (r_2.1.Smalls.map e_TJJob))) 2 (lstB z_5 5 (r_2.1.Timers.map e_TJTimer))), 3⟩, (.tup [(.agg [cI r_2.1.Now, cI r_2.1.Next, lstC z_3 0 7 r_2.1.Tasks.length, lstC z_4 1 7 r_2.1.Smalls.length, lstC z_5 2 5 r_2.1.Timers.length]), (I r_2.2.1), (I 0)]), weak_canon2 [6, 7, 8] [0, 1, 2] (by decide) (by decide) nlz (.cons (by decide) (.cons (by decide) (.cons (by decide) .nil))) (.cons rfl (avAs_tup (.cons (avAs_agg (.sm rfl (.sm rfl (.cons (lstC_ren rfl (by decide)) (.cons (lstC_ren rfl (by decide)) (.cons (lstC_ren rfl (by decide)) .nil)))))) (.cons (avAs_free rfl) (.cons (avAs_free rfl) .nil)))) .nil) (.row (by decide) rfl (fr_map fun _ => rfl) (.row (by decide) rfl (fr_map fun _ => rfl) (.row (by decide) rfl (fr_map fun _ => rfl) .nil))), rfl, z_3, hz_3, z_4, hz_4, z_5, hz_5, rfl, rfl, rfl⟩
noncomputable abbrev Z2g (x_ : List TJJob) (i_ j_ : Int) : Option (List TJJob) := del? x_ i_ j_
theorem Z3x {Γ : Glob} {x_ r : List TJJob} {i_ j_ : Int} {zx : Bool} (hzx : zx = true → x_ = []) (h : Z2g x_ i_ j_ = some r) : ACalls Try.prog Γ 70 [lstV zx 0 7 x_.length, I i_, I j_] (upd e0 0 (lstB zx 7 (x_.map e_TJJob))) 1 (fun v h' n' => ∃ z' : Bool, (z' = true → r = []) ∧ v = lstV z' 1 7 r.length ∧ (h' = (upd e0 1 (lstB z' 7 (r.map e_TJJob)))) ∧ n' = 2) := del_ok (e := e_TJJob) (fun _ => rfl) (by decide) (fun blk n cap i j C T fr w a b c d e f g => del70_walk _ rfl rfl _ Try.zeroValue34 rfl (by decide) blk n cap i j C T fr w a b c d e f g) hzx h
def a71_c0 : ACode := (.seq (.drawn (.alt [((oP 59 (.load true 5 (.tmp 1))), (0, 0))] (.fin [((oP 60 (.load true 7 (.tmp 5))), (1, 1)), ((oN (.store 5 (.tmp 2) (.tmp 59))), (2, 2)), ((oN (.store 7 (.tmp 3) (.tmp 60))), (2, 3))]) (.fin [((oN (.store 5 (.tmp 2) (.tmp 59))), (2, 2)), ((oP 60 (.load true 7 (.tmp 5))), (1, 1)), ((oN (.store 7 (.tmp 3) (.tmp 60))), (2, 3))])))
 .ret)
def a71 : AFunc := ⟨1, [(.cell true 5 2), (.cell true 7 3)], (sr [(oP 1 (.box (.tmp 0))), (oP 2 (.box (.const (.agg [(.val (.int .i64 0)), (.val (.int .i64 0)), (.ro true 7 []), (.ro true 7 []), (.ro true 5 [])])))), (oP 3 (.box (.const (.agg [(.val (.int .i64 0)), (.val (.int .i64 0)), (.val (.bool false)), (.str []), (.val (.int .i64 0)), (.val (.int .i64 0)), (.str [])]))))]
 (sr [(oP 6 (.faddr 4 (.tmp 1))), (oP 7 (.load false 1 (.tmp 6))), (oP 8 (.iaddr 5 (.tmp 7) (kI 0))), (oP 9 (.load true 5 (.tmp 8))), (oP 4 (.box (.const (.agg [(.val (.int .i64 0)), (.val (.int .i64 0)), (.val (.int .i64 0)), (.val (.int .i64 0)), (.str [])])))), (oN (.store 5 (.tmp 4) (.tmp 9)))]
 (sr [(oP 10 (.faddr 4 (.tmp 1))), (oP 11 (.load false 1 (.tmp 10))), (oP 12 (.call 69 [(.tmp 11), (kI 0), (kI 1)])), (oP 13 (.faddr 4 (.tmp 1))), (oN (.store 1 (.tmp 13) (.tmp 12)))]
 (sr [(oP 14 (.faddr 0 (.tmp 1))), (oP 15 (.load false 1 (.tmp 14))), (oP 16 (.faddr 1 (.tmp 4))), (oP 17 (.load false 1 (.tmp 16))), (oP 18 (.mm true [(.tmp 15), (.tmp 17)])), (oP 19 (.faddr 0 (.tmp 1))), (oN (.store 1 (.tmp 19) (.tmp 18)))]
 (sr [(oP 20 (.faddr 0 (.tmp 4))), (oP 21 (.load false 1 (.tmp 20))), (oP 22 (.faddr 4 (.tmp 4))), (oP 23 (.load false 1 (.tmp 22))), (oP 24 (.faddr 3 (.tmp 4))), (oP 25 (.load false 1 (.tmp 24))), (oP 26 (.build [(.val (.int .i64 0)), (.val (.int .i64 0)), (.str [])] [(0, (1, (kI 2))), (1, (1, (.tmp 25)))])), (oP 27 (.build [(.val (.int .i64 0)), (.val (.int .i64 0)), (.val (.bool false)), (.str []), (.val (.int .i64 0)), (.val (.int .i64 0)), (.str [])] [(0, (1, (.tmp 21))), (1, (1, (kI 3))), (3, (1, (.tmp 23))), (4, (3, (.tmp 26)))])), (oP 5 (.box (.const (.agg [(.val (.int .i64 0)), (.val (.int .i64 0)), (.val (.bool false)), (.str []), (.val (.int .i64 0)), (.val (.int .i64 0)), (.str [])])))), (oN (.store 7 (.tmp 5) (.tmp 27)))]
 (.seq (sr [(oP 28 (.faddr 2 (.tmp 4))), (oP 29 (.load false 1 (.tmp 28))), (oP 30 (.bin .gtr (.tmp 29) (kI 0))), (mV 31 30), ⟨(some 32), (.faddr 1 (.tmp 4)), (some (31, true))⟩, ⟨(some 33), (.load false 1 (.tmp 32)), (some (31, true))⟩, ⟨(some 34), (.faddr 2 (.tmp 4)), (some (31, true))⟩, ⟨(some 35), (.load false 1 (.tmp 34)), (some (31, true))⟩, ⟨(some 36), (.bin .add (.tmp 33) (.tmp 35)), (some (31, true))⟩, ⟨(some 37), (.bin .leq (.tmp 36) (kI 1000000000)), (some (31, true))⟩, (oP 38 (.pick (.tmp 31) (.tmp 37) kF)), (mV 39 38), ⟨(some 40), (.faddr 3 (.tmp 4)), (some (39, true))⟩, ⟨(some 41), (.load false 1 (.tmp 40)), (some (39, true))⟩, ⟨(some 42), (.bin .lss (.tmp 41) (kI 1000000000)), (some (39, true))⟩, (oP 43 (.pick (.tmp 39) (.tmp 42) kF))]
 (.cond (.tmp 43) (sr [(oP 44 (.faddr 1 (.tmp 4))), (oP 45 (.load false 1 (.tmp 44))), (oP 46 (.faddr 2 (.tmp 4))), (oP 47 (.load false 1 (.tmp 46))), (oP 48 (.bin .add (.tmp 45) (.tmp 47))), (oP 49 (.faddr 3 (.tmp 4))), (oP 50 (.load false 1 (.tmp 49))), (oP 51 (.bin .add (.tmp 50) (kI 1))), (oP 52 (.faddr 1 (.tmp 4))), (oN (.store 1 (.tmp 52) (.tmp 48))), (oP 53 (.faddr 3 (.tmp 4))), (oN (.store 1 (.tmp 53) (.tmp 51)))]
 (.region [(oP 54 (.faddr 4 (.tmp 1))), (oP 55 (.load false 1 (.tmp 54))), (oP 56 (.load true 5 (.tmp 4))), (oP 57 (.call 88 [(.tmp 55), (.tmp 56)])), (oP 58 (.faddr 4 (.tmp 1))), (oN (.store 1 (.tmp 58) (.tmp 57)))])) .skip))
 a71_c0))))))⟩
theorem c71 : compFunc Try.prog 71 = some a71 := by kernel_rfl
def Z2t (r : (TJLoop × TJJob)) : AV → Heap → Nat → Prop := fun v h' n' => ∃ z0 : Bool, (z0 = true → r.1.Tasks = []) ∧ ∃ z1 : Bool, (z1 = true → r.1.Smalls = []) ∧ ∃ z2 : Bool, (z2 = true → r.1.Timers = []) ∧ v = (.tup [(.agg [cI r.1.Now, cI r.1.Next, lstC z0 3 7 r.1.Tasks.length, lstC z1 4 7 r.1.Smalls.length, lstC z2 5 5 r.1.Timers.length]), (.agg (e_TJJob r.2))]) ∧ (h' = (upd (upd (upd e0 3 (lstB z0 7 (r.1.Tasks.map e_TJJob))) 4 (lstB z1 7 (r.1.Smalls.map e_TJJob))) 5 (lstB z2 5 (r.1.Timers.map e_TJTimer)))) ∧ n' = 6
noncomputable def Z1x (q_ : TJLoop) (x_ : TJTimer) (q2 : (List TJJob)) (q3 : (List TJJob)) (q4 : (List TJTimer)) : Option (TJLoop × TJJob) :=
 some ((⟨(mx q_.Now x_.At), q_.Next, q2, q3, q4⟩ : TJLoop), (⟨x_.ID, 3, false, x_.Call, (⟨2, x_.Turn, []⟩ : TJVal)⟩ : TJJob))
theorem Z3y {Γ : Glob} {q_ : TJLoop} {x_ : TJTimer} {q2 : (List TJJob)} {q3 : (List TJJob)} {q4 : (List TJTimer)} {zq21 : Bool} (hzq21 : zq21 = true → q2 = []) {zq3 : Bool} (hzq3 : zq3 = true → q3 = []) {zq4 : Bool} (hzq4 : zq4 = true → q4 = []) {o : (TJLoop × TJJob)} (h : Z1x q_ x_ q2 q3 q4 = some o) :
  Sv Try.prog Γ 3 a71_c0 (Ends a71.results 3 (Z2t o)) ⟨(ue [(5, (.c (.ref 7 7 0 0))), (3, (.c (.ref 6 7 0 0))), (2, (.c (.ref 5 5 0 0))), (1, (.c (.ref 3 5 0 0)))]), (upd (upd (upd (upd (upd (upd (upd e0 0 (lstB zq21 7 (q2.map e_TJJob))) 1 (lstB zq3 7 (q3.map e_TJJob))) 3 (some (.cells 5 [[cI (mx q_.Now x_.At), cI q_.Next, lstC zq21 0 7 q2.length, lstC zq3 1 7 q3.length, lstC zq4 4 5 q4.length]]))) 4 (lstB zq4 5 (q4.map e_TJTimer))) 5 (some (.cells 5 [[cI 0, cI 0, .ro true 7 [], .ro true 7 [], .ro true 5 []]]))) 6 (some (.cells 7 [[cI 0, cI 0, cB false, .str [], cI 0, cI 0, .str []]]))) 7 (some (.cells 7 [[cI x_.ID, cI 3, cB false, .str x_.Call, cI 2, cI x_.Turn, .str []]]))), 8⟩ := by
 unfold Z1x at h
 refine Sv.seq <| Sv.drawn2 <| un1 (v := (.agg [cI (mx q_.Now x_.At), cI q_.Next, lstC zq21 0 7 q2.length, lstC zq3 1 7 q3.length, lstC zq4 4 5 q4.length])) rfl <| dnil ?_
 refine ⟨?_, ?_⟩
 ·refine un1 (v := (.agg [cI x_.ID, cI 3, cB false, .str x_.Call, cI 2, cI x_.Turn, .str []])) rfl <| un <| a2n (h' := upd _ 5 (some (.cells 5 [[cI (mx q_.Now x_.At), cI q_.Next, lstC zq21 0 7 q2.length, lstC zq3 1 7 q3.length, lstC zq4 4 5 q4.length]]))) (n' := 8) rfl rfl hcs <| un <| a2n (h' := upd _ 6 (some (.cells 7 [[cI x_.ID, cI 3, cB false, .str x_.Call, cI 2, cI x_.Turn, .str []]]))) (n' := 8) rfl rfl hcs <| dnil <| Sv.ret ?_
  replace h := Option.some.inj h
  subst h
  exact ⟨_, .refl _, _, rfl, ⟨upd e0 0 (some (.tup [(.agg [cI (mx q_.Now x_.At), cI q_.Next, lstC zq21 3 7 q2.length, lstC zq3 4 7 q3.length, lstC zq4 5 5 q4.length]), (.agg [cI x_.ID, cI 3, cB false, .str x_.Call, cI 2, cI x_.Turn, .str []])])), (upd (upd (upd e0 3 (lstB zq21 7 (q2.map e_TJJob))) 4 (lstB zq3 7 (q3.map e_TJJob))) 5 (lstB zq4 5 (q4.map e_TJTimer))), 6⟩, (.tup [(.agg [cI (mx q_.Now x_.At), cI q_.Next, lstC zq21 3 7 q2.length, lstC zq3 4 7 q3.length, lstC zq4 5 5 q4.length]), (.agg [cI x_.ID, cI 3, cB false, .str x_.Call, cI 2, cI x_.Turn, .str []])]), weak_canon2 [0, 1, 2, 0, 1, 4] [3, 4, 5] (by decide) (by decide) (by decide) (.cons (by decide) (.cons (by decide) (.cons (by decide) .nil))) (.cons rfl (avAs_tup (.cons (avAs_agg (.sm rfl (.sm rfl (.cons (lstC_ren rfl (by decide)) (.cons (lstC_ren rfl (by decide)) (.cons (lstC_ren rfl (by decide)) .nil)))))) (.cons (avAs_free rfl) .nil))) .nil) (.row (by decide) rfl (fr_map fun _ => rfl) (.row (by decide) rfl (fr_map fun _ => rfl) (.row (by decide) rfl (fr_map fun _ => rfl) .nil))), rfl, zq21, hzq21, zq3, hzq3, zq4, hzq4, rfl, rfl, rfl⟩
 ·refine un <| a2n (h' := upd _ 5 (some (.cells 5 [[cI (mx q_.Now x_.At), cI q_.Next, lstC zq21 0 7 q2.length, lstC zq3 1 7 q3.length, lstC zq4 4 5 q4.length]]))) (n' := 8) rfl rfl hcs <| un1 (v := (.agg [cI x_.ID, cI 3, cB false, .str x_.Call, cI 2, cI x_.Turn, .str []])) rfl <| un <| a2n (h' := upd _ 6 (some (.cells 7 [[cI x_.ID, cI 3, cB false, .str x_.Call, cI 2, cI x_.Turn, .str []]]))) (n' := 8) rfl rfl hcs <| dnil <| Sv.ret ?_
  replace h := Option.some.inj h
  subst h
  exact ⟨_, .refl _, _, rfl, ⟨upd e0 0 (some (.tup [(.agg [cI (mx q_.Now x_.At), cI q_.Next, lstC zq21 3 7 q2.length, lstC zq3 4 7 q3.length, lstC zq4 5 5 q4.length]), (.agg [cI x_.ID, cI 3, cB false, .str x_.Call, cI 2, cI x_.Turn, .str []])])), (upd (upd (upd e0 3 (lstB zq21 7 (q2.map e_TJJob))) 4 (lstB zq3 7 (q3.map e_TJJob))) 5 (lstB zq4 5 (q4.map e_TJTimer))), 6⟩, (.tup [(.agg [cI (mx q_.Now x_.At), cI q_.Next, lstC zq21 3 7 q2.length, lstC zq3 4 7 q3.length, lstC zq4 5 5 q4.length]), (.agg [cI x_.ID, cI 3, cB false, .str x_.Call, cI 2, cI x_.Turn, .str []])]), weak_canon2 [0, 1, 2, 0, 1, 4] [3, 4, 5] (by decide) (by decide) (by decide) (.cons (by decide) (.cons (by decide) (.cons (by decide) .nil))) (.cons rfl (avAs_tup (.cons (avAs_agg (.sm rfl (.sm rfl (.cons (lstC_ren rfl (by decide)) (.cons (lstC_ren rfl (by decide)) (.cons (lstC_ren rfl (by decide)) .nil)))))) (.cons (avAs_free rfl) .nil))) .nil) (.row (by decide) rfl (fr_map fun _ => rfl) (.row (by decide) rfl (fr_map fun _ => rfl) (.row (by decide) rfl (fr_map fun _ => rfl) .nil))), rfl, zq21, hzq21, zq3, hzq3, zq4, hzq4, rfl, rfl, rfl⟩
/-- clerestory/loop.fire -/
noncomputable def Z1y (q_ : TJLoop) : Option (TJLoop × TJJob) :=
 (at? q_.Timers 0).bind fun x_ =>
 (Z1w q_.Timers 0 1).bind fun r_ =>
 if (((decide (0 < x_.Every)) && (decide ((wi (x_.At + x_.Every)) ≤ 1000000000))) && (decide (x_.Turn < 1000000000))) then
  (Z1j r_ (⟨x_.ID, (wi (x_.At + x_.Every)), x_.Every, (wi (x_.Turn + 1)), x_.Call⟩ : TJTimer)).bind fun r_1 =>
  Z1x q_ x_ q_.Tasks q_.Smalls r_1
 else
  Z1x q_ x_ q_.Tasks q_.Smalls r_
theorem Z6d {Γ : Glob} {q_ : TJLoop} {zq : Bool} (hzq : zq = true → q_.Tasks = []) {zq1 : Bool} (hzq1 : zq1 = true → q_.Smalls = []) {zq2 : Bool} (hzq2 : zq2 = true → q_.Timers = []) {r : (TJLoop × TJJob)} (h : Z1y q_ = some r) : ACalls Try.prog Γ 71 [(.agg [cI q_.Now, cI q_.Next, lstC zq 0 7 q_.Tasks.length, lstC zq1 1 7 q_.Smalls.length, lstC zq2 2 5 q_.Timers.length])] (upd (upd (upd e0 0 (lstB zq 7 (q_.Tasks.map e_TJJob))) 1 (lstB zq1 7 (q_.Smalls.map e_TJJob))) 2 (lstB zq2 5 (q_.Timers.map e_TJTimer))) 3 (Z2t r) := by
 refine acalls_of_sv hmix c71 (R := Z2t r) ?_
 unfold Z1y at h
 refine ssr <| un <| a2v (v := (.c (.ref 3 5 0 0))) (h' := upd _ 3 (some (.cells 5 [[cI q_.Now, cI q_.Next, lstC zq 0 7 q_.Tasks.length, lstC zq1 1 7 q_.Smalls.length, lstC zq2 2 5 q_.Timers.length]]))) (n' := 4) rfl rfl hcs <| un <| a2v (v := (.c (.ref 4 5 0 0))) (h' := upd _ 4 (some (.cells 5 [[cI 0, cI 0, .ro true 7 [], .ro true 7 [], .ro true 5 []]]))) (n' := 5) rfl rfl hcs <| un <| a2v (v := (.c (.ref 5 7 0 0))) (h' := upd _ 5 (some (.cells 7 [[cI 0, cI 0, cB false, .str [], cI 0, cI 0, .str []]]))) (n' := 6) rfl rfl hcs <| dnil <| ssr <| un1 (v := (.c (.ref 3 5 0 4))) rfl <| un1 (v := (lstV zq2 2 5 q_.Timers.length)) rfl ?_
 obtain ⟨x_, hx1, h⟩ := bnd h
 refine un1 (v := (.c (.ref 2 5 (0 : Int).toNat 0))) (s_iaddrL rfl rfl hzq2 hx1) <| un1 (v := (.agg (e_TJTimer x_))) (s_loadL (z := zq2) (e := e_TJTimer) rfl rfl hzq2 hx1 rfl rfl) <| un <| a2v (v := (.c (.ref 6 5 0 0))) (h' := upd _ 6 (some (.cells 5 [[cI 0, cI 0, cI 0, cI 0, .str []]]))) (n' := 7) rfl rfl hcs <| un <| a2n (h' := upd _ 6 (some (.cells 5 [(e_TJTimer x_)]))) (n' := 7) rfl rfl hcs <| dnil <| ssr <| un1 (v := (.c (.ref 3 5 0 4))) rfl <| un1 (v := (lstV zq2 2 5 q_.Timers.length)) rfl ?_
 obtain ⟨r_, hr1, h⟩ := bnd h
 refine un <| ac_gen (bs := [2]) («as» := [(lstV zq2 2 5 q_.Timers.length), (I 0), (I 1)]) (h2 := _) (h1 := (upd e0 2 (lstB zq2 5 (q_.Timers.map e_TJTimer)))) (Z3u hzq2 hr1) rfl (.cons (.c (lsr rfl rfl)) (.cons (avAs_free rfl) (.cons (avAs_free rfl) .nil))) (hsub_refl _) (.cons rfl (.nil _)) hcs (by decide) (by decide) (.cons (.c (lsr rfl rfl)) (.cons (avAs_free rfl) (.cons (avAs_free rfl) .nil))) (.row (by decide) rfl (fr_map fun _ => rfl) .nil) ?_
 rintro _ _ _ hn ⟨z_, hz_, rfl, rfl, rfl⟩
 refine ⟨.inl rfl, (upd (rem [2] _) 7 (lstB z_ 5 (r_.map e_TJTimer))), fun hbd => (m3_cons (m3_row rfl (fr_map fun _ => rfl)) (m3_rem (in_cons (by decide) (in_nil _)) (.cons (by decide) .nil) hbd)), (lstV z_ 7 5 r_.length), 8, (by cases z_ <;> rfl), rfl, ?_⟩
 refine un1 (v := (.c (.ref 3 5 0 4))) rfl <| un <| a2n (h' := upd _ 3 (some (.cells 5 [[cI q_.Now, cI q_.Next, lstC zq 0 7 q_.Tasks.length, lstC zq1 1 7 q_.Smalls.length, lstC z_ 7 5 r_.length]]))) (n' := 8) rfl rfl hcs <| dnil <| ssr <| un1 (v := (.c (.ref 3 5 0 0))) rfl <| un1 (v := (I q_.Now)) rfl <| un1 (v := (.c (.ref 6 5 0 1))) rfl <| un1 (v := (I x_.At)) rfl <| un1 (v := (I (mx q_.Now x_.At))) (s_mx rfl rfl) <| un1 (v := (.c (.ref 3 5 0 0))) rfl <| un <| a2n (h' := upd _ 3 (some (.cells 5 [[cI (mx q_.Now x_.At), cI q_.Next, lstC zq 0 7 q_.Tasks.length, lstC zq1 1 7 q_.Smalls.length, lstC z_ 7 5 r_.length]]))) (n' := 8) rfl rfl hcs <| dnil <| ssr <| un1 (v := (.c (.ref 6 5 0 0))) rfl <| un1 (v := (I x_.ID)) rfl <| un1 (v := (.c (.ref 6 5 0 4))) rfl <| un1 (v := (S x_.Call)) rfl <| un1 (v := (.c (.ref 6 5 0 3))) rfl <| un1 (v := (I x_.Turn)) rfl <| un1 (v := (.agg [cI 2, cI x_.Turn, .str []])) rfl <| un1 (v := (.agg [cI x_.ID, cI 3, cB false, .str x_.Call, cI 2, cI x_.Turn, .str []])) rfl <| un <| a2v (v := (.c (.ref 8 7 0 0))) (h' := upd _ 8 (some (.cells 7 [[cI 0, cI 0, cB false, .str [], cI 0, cI 0, .str []]]))) (n' := 9) rfl rfl hcs <| un <| a2n (h' := upd _ 8 (some (.cells 7 [[cI x_.ID, cI 3, cB false, .str x_.Call, cI 2, cI x_.Turn, .str []]]))) (n' := 9) rfl rfl hcs <| dnil <| Sv.seq <| ssr <| un1 (v := (.c (.ref 6 5 0 2))) rfl <| un1 (v := (I x_.Every)) rfl <| un1 (v := (B (decide (0 < x_.Every)))) rfl <| un1 rfl ?_
 refine gjoin 7 (d := 38) (v := (B ((decide (0 < x_.Every)) && (decide ((wi (x_.At + x_.Every)) ≤ 1000000000))))) (fun X hX => ?_) ?_
 ·refine split2 (fun hc1 => ?_) (fun hc1 => ?_)
  ·refine gt rfl <| a1 (v := (.c (.ref 6 5 0 1))) rfl <| gt rfl <| a1 (v := (I x_.At)) rfl <| gt rfl <| a1 (v := (.c (.ref 6 5 0 2))) rfl <| gt rfl <| a1 (v := (I x_.Every)) rfl <| gt rfl <| a1 (v := (I (wi (x_.At + x_.Every)))) rfl <| gt rfl <| a1 (v := (B (decide ((wi (x_.At + x_.Every)) ≤ 1000000000)))) rfl <| un1 (v := (B (decide ((wi (x_.At + x_.Every)) ≤ 1000000000)))) rfl <| dnil ?_
   exact hX _ (.putEq (by rw [hc1]; rfl) (by repeat (first | exact .putEq (by rw [hc1]) (.refl _) | refine .skp ?_ rfl)))
  ·repeat (first | refine gu rfl ?_ | refine gs rfl rfl ?_)
   refine un1 (v := (B false)) rfl <| dnil ?_
   exact hX _ (.putEq (by rw [hc1]; rfl) (by repeat (first | exact .putEq (by rw [hc1]) (.refl _) | refine .skp ?_ rfl)))
 refine un1 rfl ?_
 refine gjoin 4 (d := 43) (v := (B (((decide (0 < x_.Every)) && (decide ((wi (x_.At + x_.Every)) ≤ 1000000000))) && (decide (x_.Turn < 1000000000))))) (fun X hX => ?_) ?_
 ·refine split2 (fun hc2 => ?_) (fun hc2 => ?_)
  ·refine gt rfl <| a1 (v := (.c (.ref 6 5 0 3))) rfl <| gt rfl <| a1 (v := (I x_.Turn)) rfl <| gt rfl <| a1 (v := (B (decide (x_.Turn < 1000000000)))) rfl <| un1 (v := (B (decide (x_.Turn < 1000000000)))) rfl <| dnil ?_
   exact hX _ (.putEq (by rw [hc2]; rfl) (.skp (.skp (.skp (.putEq (by rw [hc2]) (.refl _)) rfl) rfl) rfl))
  ·refine gs rfl rfl <| gs rfl rfl <| gs rfl rfl <| un1 (v := (B false)) rfl <| dnil ?_
   exact hX _ (.putEq (by rw [hc2]; rfl) (.skp (.skp (.skp (.putEq (by rw [hc2]) (.refl _)) rfl) rfl) rfl))
 refine dnil ?_
 refine Sv.cnd rfl h (fun h => ?_) fun h => ?_
 ·refine ssr <| un1 (v := (.c (.ref 6 5 0 1))) rfl <| un1 (v := (I x_.At)) rfl <| un1 (v := (.c (.ref 6 5 0 2))) rfl <| un1 (v := (I x_.Every)) rfl <| un1 (v := (I (wi (x_.At + x_.Every)))) rfl <| un1 (v := (.c (.ref 6 5 0 3))) rfl <| un1 (v := (I x_.Turn)) rfl <| un1 (v := (I (wi (x_.Turn + 1)))) rfl <| un1 (v := (.c (.ref 6 5 0 1))) rfl <| un <| a2n (h' := upd _ 6 (some (.cells 5 [[cI x_.ID, cI (wi (x_.At + x_.Every)), cI x_.Every, cI x_.Turn, .str x_.Call]]))) (n' := 9) rfl rfl hcs <| un1 (v := (.c (.ref 6 5 0 3))) rfl <| un <| a2n (h' := upd _ 6 (some (.cells 5 [[cI x_.ID, cI (wi (x_.At + x_.Every)), cI x_.Every, cI (wi (x_.Turn + 1)), .str x_.Call]]))) (n' := 9) rfl rfl hcs <| dnil <| srg <| un1 (v := (.c (.ref 3 5 0 4))) rfl <| un1 (v := (lstV z_ 7 5 r_.length)) rfl <| un1 (v := (.agg [cI x_.ID, cI (wi (x_.At + x_.Every)), cI x_.Every, cI (wi (x_.Turn + 1)), .str x_.Call])) rfl ?_
  obtain ⟨r_1, hr2, h⟩ := bnd h
  refine un <| ac_gen (bs := [7]) («as» := [(lstV z_ 7 5 r_.length), (.agg [cI x_.ID, cI (wi (x_.At + x_.Every)), cI x_.Every, cI (wi (x_.Turn + 1)), .str x_.Call])]) (h2 := _) (h1 := (upd e0 7 (lstB z_ 5 (r_.map e_TJTimer)))) (Z3p hz_ hr2) rfl (.cons (.c (lsr rfl rfl)) (.cons (avAs_free rfl) .nil)) (hsub_refl _) (.cons rfl (.nil _)) hcs (by decide) (by decide) (.cons (.c (lsr rfl rfl)) (.cons (avAs_free rfl) .nil)) (.row (by decide) rfl (fr_map fun _ => rfl) .nil) ?_
  rintro _ _ _ hn ⟨z_1, hz_1, rfl, rfl, rfl⟩
  refine ⟨.inl rfl, (upd (rem [7] _) 9 (lstB z_1 5 (r_1.map e_TJTimer))), fun hbd => (m3_cons (m3_row rfl (fr_map fun _ => rfl)) (m3_rem (in_cons (by decide) (in_nil _)) (.cons (by decide) .nil) hbd)), (lstV z_1 9 5 r_1.length), 10, (by cases z_1 <;> rfl), rfl, ?_⟩
  refine un1 (v := (.c (.ref 3 5 0 4))) rfl <| un <| a2n (h' := upd _ 3 (some (.cells 5 [[cI (mx q_.Now x_.At), cI q_.Next, lstC zq 0 7 q_.Tasks.length, lstC zq1 1 7 q_.Smalls.length, lstC z_1 9 5 r_1.length]]))) (n' := 10) rfl rfl hcs <| dnil ?_
  exact Sv.weak (weak_canon [0, 1, 2, 3, 9, 4, 5, 8] rfl (by decide) (by decide) (by decide) (.cr rfl rfl rfl (.cr rfl rfl rfl (.cr rfl rfl rfl (.cr rfl rfl rfl .nil)))) (.box (by decide) rfl (blkAs_cells (.sm rfl (.sm rfl (.sm rfl (.sm rfl (.sm rfl (.sm rfl (.sm rfl .nil)))))))) (.box (by decide) rfl (blkAs_cells (.sm rfl (.sm rfl (.sm rfl (.sm rfl (.sm rfl (.sm rfl (.sm rfl .nil)))))))) (.box (by decide) rfl (blkAs_cells (.sm rfl (.sm rfl (.sm rfl (.sm rfl (.sm rfl .nil)))))) (.row (by decide) rfl (fr_map fun _ => rfl) (.box (by decide) rfl (blkAs_cells (.sm rfl (.sm rfl (.cons (lstC_ren rfl (by decide)) (.cons (lstC_ren rfl (by decide)) (.cons (lstC_ren rfl (by decide)) .nil)))))) (.row (by decide) rfl (fr_map fun _ => rfl) (.row (by decide) rfl (fr_map fun _ => rfl) .nil)))))))) (Z3y hzq hzq1 hz_1 h)
 ·refine Sv.skip ?_
  exact Sv.weak (weak_canon [0, 1, 2, 3, 7, 4, 5, 8] rfl (by decide) (by decide) (by decide) (.cr rfl rfl rfl (.cr rfl rfl rfl (.cr rfl rfl rfl (.cr rfl rfl rfl .nil)))) (.box (by decide) rfl (blkAs_cells (.sm rfl (.sm rfl (.sm rfl (.sm rfl (.sm rfl (.sm rfl (.sm rfl .nil)))))))) (.box (by decide) rfl (blkAs_cells (.sm rfl (.sm rfl (.sm rfl (.sm rfl (.sm rfl (.sm rfl (.sm rfl .nil)))))))) (.box (by decide) rfl (blkAs_cells (.sm rfl (.sm rfl (.sm rfl (.sm rfl (.sm rfl .nil)))))) (.row (by decide) rfl (fr_map fun _ => rfl) (.box (by decide) rfl (blkAs_cells (.sm rfl (.sm rfl (.cons (lstC_ren rfl (by decide)) (.cons (lstC_ren rfl (by decide)) (.cons (lstC_ren rfl (by decide)) .nil)))))) (.row (by decide) rfl (fr_map fun _ => rfl) (.row (by decide) rfl (fr_map fun _ => rfl) .nil)))))))) (Z3y hzq hzq1 hz_ h)
def a35_c0 : ACode := (.seq (.block 0 (sr [(oP 42 (.faddr 3 (.tmp 2))), (oP 43 (.load false 1 (.tmp 42))), (oP 44 (.len (.tmp 43))), (oP 45 (.bin .gtr (.tmp 44) (kI 0))), (mV 41 45)]
 (.cond (.tmp 41) (sr [(oP 46 (.faddr 3 (.tmp 2))), (oP 47 (.load false 1 (.tmp 46))), (oP 48 (.iaddr 7 (.tmp 47) (kI 0))), (oP 49 (.load true 7 (.tmp 48))), (oP 8 (.box (.const (.agg [(.val (.int .i64 0)), (.val (.int .i64 0)), (.val (.bool false)), (.str []), (.val (.int .i64 0)), (.val (.int .i64 0)), (.str [])])))), (oN (.store 7 (.tmp 8) (.tmp 49)))]
 (sr [(oP 50 (.faddr 3 (.tmp 2))), (oP 51 (.load false 1 (.tmp 50))), (oP 52 (.call 70 [(.tmp 51), (kI 0), (kI 1)])), (oP 53 (.faddr 3 (.tmp 2))), (oN (.store 1 (.tmp 53) (.tmp 52)))]
 (.seq (.drawn (.alt [((oP 54 (.load true 5 (.tmp 2))), (0, 0))] (.fin [((oP 55 (.load true 7 (.tmp 8))), (1, 1)), ((oN (.store 5 (.tmp 4) (.tmp 54))), (2, 2)), ((oN (.store 7 (.tmp 5) (.tmp 55))), (2, 3)), ((oP 6 (.mov kT)), (0, 4))]) (.fin [((oN (.store 5 (.tmp 4) (.tmp 54))), (2, 2)), ((oP 55 (.load true 7 (.tmp 8))), (1, 1)), ((oN (.store 7 (.tmp 5) (.tmp 55))), (2, 3)), ((oP 6 (.mov kT)), (0, 4))])))
 .ret))) (sr [(mV 57 7), (mV 56 57)]
 (.cond (.tmp 56) (sr [(oP 59 (.load true 5 (.tmp 2))), (oP 60 (.call 71 [(.tmp 59)])), (mV 58 60), (oP 61 (.ext (.tmp 58) 0)), (oP 62 (.ext (.tmp 58) 1)), (oP 9 (.box (.const (.agg [(.val (.int .i64 0)), (.val (.int .i64 0)), (.ro true 7 []), (.ro true 7 []), (.ro true 5 [])])))), (oP 10 (.box (.const (.agg [(.val (.int .i64 0)), (.val (.int .i64 0)), (.val (.bool false)), (.str []), (.val (.int .i64 0)), (.val (.int .i64 0)), (.str [])])))), (oN (.store 5 (.tmp 9) (.tmp 61))), (oN (.store 7 (.tmp 10) (.tmp 62)))]
 (.seq (.drawn (.alt [((oP 63 (.load true 5 (.tmp 9))), (0, 0))] (.fin [((oP 64 (.load true 7 (.tmp 10))), (1, 1)), ((oN (.store 5 (.tmp 4) (.tmp 63))), (2, 2)), ((oN (.store 7 (.tmp 5) (.tmp 64))), (2, 3)), ((oP 6 (.mov kT)), (0, 4))]) (.fin [((oN (.store 5 (.tmp 4) (.tmp 63))), (2, 2)), ((oP 64 (.load true 7 (.tmp 10))), (1, 1)), ((oN (.store 7 (.tmp 5) (.tmp 64))), (2, 3)), ((oP 6 (.mov kT)), (0, 4))])))
 .ret)) (sr [(oP 66 (.faddr 2 (.tmp 2))), (oP 67 (.load false 1 (.tmp 66))), (oP 68 (.len (.tmp 67))), (oP 69 (.bin .gtr (.tmp 68) (kI 0))), (mV 65 69)]
 (.cond (.tmp 65) (sr [(oP 70 (.faddr 2 (.tmp 2))), (oP 71 (.load false 1 (.tmp 70))), (oP 72 (.iaddr 7 (.tmp 71) (kI 0))), (oP 73 (.load true 7 (.tmp 72))), (oP 11 (.box (.const (.agg [(.val (.int .i64 0)), (.val (.int .i64 0)), (.val (.bool false)), (.str []), (.val (.int .i64 0)), (.val (.int .i64 0)), (.str [])])))), (oN (.store 7 (.tmp 11) (.tmp 73)))]
 (sr [(oP 74 (.faddr 2 (.tmp 2))), (oP 75 (.load false 1 (.tmp 74))), (oP 76 (.call 70 [(.tmp 75), (kI 0), (kI 1)])), (oP 77 (.faddr 2 (.tmp 2))), (oN (.store 1 (.tmp 77) (.tmp 76)))]
 (.seq (.drawn (.alt [((oP 78 (.load true 5 (.tmp 2))), (0, 0))] (.fin [((oP 79 (.load true 7 (.tmp 11))), (1, 1)), ((oN (.store 5 (.tmp 4) (.tmp 78))), (2, 2)), ((oN (.store 7 (.tmp 5) (.tmp 79))), (2, 3)), ((oP 6 (.mov kT)), (0, 4))]) (.fin [((oN (.store 5 (.tmp 4) (.tmp 78))), (2, 2)), ((oP 79 (.load true 7 (.tmp 11))), (1, 1)), ((oN (.store 7 (.tmp 5) (.tmp 79))), (2, 3)), ((oP 6 (.mov kT)), (0, 4))])))
 .ret))) .skip)))))))
 (sr [(mV 80 1), (oP 81 (.faddr 0 (.tmp 2))), (oN (.store 1 (.tmp 81) (.tmp 80)))]
 (sr [(oP 82 (.load true 5 (.tmp 2))), (oP 83 (.build [(.val (.int .i64 0)), (.val (.int .i64 0)), (.val (.bool false)), (.str []), (.val (.int .i64 0)), (.val (.int .i64 0)), (.str [])] [])), (oN (.store 5 (.tmp 4) (.tmp 82))), (oN (.store 7 (.tmp 5) (.tmp 83))), (oP 6 (.mov kF))]
 .ret)))
def a35 : AFunc := ⟨2, [(.cell true 5 4), (.cell true 7 5), (.tmp 6)], (sr [(oP 2 (.box (.tmp 0))), (oP 4 (.box (.const (.agg [(.val (.int .i64 0)), (.val (.int .i64 0)), (.ro true 7 []), (.ro true 7 []), (.ro true 5 [])])))), (oP 5 (.box (.const (.agg [(.val (.int .i64 0)), (.val (.int .i64 0)), (.val (.bool false)), (.str []), (.val (.int .i64 0)), (.val (.int .i64 0)), (.str [])])))), (oP 6 (.mov kF))]
 (.seq (.drawn (.fin [((oP 12 (.faddr 4 (.tmp 2))), (0, 0)), ((oP 13 (.load false 1 (.tmp 12))), (0, 1)), ((oP 14 (.len (.tmp 13))), (0, 2)), ((oP 15 (.bin .gtr (.tmp 14) (kI 0))), (0, 3)), ((mV 16 15), (0, 4)), (⟨(some 17), (.faddr 4 (.tmp 2)), (some (16, true))⟩, (0, 5)), (⟨(some 18), (.load false 1 (.tmp 17)), (some (16, true))⟩, (0, 6)), (⟨(some 19), (.iaddr 5 (.tmp 18) (kI 0)), (some (16, true))⟩, (0, 7)), (⟨(some 20), (.faddr 1 (.tmp 19)), (some (16, true))⟩, (0, 8)), (⟨(some 21), (.load false 1 (.tmp 20)), (some (16, true))⟩, (0, 9)), (⟨(some 22), (.faddr 0 (.tmp 2)), (some (16, true))⟩, (0, 10)), (⟨(some 23), (.load false 1 (.tmp 22)), (some (16, true))⟩, (0, 11)), (⟨(some 24), (.bin .leq (.tmp 21) (.tmp 23)), (some (16, true))⟩, (0, 12)), (⟨(some 25), (.mov (.tmp 24)), (some (16, true))⟩, (0, 13)), (⟨(some 26), (.faddr 2 (.tmp 2)), (some (25, false))⟩, (0, 14)), (⟨(some 27), (.load false 1 (.tmp 26)), (some (25, false))⟩, (0, 15)), (⟨(some 28), (.len (.tmp 27)), (some (25, false))⟩, (0, 16)), (⟨(some 29), (.bin .eql (.tmp 28) (kI 0)), (some (25, false))⟩, (0, 17)), (⟨(some 30), (.mov (.tmp 29)), (some (25, false))⟩, (0, 18)), (⟨(some 31), (.faddr 4 (.tmp 2)), (some (30, true))⟩, (0, 19)), (⟨(some 32), (.load false 1 (.tmp 31)), (some (30, true))⟩, (0, 20)), (⟨(some 33), (.iaddr 5 (.tmp 32) (kI 0)), (some (30, true))⟩, (0, 21)), (⟨(some 34), (.faddr 1 (.tmp 33)), (some (30, true))⟩, (0, 22)), (⟨(some 35), (.load false 1 (.tmp 34)), (some (30, true))⟩, (0, 23)), (⟨(some 36), (.mov (.tmp 1)), (some (30, true))⟩, (0, 24)), (⟨(some 37), (.bin .leq (.tmp 35) (.tmp 36)), (some (30, true))⟩, (0, 25)), (⟨(some 38), (.pick (.tmp 30) (.tmp 37) kF), (some (25, false))⟩, (0, 26)), (⟨(some 39), (.pick (.tmp 25) kT (.tmp 38)), (some (16, true))⟩, (0, 27)), ((oP 40 (.pick (.tmp 16) (.tmp 39) kF)), (0, 28)), ((mV 7 40), (0, 29))]))
 a35_c0))⟩
theorem c35 : compFunc Try.prog 35 = some a35 := by kernel_rfl
def Z2u (r : (TJLoop × TJJob × Bool)) : AV → Heap → Nat → Prop := fun v h' n' => ∃ z0 : Bool, (z0 = true → r.1.Tasks = []) ∧ ∃ z1 : Bool, (z1 = true → r.1.Smalls = []) ∧ ∃ z2 : Bool, (z2 = true → r.1.Timers = []) ∧ v = (.tup [(.agg [cI r.1.Now, cI r.1.Next, lstC z0 3 7 r.1.Tasks.length, lstC z1 4 7 r.1.Smalls.length, lstC z2 5 5 r.1.Timers.length]), (.agg (e_TJJob r.2.1)), (B r.2.2)]) ∧ (h' = (upd (upd (upd e0 3 (lstB z0 7 (r.1.Tasks.map e_TJJob))) 4 (lstB z1 7 (r.1.Smalls.map e_TJJob))) 5 (lstB z2 5 (r.1.Timers.map e_TJTimer)))) ∧ n' = 6
noncomputable def Z11 (q_ : TJLoop) (until_ : Int) (q2 : (List TJJob)) (q3 : (List TJJob)) (q4 : (List TJTimer)) (due : Bool) : Option (TJLoop × TJJob × Bool) :=
 if decide (0 < (q3.length : Int)) then
  (at? q3 0).bind fun x_ =>
  (Z2g q3 0 1).bind fun r_ =>
  some ((⟨q_.Now, q_.Next, q2, r_, q4⟩ : TJLoop), x_, true)
 else
  if due then
   (Z1y (⟨q_.Now, q_.Next, q2, q3, q4⟩ : TJLoop)).bind fun r_1 =>
   some (r_1.1, r_1.2, true)
  else
   if decide (0 < (q2.length : Int)) then
    (at? q2 0).bind fun x_1 =>
    (Z2g q2 0 1).bind fun r_2 =>
    some ((⟨q_.Now, q_.Next, r_2, q3, q4⟩ : TJLoop), x_1, true)
   else
    some ((⟨until_, q_.Next, q2, q3, q4⟩ : TJLoop), (⟨0, 0, false, [], (⟨0, 0, []⟩ : TJVal)⟩ : TJJob), false)
theorem Z2h {Γ : Glob} {q_ : TJLoop} {until_ : Int} {q2 : (List TJJob)} {q3 : (List TJJob)} {q4 : (List TJTimer)} {due : Bool} {zq21 : Bool} (hzq21 : zq21 = true → q2 = []) {zq3 : Bool} (hzq3 : zq3 = true → q3 = []) {zq4 : Bool} (hzq4 : zq4 = true → q4 = []) {o : (TJLoop × TJJob × Bool)} (h : Z11 q_ until_ q2 q3 q4 due = some o) :
  Sv Try.prog Γ 3 a35_c0 (Ends a35.results 3 (Z2u o)) ⟨(ue [(7, (B due)), (5, (.c (.ref 5 7 0 0))), (4, (.c (.ref 4 5 0 0))), (2, (.c (.ref 3 5 0 0))), (1, (I until_))]), (upd (upd (upd (upd (upd (upd e0 0 (lstB zq21 7 (q2.map e_TJJob))) 1 (lstB zq3 7 (q3.map e_TJJob))) 2 (lstB zq4 5 (q4.map e_TJTimer))) 3 (some (.cells 5 [[cI q_.Now, cI q_.Next, lstC zq21 0 7 q2.length, lstC zq3 1 7 q3.length, lstC zq4 2 5 q4.length]]))) 4 (some (.cells 5 [[cI 0, cI 0, .ro true 7 [], .ro true 7 [], .ro true 5 []]]))) 5 (some (.cells 7 [[cI 0, cI 0, cB false, .str [], cI 0, cI 0, .str []]]))), 6⟩ := by
 unfold Z11 at h
 refine Sv.seq <| Sv.block <| ssr <| un1 (v := (.c (.ref 3 5 0 3))) rfl <| un1 (v := (lstV zq3 1 7 q3.length)) rfl <| un1 (v := (I (q3.length : Int))) (s_lenL rfl (len_nil_of hzq3)) <| un1 (v := (B (decide (0 < (q3.length : Int))))) rfl <| un1 rfl <| dnil ?_
 refine Sv.cnd rfl h (fun h => ?_) fun h => ?_
 ·refine ssr <| un1 (v := (.c (.ref 3 5 0 3))) rfl <| un1 (v := (lstV zq3 1 7 q3.length)) rfl ?_
  obtain ⟨x_, hx1, h⟩ := bnd h
  refine un1 (v := (.c (.ref 1 7 (0 : Int).toNat 0))) (s_iaddrL rfl rfl hzq3 hx1) <| un1 (v := (.agg (e_TJJob x_))) (s_loadL (z := zq3) (e := e_TJJob) rfl rfl hzq3 hx1 rfl rfl) <| un <| a2v (v := (.c (.ref 6 7 0 0))) (h' := upd _ 6 (some (.cells 7 [[cI 0, cI 0, cB false, .str [], cI 0, cI 0, .str []]]))) (n' := 7) rfl rfl hcs <| un <| a2n (h' := upd _ 6 (some (.cells 7 [(e_TJJob x_)]))) (n' := 7) rfl rfl hcs <| dnil <| ssr <| un1 (v := (.c (.ref 3 5 0 3))) rfl <| un1 (v := (lstV zq3 1 7 q3.length)) rfl ?_
  obtain ⟨r_, hr1, h⟩ := bnd h
  refine un <| ac_gen (bs := [1]) («as» := [(lstV zq3 1 7 q3.length), (I 0), (I 1)]) (h2 := _) (h1 := (upd e0 1 (lstB zq3 7 (q3.map e_TJJob)))) (Z3x hzq3 hr1) rfl (.cons (.c (lsr rfl rfl)) (.cons (avAs_free rfl) (.cons (avAs_free rfl) .nil))) (hsub_refl _) (.cons rfl (.nil _)) hcs (by decide) (by decide) (.cons (.c (lsr rfl rfl)) (.cons (avAs_free rfl) (.cons (avAs_free rfl) .nil))) (.row (by decide) rfl (fr_map fun _ => rfl) .nil) ?_
  rintro _ _ _ hn ⟨z_, hz_, rfl, rfl, rfl⟩
  refine ⟨.inl rfl, (upd (rem [1] _) 7 (lstB z_ 7 (r_.map e_TJJob))), fun hbd => (m3_cons (m3_row rfl (fr_map fun _ => rfl)) (m3_rem (in_cons (by decide) (in_nil _)) (.cons (by decide) .nil) hbd)), (lstV z_ 7 7 r_.length), 8, (by cases z_ <;> rfl), rfl, ?_⟩
  refine un1 (v := (.c (.ref 3 5 0 3))) rfl <| un <| a2n (h' := upd _ 3 (some (.cells 5 [[cI q_.Now, cI q_.Next, lstC zq21 0 7 q2.length, lstC z_ 7 7 r_.length, lstC zq4 2 5 q4.length]]))) (n' := 8) rfl rfl hcs <| dnil <| Sv.seq <| Sv.drawn2 <| un1 (v := (.agg [cI q_.Now, cI q_.Next, lstC zq21 0 7 q2.length, lstC z_ 7 7 r_.length, lstC zq4 2 5 q4.length])) rfl <| dnil ?_
  refine ⟨?_, ?_⟩
  ·refine un1 (v := (.agg (e_TJJob x_))) rfl <| un <| a2n (h' := upd _ 4 (some (.cells 5 [[cI q_.Now, cI q_.Next, lstC zq21 0 7 q2.length, lstC z_ 7 7 r_.length, lstC zq4 2 5 q4.length]]))) (n' := 8) rfl rfl hcs <| un <| a2n (h' := upd _ 5 (some (.cells 7 [(e_TJJob x_)]))) (n' := 8) rfl rfl hcs <| un1 rfl <| dnil <| Sv.ret ?_
   replace h := Option.some.inj h
   subst h
   exact ⟨_, .refl _, _, rfl, ⟨upd e0 0 (some (.tup [(.agg [cI q_.Now, cI q_.Next, lstC zq21 3 7 q2.length, lstC z_ 4 7 r_.length, lstC zq4 5 5 q4.length]), (.agg (e_TJJob x_)), (B true)])), (upd (upd (upd e0 3 (lstB zq21 7 (q2.map e_TJJob))) 4 (lstB z_ 7 (r_.map e_TJJob))) 5 (lstB zq4 5 (q4.map e_TJTimer))), 6⟩, (.tup [(.agg [cI q_.Now, cI q_.Next, lstC zq21 3 7 q2.length, lstC z_ 4 7 r_.length, lstC zq4 5 5 q4.length]), (.agg (e_TJJob x_)), (B true)]), weak_canon2 [0, 1, 2, 0, 7, 2] [3, 4, 5] (by decide) (by decide) (by decide) (.cons (by decide) (.cons (by decide) (.cons (by decide) .nil))) (.cons rfl (avAs_tup (.cons (avAs_agg (.sm rfl (.sm rfl (.cons (lstC_ren rfl (by decide)) (.cons (lstC_ren rfl (by decide)) (.cons (lstC_ren rfl (by decide)) .nil)))))) (.cons (avAs_free rfl) (.cons (avAs_free rfl) .nil)))) .nil) (.row (by decide) rfl (fr_map fun _ => rfl) (.row (by decide) rfl (fr_map fun _ => rfl) (.row (by decide) rfl (fr_map fun _ => rfl) .nil))), rfl, zq21, hzq21, z_, hz_, zq4, hzq4, rfl, rfl, rfl⟩
  ·refine un <| a2n (h' := upd _ 4 (some (.cells 5 [[cI q_.Now, cI q_.Next, lstC zq21 0 7 q2.length, lstC z_ 7 7 r_.length, lstC zq4 2 5 q4.length]]))) (n' := 8) rfl rfl hcs <| un1 (v := (.agg (e_TJJob x_))) rfl <| un <| a2n (h' := upd _ 5 (some (.cells 7 [(e_TJJob x_)]))) (n' := 8) rfl rfl hcs <| un1 rfl <| dnil <| Sv.ret ?_
   replace h := Option.some.inj h
   subst h
   exact ⟨_, .refl _, _, rfl, ⟨upd e0 0 (some (.tup [(.agg [cI q_.Now, cI q_.Next, lstC zq21 3 7 q2.length, lstC z_ 4 7 r_.length, lstC zq4 5 5 q4.length]), (.agg (e_TJJob x_)), (B true)])), (upd (upd (upd e0 3 (lstB zq21 7 (q2.map e_TJJob))) 4 (lstB z_ 7 (r_.map e_TJJob))) 5 (lstB zq4 5 (q4.map e_TJTimer))), 6⟩, (.tup [(.agg [cI q_.Now, cI q_.Next, lstC zq21 3 7 q2.length, lstC z_ 4 7 r_.length, lstC zq4 5 5 q4.length]), (.agg (e_TJJob x_)), (B true)]), weak_canon2 [0, 1, 2, 0, 7, 2] [3, 4, 5] (by decide) (by decide) (by decide) (.cons (by decide) (.cons (by decide) (.cons (by decide) .nil))) (.cons rfl (avAs_tup (.cons (avAs_agg (.sm rfl (.sm rfl (.cons (lstC_ren rfl (by decide)) (.cons (lstC_ren rfl (by decide)) (.cons (lstC_ren rfl (by decide)) .nil)))))) (.cons (avAs_free rfl) (.cons (avAs_free rfl) .nil)))) .nil) (.row (by decide) rfl (fr_map fun _ => rfl) (.row (by decide) rfl (fr_map fun _ => rfl) (.row (by decide) rfl (fr_map fun _ => rfl) .nil))), rfl, zq21, hzq21, z_, hz_, zq4, hzq4, rfl, rfl, rfl⟩
 ·refine ssr <| un1 rfl <| un1 rfl <| dnil ?_
  refine Sv.cnd rfl h (fun h => ?_) fun h => ?_
  ·refine ssr <| un1 (v := (.agg [cI q_.Now, cI q_.Next, lstC zq21 0 7 q2.length, lstC zq3 1 7 q3.length, lstC zq4 2 5 q4.length])) rfl ?_
   obtain ⟨r_1, hr2, h⟩ := bnd h
   refine un <| ac_gen (bs := [0, 1, 2]) («as» := [(.agg [cI q_.Now, cI q_.Next, lstC zq21 0 7 q2.length, lstC zq3 1 7 q3.length, lstC zq4 2 5 q4.length])]) (h2 := _) (h1 := (upd (upd (upd e0 0 (lstB zq21 7 (q2.map e_TJJob))) 1 (lstB zq3 7 (q3.map e_TJJob))) 2 (lstB zq4 5 (q4.map e_TJTimer)))) (Z6d hzq21 hzq3 hzq4 hr2) rfl (.cons (avAs_agg (.sm rfl (.sm rfl (.cons (lstC_ren rfl (by decide)) (.cons (lstC_ren rfl (by decide)) (.cons (lstC_ren rfl (by decide)) .nil)))))) .nil) (hsub_refl _) (.cons rfl (.cons rfl (.cons rfl (.nil _)))) hcs (by decide) (by decide) (.cons (avAs_agg (.sm rfl (.sm rfl (.cons (lstC_ren rfl (by decide)) (.cons (lstC_ren rfl (by decide)) (.cons (lstC_ren rfl (by decide)) .nil)))))) .nil) (.row (by decide) rfl (fr_map fun _ => rfl) (.row (by decide) rfl (fr_map fun _ => rfl) (.row (by decide) rfl (fr_map fun _ => rfl) .nil))) ?_
   rintro _ _ _ hn ⟨z_1, hz_1, z_2, hz_2, z_3, hz_3, rfl, rfl, rfl⟩
   refine ⟨.inl rfl, (upd (upd (upd (rem [0, 1, 2] _) 6 (lstB z_1 7 (r_1.1.Tasks.map e_TJJob))) 7 (lstB z_2 7 (r_1.1.Smalls.map e_TJJob))) 8 (lstB z_3 5 (r_1.1.Timers.map e_TJTimer))), fun hbd => (m3_cons (m3_row rfl (fr_map fun _ => rfl)) (m3_cons (m3_row rfl (fr_map fun _ => rfl)) (m3_cons (m3_row rfl (fr_map fun _ => rfl)) (m3_rem (in_cons (by decide) (in_cons (by decide) (in_cons (by decide) (in_nil _)))) (.cons (by decide) (.cons (by decide) (.cons (by decide) .nil))) hbd)))), (.tup [(.agg [cI r_1.1.Now, cI r_1.1.Next, lstC z_1 6 7 r_1.1.Tasks.length, lstC z_2 7 7 r_1.1.Smalls.length, lstC z_3 8 5 r_1.1.Timers.length]), (.agg (e_TJJob r_1.2))]), 9, (by cases z_1 <;> cases z_2 <;> cases z_3 <;> rfl), rfl, ?_⟩
   refine un1 rfl <| un1 (v := (.agg [cI r_1.1.Now, cI r_1.1.Next, lstC z_1 6 7 r_1.1.Tasks.length, lstC z_2 7 7 r_1.1.Smalls.length, lstC z_3 8 5 r_1.1.Timers.length])) rfl <| un1 (v := (.agg (e_TJJob r_1.2))) rfl <| un <| a2v (v := (.c (.ref 9 5 0 0))) (h' := upd _ 9 (some (.cells 5 [[cI 0, cI 0, .ro true 7 [], .ro true 7 [], .ro true 5 []]]))) (n' := 10) rfl rfl hcs <| un <| a2v (v := (.c (.ref 10 7 0 0))) (h' := upd _ 10 (some (.cells 7 [[cI 0, cI 0, cB false, .str [], cI 0, cI 0, .str []]]))) (n' := 11) rfl rfl hcs <| un <| a2n (h' := upd _ 9 (some (.cells 5 [[cI r_1.1.Now, cI r_1.1.Next, lstC z_1 6 7 r_1.1.Tasks.length, lstC z_2 7 7 r_1.1.Smalls.length, lstC z_3 8 5 r_1.1.Timers.length]]))) (n' := 11) rfl rfl hcs <| un <| a2n (h' := upd _ 10 (some (.cells 7 [(e_TJJob r_1.2)]))) (n' := 11) rfl rfl hcs <| dnil <| Sv.seq <| Sv.drawn2 <| un1 (v := (.agg [cI r_1.1.Now, cI r_1.1.Next, lstC z_1 6 7 r_1.1.Tasks.length, lstC z_2 7 7 r_1.1.Smalls.length, lstC z_3 8 5 r_1.1.Timers.length])) rfl <| dnil ?_
   refine ⟨?_, ?_⟩
   ·refine un1 (v := (.agg (e_TJJob r_1.2))) rfl <| un <| a2n (h' := upd _ 4 (some (.cells 5 [[cI r_1.1.Now, cI r_1.1.Next, lstC z_1 6 7 r_1.1.Tasks.length, lstC z_2 7 7 r_1.1.Smalls.length, lstC z_3 8 5 r_1.1.Timers.length]]))) (n' := 11) rfl rfl hcs <| un <| a2n (h' := upd _ 5 (some (.cells 7 [(e_TJJob r_1.2)]))) (n' := 11) rfl rfl hcs <| un1 rfl <| dnil <| Sv.ret ?_
    replace h := Option.some.inj h
    subst h
    exact ⟨_, .refl _, _, rfl, ⟨upd e0 0 (some (.tup [(.agg [cI r_1.1.Now, cI r_1.1.Next, lstC z_1 3 7 r_1.1.Tasks.length, lstC z_2 4 7 r_1.1.Smalls.length, lstC z_3 5 5 r_1.1.Timers.length]), (.agg (e_TJJob r_1.2)), (B true)])), (upd (upd (upd e0 3 (lstB z_1 7 (r_1.1.Tasks.map e_TJJob))) 4 (lstB z_2 7 (r_1.1.Smalls.map e_TJJob))) 5 (lstB z_3 5 (r_1.1.Timers.map e_TJTimer))), 6⟩, (.tup [(.agg [cI r_1.1.Now, cI r_1.1.Next, lstC z_1 3 7 r_1.1.Tasks.length, lstC z_2 4 7 r_1.1.Smalls.length, lstC z_3 5 5 r_1.1.Timers.length]), (.agg (e_TJJob r_1.2)), (B true)]), weak_canon2 [0, 1, 2, 6, 7, 8] [3, 4, 5] (by decide) (by decide) (by decide) (.cons (by decide) (.cons (by decide) (.cons (by decide) .nil))) (.cons rfl (avAs_tup (.cons (avAs_agg (.sm rfl (.sm rfl (.cons (lstC_ren rfl (by decide)) (.cons (lstC_ren rfl (by decide)) (.cons (lstC_ren rfl (by decide)) .nil)))))) (.cons (avAs_free rfl) (.cons (avAs_free rfl) .nil)))) .nil) (.row (by decide) rfl (fr_map fun _ => rfl) (.row (by decide) rfl (fr_map fun _ => rfl) (.row (by decide) rfl (fr_map fun _ => rfl) .nil))), rfl, z_1, hz_1, z_2, hz_2, z_3, hz_3, rfl, rfl, rfl⟩
   ·refine un <| a2n (h' := upd _ 4 (some (.cells 5 [[cI r_1.1.Now, cI r_1.1.Next, lstC z_1 6 7 r_1.1.Tasks.length, lstC z_2 7 7 r_1.1.Smalls.length, lstC z_3 8 5 r_1.1.Timers.length]]))) (n' := 11) rfl rfl hcs <| un1 (v := (.agg (e_TJJob r_1.2))) rfl <| un <| a2n (h' := upd _ 5 (some (.cells 7 [(e_TJJob r_1.2)]))) (n' := 11) rfl rfl hcs <| un1 rfl <| dnil <| Sv.ret ?_
    replace h := Option.some.inj h
    subst h
    exact ⟨_, .refl _, _, rfl, ⟨upd e0 0 (some (.tup [(.agg [cI r_1.1.Now, cI r_1.1.Next, lstC z_1 3 7 r_1.1.Tasks.length, lstC z_2 4 7 r_1.1.Smalls.length, lstC z_3 5 5 r_1.1.Timers.length]), (.agg (e_TJJob r_1.2)), (B true)])), (upd (upd (upd e0 3 (lstB z_1 7 (r_1.1.Tasks.map e_TJJob))) 4 (lstB z_2 7 (r_1.1.Smalls.map e_TJJob))) 5 (lstB z_3 5 (r_1.1.Timers.map e_TJTimer))), 6⟩, (.tup [(.agg [cI r_1.1.Now, cI r_1.1.Next, lstC z_1 3 7 r_1.1.Tasks.length, lstC z_2 4 7 r_1.1.Smalls.length, lstC z_3 5 5 r_1.1.Timers.length]), (.agg (e_TJJob r_1.2)), (B true)]), weak_canon2 [0, 1, 2, 6, 7, 8] [3, 4, 5] (by decide) (by decide) (by decide) (.cons (by decide) (.cons (by decide) (.cons (by decide) .nil))) (.cons rfl (avAs_tup (.cons (avAs_agg (.sm rfl (.sm rfl (.cons (lstC_ren rfl (by decide)) (.cons (lstC_ren rfl (by decide)) (.cons (lstC_ren rfl (by decide)) .nil)))))) (.cons (avAs_free rfl) (.cons (avAs_free rfl) .nil)))) .nil) (.row (by decide) rfl (fr_map fun _ => rfl) (.row (by decide) rfl (fr_map fun _ => rfl) (.row (by decide) rfl (fr_map fun _ => rfl) .nil))), rfl, z_1, hz_1, z_2, hz_2, z_3, hz_3, rfl, rfl, rfl⟩
  ·refine ssr <| un1 (v := (.c (.ref 3 5 0 2))) rfl <| un1 (v := (lstV zq21 0 7 q2.length)) rfl <| un1 (v := (I (q2.length : Int))) (s_lenL rfl (len_nil_of hzq21)) <| un1 (v := (B (decide (0 < (q2.length : Int))))) rfl <| un1 rfl <| dnil ?_
   refine Sv.cnd rfl h (fun h => ?_) fun h => ?_
   ·refine ssr <| un1 (v := (.c (.ref 3 5 0 2))) rfl <| un1 (v := (lstV zq21 0 7 q2.length)) rfl ?_
    obtain ⟨x_1, hx2, h⟩ := bnd h
    refine un1 (v := (.c (.ref 0 7 (0 : Int).toNat 0))) (s_iaddrL rfl rfl hzq21 hx2) <| un1 (v := (.agg (e_TJJob x_1))) (s_loadL (z := zq21) (e := e_TJJob) rfl rfl hzq21 hx2 rfl rfl) <| un <| a2v (v := (.c (.ref 6 7 0 0))) (h' := upd _ 6 (some (.cells 7 [[cI 0, cI 0, cB false, .str [], cI 0, cI 0, .str []]]))) (n' := 7) rfl rfl hcs <| un <| a2n (h' := upd _ 6 (some (.cells 7 [(e_TJJob x_1)]))) (n' := 7) rfl rfl hcs <| dnil <| ssr <| un1 (v := (.c (.ref 3 5 0 2))) rfl <| un1 (v := (lstV zq21 0 7 q2.length)) rfl ?_
    obtain ⟨r_2, hr3, h⟩ := bnd h
    refine un <| ac_gen (bs := [0]) («as» := [(lstV zq21 0 7 q2.length), (I 0), (I 1)]) (h2 := _) (h1 := (upd e0 0 (lstB zq21 7 (q2.map e_TJJob)))) (Z3x hzq21 hr3) rfl (.cons (.c (lsr rfl rfl)) (.cons (avAs_free rfl) (.cons (avAs_free rfl) .nil))) (hsub_refl _) (.cons rfl (.nil _)) hcs (by decide) (by decide) (.cons (.c (lsr rfl rfl)) (.cons (avAs_free rfl) (.cons (avAs_free rfl) .nil))) (.row (by decide) rfl (fr_map fun _ => rfl) .nil) ?_
    rintro _ _ _ hn ⟨z_4, hz_4, rfl, rfl, rfl⟩
    refine ⟨.inl rfl, (upd (rem [0] _) 7 (lstB z_4 7 (r_2.map e_TJJob))), fun hbd => (m3_cons (m3_row rfl (fr_map fun _ => rfl)) (m3_rem (in_cons (by decide) (in_nil _)) (.cons (by decide) .nil) hbd)), (lstV z_4 7 7 r_2.length), 8, (by cases z_4 <;> rfl), rfl, ?_⟩
    refine un1 (v := (.c (.ref 3 5 0 2))) rfl <| un <| a2n (h' := upd _ 3 (some (.cells 5 [[cI q_.Now, cI q_.Next, lstC z_4 7 7 r_2.length, lstC zq3 1 7 q3.length, lstC zq4 2 5 q4.length]]))) (n' := 8) rfl rfl hcs <| dnil <| Sv.seq <| Sv.drawn2 <| un1 (v := (.agg [cI q_.Now, cI q_.Next, lstC z_4 7 7 r_2.length, lstC zq3 1 7 q3.length, lstC zq4 2 5 q4.length])) rfl <| dnil ?_
    refine ⟨?_, ?_⟩
    ·refine un1 (v := (.agg (e_TJJob x_1))) rfl <| un <| a2n (h' := upd _ 4 (some (.cells 5 [[cI q_.Now, cI q_.Next, lstC z_4 7 7 r_2.length, lstC zq3 1 7 q3.length, lstC zq4 2 5 q4.length]]))) (n' := 8) rfl rfl hcs <| un <| a2n (h' := upd _ 5 (some (.cells 7 [(e_TJJob x_1)]))) (n' := 8) rfl rfl hcs <| un1 rfl <| dnil <| Sv.ret ?_
     replace h := Option.some.inj h
     subst h
     exact ⟨_, .refl _, _, rfl, ⟨upd e0 0 (some (.tup [(.agg [cI q_.Now, cI q_.Next, lstC z_4 3 7 r_2.length, lstC zq3 4 7 q3.length, lstC zq4 5 5 q4.length]), (.agg (e_TJJob x_1)), (B true)])), (upd (upd (upd e0 3 (lstB z_4 7 (r_2.map e_TJJob))) 4 (lstB zq3 7 (q3.map e_TJJob))) 5 (lstB zq4 5 (q4.map e_TJTimer))), 6⟩, (.tup [(.agg [cI q_.Now, cI q_.Next, lstC z_4 3 7 r_2.length, lstC zq3 4 7 q3.length, lstC zq4 5 5 q4.length]), (.agg (e_TJJob x_1)), (B true)]), weak_canon2 [0, 1, 2, 7, 1, 2] [3, 4, 5] (by decide) (by decide) (by decide) (.cons (by decide) (.cons (by decide) (.cons (by decide) .nil))) (.cons rfl (avAs_tup (.cons (avAs_agg (.sm rfl (.sm rfl (.cons (lstC_ren rfl (by decide)) (.cons (lstC_ren rfl (by decide)) (.cons (lstC_ren rfl (by decide)) .nil)))))) (.cons (avAs_free rfl) (.cons (avAs_free rfl) .nil)))) .nil) (.row (by decide) rfl (fr_map fun _ => rfl) (.row (by decide) rfl (fr_map fun _ => rfl) (.row (by decide) rfl (fr_map fun _ => rfl) .nil))), rfl, z_4, hz_4, zq3, hzq3, zq4, hzq4, rfl, rfl, rfl⟩
    ·refine un <| a2n (h' := upd _ 4 (some (.cells 5 [[cI q_.Now, cI q_.Next, lstC z_4 7 7 r_2.length, lstC zq3 1 7 q3.length, lstC zq4 2 5 q4.length]]))) (n' := 8) rfl rfl hcs <| un1 (v := (.agg (e_TJJob x_1))) rfl <| un <| a2n (h' := upd _ 5 (some (.cells 7 [(e_TJJob x_1)]))) (n' := 8) rfl rfl hcs <| un1 rfl <| dnil <| Sv.ret ?_
     replace h := Option.some.inj h
     subst h
     exact ⟨_, .refl _, _, rfl, ⟨upd e0 0 (some (.tup [(.agg [cI q_.Now, cI q_.Next, lstC z_4 3 7 r_2.length, lstC zq3 4 7 q3.length, lstC zq4 5 5 q4.length]), (.agg (e_TJJob x_1)), (B true)])), (upd (upd (upd e0 3 (lstB z_4 7 (r_2.map e_TJJob))) 4 (lstB zq3 7 (q3.map e_TJJob))) 5 (lstB zq4 5 (q4.map e_TJTimer))), 6⟩, (.tup [(.agg [cI q_.Now, cI q_.Next, lstC z_4 3 7 r_2.length, lstC zq3 4 7 q3.length, lstC zq4 5 5 q4.length]), (.agg (e_TJJob x_1)), (B true)]), weak_canon2 [0, 1, 2, 7, 1, 2] [3, 4, 5] (by decide) (by decide) (by decide) (.cons (by decide) (.cons (by decide) (.cons (by decide) .nil))) (.cons rfl (avAs_tup (.cons (avAs_agg (.sm rfl (.sm rfl (.cons (lstC_ren rfl (by decide)) (.cons (lstC_ren rfl (by decide)) (.cons (lstC_ren rfl (by decide)) .nil)))))) (.cons (avAs_free rfl) (.cons (avAs_free rfl) .nil)))) .nil) (.row (by decide) rfl (fr_map fun _ => rfl) (.row (by decide) rfl (fr_map fun _ => rfl) (.row (by decide) rfl (fr_map fun _ => rfl) .nil))), rfl, z_4, hz_4, zq3, hzq3, zq4, hzq4, rfl, rfl, rfl⟩
   ·refine Sv.skip <| ssr <| un1 rfl <| un1 (v := (.c (.ref 3 5 0 0))) rfl <| un <| a2n (h' := upd _ 3 (some (.cells 5 [[cI until_, cI q_.Next, lstC zq21 0 7 q2.length, lstC zq3 1 7 q3.length, lstC zq4 2 5 q4.length]]))) (n' := 6) rfl rfl hcs <| dnil <| ssr <| un1 (v := (.agg [cI until_, cI q_.Next, lstC zq21 0 7 q2.length, lstC zq3 1 7 q3.length, lstC zq4 2 5 q4.length])) rfl <| un1 (v := (.agg [cI 0, cI 0, cB false, .str [], cI 0, cI 0, .str []])) rfl <| un <| a2n (h' := upd _ 4 (some (.cells 5 [[cI until_, cI q_.Next, lstC zq21 0 7 q2.length, lstC zq3 1 7 q3.length, lstC zq4 2 5 q4.length]]))) (n' := 6) rfl rfl hcs <| un <| a2n (h' := upd _ 5 (some (.cells 7 [[cI 0, cI 0, cB false, .str [], cI 0, cI 0, .str []]]))) (n' := 6) rfl rfl hcs <| un1 rfl <| dnil <| Sv.ret ?_
    replace h := Option.some.inj h
    subst h
    exact ⟨_, .refl _, _, rfl, ⟨upd e0 0 (some (.tup [(.agg [cI until_, cI q_.Next, lstC zq21 3 7 q2.length, lstC zq3 4 7 q3.length, lstC zq4 5 5 q4.length]), (.agg [cI 0, cI 0, cB false, .str [], cI 0, cI 0, .str []]), (B false)])), (upd (upd (upd e0 3 (lstB zq21 7 (q2.map e_TJJob))) 4 (lstB zq3 7 (q3.map e_TJJob))) 5 (lstB zq4 5 (q4.map e_TJTimer))), 6⟩, (.tup [(.agg [cI until_, cI q_.Next, lstC zq21 3 7 q2.length, lstC zq3 4 7 q3.length, lstC zq4 5 5 q4.length]), (.agg [cI 0, cI 0, cB false, .str [], cI 0, cI 0, .str []]), (B false)]), weak_canon2 [0, 1, 2, 0, 1, 2] [3, 4, 5] (by decide) (by decide) (by decide) (.cons (by decide) (.cons (by decide) (.cons (by decide) .nil))) (.cons rfl (avAs_tup (.cons (avAs_agg (.sm rfl (.sm rfl (.cons (lstC_ren rfl (by decide)) (.cons (lstC_ren rfl (by decide)) (.cons (lstC_ren rfl (by decide)) .nil)))))) (.cons (avAs_free rfl) (.cons (avAs_free rfl) .nil)))) .nil) (.row (by decide) rfl (fr_map fun _ => rfl) (.row (by decide) rfl (fr_map fun _ => rfl) (.row (by decide) rfl (fr_map fun _ => rfl) .nil))), rfl, zq21, hzq21, zq3, hzq3, zq4, hzq4, rfl, rfl, rfl⟩
/-- clerestory/loop.next -/
noncomputable def Z1n (q_ : TJLoop) (until_ : Int) : Option (TJLoop × TJJob × Bool) :=
 if decide (0 < (q_.Timers.length : Int)) then
  (at? q_.Timers 0).bind fun x_2 =>
  if decide (x_2.At ≤ q_.Now) then
   Z11 q_ until_ q_.Tasks q_.Smalls q_.Timers true
  else
   if decide ((q_.Tasks.length : Int) = 0) then
    (at? q_.Timers 0).bind fun x_3 =>
    Z11 q_ until_ q_.Tasks q_.Smalls q_.Timers (decide (x_3.At ≤ until_))
   else
    Z11 q_ until_ q_.Tasks q_.Smalls q_.Timers false
 else
  Z11 q_ until_ q_.Tasks q_.Smalls q_.Timers false
theorem Z6e {Γ : Glob} {q_ : TJLoop} {until_ : Int} {zq : Bool} (hzq : zq = true → q_.Tasks = []) {zq1 : Bool} (hzq1 : zq1 = true → q_.Smalls = []) {zq2 : Bool} (hzq2 : zq2 = true → q_.Timers = []) {r : (TJLoop × TJJob × Bool)} (h : Z1n q_ until_ = some r) : ACalls Try.prog Γ 35 [(.agg [cI q_.Now, cI q_.Next, lstC zq 0 7 q_.Tasks.length, lstC zq1 1 7 q_.Smalls.length, lstC zq2 2 5 q_.Timers.length]), (I until_)] (upd (upd (upd e0 0 (lstB zq 7 (q_.Tasks.map e_TJJob))) 1 (lstB zq1 7 (q_.Smalls.map e_TJJob))) 2 (lstB zq2 5 (q_.Timers.map e_TJTimer))) 3 (Z2u r) := by
 refine acalls_of_sv hmix c35 (R := Z2u r) ?_
 unfold Z1n at h
 refine ssr <| un <| a2v (v := (.c (.ref 3 5 0 0))) (h' := upd _ 3 (some (.cells 5 [[cI q_.Now, cI q_.Next, lstC zq 0 7 q_.Tasks.length, lstC zq1 1 7 q_.Smalls.length, lstC zq2 2 5 q_.Timers.length]]))) (n' := 4) rfl rfl hcs <| un <| a2v (v := (.c (.ref 4 5 0 0))) (h' := upd _ 4 (some (.cells 5 [[cI 0, cI 0, .ro true 7 [], .ro true 7 [], .ro true 5 []]]))) (n' := 5) rfl rfl hcs <| un <| a2v (v := (.c (.ref 5 7 0 0))) (h' := upd _ 5 (some (.cells 7 [[cI 0, cI 0, cB false, .str [], cI 0, cI 0, .str []]]))) (n' := 6) rfl rfl hcs <| un1 rfl <| dnil <| Sv.seq <| Sv.drawn <| un1 (v := (.c (.ref 3 5 0 4))) rfl <| un1 (v := (lstV zq2 2 5 q_.Timers.length)) rfl <| un1 (v := (I (q_.Timers.length : Int))) (s_lenL rfl (len_nil_of hzq2)) <| un1 (v := (B (decide (0 < (q_.Timers.length : Int))))) rfl <| un1 rfl ?_
 refine spl h (fun h => ?_) fun h => ?_
 ·refine gt rfl <| a1 (v := (.c (.ref 3 5 0 4))) rfl <| gt rfl <| a1 (v := (lstV zq2 2 5 q_.Timers.length)) rfl ?_
  obtain ⟨x_2, hx3, h⟩ := bnd h
  refine gt rfl <| a1 (v := (.c (.ref 2 5 (0 : Int).toNat 0))) (s_iaddrL rfl rfl hzq2 hx3) <| gt rfl <| a1 (v := (.c (.ref 2 5 (0 : Int).toNat 1))) rfl <| gt rfl <| a1 (v := (I x_2.At)) (s_loadL (z := zq2) (e := e_TJTimer) rfl rfl hzq2 hx3 rfl rfl) <| gt rfl <| a1 (v := (.c (.ref 3 5 0 0))) rfl <| gt rfl <| a1 (v := (I q_.Now)) rfl <| gt rfl <| a1 (v := (B (decide (x_2.At ≤ q_.Now)))) rfl <| gt rfl <| a1 rfl ?_
  refine spl h (fun h => ?_) fun h => ?_
  ·repeat (first | refine gu rfl ?_ | refine gs rfl rfl ?_)
   refine gt rfl <| a1 (v := (B true)) rfl <| un1 (v := (B true)) rfl <| un1 rfl <| dnil ?_
   exact Sv.weak (weak_canon [0, 1, 2, 3, 4, 5] rfl (by decide) (by decide) (by decide) (.cf rfl rfl (.cr rfl rfl rfl (.cr rfl rfl rfl (.cr rfl rfl rfl (.cf rfl rfl .nil))))) (.box (by decide) rfl (blkAs_cells (.sm rfl (.sm rfl (.sm rfl (.sm rfl (.sm rfl (.sm rfl (.sm rfl .nil)))))))) (.box (by decide) rfl (blkAs_cells (.sm rfl (.sm rfl (.sm rfl (.sm rfl (.sm rfl .nil)))))) (.box (by decide) rfl (blkAs_cells (.sm rfl (.sm rfl (.cons (lstC_ren rfl (by decide)) (.cons (lstC_ren rfl (by decide)) (.cons (lstC_ren rfl (by decide)) .nil)))))) (.row (by decide) rfl (fr_map fun _ => rfl) (.row (by decide) rfl (fr_map fun _ => rfl) (.row (by decide) rfl (fr_map fun _ => rfl) .nil))))))) (Z2h hzq hzq1 hzq2 h)
  ·refine gt rfl <| a1 (v := (.c (.ref 3 5 0 2))) rfl <| gt rfl <| a1 (v := (lstV zq 0 7 q_.Tasks.length)) rfl <| gt rfl <| a1 (v := (I (q_.Tasks.length : Int))) (s_lenL rfl (len_nil_of hzq)) <| gt rfl <| a1 (v := (B (decide ((q_.Tasks.length : Int) = 0)))) rfl <| gt rfl <| a1 rfl ?_
   refine spl h (fun h => ?_) fun h => ?_
   ·refine gt rfl <| a1 (v := (.c (.ref 3 5 0 4))) rfl <| gt rfl <| a1 (v := (lstV zq2 2 5 q_.Timers.length)) rfl ?_
    obtain ⟨x_3, hx4, h⟩ := bnd h
    refine gt rfl <| a1 (v := (.c (.ref 2 5 (0 : Int).toNat 0))) (s_iaddrL rfl rfl hzq2 hx4) <| gt rfl <| a1 (v := (.c (.ref 2 5 (0 : Int).toNat 1))) rfl <| gt rfl <| a1 (v := (I x_3.At)) (s_loadL (z := zq2) (e := e_TJTimer) rfl rfl hzq2 hx4 rfl rfl) <| gt rfl <| a1 rfl <| gt rfl <| a1 (v := (B (decide (x_3.At ≤ until_)))) rfl <| gt rfl <| a1 (v := (B (decide (x_3.At ≤ until_)))) rfl <| gt rfl <| a1 (v := (B (decide (x_3.At ≤ until_)))) rfl <| un1 (v := (B (decide (x_3.At ≤ until_)))) rfl <| un1 rfl <| dnil ?_
    exact Sv.weak (weak_canon [0, 1, 2, 3, 4, 5] rfl (by decide) (by decide) (by decide) (.cf rfl rfl (.cr rfl rfl rfl (.cr rfl rfl rfl (.cr rfl rfl rfl (.cf rfl rfl .nil))))) (.box (by decide) rfl (blkAs_cells (.sm rfl (.sm rfl (.sm rfl (.sm rfl (.sm rfl (.sm rfl (.sm rfl .nil)))))))) (.box (by decide) rfl (blkAs_cells (.sm rfl (.sm rfl (.sm rfl (.sm rfl (.sm rfl .nil)))))) (.box (by decide) rfl (blkAs_cells (.sm rfl (.sm rfl (.cons (lstC_ren rfl (by decide)) (.cons (lstC_ren rfl (by decide)) (.cons (lstC_ren rfl (by decide)) .nil)))))) (.row (by decide) rfl (fr_map fun _ => rfl) (.row (by decide) rfl (fr_map fun _ => rfl) (.row (by decide) rfl (fr_map fun _ => rfl) .nil))))))) (Z2h hzq hzq1 hzq2 h)
   ·repeat (first | refine gu rfl ?_ | refine gs rfl rfl ?_)
    refine gt rfl <| a1 (v := (B false)) rfl <| gt rfl <| a1 (v := (B false)) rfl <| un1 (v := (B false)) rfl <| un1 rfl <| dnil ?_
    exact Sv.weak (weak_canon [0, 1, 2, 3, 4, 5] rfl (by decide) (by decide) (by decide) (.cf rfl rfl (.cr rfl rfl rfl (.cr rfl rfl rfl (.cr rfl rfl rfl (.cf rfl rfl .nil))))) (.box (by decide) rfl (blkAs_cells (.sm rfl (.sm rfl (.sm rfl (.sm rfl (.sm rfl (.sm rfl (.sm rfl .nil)))))))) (.box (by decide) rfl (blkAs_cells (.sm rfl (.sm rfl (.sm rfl (.sm rfl (.sm rfl .nil)))))) (.box (by decide) rfl (blkAs_cells (.sm rfl (.sm rfl (.cons (lstC_ren rfl (by decide)) (.cons (lstC_ren rfl (by decide)) (.cons (lstC_ren rfl (by decide)) .nil)))))) (.row (by decide) rfl (fr_map fun _ => rfl) (.row (by decide) rfl (fr_map fun _ => rfl) (.row (by decide) rfl (fr_map fun _ => rfl) .nil))))))) (Z2h hzq hzq1 hzq2 h)
 ·repeat (first | refine gu rfl ?_ | refine gs rfl rfl ?_)
  refine un1 (v := (B false)) rfl <| un1 rfl <| dnil ?_
  exact Sv.weak (weak_canon [0, 1, 2, 3, 4, 5] rfl (by decide) (by decide) (by decide) (.cf rfl rfl (.cr rfl rfl rfl (.cr rfl rfl rfl (.cr rfl rfl rfl (.cf rfl rfl .nil))))) (.box (by decide) rfl (blkAs_cells (.sm rfl (.sm rfl (.sm rfl (.sm rfl (.sm rfl (.sm rfl (.sm rfl .nil)))))))) (.box (by decide) rfl (blkAs_cells (.sm rfl (.sm rfl (.sm rfl (.sm rfl (.sm rfl .nil)))))) (.box (by decide) rfl (blkAs_cells (.sm rfl (.sm rfl (.cons (lstC_ren rfl (by decide)) (.cons (lstC_ren rfl (by decide)) (.cons (lstC_ren rfl (by decide)) .nil)))))) (.row (by decide) rfl (fr_map fun _ => rfl) (.row (by decide) rfl (fr_map fun _ => rfl) (.row (by decide) rfl (fr_map fun _ => rfl) .nil))))))) (Z2h hzq hzq1 hzq2 h)
def a7 : AFunc := ⟨2, [(.cell true 5 4), (.cell true 7 5), (.tmp 6), (.tmp 7)], (sr [(oP 2 (.box (.tmp 0))), (oP 4 (.box (.const (.agg [(.val (.int .i64 0)), (.val (.int .i64 0)), (.ro true 7 []), (.ro true 7 []), (.ro true 5 [])])))), (oP 5 (.box (.const (.agg [(.val (.int .i64 0)), (.val (.int .i64 0)), (.val (.bool false)), (.str []), (.val (.int .i64 0)), (.val (.int .i64 0)), (.str [])])))), (oP 6 (.mov kF)), (oP 7 (.mov (kI 0)))]
 (.seq (sr [(oP 11 (.load true 5 (.tmp 2))), (oP 12 (.call 9 [(.tmp 11)])), (mV 8 12)]
 (sr [(mV 13 8), (oP 14 (.bin .neq (.tmp 13) (kI 0)))]
 (.cond (.tmp 14) (sr [(oP 15 (.build [(.val (.int .i64 0)), (.val (.int .i64 0)), (.ro true 7 []), (.ro true 7 []), (.ro true 5 [])] [])), (oP 16 (.build [(.val (.int .i64 0)), (.val (.int .i64 0)), (.val (.bool false)), (.str []), (.val (.int .i64 0)), (.val (.int .i64 0)), (.str [])] [])), (mV 17 8), (oN (.store 5 (.tmp 4) (.tmp 15))), (oN (.store 7 (.tmp 5) (.tmp 16))), (oP 6 (.mov kF)), (mV 7 17)]
 .ret) .skip)))
 (.seq (sr [(mV 18 1), (oP 19 (.faddr 0 (.tmp 2))), (oP 20 (.load false 1 (.tmp 19))), (oP 21 (.call 32 [(.tmp 18), (.tmp 20), (kI 1000000000)])), (oP 22 (.un .not (.tmp 21)))]
 (.cond (.tmp 22) (sr [(oP 23 (.build [(.val (.int .i64 0)), (.val (.int .i64 0)), (.ro true 7 []), (.ro true 7 []), (.ro true 5 [])] [])), (oP 24 (.build [(.val (.int .i64 0)), (.val (.int .i64 0)), (.val (.bool false)), (.str []), (.val (.int .i64 0)), (.val (.int .i64 0)), (.str [])] [])), (oN (.store 5 (.tmp 4) (.tmp 23))), (oN (.store 7 (.tmp 5) (.tmp 24))), (oP 6 (.mov kF)), (oP 7 (.mov (kI 1)))]
 .ret) .skip))
 (sr [(oP 26 (.load true 5 (.tmp 2))), (oP 27 (.call 33 [(.tmp 26)])), (mV 28 1), (oP 29 (.call 35 [(.tmp 27), (.tmp 28)])), (mV 25 29), (oP 30 (.ext (.tmp 25) 0)), (oP 31 (.ext (.tmp 25) 1)), (oP 32 (.ext (.tmp 25) 2)), (oP 9 (.box (.const (.agg [(.val (.int .i64 0)), (.val (.int .i64 0)), (.val (.bool false)), (.str []), (.val (.int .i64 0)), (.val (.int .i64 0)), (.str [])])))), (oN (.store 5 (.tmp 2) (.tmp 30))), (oN (.store 7 (.tmp 9) (.tmp 31))), (mV 10 32)]
 (.seq (.drawn (.alt [((oP 33 (.load true 5 (.tmp 2))), (0, 0)), ((mV 35 10), (0, 2))] (.fin [((oP 34 (.load true 7 (.tmp 9))), (1, 1)), ((oN (.store 5 (.tmp 4) (.tmp 33))), (2, 3)), ((oN (.store 7 (.tmp 5) (.tmp 34))), (2, 4)), ((mV 6 35), (0, 5)), ((oP 7 (.mov (kI 0))), (0, 6))]) (.fin [((oN (.store 5 (.tmp 4) (.tmp 33))), (2, 3)), ((oP 34 (.load true 7 (.tmp 9))), (1, 1)), ((oN (.store 7 (.tmp 5) (.tmp 34))), (2, 4)), ((mV 6 35), (0, 5)), ((oP 7 (.mov (kI 0))), (0, 6))])))
 .ret)))))⟩
theorem c7 : compFunc Try.prog 7 = some a7 := by kernel_rfl
def Z3z (r : (TJLoop × TJJob × Bool × Int)) : AV → Heap → Nat → Prop := fun v h' n' => ∃ z0 : Bool, (z0 = true → r.1.Tasks = []) ∧ ∃ z1 : Bool, (z1 = true → r.1.Smalls = []) ∧ ∃ z2 : Bool, (z2 = true → r.1.Timers = []) ∧ v = (.tup [(.agg [cI r.1.Now, cI r.1.Next, lstC z0 0 7 r.1.Tasks.length, lstC z1 1 7 r.1.Smalls.length, lstC z2 2 5 r.1.Timers.length]), (.agg (e_TJJob r.2.1)), (B r.2.2.1), (I r.2.2.2)]) ∧ (h' = (upd (upd (upd e0 0 (lstB z0 7 (r.1.Tasks.map e_TJJob))) 1 (lstB z1 7 (r.1.Smalls.map e_TJJob))) 2 (lstB z2 5 (r.1.Timers.map e_TJTimer)))) ∧ n' = 3
/-- clerestory/loop.Next -/
noncomputable def Z1z (q_ : TJLoop) (until_ : Int) : Option (TJLoop × TJJob × Bool × Int) :=
 (Zz q_).bind fun r_ =>
 if (!decide (r_ = 0)) then
  some ((⟨0, 0, [], [], []⟩ : TJLoop), (⟨0, 0, false, [], (⟨0, 0, []⟩ : TJVal)⟩ : TJJob), false, r_)
 else
  if (!(Z1 until_ q_.Now 1000000000)) then
   some ((⟨0, 0, [], [], []⟩ : TJLoop), (⟨0, 0, false, [], (⟨0, 0, []⟩ : TJVal)⟩ : TJJob), false, 1)
  else
   (Z1h q_).bind fun r_1 =>
   (Z1n r_1 until_).bind fun r_2 =>
   some (r_2.1, r_2.2.1, r_2.2.2, 0)
theorem Z6f {Γ : Glob} {q_ : TJLoop} {until_ : Int} {r : (TJLoop × TJJob × Bool × Int)} (h : Z1z q_ until_ = some r) : ACalls Try.prog Γ 7 [(.agg (e_TJLoop q_)), (I until_)] e0 0 (Z3z r) := by
 refine acalls_of_sv hmix c7 (R := Z3z r) ?_
 unfold Z1z at h
 refine ssr <| un <| a2v (v := (.c (.ref 0 5 0 0))) (h' := upd _ 0 (some (.cells 5 [(e_TJLoop q_)]))) (n' := 1) rfl rfl hcs <| un <| a2v (v := (.c (.ref 1 5 0 0))) (h' := upd _ 1 (some (.cells 5 [[cI 0, cI 0, .ro true 7 [], .ro true 7 [], .ro true 5 []]]))) (n' := 2) rfl rfl hcs <| un <| a2v (v := (.c (.ref 2 7 0 0))) (h' := upd _ 2 (some (.cells 7 [[cI 0, cI 0, cB false, .str [], cI 0, cI 0, .str []]]))) (n' := 3) rfl rfl hcs <| un1 rfl <| un1 rfl <| dnil <| Sv.seq <| ssr <| un1 (v := (.agg (e_TJLoop q_))) rfl ?_
 obtain ⟨r_, hr1, h⟩ := bnd h
 refine un <| ac_pure (Z2o hr1) rfl rfl rfl <| un1 rfl <| dnil <| ssr <| un1 rfl <| un1 (v := (B (!decide (r_ = 0)))) rfl <| dnil ?_
 refine Sv.cnd rfl h (fun h => ?_) fun h => ?_
 ·refine ssr <| un1 (v := (.agg [cI 0, cI 0, .ro true 7 [], .ro true 7 [], .ro true 5 []])) rfl <| un1 (v := (.agg [cI 0, cI 0, cB false, .str [], cI 0, cI 0, .str []])) rfl <| un1 rfl <| un <| a2n (h' := upd _ 1 (some (.cells 5 [[cI 0, cI 0, .ro true 7 [], .ro true 7 [], .ro true 5 []]]))) (n' := 3) rfl rfl hcs <| un <| a2n (h' := upd _ 2 (some (.cells 7 [[cI 0, cI 0, cB false, .str [], cI 0, cI 0, .str []]]))) (n' := 3) rfl rfl hcs <| un1 rfl <| un1 rfl <| dnil <| Sv.ret ?_
  replace h := Option.some.inj h
  subst h
  exact ⟨_, .refl _, _, rfl, ⟨upd e0 0 (some (.tup [(.agg [cI 0, cI 0, lstC true 0 7 ([] : List TJJob).length, lstC true 1 7 ([] : List TJJob).length, lstC true 2 5 ([] : List TJTimer).length]), (.agg [cI 0, cI 0, cB false, .str [], cI 0, cI 0, .str []]), (B false), (I r_)])), (upd (upd (upd e0 0 (lstB true 7 (([] : List TJJob).map e_TJJob))) 1 (lstB true 7 (([] : List TJJob).map e_TJJob))) 2 (lstB true 5 (([] : List TJTimer).map e_TJTimer))), 3⟩, (.tup [(.agg [cI 0, cI 0, lstC true 0 7 ([] : List TJJob).length, lstC true 1 7 ([] : List TJJob).length, lstC true 2 5 ([] : List TJTimer).length]), (.agg [cI 0, cI 0, cB false, .str [], cI 0, cI 0, .str []]), (B false), (I r_)]), weak_canon2 [1000, 1001, 1002] [0, 1, 2] (by decide) (by decide) nlz (.cons (by decide) (.cons (by decide) (.cons (by decide) .nil))) (.cons rfl (avAs_tup (.cons (avAs_agg (.sm rfl (.sm rfl (.sm rfl (.sm rfl (.sm rfl .nil)))))) (.cons (avAs_free rfl) (.cons (avAs_free rfl) (.cons (avAs_free rfl) .nil))))) .nil) (.non (by decide) (.non (by decide) (.non (by decide) .nil))), rfl, true, (fun _ => rfl), true, (fun _ => rfl), true, (fun _ => rfl), rfl, rfl, rfl⟩
 ·refine Sv.skip <| Sv.seq <| ssr <| un1 rfl <| un1 (v := (.c (.ref 0 5 0 0))) rfl <| un1 (v := (I q_.Now)) rfl <| un <| ac_pure (Zf (Γ := Γ) until_ q_.Now 1000000000) rfl rfl rfl <| un1 (v := (B (!(Z1 until_ q_.Now 1000000000)))) rfl <| dnil ?_
  refine Sv.cnd rfl h (fun h => ?_) fun h => ?_
  ·refine ssr <| un1 (v := (.agg [cI 0, cI 0, .ro true 7 [], .ro true 7 [], .ro true 5 []])) rfl <| un1 (v := (.agg [cI 0, cI 0, cB false, .str [], cI 0, cI 0, .str []])) rfl <| un <| a2n (h' := upd _ 1 (some (.cells 5 [[cI 0, cI 0, .ro true 7 [], .ro true 7 [], .ro true 5 []]]))) (n' := 3) rfl rfl hcs <| un <| a2n (h' := upd _ 2 (some (.cells 7 [[cI 0, cI 0, cB false, .str [], cI 0, cI 0, .str []]]))) (n' := 3) rfl rfl hcs <| un1 rfl <| un1 rfl <| dnil <| Sv.ret ?_
   replace h := Option.some.inj h
   subst h
   exact ⟨_, .refl _, _, rfl, ⟨upd e0 0 (some (.tup [(.agg [cI 0, cI 0, lstC true 0 7 ([] : List TJJob).length, lstC true 1 7 ([] : List TJJob).length, lstC true 2 5 ([] : List TJTimer).length]), (.agg [cI 0, cI 0, cB false, .str [], cI 0, cI 0, .str []]), (B false), (I 1)])), (upd (upd (upd e0 0 (lstB true 7 (([] : List TJJob).map e_TJJob))) 1 (lstB true 7 (([] : List TJJob).map e_TJJob))) 2 (lstB true 5 (([] : List TJTimer).map e_TJTimer))), 3⟩, (.tup [(.agg [cI 0, cI 0, lstC true 0 7 ([] : List TJJob).length, lstC true 1 7 ([] : List TJJob).length, lstC true 2 5 ([] : List TJTimer).length]), (.agg [cI 0, cI 0, cB false, .str [], cI 0, cI 0, .str []]), (B false), (I 1)]), weak_canon2 [1000, 1001, 1002] [0, 1, 2] (by decide) (by decide) nlz (.cons (by decide) (.cons (by decide) (.cons (by decide) .nil))) (.cons rfl (avAs_tup (.cons (avAs_agg (.sm rfl (.sm rfl (.sm rfl (.sm rfl (.sm rfl .nil)))))) (.cons (avAs_free rfl) (.cons (avAs_free rfl) (.cons (avAs_free rfl) .nil))))) .nil) (.non (by decide) (.non (by decide) (.non (by decide) .nil))), rfl, true, (fun _ => rfl), true, (fun _ => rfl), true, (fun _ => rfl), rfl, rfl, rfl⟩
  ·refine Sv.skip <| ssr <| un1 (v := (.agg (e_TJLoop q_))) rfl ?_
   obtain ⟨r_1, hr2, h⟩ := bnd h
   refine un <| ac_gen (bs := []) («as» := [(.agg (e_TJLoop q_))]) (h2 := _) (h1 := e0) (Z3j hr2) rfl (.cons (avAs_free rfl) .nil) (hsub_refl _) (.nil _) (fun _ => rfl) (by decide) (by decide) (.cons (avAs_free rfl) .nil) .nil ?_
   rintro _ _ _ hn ⟨z_, hz_, z_1, hz_1, z_2, hz_2, rfl, rfl, rfl⟩
   refine ⟨.inl rfl, (upd (upd (upd (rem [] _) 3 (lstB z_ 7 (r_1.Tasks.map e_TJJob))) 4 (lstB z_1 7 (r_1.Smalls.map e_TJJob))) 5 (lstB z_2 5 (r_1.Timers.map e_TJTimer))), fun hbd => (m3_cons (m3_row rfl (fr_map fun _ => rfl)) (m3_cons (m3_row rfl (fr_map fun _ => rfl)) (m3_cons (m3_row rfl (fr_map fun _ => rfl)) (m3_rem (in_nil _) (.cons (by decide) (.cons (by decide) (.cons (by decide) .nil))) hbd)))), (.agg [cI r_1.Now, cI r_1.Next, lstC z_ 3 7 r_1.Tasks.length, lstC z_1 4 7 r_1.Smalls.length, lstC z_2 5 5 r_1.Timers.length]), 6, (by cases z_ <;> cases z_1 <;> cases z_2 <;> rfl), rfl, ?_⟩
   refine un1 rfl ?_
   obtain ⟨r_2, hr3, h⟩ := bnd h
   refine un <| ac_gen (bs := [3, 4, 5]) («as» := [(.agg [cI r_1.Now, cI r_1.Next, lstC z_ 3 7 r_1.Tasks.length, lstC z_1 4 7 r_1.Smalls.length, lstC z_2 5 5 r_1.Timers.length]), (I until_)]) (h2 := _) (h1 := (upd (upd (upd e0 3 (lstB z_ 7 (r_1.Tasks.map e_TJJob))) 4 (lstB z_1 7 (r_1.Smalls.map e_TJJob))) 5 (lstB z_2 5 (r_1.Timers.map e_TJTimer)))) (Z6e hz_ hz_1 hz_2 hr3) rfl (.cons (avAs_agg (.sm rfl (.sm rfl (.cons (lstC_ren rfl (by decide)) (.cons (lstC_ren rfl (by decide)) (.cons (lstC_ren rfl (by decide)) .nil)))))) (.cons (avAs_free rfl) .nil)) (hsub_refl _) (.cons rfl (.cons rfl (.cons rfl (.nil _)))) hcs (by decide) (by decide) (.cons (avAs_agg (.sm rfl (.sm rfl (.cons (lstC_ren rfl (by decide)) (.cons (lstC_ren rfl (by decide)) (.cons (lstC_ren rfl (by decide)) .nil)))))) (.cons (avAs_free rfl) .nil)) (.row (by decide) rfl (fr_map fun _ => rfl) (.row (by decide) rfl (fr_map fun _ => rfl) (.row (by decide) rfl (fr_map fun _ => rfl) .nil))) ?_
   rintro _ _ _ hn ⟨z_3, hz_3, z_4, hz_4, z_5, hz_5, rfl, rfl, rfl⟩
   refine ⟨.inl rfl, (upd (upd (upd (rem [3, 4, 5] _) 6 (lstB z_3 7 (r_2.1.Tasks.map e_TJJob))) 7 (lstB z_4 7 (r_2.1.Smalls.map e_TJJob))) 8 (lstB z_5 5 (r_2.1.Timers.map e_TJTimer))), fun hbd => (m3_cons (m3_row rfl (fr_map fun _ => rfl)) (m3_cons (m3_row rfl (fr_map fun _ => rfl)) (m3_cons (m3_row rfl (fr_map fun _ => rfl)) (m3_rem (in_cons (by decide) (in_cons (by decide) (in_cons (by decide) (in_nil _)))) (.cons (by decide) (.cons (by decide) (.cons (by decide) .nil))) hbd)))), (.tup [(.agg [cI r_2.1.Now, cI r_2.1.Next, lstC z_3 6 7 r_2.1.Tasks.length, lstC z_4 7 7 r_2.1.Smalls.length, lstC z_5 8 5 r_2.1.Timers.length]), (.agg (e_TJJob r_2.2.1)), (B r_2.2.2)]), 9, (by cases z_3 <;> cases z_4 <;> cases z_5 <;> rfl), rfl, ?_⟩
   refine un1 rfl <| un1 (v := (.agg [cI r_2.1.Now, cI r_2.1.Next, lstC z_3 6 7 r_2.1.Tasks.length, lstC z_4 7 7 r_2.1.Smalls.length, lstC z_5 8 5 r_2.1.Timers.length])) rfl <| un1 (v := (.agg (e_TJJob r_2.2.1))) rfl <| un1 (v := (B r_2.2.2)) rfl <| un <| a2v (v := (.c (.ref 9 7 0 0))) (h' := upd _ 9 (some (.cells 7 [[cI 0, cI 0, cB false, .str [], cI 0, cI 0, .str []]]))) (n' := 10) rfl rfl hcs <| un <| a2n (h' := upd _ 0 (some (.cells 5 [[cI r_2.1.Now, cI r_2.1.Next, lstC z_3 6 7 r_2.1.Tasks.length, lstC z_4 7 7 r_2.1.Smalls.length, lstC z_5 8 5 r_2.1.Timers.length]]))) (n' := 10) rfl rfl hcs <| un <| a2n (h' := upd _ 9 (some (.cells 7 [(e_TJJob r_2.2.1)]))) (n' := 10) rfl rfl hcs <| un1 rfl <| dnil <| Sv.seq <| Sv.drawn2 <| un1 (v := (.agg [cI r_2.1.Now, cI r_2.1.Next, lstC z_3 6 7 r_2.1.Tasks.length, lstC z_4 7 7 r_2.1.Smalls.length, lstC z_5 8 5 r_2.1.Timers.length])) rfl <| un1 rfl <| dnil ?_
   refine ⟨?_, ?_⟩
   ·refine un1 (v := (.agg (e_TJJob r_2.2.1))) rfl <| un <| a2n (h' := upd _ 1 (some (.cells 5 [[cI r_2.1.Now, cI r_2.1.Next, lstC z_3 6 7 r_2.1.Tasks.length, lstC z_4 7 7 r_2.1.Smalls.length, lstC z_5 8 5 r_2.1.Timers.length]]))) (n' := 10) rfl rfl hcs <| un <| a2n (h' := upd _ 2 (some (.cells 7 [(e_TJJob r_2.2.1)]))) (n' := 10) rfl rfl hcs <| un1 rfl <| un1 rfl <| dnil <| Sv.ret ?_
    replace h := Option.some.inj h
    subst h
    exact ⟨_, .refl _, _, rfl, ⟨upd e0 0 (some (.tup [(.agg [cI r_2.1.Now, cI r_2.1.Next, lstC z_3 0 7 r_2.1.Tasks.length, lstC z_4 1 7 r_2.1.Smalls.length, lstC z_5 2 5 r_2.1.Timers.length]), (.agg (e_TJJob r_2.2.1)), (B r_2.2.2), (I 0)])), (upd (upd (upd e0 0 (lstB z_3 7 (r_2.1.Tasks.map e_TJJob))) 1 (lstB z_4 7 (r_2.1.Smalls.map e_TJJob))) 2 (lstB z_5 5 (r_2.1.Timers.map e_TJTimer))), 3⟩, (.tup [(.agg [cI r_2.1.Now, cI r_2.1.Next, lstC z_3 0 7 r_2.1.Tasks.length, lstC z_4 1 7 r_2.1.Smalls.length, lstC z_5 2 5 r_2.1.Timers.length]), (.agg (e_TJJob r_2.2.1)), (B r_2.2.2), (I 0)]), weak_canon2 [6, 7, 8] [0, 1, 2] (by decide) (by decide) nlz (.cons (by decide) (.cons (by decide) (.cons (by decide) .nil))) (.cons rfl (avAs_tup (.cons (avAs_agg (.sm rfl (.sm rfl (.cons (lstC_ren rfl (by decide)) (.cons (lstC_ren rfl (by decide)) (.cons (lstC_ren rfl (by decide)) .nil)))))) (.cons (avAs_free rfl) (.cons (avAs_free rfl) (.cons (avAs_free rfl) .nil))))) .nil) (.row (by decide) rfl (fr_map fun _ => rfl) (.row (by decide) rfl (fr_map fun _ => rfl) (.row (by decide) rfl (fr_map fun _ => rfl) .nil))), rfl, z_3, hz_3, z_4, hz_4, z_5, hz_5, rfl, rfl, rfl⟩
   ·refine un <| a2n (h' := upd _ 1 (some (.cells 5 [[cI r_2.1.Now, cI r_2.1.Next, lstC z_3 6 7 r_2.1.Tasks.length, lstC z_4 7 7 r_2.1.Smalls.length, lstC z_5 8 5 r_2.1.Timers.length]]))) (n' := 10) rfl rfl hcs <| un1 (v := (.agg (e_TJJob r_2.2.1))) rfl <| un <| a2n (h' := upd _ 2 (some (.cells 7 [(e_TJJob r_2.2.1)]))) (n' := 10) rfl rfl hcs <| un1 rfl <| un1 rfl <| dnil <| Sv.ret ?_
    replace h := Option.some.inj h
    subst h
    exact ⟨_, .refl _, _, rfl, ⟨upd e0 0 (some (.tup [(.agg [cI r_2.1.Now, cI r_2.1.Next, lstC z_3 0 7 r_2.1.Tasks.length, lstC z_4 1 7 r_2.1.Smalls.length, lstC z_5 2 5 r_2.1.Timers.length]), (.agg (e_TJJob r_2.2.1)), (B r_2.2.2), (I 0)])), (upd (upd (upd e0 0 (lstB z_3 7 (r_2.1.Tasks.map e_TJJob))) 1 (lstB z_4 7 (r_2.1.Smalls.map e_TJJob))) 2 (lstB z_5 5 (r_2.1.Timers.map e_TJTimer))), 3⟩, (.tup [(.agg [cI r_2.1.Now, cI r_2.1.Next, lstC z_3 0 7 r_2.1.Tasks.length, lstC z_4 1 7 r_2.1.Smalls.length, lstC z_5 2 5 r_2.1.Timers.length]), (.agg (e_TJJob r_2.2.1)), (B r_2.2.2), (I 0)]), weak_canon2 [6, 7, 8] [0, 1, 2] (by decide) (by decide) nlz (.cons (by decide) (.cons (by decide) (.cons (by decide) .nil))) (.cons rfl (avAs_tup (.cons (avAs_agg (.sm rfl (.sm rfl (.cons (lstC_ren rfl (by decide)) (.cons (lstC_ren rfl (by decide)) (.cons (lstC_ren rfl (by decide)) .nil)))))) (.cons (avAs_free rfl) (.cons (avAs_free rfl) (.cons (avAs_free rfl) .nil))))) .nil) (.row (by decide) rfl (fr_map fun _ => rfl) (.row (by decide) rfl (fr_map fun _ => rfl) (.row (by decide) rfl (fr_map fun _ => rfl) .nil))), rfl, z_3, hz_3, z_4, hz_4, z_5, hz_5, rfl, rfl, rfl⟩
def a12 : AFunc := ⟨3, [(.tmp 6)], (sr [(oP 6 (.mov kF))]
 (sr [(mV 7 1), (mV 8 0), (oP 9 (.bin .leq (.tmp 7) (.tmp 8))), (mV 10 9), ⟨(some 11), (.mov (.tmp 0)), (some (10, true))⟩, ⟨(some 12), (.mov (.tmp 2)), (some (10, true))⟩, ⟨(some 13), (.bin .leq (.tmp 11) (.tmp 12)), (some (10, true))⟩, (oP 14 (.pick (.tmp 10) (.tmp 13) kF)), (mV 6 14)]
 .ret))⟩
theorem c12 : compFunc Try.prog 12 = some a12 := by kernel_rfl
def Z6g (r : Bool) : AV → Heap → Nat → Prop := fun v h' n' => v = (B r) ∧ (h' = e0) ∧ n' = 0
/-- clerestory/clerestoryref4.Between -/
def Z2 (n_ : Int) (low : Int) (high : Int) : Bool :=
 ((decide (low ≤ n_)) && (decide (n_ ≤ high)))
theorem Z12 {Γ : Glob} (n_ : Int) (low : Int) (high : Int) : CPure Try.prog Γ 12 [(I n_), (I low), (I high)] (B (Z2 n_ low high)) := by
 generalize h : Z2 n_ low high = o
 refine acalls_of_sv hmix c12 (R := Z6g o) ?_
 unfold Z2 at h
 refine ssr <| un1 rfl <| dnil <| ssr <| un1 rfl <| un1 rfl <| un1 (v := (B (decide (low ≤ n_)))) rfl <| un1 rfl ?_
 refine gjoin 4 (d := 14) (v := (B ((decide (low ≤ n_)) && (decide (n_ ≤ high))))) (fun X hX => ?_) ?_
 ·refine split2 (fun hc1 => ?_) (fun hc1 => ?_)
  ·refine gt rfl <| a1 rfl <| gt rfl <| a1 rfl <| gt rfl <| a1 (v := (B (decide (n_ ≤ high)))) rfl <| un1 (v := (B (decide (n_ ≤ high)))) rfl <| dnil ?_
   exact hX _ (.putEq (by rw [hc1]; rfl) (.skp (.skp (.skp (.putEq (by rw [hc1]) (.refl _)) rfl) rfl) rfl))
  ·refine gs rfl rfl <| gs rfl rfl <| gs rfl rfl <| un1 (v := (B false)) rfl <| dnil ?_
   exact hX _ (.putEq (by rw [hc1]; rfl) (.skp (.skp (.skp (.putEq (by rw [hc1]) (.refl _)) rfl) rfl) rfl))
 refine un1 rfl <| dnil <| Sv.ret ?_
 subst h
 exact ⟨_, .refl _, _, rfl, ⟨upd e0 0 (some (B ((decide (low ≤ n_)) && (decide (n_ ≤ high))))), e0, 0⟩, (B ((decide (low ≤ n_)) && (decide (n_ ≤ high)))), weak_canon [] rfl ndl nll nlz (.cf rfl rfl .nil) .nil, rfl, rfl, rfl, rfl⟩
def a72_c0 : ACode := (sr [(oP 9 (.bin .lss (.tmp 8) (.tmp 7)))]
 (.seq (.cond (.tmp 9) .skip (.exit 0))
 (.seq (.block 1 (sr [(mV 10 8), (mV 5 10)]
 (sr [(mV 11 1), (mV 12 0), (mV 13 5), (oP 14 (.iaddr 1 (.tmp 12) (.tmp 13))), (oP 15 (.load false 1 (.tmp 14))), (oP 16 (.bin .eql (.tmp 11) (.tmp 15)))]
 (.cond (.tmp 16) (sr [(mV 17 5), (mV 4 17)]
 .ret) .skip))))
 (.region [(oP 18 (.bin .add (.tmp 8) (kI 1))), (mV 8 18)]))))
def a72 : AFunc := ⟨2, [(.tmp 4)], (sr [(oP 4 (.mov (kI 0)))]
 (.seq (sr [(mV 6 0), (oP 7 (.len (.tmp 6))), (oP 8 (.mov (kI 0)))]
 (.block 0 (.loop a72_c0)))
 (sr [(oP 4 (.mov (.const (.c (.val (.int .i64 (-1)))))))]
 .ret)))⟩
theorem c72 : compFunc Try.prog 72 = some a72 := by kernel_rfl
def Z40 (r : Int) : AV → Heap → Nat → Prop := fun v h' n' => v = (I r) ∧ (h' = e0) ∧ n' = 0
abbrev Z6h (F_ : Unit → Option Int) (o : Int) (R_ : St → Prop) : Prop := ∀ (_ : Unit), F_ () = some o → ∀ s, Weak 0 s ⟨e0, e0, 0⟩ → R_ s
abbrev Z41 (s_ : (List Int)) (v_ : Int) (F_ : Nat → Int → Option Int) (o : Int) : Nat → St → Prop := fun k s => ∃ (v8 : Int), F_ k v8 = some o ∧ s = ⟨(ue [(8, (I v8)), (7, (I (s_.length : Int))), (1, (I v_)), (0, (.c (.ro false 1 (s_.map eI))))]), e0, 0⟩
abbrev Z6i (s_ : (List Int)) (v_ : Int) (F_ : Int → Option Int) (o : Int) (R_ : St → Prop) : Prop := ∀ (v8 : Int), F_ v8 = some o → ∀ s, Weak 0 s ⟨(ue [(8, (I v8)), (7, (I (s_.length : Int))), (1, (I v_)), (0, (.c (.ro false 1 (s_.map eI))))]), e0, 0⟩ → R_ s
noncomputable def Zo (s_ : (List Int)) (v_ : Int) (K0_ : Unit → Option Int) : Nat → Int → Option Int
 | 0, _ => none
 | k + 1, v8 =>
  if decide (v8 < (s_.length : Int)) then
   (at? s_ v8).bind fun x_ =>
   if decide (v_ = x_) then
    some v8
   else
    (Zo s_ v_ K0_ k) (wi (v8 + 1))
  else
   K0_ ()
theorem Z6j {Γ : Glob} {Q : AExit → St → Prop} {s_ : (List Int)} {v_ : Int} {K0_ : Unit → Option Int} {k : Nat} {v8 : Int} {o : Int} (h : Zo s_ v_ K0_ k v8 = some o)
  (hK0 : Z6h K0_ o (Q (.exit 0)))
  (hr : ∀ s, Ends a72.results 0 (Z40 o) .ret s → Q .ret s) :
  Sv Try.prog Γ 0 (.loop a72_c0) Q ⟨(ue [(8, (I v8)), (7, (I (s_.length : Int))), (1, (I v_)), (0, (.c (.ro false 1 (s_.map eI))))]), e0, 0⟩ := by
 refine Sv.loop (I := Z41 s_ v_ (Zo s_ v_ K0_) o) (fun k s hI => ?_) ⟨v8, h, rfl⟩
 clear h
 clear v8
 obtain ⟨v8, h, rfl⟩ := hI
 cases k with
 | zero => cases h
 | succ k =>
 rw [Zo] at h
 have hself : Z6i s_ v_ (Zo s_ v_ K0_ k) o (rnd 0 (Z41 s_ v_ (Zo s_ v_ K0_) o) k Q) := fun v8 h s hw => ⟨_, k, hw, Nat.lt_succ_self k, v8, h, rfl⟩
 refine ssr <| un1 (v := (B (decide (v8 < (s_.length : Int))))) rfl <| dnil <| Sv.seq ?_
 refine Sv.cnd rfl h (fun h => ?_) fun h => ?_
 ·refine Sv.skip <| Sv.seq <| Sv.block <| ssr <| un1 rfl <| un1 rfl <| dnil <| ssr <| un1 rfl <| un1 rfl <| un1 rfl ?_
  obtain ⟨x_, hx1, h⟩ := bnd h
  refine un1 (v := (.c (.rop [cI x_]))) (s_iaddr (e := eI) (xs := s_) rfl rfl hx1) <| un1 (v := (I x_)) rfl <| un1 (v := (B (decide (v_ = x_)))) rfl <| dnil ?_
  refine Sv.cnd rfl h (fun h => ?_) fun h => ?_
  ·refine ssr <| un1 rfl <| un1 rfl <| dnil <| Sv.ret ?_
   exact hr _ (rt0 h rfl rfl ⟨rfl, rfl, rfl⟩)
  ·refine Sv.skip <| srg <| un1 (v := (I (wi (v8 + 1)))) rfl <| un1 rfl <| dnil ?_
   exact hself (wi (v8 + 1)) h _ (wcn [] rfl (.cf rfl rfl (.cf rfl rfl (.cf rfl rfl (.cf rfl rfl .nil)))) .nil)
 ·refine Sv.exit ?_
  exact hK0 () h _ (wcn [] rfl .nil .nil)
/-- slices.Index(()int,int) -/
noncomputable def Z2i (s_ : (List Int)) (v_ : Int) : Option Int :=
 lim fun kk => Zo s_ v_ (fun (_ : Unit) => 
   some (-1)) kk 0
theorem Z6k {Γ : Glob} {s_ : (List Int)} {v_ : Int} {r : Int} (h : Z2i s_ v_ = some r) : CPure Try.prog Γ 72 [(.c (.ro false 1 (s_.map eI))), (I v_)] (I r) := by
 refine acalls_of_sv hmix c72 (R := Z40 r) ?_
 unfold Z2i at h
 refine ssr <| un1 rfl <| dnil <| Sv.seq <| ssr <| un1 rfl <| un1 (v := (I (s_.length : Int))) (s_len (e := eI) (xs := s_) rfl) <| un1 rfl <| dnil <| Sv.block ?_
 obtain ⟨kk, h⟩ := lim_some h
 refine Sv.weak (wcn [] rfl (.cf rfl rfl (.cf rfl rfl (.cf rfl rfl (.cf rfl rfl .nil)))) .nil) (Z6j h ?_ (fun s hs => hs))
 ·intro _ h _ hw1
  refine Sv.weak hw1 <| ssr <| un1 rfl <| dnil <| Sv.ret ?_
  exact rt0 h rfl rfl ⟨rfl, rfl, rfl⟩
def a37 : AFunc := ⟨2, [(.tmp 4)], (sr [(oP 4 (.mov kF))]
 (sr [(mV 5 0), (mV 6 1), (oP 7 (.call 72 [(.tmp 5), (.tmp 6)])), (oP 8 (.bin .geq (.tmp 7) (kI 0))), (mV 4 8)]
 .ret))⟩
theorem c37 : compFunc Try.prog 37 = some a37 := by kernel_rfl
def Z6l (r : Bool) : AV → Heap → Nat → Prop := fun v h' n' => v = (B r) ∧ (h' = e0) ∧ n' = 0
/-- slices.Contains(()int,int) -/
noncomputable def Z20 (s_ : (List Int)) (v_ : Int) : Option Bool :=
 (Z2i s_ v_).bind fun r_ =>
 some (decide (0 ≤ r_))
theorem Z6m {Γ : Glob} {s_ : (List Int)} {v_ : Int} {r : Bool} (h : Z20 s_ v_ = some r) : CPure Try.prog Γ 37 [(.c (.ro false 1 (s_.map eI))), (I v_)] (B r) := by
 refine acalls_of_sv hmix c37 (R := Z6l r) ?_
 unfold Z20 at h
 refine ssr <| un1 rfl <| dnil <| ssr <| un1 rfl <| un1 rfl ?_
 obtain ⟨r_, hr1, h⟩ := bnd h
 refine un <| ac_pure (Z6k hr1) rfl rfl rfl <| un1 (v := (B (decide (0 ≤ r_)))) rfl <| un1 rfl <| dnil <| Sv.ret ?_
 exact rt0 h rfl rfl ⟨rfl, rfl, rfl⟩
def a36_c0 : ACode := (.region [(oP 22 (.load false 1 (.tmp 3))), (mV 23 0), (oP 24 (.bslice 1 [(.val (.int .i64 0))] 1 [(0, (.tmp 23))])), (oP 25 (.app 1 8 (.tmp 22) (.tmp 24))), (oN (.store 1 (.tmp 3) (.tmp 25)))])
def a36 : AFunc := ⟨4, [], (sr [(oP 5 (.load false 1 (.tmp 1))), (mV 6 5), ⟨(some 7), (.mov (.tmp 0)), (some (6, true))⟩, ⟨(some 8), (.bin .geq (.tmp 7) (kI 0)), (some (6, true))⟩, (oP 9 (.pick (.tmp 6) (.tmp 8) kF)), (mV 10 9), ⟨(some 11), (.mov (.tmp 0)), (some (10, true))⟩, ⟨(some 12), (.faddr 1 (.tmp 2)), (some (10, true))⟩, ⟨(some 13), (.load false 1 (.tmp 12)), (some (10, true))⟩, ⟨(some 14), (.bin .lss (.tmp 11) (.tmp 13)), (some (10, true))⟩, (oP 15 (.pick (.tmp 10) (.tmp 14) kF)), (mV 16 15), ⟨(some 17), (.load false 1 (.tmp 3)), (some (16, true))⟩, ⟨(some 18), (.mov (.tmp 0)), (some (16, true))⟩, ⟨(some 19), (.call 37 [(.tmp 17), (.tmp 18)]), (some (16, true))⟩, ⟨(some 20), (.un .not (.tmp 19)), (some (16, true))⟩, (oP 21 (.pick (.tmp 16) (.tmp 20) kF)), (oN (.store 1 (.tmp 1) (.tmp 21)))]
 a36_c0)⟩
theorem c36 : compFunc Try.prog 36 = some a36 := by kernel_rfl
def Z2v (r : (Bool × (List Int))) : AV → Heap → Nat → Prop := fun v h' n' => ∃ z0 : Bool, (z0 = true → r.2 = []) ∧ v = (.tup []) ∧ (h' = (upd (upd (upd e0 0 (some (.cells 1 [[cB r.1]]))) 1 (some (.cells 1 [[lstC z0 3 1 r.2.length]]))) 3 (lstB z0 1 (r.2.map eI)))) ∧ n' = 4
noncomputable def Z1o (n_ : Int) (v11 : Bool) (v31 : (List Int)) : Option (Bool × (List Int)) :=
 (app? 8 v31 [n_]).bind fun r_ =>
 some (v11, r_)
theorem Z42 {Γ : Glob} {n_ : Int} {v11 : Bool} {v31 : (List Int)} {zv31 : Bool} (hzv31 : zv31 = true → v31 = []) {o : (Bool × (List Int))} (h : Z1o n_ v11 v31 = some o) :
  Sv Try.prog Γ 3 a36_c0 (Ends a36.results 3 (Z2v o)) ⟨(ue [(3, (.c (.ref 1 1 0 0))), (1, (.c (.ref 0 1 0 0))), (0, (I n_))]), (upd (upd (upd e0 0 (some (.cells 1 [[cB v11]]))) 1 (some (.cells 1 [[lstC zv31 2 1 v31.length]]))) 2 (lstB zv31 1 (v31.map eI))), 3⟩ := by
 unfold Z1o at h
 refine srg <| un1 (v := (lstV zv31 2 1 v31.length)) rfl <| un1 rfl <| un <| a2v (v := (lstV false 3 1 [n_].length)) (h' := upd _ 3 (lstB false 1 ([n_].map eI))) (n' := 4) rfl rfl hcs ?_
 obtain ⟨r_, hr1, h⟩ := bnd h
 have hz1 : (zv31 && [n_].isEmpty) = true → r_ = [] := app_nil (z := zv31) (ys := [n_]) hzv31 hr1
 refine un <| a2v rfl (s_app (xs := v31) (ys := [n_]) (e := eI) (z := zv31) (b := 2) rfl rfl hzv31 rfl rfl (slc_lst rfl (List.length_map _).symm (map_nil_of hcs)) hr1) hcs <| un <| a2n (h' := upd _ 1 (some (.cells 1 [[lstC (zv31 && [n_].isEmpty) 4 1 r_.length]]))) (n' := 5) rfl rfl hcs <| dnil ?_
 replace h := Option.some.inj h
 subst h
 exact ⟨_, .refl _, _, rfl, ⟨upd e0 0 (some (.tup [])), (upd (upd (upd e0 0 (some (.cells 1 [[cB v11]]))) 1 (some (.cells 1 [[lstC (zv31 && [n_].isEmpty) 3 1 r_.length]]))) 3 (lstB (zv31 && [n_].isEmpty) 1 (r_.map eI))), 4⟩, (.tup []), weak_canon2 [0, 1, 2, 4] [0, 1, 3] (by decide) (by decide) (by decide) (.cons (by decide) (.cons (by decide) (.cons (by decide) .nil))) (.cons rfl (avAs_tup .nil) .nil) (.row (by decide) rfl (fr_map fun _ => rfl) (.box (by decide) rfl (blkAs_cells (.cons (lstC_ren rfl (by decide)) .nil)) (.box (by decide) rfl (blkAs_cells (.sm rfl .nil)) .nil))), rfl, (zv31 && [n_].isEmpty), hz1, rfl, rfl, rfl⟩
/-- clerestory/clerestoryref4.LoopRight$1 -/
noncomputable def Z19 (n_ : Int) (v1 : Bool) (v20 : Int) (v21 : Int) (v22 : (List TJJob)) (v23 : (List TJJob)) (v24 : (List TJTimer)) (v3 : (List Int)) : Option (Bool × (List Int)) :=
 if ((v1 && (decide (0 ≤ n_))) && (decide (n_ < v21))) then
  (Z20 v3 n_).bind fun r_1 =>
  Z1o n_ (!r_1) v3
 else
  Z1o n_ false v3
theorem Z2w {Γ : Glob} {n_ : Int} {v1 : Bool} {v20 : Int} {v21 : Int} {v22 : (List TJJob)} {v23 : (List TJJob)} {v24 : (List TJTimer)} {v3 : (List Int)} {zv3 : Bool} (hzv3 : zv3 = true → v3 = []) {r : (Bool × (List Int))} (h : Z19 n_ v1 v20 v21 v22 v23 v24 v3 = some r) : ACalls Try.prog Γ 36 [(I n_), (.c (.ref 0 1 0 0)), (.c (.rop [cI v20, cI v21, .ro false 7 (v22.map e_TJJob), .ro false 7 (v23.map e_TJJob), .ro false 5 (v24.map e_TJTimer)])), (.c (.ref 1 1 0 0))] (upd (upd (upd e0 0 (some (.cells 1 [[cB v1]]))) 1 (some (.cells 1 [[lstC zv3 2 1 v3.length]]))) 2 (lstB zv3 1 (v3.map eI))) 3 (Z2v r) := by
 refine acalls_of_sv hmix c36 (R := Z2v r) ?_
 unfold Z19 at h
 refine ssr <| un1 (v := (B v1)) rfl <| un1 rfl ?_
 refine gjoin 3 (d := 9) (v := (B (v1 && (decide (0 ≤ n_))))) (fun X hX => ?_) ?_
 ·refine split2 (fun hc1 => ?_) (fun hc1 => ?_)
  ·refine gt rfl <| a1 rfl <| gt rfl <| a1 (v := (B (decide (0 ≤ n_)))) rfl <| un1 (v := (B (decide (0 ≤ n_)))) rfl <| dnil ?_
   exact hX _ (.putEq (by rw [hc1]; rfl) (.skp (.skp (.putEq (by rw [hc1]) (.refl _)) rfl) rfl))
  ·refine gs rfl rfl <| gs rfl rfl <| un1 (v := (B false)) rfl <| dnil ?_
   exact hX _ (.putEq (by rw [hc1]; rfl) (.skp (.skp (.putEq (by rw [hc1]) (.refl _)) rfl) rfl))
 refine un1 rfl ?_
 refine gjoin 5 (d := 15) (v := (B ((v1 && (decide (0 ≤ n_))) && (decide (n_ < v21))))) (fun X hX => ?_) ?_
 ·refine split2 (fun hc2 => ?_) (fun hc2 => ?_)
  ·refine gt rfl <| a1 rfl <| gt rfl <| a1 (v := (.c (.rop [cI v21, .ro false 7 (v22.map e_TJJob), .ro false 7 (v23.map e_TJJob), .ro false 5 (v24.map e_TJTimer)]))) rfl <| gt rfl <| a1 (v := (I v21)) rfl <| gt rfl <| a1 (v := (B (decide (n_ < v21)))) rfl <| un1 (v := (B (decide (n_ < v21)))) rfl <| dnil ?_
   exact hX _ (.putEq (by rw [hc2]; rfl) (.skp (.skp (.skp (.skp (.putEq (by rw [hc2]) (.refl _)) rfl) rfl) rfl) rfl))
  ·refine gs rfl rfl <| gs rfl rfl <| gs rfl rfl <| gs rfl rfl <| un1 (v := (B false)) rfl <| dnil ?_
   exact hX _ (.putEq (by rw [hc2]; rfl) (.skp (.skp (.skp (.skp (.putEq (by rw [hc2]) (.refl _)) rfl) rfl) rfl) rfl))
 refine un1 rfl ?_
 refine spl h (fun h => ?_) fun h => ?_
 ·refine gt rfl <| a1 (v := (lstV zv3 2 1 v3.length)) rfl <| gt rfl <| a1 rfl ?_
  obtain ⟨r_1, hr2, h⟩ := bnd h
  refine gt rfl <| ac_lend (h2 := (upd _ 2 none)) (Z6m hr2) rfl (.cons (.c (lstC_ro (es := List.map eI v3) rfl (List.length_map eI).symm (map_nil_of hzv3) (gone rfl) (fr_map fun _ => rfl))) (.cons (avAs_free rfl) .nil)) (hsub_none (hsub_refl _)) rfl rfl (.inr rfl) <| gt rfl <| a1 (v := (B (!r_1))) rfl <| un1 (v := (B (!r_1))) rfl <| un <| a2n (h' := upd _ 0 (some (.cells 1 [[cB (!r_1)]]))) (n' := 3) rfl rfl hcs <| dnil ?_
  exact Sv.weak (weak_canon [0, 1, 2] rfl (by decide) (by decide) (by decide) (.cr rfl rfl rfl (.cr rfl rfl rfl (.cf rfl rfl .nil))) (.row (by decide) rfl (fr_map fun _ => rfl) (.box (by decide) rfl (blkAs_cells (.cons (lstC_ren rfl (by decide)) .nil)) (.box (by decide) rfl (blkAs_cells (.sm rfl .nil)) .nil)))) (Z42 hzv3 h)
 ·refine gs rfl rfl <| gs rfl rfl <| gs rfl rfl <| gs rfl rfl <| un1 (v := (B false)) rfl <| un <| a2n (h' := upd _ 0 (some (.cells 1 [[cB false]]))) (n' := 3) rfl rfl hcs <| dnil ?_
  exact Sv.weak (weak_canon [0, 1, 2] rfl (by decide) (by decide) (by decide) (.cr rfl rfl rfl (.cr rfl rfl rfl (.cf rfl rfl .nil))) (.row (by decide) rfl (fr_map fun _ => rfl) (.box (by decide) rfl (blkAs_cells (.cons (lstC_ren rfl (by decide)) .nil)) (.box (by decide) rfl (blkAs_cells (.sm rfl .nil)) .nil)))) (Z42 hzv3 h)
def a8_c0 : ACode := (sr [(oP 43 (.bin .lss (.tmp 42) (.tmp 41)))]
 (.seq (.cond (.tmp 43) .skip (.exit 0))
 (.seq (.block 1 (sr [(oP 44 (.iaddr 7 (.tmp 40) (.tmp 42))), (oP 45 (.load true 7 (.tmp 44))), (oP 7 (.box (.const (.agg [(.val (.int .i64 0)), (.val (.int .i64 0)), (.val (.bool false)), (.str []), (.val (.int .i64 0)), (.val (.int .i64 0)), (.str [])])))), (oN (.store 7 (.tmp 7) (.tmp 45)))]
 (sr [(mV 46 5), (oP 47 (.faddr 0 (.tmp 7))), (oP 48 (.load false 1 (.tmp 47))), (oP 49 (.callv (.tmp 46) [(.tmp 48)]))]
 (.region [(oP 50 (.load false 1 (.tmp 3))), (mV 51 50), ⟨(some 52), (.faddr 1 (.tmp 7)), (some (51, true))⟩, ⟨(some 53), (.load false 1 (.tmp 52)), (some (51, true))⟩, ⟨(some 54), (.call 12 [(.tmp 53), (kI 1), (kI 4)]), (some (51, true))⟩, (oP 55 (.pick (.tmp 51) (.tmp 54) kF)), (mV 56 55), ⟨(some 57), (.faddr 2 (.tmp 7)), (some (56, true))⟩, ⟨(some 58), (.load false 1 (.tmp 57)), (some (56, true))⟩, ⟨(some 59), (.un .not (.tmp 58)), (some (56, true))⟩, (oP 60 (.pick (.tmp 56) (.tmp 59) kF)), (oN (.store 1 (.tmp 3) (.tmp 60)))]))))
 (.region [(oP 61 (.bin .add (.tmp 42) (kI 1))), (mV 42 61)]))))
def a8_c1 : ACode := (sr [(oP 66 (.bin .lss (.tmp 65) (.tmp 64)))]
 (.seq (.cond (.tmp 66) .skip (.exit 2))
 (.seq (.block 3 (sr [(oP 67 (.iaddr 7 (.tmp 63) (.tmp 65))), (oP 68 (.load true 7 (.tmp 67))), (oP 9 (.box (.const (.agg [(.val (.int .i64 0)), (.val (.int .i64 0)), (.val (.bool false)), (.str []), (.val (.int .i64 0)), (.val (.int .i64 0)), (.str [])])))), (oN (.store 7 (.tmp 9) (.tmp 68)))]
 (sr [(mV 69 5), (oP 70 (.faddr 0 (.tmp 9))), (oP 71 (.load false 1 (.tmp 70))), (oP 72 (.callv (.tmp 69) [(.tmp 71)]))]
 (.region [(oP 73 (.load false 1 (.tmp 3))), (mV 74 73), ⟨(some 75), (.faddr 1 (.tmp 9)), (some (74, true))⟩, ⟨(some 76), (.load false 1 (.tmp 75)), (some (74, true))⟩, ⟨(some 77), (.bin .eql (.tmp 76) (kI 0)), (some (74, true))⟩, (oP 78 (.pick (.tmp 74) (.tmp 77) kF)), (mV 79 78), ⟨(some 80), (.faddr 2 (.tmp 9)), (some (79, true))⟩, ⟨(some 81), (.load false 1 (.tmp 80)), (some (79, true))⟩, (oP 82 (.pick (.tmp 79) (.tmp 81) kF)), (oN (.store 1 (.tmp 3) (.tmp 82)))]))))
 (.region [(oP 83 (.bin .add (.tmp 65) (kI 1))), (mV 65 83)]))))
def a8_c2 : ACode := (sr [(oP 125 (.bin .lss (.tmp 124) (.tmp 123)))]
 (.seq (.cond (.tmp 125) .skip (.exit 6))
 (.seq (.block 7 (sr [(oP 126 (.iaddr 5 (.tmp 122) (.tmp 124))), (oP 127 (.load true 5 (.tmp 126))), (oP 13 (.box (.const (.agg [(.val (.int .i64 0)), (.val (.int .i64 0)), (.val (.int .i64 0)), (.val (.int .i64 0)), (.str [])])))), (oN (.store 5 (.tmp 13) (.tmp 127)))]
 (.region [(oP 128 (.load false 1 (.tmp 3))), (mV 129 128), ⟨(some 130), (.faddr 1 (.tmp 13)), (some (129, true))⟩, ⟨(some 131), (.load false 1 (.tmp 130)), (some (129, true))⟩, ⟨(some 132), (.faddr 1 (.tmp 11)), (some (129, true))⟩, ⟨(some 133), (.load false 1 (.tmp 132)), (some (129, true))⟩, ⟨(some 134), (.bin .lss (.tmp 131) (.tmp 133)), (some (129, true))⟩, ⟨(some 135), (.mov (.tmp 134)), (some (129, true))⟩, ⟨(some 136), (.faddr 1 (.tmp 13)), (some (135, false))⟩, ⟨(some 137), (.load false 1 (.tmp 136)), (some (135, false))⟩, ⟨(some 138), (.faddr 1 (.tmp 11)), (some (135, false))⟩, ⟨(some 139), (.load false 1 (.tmp 138)), (some (135, false))⟩, ⟨(some 140), (.bin .eql (.tmp 137) (.tmp 139)), (some (135, false))⟩, ⟨(some 141), (.mov (.tmp 140)), (some (135, false))⟩, ⟨(some 142), (.faddr 0 (.tmp 13)), (some (141, true))⟩, ⟨(some 143), (.load false 1 (.tmp 142)), (some (141, true))⟩, ⟨(some 144), (.faddr 0 (.tmp 11)), (some (141, true))⟩, ⟨(some 145), (.load false 1 (.tmp 144)), (some (141, true))⟩, ⟨(some 146), (.bin .lss (.tmp 143) (.tmp 145)), (some (141, true))⟩, ⟨(some 147), (.pick (.tmp 141) (.tmp 146) kF), (some (135, false))⟩, ⟨(some 148), (.pick (.tmp 135) kT (.tmp 147)), (some (129, true))⟩, (oP 149 (.pick (.tmp 129) (.tmp 148) kF)), (oN (.store 1 (.tmp 3) (.tmp 149)))])))
 (.region [(oP 150 (.bin .add (.tmp 124) (kI 1))), (mV 124 150)]))))
def a8_c3 : ACode := (sr [(oP 88 (.bin .lss (.tmp 87) (.tmp 86)))]
 (.seq (.cond (.tmp 88) .skip (.exit 4))
 (.seq (.block 5 (sr [(mV 89 87), (oP 90 (.iaddr 5 (.tmp 85) (.tmp 87))), (oP 91 (.load true 5 (.tmp 90))), (oP 11 (.box (.const (.agg [(.val (.int .i64 0)), (.val (.int .i64 0)), (.val (.int .i64 0)), (.val (.int .i64 0)), (.str [])])))), (mV 10 89), (oN (.store 5 (.tmp 11) (.tmp 91)))]
 (sr [(mV 92 5), (oP 93 (.faddr 0 (.tmp 11))), (oP 94 (.load false 1 (.tmp 93))), (oP 95 (.callv (.tmp 92) [(.tmp 94)]))]
 (sr [(oP 96 (.load false 1 (.tmp 3))), (mV 97 96), ⟨(some 98), (.faddr 1 (.tmp 11)), (some (97, true))⟩, ⟨(some 99), (.load false 1 (.tmp 98)), (some (97, true))⟩, ⟨(some 100), (.faddr 0 (.tmp 1)), (some (97, true))⟩, ⟨(some 101), (.load false 1 (.tmp 100)), (some (97, true))⟩, ⟨(some 102), (.bin .geq (.tmp 99) (.tmp 101)), (some (97, true))⟩, (oP 103 (.pick (.tmp 97) (.tmp 102) kF)), (mV 104 103), ⟨(some 105), (.faddr 1 (.tmp 11)), (some (104, true))⟩, ⟨(some 106), (.load false 1 (.tmp 105)), (some (104, true))⟩, ⟨(some 107), (.bin .leq (.tmp 106) (kI 1000000000)), (some (104, true))⟩, (oP 108 (.pick (.tmp 104) (.tmp 107) kF)), (mV 109 108), ⟨(some 110), (.faddr 2 (.tmp 11)), (some (109, true))⟩, ⟨(some 111), (.load false 1 (.tmp 110)), (some (109, true))⟩, ⟨(some 112), (.call 12 [(.tmp 111), (kI 0), (kI 1000000000)]), (some (109, true))⟩, (oP 113 (.pick (.tmp 109) (.tmp 112) kF)), (mV 114 113), ⟨(some 115), (.faddr 3 (.tmp 11)), (some (114, true))⟩, ⟨(some 116), (.load false 1 (.tmp 115)), (some (114, true))⟩, ⟨(some 117), (.call 12 [(.tmp 116), (kI 0), (kI 1000000000)]), (some (114, true))⟩, (oP 118 (.pick (.tmp 114) (.tmp 117) kF)), (oN (.store 1 (.tmp 3) (.tmp 118)))]
 (sr [(oP 119 (.faddr 4 (.tmp 1))), (oP 120 (.load false 1 (.tmp 119))), (mV 121 10), (oP 122 (.slSl 5 (.tmp 120) none (some (.tmp 121)) none)), (oP 123 (.len (.tmp 122))), (oP 124 (.mov (kI 0)))]
 (.block 6 (.loop a8_c2)))))))
 (.region [(oP 151 (.bin .add (.tmp 87) (kI 1))), (mV 87 151)]))))
def a8 : AFunc := ⟨1, [(.tmp 2)], (sr [(oP 1 (.box (.tmp 0))), (oP 2 (.mov (kI 0)))]
 (.seq (sr [(oP 14 (.faddr 2 (.tmp 1))), (oP 15 (.load false 1 (.tmp 14))), (oP 16 (.len (.tmp 15))), (oP 17 (.bin .gtr (.tmp 16) (kI 100))), (mV 18 17), ⟨(some 19), (.faddr 3 (.tmp 1)), (some (18, false))⟩, ⟨(some 20), (.load false 1 (.tmp 19)), (some (18, false))⟩, ⟨(some 21), (.len (.tmp 20)), (some (18, false))⟩, ⟨(some 22), (.bin .gtr (.tmp 21) (kI 100)), (some (18, false))⟩, (oP 23 (.pick (.tmp 18) kT (.tmp 22))), (mV 24 23), ⟨(some 25), (.faddr 4 (.tmp 1)), (some (24, false))⟩, ⟨(some 26), (.load false 1 (.tmp 25)), (some (24, false))⟩, ⟨(some 27), (.len (.tmp 26)), (some (24, false))⟩, ⟨(some 28), (.bin .gtr (.tmp 27) (kI 100)), (some (24, false))⟩, (oP 29 (.pick (.tmp 24) kT (.tmp 28)))]
 (.cond (.tmp 29) (sr [(oP 2 (.mov (kI 2)))]
 .ret) .skip))
 (sr [(oP 30 (.faddr 0 (.tmp 1))), (oP 31 (.load false 1 (.tmp 30))), (oP 32 (.call 12 [(.tmp 31), (kI 0), (kI 1000000000)])), (mV 33 32), ⟨(some 34), (.faddr 1 (.tmp 1)), (some (33, true))⟩, ⟨(some 35), (.load false 1 (.tmp 34)), (some (33, true))⟩, ⟨(some 36), (.call 12 [(.tmp 35), (kI 0), (kI 1000000000)]), (some (33, true))⟩, (oP 37 (.pick (.tmp 33) (.tmp 36) kF)), (oP 3 (.box kF)), (oN (.store 1 (.tmp 3) (.tmp 37)))]
 (sr [(oP 4 (.box (.const (.c (.ro true 1 [])))))]
 (sr [(oP 38 (.mkfn (.func 36) [] [(.tmp 3), (.tmp 1), (.tmp 4)])), (mV 5 38)]
 (.seq (sr [(oP 39 (.faddr 2 (.tmp 1))), (oP 40 (.load false 1 (.tmp 39))), (oP 41 (.len (.tmp 40))), (oP 42 (.mov (kI 0)))]
 (.block 0 (.loop a8_c0)))
 (.seq (sr [(oP 62 (.faddr 3 (.tmp 1))), (oP 63 (.load false 1 (.tmp 62))), (oP 64 (.len (.tmp 63))), (oP 65 (.mov (kI 0)))]
 (.block 2 (.loop a8_c1)))
 (.seq (sr [(oP 84 (.faddr 4 (.tmp 1))), (oP 85 (.load false 1 (.tmp 84))), (oP 86 (.len (.tmp 85))), (oP 87 (.mov (kI 0)))]
 (.block 4 (.loop a8_c3)))
 (.seq (sr [(oP 152 (.load false 1 (.tmp 3))), (oP 153 (.un .not (.tmp 152)))]
 (.cond (.tmp 153) (sr [(oP 2 (.mov (kI 3)))]
 .ret) .skip))
 (sr [(oP 2 (.mov (kI 0)))]
 .ret))))))))))⟩
theorem c8 : compFunc Try.prog 8 = some a8 := by kernel_rfl
def Z21 (r : Int) : AV → Heap → Nat → Prop := fun v h' n' => v = (I r) ∧ (h' = e0) ∧ n' = 0
abbrev Z6n (q_ : TJLoop) (F_ : Bool → (List Int) → Option Int) (o : Int) (R_ : St → Prop) : Prop := ∀ (right1 : Bool) (number1 : (List Int)) (znumber1 : Bool) (_ : znumber1 = true → number1 = []), F_ right1 number1 = some o → ∀ s, Weak 0 s ⟨(ue [(5, (.c (.fn (.func 36) [] [.ref 1 1 0 0, .ref 0 5 0 0, .ref 2 1 0 0]))), (3, (.c (.ref 1 1 0 0))), (1, (.c (.ref 0 5 0 0)))]), (upd (upd (upd (upd e0 0 (some (.cells 5 [(e_TJLoop q_)]))) 1 (some (.cells 1 [[cB right1]]))) 2 (some (.cells 1 [[lstC znumber1 3 1 number1.length]]))) 3 (lstB znumber1 1 (number1.map eI))), 4⟩ → R_ s
abbrev Z43 (q_ : TJLoop) (F_ : Nat → Bool → (List Int) → Int → Option Int) (o : Int) : Nat → St → Prop := fun k s => ∃ (right : Bool), ∃ (number : (List Int)), ∃ (v42 : Int), ∃ (znumber : Bool), (znumber = true → number = []) ∧ F_ k right number v42 = some o ∧ s = ⟨(ue [(42, (I v42)), (41, (I (q_.Tasks.length : Int))), (40, (.c (.ro false 7 (q_.Tasks.map e_TJJob)))), (5, (.c (.fn (.func 36) [] [.ref 1 1 0 0, .ref 0 5 0 0, .ref 2 1 0 0]))), (3, (.c (.ref 1 1 0 0))), (1, (.c (.ref 0 5 0 0)))]), (upd (upd (upd (upd e0 0 (some (.cells 5 [(e_TJLoop q_)]))) 1 (some (.cells 1 [[cB right]]))) 2 (some (.cells 1 [[lstC znumber 3 1 number.length]]))) 3 (lstB znumber 1 (number.map eI))), 4⟩
abbrev Z6o (q_ : TJLoop) (F_ : Bool → (List Int) → Int → Option Int) (o : Int) (R_ : St → Prop) : Prop := ∀ (right : Bool) (number : (List Int)) (v42 : Int) (znumber : Bool) (_ : znumber = true → number = []), F_ right number v42 = some o → ∀ s, Weak 0 s ⟨(ue [(42, (I v42)), (41, (I (q_.Tasks.length : Int))), (40, (.c (.ro false 7 (q_.Tasks.map e_TJJob)))), (5, (.c (.fn (.func 36) [] [.ref 1 1 0 0, .ref 0 5 0 0, .ref 2 1 0 0]))), (3, (.c (.ref 1 1 0 0))), (1, (.c (.ref 0 5 0 0)))]), (upd (upd (upd (upd e0 0 (some (.cells 5 [(e_TJLoop q_)]))) 1 (some (.cells 1 [[cB right]]))) 2 (some (.cells 1 [[lstC znumber 3 1 number.length]]))) 3 (lstB znumber 1 (number.map eI))), 4⟩ → R_ s
noncomputable def Zp (q_ : TJLoop) (K0_ : Bool → (List Int) → Option Int) : Nat → Bool → (List Int) → Int → Option Int
 | 0, _, _, _ => none
 | k + 1, right, number, v42 =>
  if decide (v42 < (q_.Tasks.length : Int)) then
   (at? q_.Tasks v42).bind fun x_ =>
   (Z19 x_.ID right q_.Now q_.Next q_.Tasks q_.Smalls q_.Timers number).bind fun r_ =>
   (Zp q_ K0_ k) ((r_.1 && (Z2 x_.Source 1 4)) && (!x_.Small)) r_.2 (wi (v42 + 1))
  else
   K0_ right number
theorem Z6p {Γ : Glob} {Q : AExit → St → Prop} {q_ : TJLoop} {K0_ : Bool → (List Int) → Option Int} {k : Nat} {right : Bool} {number : (List Int)} {v42 : Int} {znumber : Bool} (hznumber : znumber = true → number = []) {o : Int} (h : Zp q_ K0_ k right number v42 = some o)
  (hK0 : Z6n q_ K0_ o (Q (.exit 0)))
  (hr : ∀ s, Ends a8.results 0 (Z21 o) .ret s → Q .ret s) :
  Sv Try.prog Γ 0 (.loop a8_c0) Q ⟨(ue [(42, (I v42)), (41, (I (q_.Tasks.length : Int))), (40, (.c (.ro false 7 (q_.Tasks.map e_TJJob)))), (5, (.c (.fn (.func 36) [] [.ref 1 1 0 0, .ref 0 5 0 0, .ref 2 1 0 0]))), (3, (.c (.ref 1 1 0 0))), (1, (.c (.ref 0 5 0 0)))]), (upd (upd (upd (upd e0 0 (some (.cells 5 [(e_TJLoop q_)]))) 1 (some (.cells 1 [[cB right]]))) 2 (some (.cells 1 [[lstC znumber 3 1 number.length]]))) 3 (lstB znumber 1 (number.map eI))), 4⟩ := by
 refine Sv.loop (I := Z43 q_ (Zp q_ K0_) o) (fun k s hI => ?_) ⟨right, number, v42, znumber, hznumber, h, rfl⟩
 clear h
 clear hznumber znumber v42 number right
 obtain ⟨right, number, v42, znumber, hznumber, h, rfl⟩ := hI
 cases k with
 | zero => cases h
 | succ k =>
 rw [Zp] at h
 have hself : Z6o q_ (Zp q_ K0_ k) o (rnd 0 (Z43 q_ (Zp q_ K0_) o) k Q) := fun right number v42 znumber hznumber h s hw => ⟨_, k, hw, Nat.lt_succ_self k, right, number, v42, znumber, hznumber, h, rfl⟩
 refine ssr <| un1 (v := (B (decide (v42 < (q_.Tasks.length : Int))))) rfl <| dnil <| Sv.seq ?_
 refine Sv.cnd rfl h (fun h => ?_) fun h => ?_
 ·refine Sv.skip <| Sv.seq <| Sv.block <| ssr ?_
  obtain ⟨x_, hx1, h⟩ := bnd h
  refine un1 (v := (.c (.rop (e_TJJob x_)))) (s_iaddr (e := e_TJJob) (xs := q_.Tasks) rfl rfl hx1) <| un1 (v := (.agg (e_TJJob x_))) rfl <| un <| a2v (v := (.c (.ref 4 7 0 0))) (h' := upd _ 4 (some (.cells 7 [[cI 0, cI 0, cB false, .str [], cI 0, cI 0, .str []]]))) (n' := 5) rfl rfl hcs <| un <| a2n (h' := upd _ 4 (some (.cells 7 [(e_TJJob x_)]))) (n' := 5) rfl rfl hcs <| dnil <| ssr <| un1 rfl <| un1 (v := (.c (.ref 4 7 0 0))) rfl <| un1 (v := (I x_.ID)) rfl ?_
  obtain ⟨r_, hr1, h⟩ := bnd h
  refine un <| acv_gen (bs := [1, 2, 3]) («as» := [(I x_.ID), (.c (.ref 1 1 0 0)), (.c (.rop (e_TJLoop q_))), (.c (.ref 2 1 0 0))]) (h2 := (upd _ 0 none)) (h1 := (upd (upd (upd e0 1 (some (.cells 1 [[cB right]]))) 2 (some (.cells 1 [[lstC znumber 3 1 number.length]]))) 3 (lstB znumber 1 (number.map eI)))) rfl (by kernel_rfl) (Z2w hznumber hr1) rfl (.cons (avAs_free rfl) (.cons (.c (.ref rfl (by decide))) (.cons (.c (ref_ro rfl (gone rfl) (.sm rfl (.sm rfl (.sm rfl (.sm rfl (.sm rfl .nil))))) rfl)) (.cons (.c (.ref rfl (by decide))) .nil)))) (hsub_none (hsub_refl _)) (.cons rfl (.cons rfl (.cons rfl (.nil _)))) hcs (by decide) (by decide) (.cons (avAs_free rfl) (.cons (.c (.ref rfl (by decide))) (.cons (avAs_free rfl) (.cons (.c (.ref rfl (by decide))) .nil)))) (.row (by decide) rfl (fr_map fun _ => rfl) (.box (by decide) rfl (blkAs_cells (.cons (lstC_ren rfl (by decide)) .nil)) (.box (by decide) rfl (blkAs_cells (.sm rfl .nil)) .nil))) ?_
  rintro _ _ _ hn ⟨z_, hz_, rfl, rfl, rfl⟩
  refine ⟨.inr ⟨(by cases z_ <;> rfl), (.row (cl_map fun _ => rfl) (.box (by cases z_ <;> rfl) (.box rfl .nil)))⟩, (upd (upd (upd (rem [1, 2, 3] _) 1 (some (.cells 1 [[cB r_.1]]))) 2 (some (.cells 1 [[lstC z_ 5 1 r_.2.length]]))) 5 (lstB z_ 1 (r_.2.map eI))), fun hbd => (m3_cons (m3_row rfl (fr_map fun _ => rfl)) (m3_cons (m3_box rfl (by cases z_ <;> rfl)) (m3_cons (m3_box rfl rfl) (m3_rem (in_cons (by decide) (in_cons (by decide) (in_cons (by decide) (in_nil _)))) (.cons (by decide) (.cons (by decide) (.cons (by decide) .nil))) hbd)))), (.tup []), 6, (by cases z_ <;> rfl), rfl, ?_⟩
  refine dnil <| srg <| un1 (v := (B r_.1)) rfl <| un1 rfl ?_
  refine gjoin 4 (d := 55) (v := (B (r_.1 && (Z2 x_.Source 1 4)))) (fun X hX => ?_) ?_
  ·refine split2 (fun hc6 => ?_) (fun hc6 => ?_)
   ·refine gt rfl <| a1 (v := (.c (.ref 4 7 0 1))) rfl <| gt rfl <| a1 (v := (I x_.Source)) rfl <| gt rfl <| ac_pure (Z12 (Γ := Γ) x_.Source 1 4) rfl rfl rfl <| un1 (v := (B (Z2 x_.Source 1 4))) rfl <| dnil ?_
    exact hX _ (.putEq (by rw [hc6]; rfl) (.skp (.skp (.skp (.putEq (by rw [hc6]) (.refl _)) rfl) rfl) rfl))
   ·refine gs rfl rfl <| gs rfl rfl <| gs rfl rfl <| un1 (v := (B false)) rfl <| dnil ?_
    exact hX _ (.putEq (by rw [hc6]; rfl) (.skp (.skp (.skp (.putEq (by rw [hc6]) (.refl _)) rfl) rfl) rfl))
  refine un1 rfl ?_
  refine gjoin 4 (d := 60) (v := (B ((r_.1 && (Z2 x_.Source 1 4)) && (!x_.Small)))) (fun X hX => ?_) ?_
  ·refine split2 (fun hc7 => ?_) (fun hc7 => ?_)
   ·refine gt rfl <| a1 (v := (.c (.ref 4 7 0 2))) rfl <| gt rfl <| a1 (v := (B x_.Small)) rfl <| gt rfl <| a1 (v := (B (!x_.Small))) rfl <| un1 (v := (B (!x_.Small))) rfl <| dnil ?_
    exact hX _ (.putEq (by rw [hc7]; rfl) (.skp (.skp (.skp (.putEq (by rw [hc7]) (.refl _)) rfl) rfl) rfl))
   ·refine gs rfl rfl <| gs rfl rfl <| gs rfl rfl <| un1 (v := (B false)) rfl <| dnil ?_
    exact hX _ (.putEq (by rw [hc7]; rfl) (.skp (.skp (.skp (.putEq (by rw [hc7]) (.refl _)) rfl) rfl) rfl))
  refine un <| a2n (h' := upd _ 1 (some (.cells 1 [[cB ((r_.1 && (Z2 x_.Source 1 4)) && (!x_.Small))]]))) (n' := 6) rfl rfl hcs <| dnil <| srg <| un1 (v := (I (wi (v42 + 1)))) rfl <| un1 rfl <| dnil ?_
  exact hself ((r_.1 && (Z2 x_.Source 1 4)) && (!x_.Small)) r_.2 (wi (v42 + 1)) z_ hz_ h _ (wcn [0, 1, 2, 5] rfl (.cf rfl rfl (.cf rfl rfl (.cf rfl rfl (.cons rfl (.c (fn_as .nil (.cons (.ref rfl (by decide)) (.cons (.ref rfl (by decide)) (.cons (.ref rfl (by decide)) .nil))))) (.cr rfl rfl rfl (.cr rfl rfl rfl .nil)))))) (.row (by decide) rfl (fr_map fun _ => rfl) (.box (by decide) rfl (blkAs_cells (.cons (lstC_ren rfl (by decide)) .nil)) (.box (by decide) rfl (blkAs_cells (.sm rfl .nil)) (.box (by decide) rfl (blkAs_cells (.sm rfl (.sm rfl (.sm rfl (.sm rfl (.sm rfl .nil)))))) .nil)))))
 ·refine Sv.exit ?_
  exact hK0 right number znumber hznumber h _ (wcn [0, 1, 2, 3] rfl (.cons rfl (.c (fn_as .nil (.cons (.ref rfl (by decide)) (.cons (.ref rfl (by decide)) (.cons (.ref rfl (by decide)) .nil))))) (.cr rfl rfl rfl (.cr rfl rfl rfl .nil))) (.row (by decide) rfl (fr_map fun _ => rfl) (.box (by decide) rfl (blkAs_cells (.cons (lstC_ren rfl (by decide)) .nil)) (.box (by decide) rfl (blkAs_cells (.sm rfl .nil)) (.box (by decide) rfl (blkAs_cells (.sm rfl (.sm rfl (.sm rfl (.sm rfl (.sm rfl .nil)))))) .nil)))))
abbrev Z6q (q_ : TJLoop) (F_ : Bool → (List Int) → Option Int) (o : Int) (R_ : St → Prop) : Prop := ∀ (right3 : Bool) (number3 : (List Int)) (znumber3 : Bool) (_ : znumber3 = true → number3 = []), F_ right3 number3 = some o → ∀ s, Weak 0 s ⟨(ue [(5, (.c (.fn (.func 36) [] [.ref 1 1 0 0, .ref 0 5 0 0, .ref 2 1 0 0]))), (3, (.c (.ref 1 1 0 0))), (1, (.c (.ref 0 5 0 0)))]), (upd (upd (upd (upd e0 0 (some (.cells 5 [(e_TJLoop q_)]))) 1 (some (.cells 1 [[cB right3]]))) 2 (some (.cells 1 [[lstC znumber3 3 1 number3.length]]))) 3 (lstB znumber3 1 (number3.map eI))), 4⟩ → R_ s
abbrev Z44 (q_ : TJLoop) (F_ : Nat → Bool → (List Int) → Int → Option Int) (o : Int) : Nat → St → Prop := fun k s => ∃ (right2 : Bool), ∃ (number2 : (List Int)), ∃ (v65 : Int), ∃ (znumber2 : Bool), (znumber2 = true → number2 = []) ∧ F_ k right2 number2 v65 = some o ∧ s = ⟨(ue [(65, (I v65)), (64, (I (q_.Smalls.length : Int))), (63, (.c (.ro false 7 (q_.Smalls.map e_TJJob)))), (5, (.c (.fn (.func 36) [] [.ref 1 1 0 0, .ref 0 5 0 0, .ref 2 1 0 0]))), (3, (.c (.ref 1 1 0 0))), (1, (.c (.ref 0 5 0 0)))]), (upd (upd (upd (upd e0 0 (some (.cells 5 [(e_TJLoop q_)]))) 1 (some (.cells 1 [[cB right2]]))) 2 (some (.cells 1 [[lstC znumber2 3 1 number2.length]]))) 3 (lstB znumber2 1 (number2.map eI))), 4⟩
abbrev Z6r (q_ : TJLoop) (F_ : Bool → (List Int) → Int → Option Int) (o : Int) (R_ : St → Prop) : Prop := ∀ (right2 : Bool) (number2 : (List Int)) (v65 : Int) (znumber2 : Bool) (_ : znumber2 = true → number2 = []), F_ right2 number2 v65 = some o → ∀ s, Weak 0 s ⟨(ue [(65, (I v65)), (64, (I (q_.Smalls.length : Int))), (63, (.c (.ro false 7 (q_.Smalls.map e_TJJob)))), (5, (.c (.fn (.func 36) [] [.ref 1 1 0 0, .ref 0 5 0 0, .ref 2 1 0 0]))), (3, (.c (.ref 1 1 0 0))), (1, (.c (.ref 0 5 0 0)))]), (upd (upd (upd (upd e0 0 (some (.cells 5 [(e_TJLoop q_)]))) 1 (some (.cells 1 [[cB right2]]))) 2 (some (.cells 1 [[lstC znumber2 3 1 number2.length]]))) 3 (lstB znumber2 1 (number2.map eI))), 4⟩ → R_ s
noncomputable def Zc (q_ : TJLoop) (K2_ : Bool → (List Int) → Option Int) : Nat → Bool → (List Int) → Int → Option Int
 | 0, _, _, _ => none
 | k + 1, right2, number2, v65 =>
  if decide (v65 < (q_.Smalls.length : Int)) then
   (at? q_.Smalls v65).bind fun x_1 =>
   (Z19 x_1.ID right2 q_.Now q_.Next q_.Tasks q_.Smalls q_.Timers number2).bind fun r_1 =>
   (Zc q_ K2_ k) ((r_1.1 && (decide (x_1.Source = 0))) && x_1.Small) r_1.2 (wi (v65 + 1))
  else
   K2_ right2 number2
theorem Z6s {Γ : Glob} {Q : AExit → St → Prop} {q_ : TJLoop} {K2_ : Bool → (List Int) → Option Int} {k : Nat} {right2 : Bool} {number2 : (List Int)} {v65 : Int} {znumber2 : Bool} (hznumber2 : znumber2 = true → number2 = []) {o : Int} (h : Zc q_ K2_ k right2 number2 v65 = some o)
  (hK2 : Z6q q_ K2_ o (Q (.exit 2)))
  (hr : ∀ s, Ends a8.results 0 (Z21 o) .ret s → Q .ret s) :
  Sv Try.prog Γ 0 (.loop a8_c1) Q ⟨(ue [(65, (I v65)), (64, (I (q_.Smalls.length : Int))), (63, (.c (.ro false 7 (q_.Smalls.map e_TJJob)))), (5, (.c (.fn (.func 36) [] [.ref 1 1 0 0, .ref 0 5 0 0, .ref 2 1 0 0]))), (3, (.c (.ref 1 1 0 0))), (1, (.c (.ref 0 5 0 0)))]), (upd (upd (upd (upd e0 0 (some (.cells 5 [(e_TJLoop q_)]))) 1 (some (.cells 1 [[cB right2]]))) 2 (some (.cells 1 [[lstC znumber2 3 1 number2.length]]))) 3 (lstB znumber2 1 (number2.map eI))), 4⟩ := by
 refine Sv.loop (I := Z44 q_ (Zc q_ K2_) o) (fun k s hI => ?_) ⟨right2, number2, v65, znumber2, hznumber2, h, rfl⟩
 clear h
 clear hznumber2 znumber2 v65 number2 right2
 obtain ⟨right2, number2, v65, znumber2, hznumber2, h, rfl⟩ := hI
 cases k with
 | zero => cases h
 | succ k =>
 rw [Zc] at h
 have hself : Z6r q_ (Zc q_ K2_ k) o (rnd 0 (Z44 q_ (Zc q_ K2_) o) k Q) := fun right2 number2 v65 znumber2 hznumber2 h s hw => ⟨_, k, hw, Nat.lt_succ_self k, right2, number2, v65, znumber2, hznumber2, h, rfl⟩
 refine ssr <| un1 (v := (B (decide (v65 < (q_.Smalls.length : Int))))) rfl <| dnil <| Sv.seq ?_
 refine Sv.cnd rfl h (fun h => ?_) fun h => ?_
 ·refine Sv.skip <| Sv.seq <| Sv.block <| ssr ?_
  obtain ⟨x_1, hx2, h⟩ := bnd h
  refine un1 (v := (.c (.rop (e_TJJob x_1)))) (s_iaddr (e := e_TJJob) (xs := q_.Smalls) rfl rfl hx2) <| un1 (v := (.agg (e_TJJob x_1))) rfl <| un <| a2v (v := (.c (.ref 4 7 0 0))) (h' := upd _ 4 (some (.cells 7 [[cI 0, cI 0, cB false, .str [], cI 0, cI 0, .str []]]))) (n' := 5) rfl rfl hcs <| un <| a2n (h' := upd _ 4 (some (.cells 7 [(e_TJJob x_1)]))) (n' := 5) rfl rfl hcs <| dnil <| ssr <| un1 rfl <| un1 (v := (.c (.ref 4 7 0 0))) rfl <| un1 (v := (I x_1.ID)) rfl ?_
  obtain ⟨r_1, hr2, h⟩ := bnd h
  refine un <| acv_gen (bs := [1, 2, 3]) («as» := [(I x_1.ID), (.c (.ref 1 1 0 0)), (.c (.rop (e_TJLoop q_))), (.c (.ref 2 1 0 0))]) (h2 := (upd _ 0 none)) (h1 := (upd (upd (upd e0 1 (some (.cells 1 [[cB right2]]))) 2 (some (.cells 1 [[lstC znumber2 3 1 number2.length]]))) 3 (lstB znumber2 1 (number2.map eI)))) rfl (by kernel_rfl) (Z2w hznumber2 hr2) rfl (.cons (avAs_free rfl) (.cons (.c (.ref rfl (by decide))) (.cons (.c (ref_ro rfl (gone rfl) (.sm rfl (.sm rfl (.sm rfl (.sm rfl (.sm rfl .nil))))) rfl)) (.cons (.c (.ref rfl (by decide))) .nil)))) (hsub_none (hsub_refl _)) (.cons rfl (.cons rfl (.cons rfl (.nil _)))) hcs (by decide) (by decide) (.cons (avAs_free rfl) (.cons (.c (.ref rfl (by decide))) (.cons (avAs_free rfl) (.cons (.c (.ref rfl (by decide))) .nil)))) (.row (by decide) rfl (fr_map fun _ => rfl) (.box (by decide) rfl (blkAs_cells (.cons (lstC_ren rfl (by decide)) .nil)) (.box (by decide) rfl (blkAs_cells (.sm rfl .nil)) .nil))) ?_
  rintro _ _ _ hn ⟨z_1, hz_1, rfl, rfl, rfl⟩
  refine ⟨.inr ⟨(by cases z_1 <;> rfl), (.row (cl_map fun _ => rfl) (.box (by cases z_1 <;> rfl) (.box rfl .nil)))⟩, (upd (upd (upd (rem [1, 2, 3] _) 1 (some (.cells 1 [[cB r_1.1]]))) 2 (some (.cells 1 [[lstC z_1 5 1 r_1.2.length]]))) 5 (lstB z_1 1 (r_1.2.map eI))), fun hbd => (m3_cons (m3_row rfl (fr_map fun _ => rfl)) (m3_cons (m3_box rfl (by cases z_1 <;> rfl)) (m3_cons (m3_box rfl rfl) (m3_rem (in_cons (by decide) (in_cons (by decide) (in_cons (by decide) (in_nil _)))) (.cons (by decide) (.cons (by decide) (.cons (by decide) .nil))) hbd)))), (.tup []), 6, (by cases z_1 <;> rfl), rfl, ?_⟩
  refine dnil <| srg <| un1 (v := (B r_1.1)) rfl <| un1 rfl ?_
  refine gjoin 4 (d := 78) (v := (B (r_1.1 && (decide (x_1.Source = 0))))) (fun X hX => ?_) ?_
  ·refine split2 (fun hc9 => ?_) (fun hc9 => ?_)
   ·refine gt rfl <| a1 (v := (.c (.ref 4 7 0 1))) rfl <| gt rfl <| a1 (v := (I x_1.Source)) rfl <| gt rfl <| a1 (v := (B (decide (x_1.Source = 0)))) rfl <| un1 (v := (B (decide (x_1.Source = 0)))) rfl <| dnil ?_
    exact hX _ (.putEq (by rw [hc9]; rfl) (.skp (.skp (.skp (.putEq (by rw [hc9]) (.refl _)) rfl) rfl) rfl))
   ·refine gs rfl rfl <| gs rfl rfl <| gs rfl rfl <| un1 (v := (B false)) rfl <| dnil ?_
    exact hX _ (.putEq (by rw [hc9]; rfl) (.skp (.skp (.skp (.putEq (by rw [hc9]) (.refl _)) rfl) rfl) rfl))
  refine un1 rfl ?_
  refine gjoin 3 (d := 82) (v := (B ((r_1.1 && (decide (x_1.Source = 0))) && x_1.Small))) (fun X hX => ?_) ?_
  ·refine split2 (fun hc10 => ?_) (fun hc10 => ?_)
   ·refine gt rfl <| a1 (v := (.c (.ref 4 7 0 2))) rfl <| gt rfl <| a1 (v := (B x_1.Small)) rfl <| un1 (v := (B x_1.Small)) rfl <| dnil ?_
    exact hX _ (.putEq (by rw [hc10]; rfl) (.skp (.skp (.putEq (by rw [hc10]) (.refl _)) rfl) rfl))
   ·refine gs rfl rfl <| gs rfl rfl <| un1 (v := (B false)) rfl <| dnil ?_
    exact hX _ (.putEq (by rw [hc10]; rfl) (.skp (.skp (.putEq (by rw [hc10]) (.refl _)) rfl) rfl))
  refine un <| a2n (h' := upd _ 1 (some (.cells 1 [[cB ((r_1.1 && (decide (x_1.Source = 0))) && x_1.Small)]]))) (n' := 6) rfl rfl hcs <| dnil <| srg <| un1 (v := (I (wi (v65 + 1)))) rfl <| un1 rfl <| dnil ?_
  exact hself ((r_1.1 && (decide (x_1.Source = 0))) && x_1.Small) r_1.2 (wi (v65 + 1)) z_1 hz_1 h _ (wcn [0, 1, 2, 5] rfl (.cf rfl rfl (.cf rfl rfl (.cf rfl rfl (.cons rfl (.c (fn_as .nil (.cons (.ref rfl (by decide)) (.cons (.ref rfl (by decide)) (.cons (.ref rfl (by decide)) .nil))))) (.cr rfl rfl rfl (.cr rfl rfl rfl .nil)))))) (.row (by decide) rfl (fr_map fun _ => rfl) (.box (by decide) rfl (blkAs_cells (.cons (lstC_ren rfl (by decide)) .nil)) (.box (by decide) rfl (blkAs_cells (.sm rfl .nil)) (.box (by decide) rfl (blkAs_cells (.sm rfl (.sm rfl (.sm rfl (.sm rfl (.sm rfl .nil)))))) .nil)))))
 ·refine Sv.exit ?_
  exact hK2 right2 number2 znumber2 hznumber2 h _ (wcn [0, 1, 2, 3] rfl (.cons rfl (.c (fn_as .nil (.cons (.ref rfl (by decide)) (.cons (.ref rfl (by decide)) (.cons (.ref rfl (by decide)) .nil))))) (.cr rfl rfl rfl (.cr rfl rfl rfl .nil))) (.row (by decide) rfl (fr_map fun _ => rfl) (.box (by decide) rfl (blkAs_cells (.cons (lstC_ren rfl (by decide)) .nil)) (.box (by decide) rfl (blkAs_cells (.sm rfl .nil)) (.box (by decide) rfl (blkAs_cells (.sm rfl (.sm rfl (.sm rfl (.sm rfl (.sm rfl .nil)))))) .nil)))))
abbrev Z6t (q_ : TJLoop) (v87 : Int) (F_ : Bool → (List Int) → Option Int) (o : Int) (R_ : St → Prop) : Prop := ∀ (right7 : Bool) (number6 : (List Int)) (znumber6 : Bool) (_ : znumber6 = true → number6 = []), F_ right7 number6 = some o → ∀ s, Weak 0 s ⟨(ue [(87, (I v87)), (86, (I (q_.Timers.length : Int))), (85, (.c (.ro false 5 (q_.Timers.map e_TJTimer)))), (5, (.c (.fn (.func 36) [] [.ref 1 1 0 0, .ref 0 5 0 0, .ref 2 1 0 0]))), (3, (.c (.ref 1 1 0 0))), (1, (.c (.ref 0 5 0 0)))]), (upd (upd (upd (upd e0 0 (some (.cells 5 [(e_TJLoop q_)]))) 1 (some (.cells 1 [[cB right7]]))) 2 (some (.cells 1 [[lstC znumber6 3 1 number6.length]]))) 3 (lstB znumber6 1 (number6.map eI))), 4⟩ → R_ s
abbrev Z45 (q_ : TJLoop) (v87 : Int) (r_3 : (List TJTimer)) (x_2 : TJTimer) (F_ : Nat → Bool → (List Int) → Int → Option Int) (o : Int) : Nat → St → Prop := fun k s => ∃ (right6 : Bool), ∃ (number5 : (List Int)), ∃ (v124 : Int), ∃ (znumber5 : Bool), (znumber5 = true → number5 = []) ∧ F_ k right6 number5 v124 = some o ∧ s = ⟨(ue [(124, (I v124)), (123, (I (r_3.length : Int))), (122, (.c (.ro false 5 (r_3.map e_TJTimer)))), (87, (I v87)), (86, (I (q_.Timers.length : Int))), (85, (.c (.ro false 5 (q_.Timers.map e_TJTimer)))), (11, (.c (.ref 4 5 0 0))), (5, (.c (.fn (.func 36) [] [.ref 1 1 0 0, .ref 0 5 0 0, .ref 2 1 0 0]))), (3, (.c (.ref 1 1 0 0))), (1, (.c (.ref 0 5 0 0)))]), (upd (upd (upd (upd (upd e0 0 (some (.cells 5 [(e_TJLoop q_)]))) 1 (some (.cells 1 [[cB right6]]))) 2 (some (.cells 1 [[lstC znumber5 3 1 number5.length]]))) 3 (lstB znumber5 1 (number5.map eI))) 4 (some (.cells 5 [(e_TJTimer x_2)]))), 5⟩
abbrev Z6u (q_ : TJLoop) (v87 : Int) (r_3 : (List TJTimer)) (x_2 : TJTimer) (F_ : Bool → (List Int) → Int → Option Int) (o : Int) (R_ : St → Prop) : Prop := ∀ (right6 : Bool) (number5 : (List Int)) (v124 : Int) (znumber5 : Bool) (_ : znumber5 = true → number5 = []), F_ right6 number5 v124 = some o → ∀ s, Weak 0 s ⟨(ue [(124, (I v124)), (123, (I (r_3.length : Int))), (122, (.c (.ro false 5 (r_3.map e_TJTimer)))), (87, (I v87)), (86, (I (q_.Timers.length : Int))), (85, (.c (.ro false 5 (q_.Timers.map e_TJTimer)))), (11, (.c (.ref 4 5 0 0))), (5, (.c (.fn (.func 36) [] [.ref 1 1 0 0, .ref 0 5 0 0, .ref 2 1 0 0]))), (3, (.c (.ref 1 1 0 0))), (1, (.c (.ref 0 5 0 0)))]), (upd (upd (upd (upd (upd e0 0 (some (.cells 5 [(e_TJLoop q_)]))) 1 (some (.cells 1 [[cB right6]]))) 2 (some (.cells 1 [[lstC znumber5 3 1 number5.length]]))) 3 (lstB znumber5 1 (number5.map eI))) 4 (some (.cells 5 [(e_TJTimer x_2)]))), 5⟩ → R_ s
noncomputable def Zq (r_3 : (List TJTimer)) (x_2 : TJTimer) (q_ : TJLoop) (v87 : Int) (K6_ : Bool → (List Int) → Option Int) : Nat → Bool → (List Int) → Int → Option Int
 | 0, _, _, _ => none
 | k + 1, right6, number5, v124 =>
  if decide (v124 < (r_3.length : Int)) then
   (at? r_3 v124).bind fun x_3 =>
   (Zq r_3 x_2 q_ v87 K6_ k) (right6 && ((decide (x_3.At < x_2.At)) || ((decide (x_3.At = x_2.At)) && (decide (x_3.ID < x_2.ID))))) number5 (wi (v124 + 1))
  else
   K6_ right6 number5
theorem Z6v {Γ : Glob} {Q : AExit → St → Prop} {r_3 : (List TJTimer)} {x_2 : TJTimer} {q_ : TJLoop} {v87 : Int} {K6_ : Bool → (List Int) → Option Int} {k : Nat} {right6 : Bool} {number5 : (List Int)} {v124 : Int} {znumber5 : Bool} (hznumber5 : znumber5 = true → number5 = []) {o : Int} (h : Zq r_3 x_2 q_ v87 K6_ k right6 number5 v124 = some o)
  (hK6 : Z6t q_ v87 K6_ o (Q (.exit 6)))
  (hr : ∀ s, Ends a8.results 0 (Z21 o) .ret s → Q .ret s) :
  Sv Try.prog Γ 0 (.loop a8_c2) Q ⟨(ue [(124, (I v124)), (123, (I (r_3.length : Int))), (122, (.c (.ro false 5 (r_3.map e_TJTimer)))), (87, (I v87)), (86, (I (q_.Timers.length : Int))), (85, (.c (.ro false 5 (q_.Timers.map e_TJTimer)))), (11, (.c (.ref 4 5 0 0))), (5, (.c (.fn (.func 36) [] [.ref 1 1 0 0, .ref 0 5 0 0, .ref 2 1 0 0]))), (3, (.c (.ref 1 1 0 0))), (1, (.c (.ref 0 5 0 0)))]), (upd (upd (upd (upd (upd e0 0 (some (.cells 5 [(e_TJLoop q_)]))) 1 (some (.cells 1 [[cB right6]]))) 2 (some (.cells 1 [[lstC znumber5 3 1 number5.length]]))) 3 (lstB znumber5 1 (number5.map eI))) 4 (some (.cells 5 [(e_TJTimer x_2)]))), 5⟩ := by
 refine Sv.loop (I := Z45 q_ v87 r_3 x_2 (Zq r_3 x_2 q_ v87 K6_) o) (fun k s hI => ?_) ⟨right6, number5, v124, znumber5, hznumber5, h, rfl⟩
 clear h
 clear hznumber5 znumber5 v124 number5 right6
 obtain ⟨right6, number5, v124, znumber5, hznumber5, h, rfl⟩ := hI
 cases k with
 | zero => cases h
 | succ k =>
 rw [Zq] at h
 have hself : Z6u q_ v87 r_3 x_2 (Zq r_3 x_2 q_ v87 K6_ k) o (rnd 0 (Z45 q_ v87 r_3 x_2 (Zq r_3 x_2 q_ v87 K6_) o) k Q) := fun right6 number5 v124 znumber5 hznumber5 h s hw => ⟨_, k, hw, Nat.lt_succ_self k, right6, number5, v124, znumber5, hznumber5, h, rfl⟩
 refine ssr <| un1 (v := (B (decide (v124 < (r_3.length : Int))))) rfl <| dnil <| Sv.seq ?_
 refine Sv.cnd rfl h (fun h => ?_) fun h => ?_
 ·refine Sv.skip <| Sv.seq <| Sv.block <| ssr ?_
  obtain ⟨x_3, hx5, h⟩ := bnd h
  refine un1 (v := (.c (.rop (e_TJTimer x_3)))) (s_iaddr (e := e_TJTimer) (xs := r_3) rfl rfl hx5) <| un1 (v := (.agg (e_TJTimer x_3))) rfl <| un <| a2v (v := (.c (.ref 5 5 0 0))) (h' := upd _ 5 (some (.cells 5 [[cI 0, cI 0, cI 0, cI 0, .str []]]))) (n' := 6) rfl rfl hcs <| un <| a2n (h' := upd _ 5 (some (.cells 5 [(e_TJTimer x_3)]))) (n' := 6) rfl rfl hcs <| dnil <| srg <| un1 (v := (B right6)) rfl <| un1 rfl ?_
  refine gjoin 20 (d := 149) (v := (B (right6 && ((decide (x_3.At < x_2.At)) || ((decide (x_3.At = x_2.At)) && (decide (x_3.ID < x_2.ID))))))) (fun X hX => ?_) ?_
  ·refine split2 (fun hc19 => ?_) (fun hc19 => ?_)
   ·refine gt rfl <| a1 (v := (.c (.ref 5 5 0 1))) rfl <| gt rfl <| a1 (v := (I x_3.At)) rfl <| gt rfl <| a1 (v := (.c (.ref 4 5 0 1))) rfl <| gt rfl <| a1 (v := (I x_2.At)) rfl <| gt rfl <| a1 (v := (B (decide (x_3.At < x_2.At)))) rfl <| gt rfl <| a1 rfl ?_
    refine gjoin 13 (d := 148) (v := (B ((decide (x_3.At < x_2.At)) || ((decide (x_3.At = x_2.At)) && (decide (x_3.ID < x_2.ID)))))) (fun X hX => ?_) ?_
    ·refine split2 (fun hc18 => ?_) (fun hc18 => ?_)
     ·repeat (first | refine gu rfl ?_ | refine gs rfl rfl ?_)
      refine gt rfl <| a1 (v := (B true)) rfl <| dnil ?_
      exact hX _ (.putEq (by rw [hc18]; rfl) (by repeat (first | exact .putEq (by rw [hc18]) (.refl _) | refine .skp ?_ rfl)))
     ·refine gt rfl <| a1 (v := (.c (.ref 5 5 0 1))) rfl <| gt rfl <| a1 (v := (I x_3.At)) rfl <| gt rfl <| a1 (v := (.c (.ref 4 5 0 1))) rfl <| gt rfl <| a1 (v := (I x_2.At)) rfl <| gt rfl <| a1 (v := (B (decide (x_3.At = x_2.At)))) rfl <| gt rfl <| a1 rfl ?_
      refine gjoin 6 (d := 147) (v := (B ((decide (x_3.At = x_2.At)) && (decide (x_3.ID < x_2.ID))))) (fun X hX => ?_) ?_
      ·refine split2 (fun hc17 => ?_) (fun hc17 => ?_)
       ·refine gt rfl <| a1 (v := (.c (.ref 5 5 0 0))) rfl <| gt rfl <| a1 (v := (I x_3.ID)) rfl <| gt rfl <| a1 (v := (.c (.ref 4 5 0 0))) rfl <| gt rfl <| a1 (v := (I x_2.ID)) rfl <| gt rfl <| a1 (v := (B (decide (x_3.ID < x_2.ID)))) rfl <| gt rfl <| a1 (v := (B (decide (x_3.ID < x_2.ID)))) rfl <| dnil ?_
        exact hX _ (.putEq (by rw [hc17]; rfl) (by repeat (first | exact .putEq (by rw [hc17]) (.refl _) | refine .skp ?_ rfl)))
       ·repeat (first | refine gu rfl ?_ | refine gs rfl rfl ?_)
        refine gt rfl <| a1 (v := (B false)) rfl <| dnil ?_
        exact hX _ (.putEq (by rw [hc17]; rfl) (by repeat (first | exact .putEq (by rw [hc17]) (.refl _) | refine .skp ?_ rfl)))
      refine gt rfl <| a1 (v := (B ((decide (x_3.At = x_2.At)) && (decide (x_3.ID < x_2.ID))))) rfl <| dnil ?_
      exact hX _ (.putEq (by rw [hc18]; rfl) (by repeat (first | exact .putEq (by rw [hc18]) (.refl _) | refine .skp ?_ rfl)))
    refine un1 (v := (B ((decide (x_3.At < x_2.At)) || ((decide (x_3.At = x_2.At)) && (decide (x_3.ID < x_2.ID)))))) rfl <| dnil ?_
    exact hX _ (.putEq (by rw [hc19]; rfl) (by repeat (first | exact .putEq (by rw [hc19]) (.refl _) | refine .skp ?_ rfl)))
   ·repeat (first | refine gu rfl ?_ | refine gs rfl rfl ?_)
    refine un1 (v := (B false)) rfl <| dnil ?_
    exact hX _ (.putEq (by rw [hc19]; rfl) (by repeat (first | exact .putEq (by rw [hc19]) (.refl _) | refine .skp ?_ rfl)))
  refine un <| a2n (h' := upd _ 1 (some (.cells 1 [[cB (right6 && ((decide (x_3.At < x_2.At)) || ((decide (x_3.At = x_2.At)) && (decide (x_3.ID < x_2.ID)))))]]))) (n' := 6) rfl rfl hcs <| dnil <| srg <| un1 (v := (I (wi (v124 + 1)))) rfl <| un1 rfl <| dnil ?_
  exact hself (right6 && ((decide (x_3.At < x_2.At)) || ((decide (x_3.At = x_2.At)) && (decide (x_3.ID < x_2.ID))))) number5 (wi (v124 + 1)) znumber5 hznumber5 h _ (wcn [0, 1, 2, 3, 4] rfl (.cf rfl rfl (.cf rfl rfl (.cf rfl rfl (.cf rfl rfl (.cf rfl rfl (.cf rfl rfl (.cr rfl rfl rfl (.cons rfl (.c (fn_as .nil (.cons (.ref rfl (by decide)) (.cons (.ref rfl (by decide)) (.cons (.ref rfl (by decide)) .nil))))) (.cr rfl rfl rfl (.cr rfl rfl rfl .nil)))))))))) (.box (by decide) rfl (blkAs_cells (.sm rfl (.sm rfl (.sm rfl (.sm rfl (.sm rfl .nil)))))) (.row (by decide) rfl (fr_map fun _ => rfl) (.box (by decide) rfl (blkAs_cells (.cons (lstC_ren rfl (by decide)) .nil)) (.box (by decide) rfl (blkAs_cells (.sm rfl .nil)) (.box (by decide) rfl (blkAs_cells (.sm rfl (.sm rfl (.sm rfl (.sm rfl (.sm rfl .nil)))))) .nil))))))
 ·refine Sv.exit ?_
  exact hK6 right6 number5 znumber5 hznumber5 h _ (wcn [0, 1, 2, 3] rfl (.cf rfl rfl (.cf rfl rfl (.cf rfl rfl (.cons rfl (.c (fn_as .nil (.cons (.ref rfl (by decide)) (.cons (.ref rfl (by decide)) (.cons (.ref rfl (by decide)) .nil))))) (.cr rfl rfl rfl (.cr rfl rfl rfl .nil)))))) (.row (by decide) rfl (fr_map fun _ => rfl) (.box (by decide) rfl (blkAs_cells (.cons (lstC_ren rfl (by decide)) .nil)) (.box (by decide) rfl (blkAs_cells (.sm rfl .nil)) (.box (by decide) rfl (blkAs_cells (.sm rfl (.sm rfl (.sm rfl (.sm rfl (.sm rfl .nil)))))) .nil)))))
abbrev Z6w (F_ : Bool → Option Int) (o : Int) (R_ : St → Prop) : Prop := ∀ (right5 : Bool), F_ right5 = some o → ∀ s, Weak 0 s ⟨(upd e0 3 (some (.c (.ref 0 1 0 0)))), (upd e0 0 (some (.cells 1 [[cB right5]]))), 1⟩ → R_ s
abbrev Z46 (q_ : TJLoop) (F_ : Nat → Bool → (List Int) → Int → Option Int) (o : Int) : Nat → St → Prop := fun k s => ∃ (right4 : Bool), ∃ (number4 : (List Int)), ∃ (v87 : Int), ∃ (znumber4 : Bool), (znumber4 = true → number4 = []) ∧ F_ k right4 number4 v87 = some o ∧ s = ⟨(ue [(87, (I v87)), (86, (I (q_.Timers.length : Int))), (85, (.c (.ro false 5 (q_.Timers.map e_TJTimer)))), (5, (.c (.fn (.func 36) [] [.ref 1 1 0 0, .ref 0 5 0 0, .ref 2 1 0 0]))), (3, (.c (.ref 1 1 0 0))), (1, (.c (.ref 0 5 0 0)))]), (upd (upd (upd (upd e0 0 (some (.cells 5 [(e_TJLoop q_)]))) 1 (some (.cells 1 [[cB right4]]))) 2 (some (.cells 1 [[lstC znumber4 3 1 number4.length]]))) 3 (lstB znumber4 1 (number4.map eI))), 4⟩
abbrev Z6x (q_ : TJLoop) (F_ : Bool → (List Int) → Int → Option Int) (o : Int) (R_ : St → Prop) : Prop := ∀ (right4 : Bool) (number4 : (List Int)) (v87 : Int) (znumber4 : Bool) (_ : znumber4 = true → number4 = []), F_ right4 number4 v87 = some o → ∀ s, Weak 0 s ⟨(ue [(87, (I v87)), (86, (I (q_.Timers.length : Int))), (85, (.c (.ro false 5 (q_.Timers.map e_TJTimer)))), (5, (.c (.fn (.func 36) [] [.ref 1 1 0 0, .ref 0 5 0 0, .ref 2 1 0 0]))), (3, (.c (.ref 1 1 0 0))), (1, (.c (.ref 0 5 0 0)))]), (upd (upd (upd (upd e0 0 (some (.cells 5 [(e_TJLoop q_)]))) 1 (some (.cells 1 [[cB right4]]))) 2 (some (.cells 1 [[lstC znumber4 3 1 number4.length]]))) 3 (lstB znumber4 1 (number4.map eI))), 4⟩ → R_ s
noncomputable def Z6 (q_ : TJLoop) (K4_ : Bool → Option Int) : Nat → Bool → (List Int) → Int → Option Int
 | 0, _, _, _ => none
 | k + 1, right4, number4, v87 =>
  if decide (v87 < (q_.Timers.length : Int)) then
   (at? q_.Timers v87).bind fun x_2 =>
   (Z19 x_2.ID right4 q_.Now q_.Next q_.Tasks q_.Smalls q_.Timers number4).bind fun r_2 =>
   (sub? q_.Timers 0 v87).bind fun r_3 =>
   lim fun kk => Zq r_3 x_2 q_ v87 (fun (right7 : Bool) (number6 : (List Int)) => 
     (Z6 q_ K4_ k) right7 number6 (wi (v87 + 1))) kk ((((r_2.1 && (decide (q_.Now ≤ x_2.At))) && (decide (x_2.At ≤ 1000000000))) && (Z2 x_2.Every 0 1000000000)) && (Z2 x_2.Turn 0 1000000000)) r_2.2 0
  else
   K4_ right4
theorem Z6y {Γ : Glob} {Q : AExit → St → Prop} {q_ : TJLoop} {K4_ : Bool → Option Int} {k : Nat} {right4 : Bool} {number4 : (List Int)} {v87 : Int} {znumber4 : Bool} (hznumber4 : znumber4 = true → number4 = []) {o : Int} (h : Z6 q_ K4_ k right4 number4 v87 = some o)
  (hK4 : Z6w K4_ o (Q (.exit 4)))
  (hr : ∀ s, Ends a8.results 0 (Z21 o) .ret s → Q .ret s) :
  Sv Try.prog Γ 0 (.loop a8_c3) Q ⟨(ue [(87, (I v87)), (86, (I (q_.Timers.length : Int))), (85, (.c (.ro false 5 (q_.Timers.map e_TJTimer)))), (5, (.c (.fn (.func 36) [] [.ref 1 1 0 0, .ref 0 5 0 0, .ref 2 1 0 0]))), (3, (.c (.ref 1 1 0 0))), (1, (.c (.ref 0 5 0 0)))]), (upd (upd (upd (upd e0 0 (some (.cells 5 [(e_TJLoop q_)]))) 1 (some (.cells 1 [[cB right4]]))) 2 (some (.cells 1 [[lstC znumber4 3 1 number4.length]]))) 3 (lstB znumber4 1 (number4.map eI))), 4⟩ := by
 refine Sv.loop (I := Z46 q_ (Z6 q_ K4_) o) (fun k s hI => ?_) ⟨right4, number4, v87, znumber4, hznumber4, h, rfl⟩
 clear h
 clear hznumber4 znumber4 v87 number4 right4
 obtain ⟨right4, number4, v87, znumber4, hznumber4, h, rfl⟩ := hI
 cases k with
 | zero => cases h
 | succ k =>
 rw [Z6] at h
 have hself : Z6x q_ (Z6 q_ K4_ k) o (rnd 0 (Z46 q_ (Z6 q_ K4_) o) k Q) := fun right4 number4 v87 znumber4 hznumber4 h s hw => ⟨_, k, hw, Nat.lt_succ_self k, right4, number4, v87, znumber4, hznumber4, h, rfl⟩
 refine ssr <| un1 (v := (B (decide (v87 < (q_.Timers.length : Int))))) rfl <| dnil <| Sv.seq ?_
 refine Sv.cnd rfl h (fun h => ?_) fun h => ?_
 ·refine Sv.skip <| Sv.seq <| Sv.block <| ssr <| un1 rfl ?_
  obtain ⟨x_2, hx3, h⟩ := bnd h
  refine un1 (v := (.c (.rop (e_TJTimer x_2)))) (s_iaddr (e := e_TJTimer) (xs := q_.Timers) rfl rfl hx3) <| un1 (v := (.agg (e_TJTimer x_2))) rfl <| un <| a2v (v := (.c (.ref 4 5 0 0))) (h' := upd _ 4 (some (.cells 5 [[cI 0, cI 0, cI 0, cI 0, .str []]]))) (n' := 5) rfl rfl hcs <| un1 rfl <| un <| a2n (h' := upd _ 4 (some (.cells 5 [(e_TJTimer x_2)]))) (n' := 5) rfl rfl hcs <| dnil <| ssr <| un1 rfl <| un1 (v := (.c (.ref 4 5 0 0))) rfl <| un1 (v := (I x_2.ID)) rfl ?_
  obtain ⟨r_2, hr3, h⟩ := bnd h
  refine un <| acv_gen (bs := [1, 2, 3]) («as» := [(I x_2.ID), (.c (.ref 1 1 0 0)), (.c (.rop (e_TJLoop q_))), (.c (.ref 2 1 0 0))]) (h2 := (upd _ 0 none)) (h1 := (upd (upd (upd e0 1 (some (.cells 1 [[cB right4]]))) 2 (some (.cells 1 [[lstC znumber4 3 1 number4.length]]))) 3 (lstB znumber4 1 (number4.map eI)))) rfl (by kernel_rfl) (Z2w hznumber4 hr3) rfl (.cons (avAs_free rfl) (.cons (.c (.ref rfl (by decide))) (.cons (.c (ref_ro rfl (gone rfl) (.sm rfl (.sm rfl (.sm rfl (.sm rfl (.sm rfl .nil))))) rfl)) (.cons (.c (.ref rfl (by decide))) .nil)))) (hsub_none (hsub_refl _)) (.cons rfl (.cons rfl (.cons rfl (.nil _)))) hcs (by decide) (by decide) (.cons (avAs_free rfl) (.cons (.c (.ref rfl (by decide))) (.cons (avAs_free rfl) (.cons (.c (.ref rfl (by decide))) .nil)))) (.row (by decide) rfl (fr_map fun _ => rfl) (.box (by decide) rfl (blkAs_cells (.cons (lstC_ren rfl (by decide)) .nil)) (.box (by decide) rfl (blkAs_cells (.sm rfl .nil)) .nil))) ?_
  rintro _ _ _ hn ⟨z_2, hz_2, rfl, rfl, rfl⟩
  refine ⟨.inr ⟨(by cases z_2 <;> rfl), (.row (cl_map fun _ => rfl) (.box (by cases z_2 <;> rfl) (.box rfl .nil)))⟩, (upd (upd (upd (rem [1, 2, 3] _) 1 (some (.cells 1 [[cB r_2.1]]))) 2 (some (.cells 1 [[lstC z_2 5 1 r_2.2.length]]))) 5 (lstB z_2 1 (r_2.2.map eI))), fun hbd => (m3_cons (m3_row rfl (fr_map fun _ => rfl)) (m3_cons (m3_box rfl (by cases z_2 <;> rfl)) (m3_cons (m3_box rfl rfl) (m3_rem (in_cons (by decide) (in_cons (by decide) (in_cons (by decide) (in_nil _)))) (.cons (by decide) (.cons (by decide) (.cons (by decide) .nil))) hbd)))), (.tup []), 6, (by cases z_2 <;> rfl), rfl, ?_⟩
  refine dnil <| ssr <| un1 (v := (B r_2.1)) rfl <| un1 rfl ?_
  refine gjoin 6 (d := 103) (v := (B (r_2.1 && (decide (q_.Now ≤ x_2.At))))) (fun X hX => ?_) ?_
  ·refine split2 (fun hc12 => ?_) (fun hc12 => ?_)
   ·refine gt rfl <| a1 (v := (.c (.ref 4 5 0 1))) rfl <| gt rfl <| a1 (v := (I x_2.At)) rfl <| gt rfl <| a1 (v := (.c (.ref 0 5 0 0))) rfl <| gt rfl <| a1 (v := (I q_.Now)) rfl <| gt rfl <| a1 (v := (B (decide (q_.Now ≤ x_2.At)))) rfl <| un1 (v := (B (decide (q_.Now ≤ x_2.At)))) rfl <| dnil ?_
    exact hX _ (.putEq (by rw [hc12]; rfl) (by repeat (first | exact .putEq (by rw [hc12]) (.refl _) | refine .skp ?_ rfl)))
   ·repeat (first | refine gu rfl ?_ | refine gs rfl rfl ?_)
    refine un1 (v := (B false)) rfl <| dnil ?_
    exact hX _ (.putEq (by rw [hc12]; rfl) (by repeat (first | exact .putEq (by rw [hc12]) (.refl _) | refine .skp ?_ rfl)))
  refine un1 rfl ?_
  refine gjoin 4 (d := 108) (v := (B ((r_2.1 && (decide (q_.Now ≤ x_2.At))) && (decide (x_2.At ≤ 1000000000))))) (fun X hX => ?_) ?_
  ·refine split2 (fun hc13 => ?_) (fun hc13 => ?_)
   ·refine gt rfl <| a1 (v := (.c (.ref 4 5 0 1))) rfl <| gt rfl <| a1 (v := (I x_2.At)) rfl <| gt rfl <| a1 (v := (B (decide (x_2.At ≤ 1000000000)))) rfl <| un1 (v := (B (decide (x_2.At ≤ 1000000000)))) rfl <| dnil ?_
    exact hX _ (.putEq (by rw [hc13]; rfl) (.skp (.skp (.skp (.putEq (by rw [hc13]) (.refl _)) rfl) rfl) rfl))
   ·refine gs rfl rfl <| gs rfl rfl <| gs rfl rfl <| un1 (v := (B false)) rfl <| dnil ?_
    exact hX _ (.putEq (by rw [hc13]; rfl) (.skp (.skp (.skp (.putEq (by rw [hc13]) (.refl _)) rfl) rfl) rfl))
  refine un1 rfl ?_
  refine gjoin 4 (d := 113) (v := (B (((r_2.1 && (decide (q_.Now ≤ x_2.At))) && (decide (x_2.At ≤ 1000000000))) && (Z2 x_2.Every 0 1000000000)))) (fun X hX => ?_) ?_
  ·refine split2 (fun hc14 => ?_) (fun hc14 => ?_)
   ·refine gt rfl <| a1 (v := (.c (.ref 4 5 0 2))) rfl <| gt rfl <| a1 (v := (I x_2.Every)) rfl <| gt rfl <| ac_pure (Z12 (Γ := Γ) x_2.Every 0 1000000000) rfl rfl rfl <| un1 (v := (B (Z2 x_2.Every 0 1000000000))) rfl <| dnil ?_
    exact hX _ (.putEq (by rw [hc14]; rfl) (.skp (.skp (.skp (.putEq (by rw [hc14]) (.refl _)) rfl) rfl) rfl))
   ·refine gs rfl rfl <| gs rfl rfl <| gs rfl rfl <| un1 (v := (B false)) rfl <| dnil ?_
    exact hX _ (.putEq (by rw [hc14]; rfl) (.skp (.skp (.skp (.putEq (by rw [hc14]) (.refl _)) rfl) rfl) rfl))
  refine un1 rfl ?_
  refine gjoin 4 (d := 118) (v := (B ((((r_2.1 && (decide (q_.Now ≤ x_2.At))) && (decide (x_2.At ≤ 1000000000))) && (Z2 x_2.Every 0 1000000000)) && (Z2 x_2.Turn 0 1000000000)))) (fun X hX => ?_) ?_
  ·refine split2 (fun hc15 => ?_) (fun hc15 => ?_)
   ·refine gt rfl <| a1 (v := (.c (.ref 4 5 0 3))) rfl <| gt rfl <| a1 (v := (I x_2.Turn)) rfl <| gt rfl <| ac_pure (Z12 (Γ := Γ) x_2.Turn 0 1000000000) rfl rfl rfl <| un1 (v := (B (Z2 x_2.Turn 0 1000000000))) rfl <| dnil ?_
    exact hX _ (.putEq (by rw [hc15]; rfl) (.skp (.skp (.skp (.putEq (by rw [hc15]) (.refl _)) rfl) rfl) rfl))
   ·refine gs rfl rfl <| gs rfl rfl <| gs rfl rfl <| un1 (v := (B false)) rfl <| dnil ?_
    exact hX _ (.putEq (by rw [hc15]; rfl) (.skp (.skp (.skp (.putEq (by rw [hc15]) (.refl _)) rfl) rfl) rfl))
  refine un <| a2n (h' := upd _ 1 (some (.cells 1 [[cB ((((r_2.1 && (decide (q_.Now ≤ x_2.At))) && (decide (x_2.At ≤ 1000000000))) && (Z2 x_2.Every 0 1000000000)) && (Z2 x_2.Turn 0 1000000000))]]))) (n' := 6) rfl rfl hcs <| dnil <| ssr <| un1 (v := (.c (.ref 0 5 0 4))) rfl <| un1 (v := (.c (.ro false 5 (q_.Timers.map e_TJTimer)))) rfl <| un1 rfl ?_
  obtain ⟨r_3, hx4, h⟩ := bnd h
  refine un1 (v := (.c (.ro false 5 (r_3.map e_TJTimer)))) (s_slSl (e := e_TJTimer) rfl rfl rfl hx4) <| un1 (v := (I (r_3.length : Int))) (s_len (e := e_TJTimer) (xs := r_3) rfl) <| un1 rfl <| dnil <| Sv.block ?_
  obtain ⟨kk, h⟩ := lim_some h
  refine Sv.weak (wcn [0, 1, 2, 5, 4] rfl (.cf rfl rfl (.cf rfl rfl (.cf rfl rfl (.cf rfl rfl (.cf rfl rfl (.cf rfl rfl (.cr rfl rfl rfl (.cons rfl (.c (fn_as .nil (.cons (.ref rfl (by decide)) (.cons (.ref rfl (by decide)) (.cons (.ref rfl (by decide)) .nil))))) (.cr rfl rfl rfl (.cr rfl rfl rfl .nil)))))))))) (.box (by decide) rfl (blkAs_cells (.sm rfl (.sm rfl (.sm rfl (.sm rfl (.sm rfl .nil)))))) (.row (by decide) rfl (fr_map fun _ => rfl) (.box (by decide) rfl (blkAs_cells (.cons (lstC_ren rfl (by decide)) .nil)) (.box (by decide) rfl (blkAs_cells (.sm rfl .nil)) (.box (by decide) rfl (blkAs_cells (.sm rfl (.sm rfl (.sm rfl (.sm rfl (.sm rfl .nil)))))) .nil)))))) (Z6v hz_2 h ?_ hr)
  ·intro right7 number6 znumber6 hznumber6 h _ hw3
   refine Sv.weak hw3 <| srg <| un1 (v := (I (wi (v87 + 1)))) rfl <| un1 rfl <| dnil ?_
   exact hself right7 number6 (wi (v87 + 1)) znumber6 hznumber6 h _ (wcn [0, 1, 2, 3] rfl (.cf rfl rfl (.cf rfl rfl (.cf rfl rfl (.cons rfl (.c (fn_as .nil (.cons (.ref rfl (by decide)) (.cons (.ref rfl (by decide)) (.cons (.ref rfl (by decide)) .nil))))) (.cr rfl rfl rfl (.cr rfl rfl rfl .nil)))))) (.row (by decide) rfl (fr_map fun _ => rfl) (.box (by decide) rfl (blkAs_cells (.cons (lstC_ren rfl (by decide)) .nil)) (.box (by decide) rfl (blkAs_cells (.sm rfl .nil)) (.box (by decide) rfl (blkAs_cells (.sm rfl (.sm rfl (.sm rfl (.sm rfl (.sm rfl .nil)))))) .nil)))))
 ·refine Sv.exit ?_
  exact hK4 right4 h _ (wcn [1] rfl (.cr rfl rfl rfl .nil) (.box (by decide) rfl (blkAs_cells (.sm rfl .nil)) .nil))
/-- clerestory/clerestoryref4.LoopRight -/
noncomputable def Z22 (q_ : TJLoop) : Option Int :=
 if (((decide (100 < (q_.Tasks.length : Int))) || (decide (100 < (q_.Smalls.length : Int)))) || (decide (100 < (q_.Timers.length : Int)))) then
  some 2
 else
  lim fun kk3 => Zp q_ (fun (right1 : Bool) (number1 : (List Int)) => 
    lim fun kk2 => Zc q_ (fun (right3 : Bool) (number3 : (List Int)) => 
      lim fun kk1 => Z6 q_ (fun (right5 : Bool) => 
        if (!right5) then
         some 3
        else
         some 0) kk1 right3 number3 0) kk2 right1 number1 0) kk3 ((Z2 q_.Now 0 1000000000) && (Z2 q_.Next 0 1000000000)) ([] : List Int) 0
theorem Z6z {Γ : Glob} {q_ : TJLoop} {r : Int} (h : Z22 q_ = some r) : CPure Try.prog Γ 8 [(.agg (e_TJLoop q_))] (I r) := by
 refine acalls_of_sv hmix c8 (R := Z21 r) ?_
 unfold Z22 at h
 refine ssr <| un <| a2v (v := (.c (.ref 0 5 0 0))) (h' := upd _ 0 (some (.cells 5 [(e_TJLoop q_)]))) (n' := 1) rfl rfl hcs <| un1 rfl <| dnil <| Sv.seq <| ssr <| un1 (v := (.c (.ref 0 5 0 2))) rfl <| un1 (v := (.c (.ro false 7 (q_.Tasks.map e_TJJob)))) rfl <| un1 (v := (I (q_.Tasks.length : Int))) (s_len (e := e_TJJob) (xs := q_.Tasks) rfl) <| un1 (v := (B (decide (100 < (q_.Tasks.length : Int))))) rfl <| un1 rfl ?_
 refine gjoin 5 (d := 23) (v := (B ((decide (100 < (q_.Tasks.length : Int))) || (decide (100 < (q_.Smalls.length : Int)))))) (fun X hX => ?_) ?_
 ·refine split2 (fun hc1 => ?_) (fun hc1 => ?_)
  ·refine gs rfl rfl <| gs rfl rfl <| gs rfl rfl <| gs rfl rfl <| un1 (v := (B true)) rfl <| dnil ?_
   exact hX _ (.putEq (by rw [hc1]; rfl) (.skp (.skp (.skp (.skp (.putEq (by rw [hc1]) (.refl _)) rfl) rfl) rfl) rfl))
  ·refine gt rfl <| a1 (v := (.c (.ref 0 5 0 3))) rfl <| gt rfl <| a1 (v := (.c (.ro false 7 (q_.Smalls.map e_TJJob)))) rfl <| gt rfl <| a1 (v := (I (q_.Smalls.length : Int))) (s_len (e := e_TJJob) (xs := q_.Smalls) rfl) <| gt rfl <| a1 (v := (B (decide (100 < (q_.Smalls.length : Int))))) rfl <| un1 (v := (B (decide (100 < (q_.Smalls.length : Int))))) rfl <| dnil ?_
   exact hX _ (.putEq (by rw [hc1]; rfl) (.skp (.skp (.skp (.skp (.putEq (by rw [hc1]) (.refl _)) rfl) rfl) rfl) rfl))
 refine un1 rfl ?_
 refine gjoin 5 (d := 29) (v := (B (((decide (100 < (q_.Tasks.length : Int))) || (decide (100 < (q_.Smalls.length : Int)))) || (decide (100 < (q_.Timers.length : Int)))))) (fun X hX => ?_) ?_
 ·refine split2 (fun hc2 => ?_) (fun hc2 => ?_)
  ·refine gs rfl rfl <| gs rfl rfl <| gs rfl rfl <| gs rfl rfl <| un1 (v := (B true)) rfl <| dnil ?_
   exact hX _ (.putEq (by rw [hc2]; rfl) (.skp (.skp (.skp (.skp (.putEq (by rw [hc2]) (.refl _)) rfl) rfl) rfl) rfl))
  ·refine gt rfl <| a1 (v := (.c (.ref 0 5 0 4))) rfl <| gt rfl <| a1 (v := (.c (.ro false 5 (q_.Timers.map e_TJTimer)))) rfl <| gt rfl <| a1 (v := (I (q_.Timers.length : Int))) (s_len (e := e_TJTimer) (xs := q_.Timers) rfl) <| gt rfl <| a1 (v := (B (decide (100 < (q_.Timers.length : Int))))) rfl <| un1 (v := (B (decide (100 < (q_.Timers.length : Int))))) rfl <| dnil ?_
   exact hX _ (.putEq (by rw [hc2]; rfl) (.skp (.skp (.skp (.skp (.putEq (by rw [hc2]) (.refl _)) rfl) rfl) rfl) rfl))
 refine dnil ?_
 refine Sv.cnd rfl h (fun h => ?_) fun h => ?_
 ·refine ssr <| un1 rfl <| dnil <| Sv.ret ?_
  exact rt0 h rfl rfl ⟨rfl, rfl, rfl⟩
 ·refine Sv.skip <| ssr <| un1 (v := (.c (.ref 0 5 0 0))) rfl <| un1 (v := (I q_.Now)) rfl <| un <| ac_pure (Z12 (Γ := Γ) q_.Now 0 1000000000) rfl rfl rfl <| un1 rfl ?_
  refine gjoin 4 (d := 37) (v := (B ((Z2 q_.Now 0 1000000000) && (Z2 q_.Next 0 1000000000)))) (fun X hX => ?_) ?_
  ·refine split2 (fun hc4 => ?_) (fun hc4 => ?_)
   ·refine gt rfl <| a1 (v := (.c (.ref 0 5 0 1))) rfl <| gt rfl <| a1 (v := (I q_.Next)) rfl <| gt rfl <| ac_pure (Z12 (Γ := Γ) q_.Next 0 1000000000) rfl rfl rfl <| un1 (v := (B (Z2 q_.Next 0 1000000000))) rfl <| dnil ?_
    exact hX _ (.putEq (by rw [hc4]; rfl) (.skp (.skp (.skp (.putEq (by rw [hc4]) (.refl _)) rfl) rfl) rfl))
   ·refine gs rfl rfl <| gs rfl rfl <| gs rfl rfl <| un1 (v := (B false)) rfl <| dnil ?_
    exact hX _ (.putEq (by rw [hc4]; rfl) (.skp (.skp (.skp (.putEq (by rw [hc4]) (.refl _)) rfl) rfl) rfl))
  refine un <| a2v (v := (.c (.ref 1 1 0 0))) (h' := upd _ 1 (some (.cells 1 [[cB false]]))) (n' := 2) rfl rfl hcs <| un <| a2n (h' := upd _ 1 (some (.cells 1 [[cB ((Z2 q_.Now 0 1000000000) && (Z2 q_.Next 0 1000000000))]]))) (n' := 2) rfl rfl hcs <| dnil <| ssr <| un <| a2v (v := (.c (.ref 2 1 0 0))) (h' := upd _ 2 (some (.cells 1 [[.ro true 1 []]]))) (n' := 3) rfl rfl hcs <| dnil <| ssr <| un1 (v := (.c (.fn (.func 36) [] [.ref 1 1 0 0, .ref 0 5 0 0, .ref 2 1 0 0]))) rfl <| un1 rfl <| dnil <| Sv.seq <| ssr <| un1 (v := (.c (.ref 0 5 0 2))) rfl <| un1 (v := (.c (.ro false 7 (q_.Tasks.map e_TJJob)))) rfl <| un1 (v := (I (q_.Tasks.length : Int))) (s_len (e := e_TJJob) (xs := q_.Tasks) rfl) <| un1 rfl <| dnil <| Sv.block ?_
  obtain ⟨kk3, h⟩ := lim_some h
  refine Sv.weak (wcn [0, 1, 2, 1000] rfl (.cf rfl rfl (.cf rfl rfl (.cf rfl rfl (.cons rfl (.c (fn_as .nil (.cons (.ref rfl (by decide)) (.cons (.ref rfl (by decide)) (.cons (.ref rfl (by decide)) .nil))))) (.cr rfl rfl rfl (.cr rfl rfl rfl .nil)))))) (.non (by decide) (.box (by decide) rfl (blkAs_cells (.sm rfl .nil)) (.box (by decide) rfl (blkAs_cells (.sm rfl .nil)) (.box (by decide) rfl (blkAs_cells (.sm rfl (.sm rfl (.sm rfl (.sm rfl (.sm rfl .nil)))))) .nil))))) (Z6p (fun _ => rfl) h ?_ (fun s hs => hs))
  ·intro right1 number1 znumber1 hznumber1 h _ hw1
   refine Sv.weak hw1 <| Sv.seq <| ssr <| un1 (v := (.c (.ref 0 5 0 3))) rfl <| un1 (v := (.c (.ro false 7 (q_.Smalls.map e_TJJob)))) rfl <| un1 (v := (I (q_.Smalls.length : Int))) (s_len (e := e_TJJob) (xs := q_.Smalls) rfl) <| un1 rfl <| dnil <| Sv.block ?_
   obtain ⟨kk2, h⟩ := lim_some h
   refine Sv.weak (wcn [0, 1, 2, 3] rfl (.cf rfl rfl (.cf rfl rfl (.cf rfl rfl (.cons rfl (.c (fn_as .nil (.cons (.ref rfl (by decide)) (.cons (.ref rfl (by decide)) (.cons (.ref rfl (by decide)) .nil))))) (.cr rfl rfl rfl (.cr rfl rfl rfl .nil)))))) (.row (by decide) rfl (fr_map fun _ => rfl) (.box (by decide) rfl (blkAs_cells (.cons (lstC_ren rfl (by decide)) .nil)) (.box (by decide) rfl (blkAs_cells (.sm rfl .nil)) (.box (by decide) rfl (blkAs_cells (.sm rfl (.sm rfl (.sm rfl (.sm rfl (.sm rfl .nil)))))) .nil))))) (Z6s hznumber1 h ?_ (fun s hs => hs))
   ·intro right3 number3 znumber3 hznumber3 h _ hw2
    refine Sv.weak hw2 <| Sv.seq <| ssr <| un1 (v := (.c (.ref 0 5 0 4))) rfl <| un1 (v := (.c (.ro false 5 (q_.Timers.map e_TJTimer)))) rfl <| un1 (v := (I (q_.Timers.length : Int))) (s_len (e := e_TJTimer) (xs := q_.Timers) rfl) <| un1 rfl <| dnil <| Sv.block ?_
    obtain ⟨kk1, h⟩ := lim_some h
    refine Sv.weak (wcn [0, 1, 2, 3] rfl (.cf rfl rfl (.cf rfl rfl (.cf rfl rfl (.cons rfl (.c (fn_as .nil (.cons (.ref rfl (by decide)) (.cons (.ref rfl (by decide)) (.cons (.ref rfl (by decide)) .nil))))) (.cr rfl rfl rfl (.cr rfl rfl rfl .nil)))))) (.row (by decide) rfl (fr_map fun _ => rfl) (.box (by decide) rfl (blkAs_cells (.cons (lstC_ren rfl (by decide)) .nil)) (.box (by decide) rfl (blkAs_cells (.sm rfl .nil)) (.box (by decide) rfl (blkAs_cells (.sm rfl (.sm rfl (.sm rfl (.sm rfl (.sm rfl .nil)))))) .nil))))) (Z6y hznumber3 h ?_ (fun s hs => hs))
    ·intro right5 h _ hw4
     refine Sv.weak hw4 <| Sv.seq <| ssr <| un1 (v := (B right5)) rfl <| un1 (v := (B (!right5))) rfl <| dnil ?_
     refine Sv.cnd rfl h (fun h => ?_) fun h => ?_
     ·refine ssr <| un1 rfl <| dnil <| Sv.ret ?_
      exact rt0 h rfl rfl ⟨rfl, rfl, rfl⟩
     ·refine Sv.skip <| ssr <| un1 rfl <| dnil <| Sv.ret ?_
      exact rt0 h rfl rfl ⟨rfl, rfl, rfl⟩
def a18_c0 : ACode := (sr [(oP 14 (.bin .lss (.tmp 13) (.tmp 12)))]
 (.seq (.cond (.tmp 14) .skip (.exit 0))
 (.seq (.block 1 (sr [(mV 15 13), (mV 5 15)]
 (.seq (.drawn (.fin [((mV 16 0), (0, 0)), ((mV 17 5), (0, 1)), ((oP 18 (.iaddr 7 (.tmp 16) (.tmp 17))), (0, 2)), ((oP 19 (.load true 7 (.tmp 18))), (0, 3)), ((mV 20 1), (0, 4)), ((mV 21 5), (0, 5)), ((oP 22 (.iaddr 7 (.tmp 20) (.tmp 21))), (0, 6)), ((oP 23 (.load true 7 (.tmp 22))), (0, 7)), ((oP 24 (.eqs true true [.i, .i, .b, .s, .i, .i, .s] (.tmp 19) (.tmp 23))), (0, 8))]))
 (.cond (.tmp 24) (sr [(oP 4 (.mov kF))]
 .ret) .skip))))
 (.region [(oP 25 (.bin .add (.tmp 13) (kI 1))), (mV 13 25)]))))
def a18 : AFunc := ⟨2, [(.tmp 4)], (sr [(oP 4 (.mov kF))]
 (.seq (sr [(mV 6 0), (oP 7 (.len (.tmp 6))), (mV 8 1), (oP 9 (.len (.tmp 8))), (oP 10 (.bin .neq (.tmp 7) (.tmp 9)))]
 (.cond (.tmp 10) (sr [(oP 4 (.mov kF))]
 .ret) .skip))
 (.seq (sr [(mV 11 0), (oP 12 (.len (.tmp 11))), (oP 13 (.mov (kI 0)))]
 (.block 0 (.loop a18_c0)))
 (sr [(oP 4 (.mov kT))]
 .ret))))⟩
theorem c18 : compFunc Try.prog 18 = some a18 := by kernel_rfl
def Z47 (r : Bool) : AV → Heap → Nat → Prop := fun v h' n' => v = (B r) ∧ (h' = e0) ∧ n' = 0
abbrev Z70 (F_ : Unit → Option Bool) (o : Bool) (R_ : St → Prop) : Prop := ∀ (_ : Unit), F_ () = some o → ∀ s, Weak 0 s ⟨e0, e0, 0⟩ → R_ s
abbrev Z48 (s1 : (List TJJob)) (s2 : (List TJJob)) (F_ : Nat → Int → Option Bool) (o : Bool) : Nat → St → Prop := fun k s => ∃ (v13 : Int), F_ k v13 = some o ∧ s = ⟨(ue [(13, (I v13)), (12, (I (s1.length : Int))), (1, (.c (.ro false 7 (s2.map e_TJJob)))), (0, (.c (.ro false 7 (s1.map e_TJJob))))]), e0, 0⟩
abbrev Z71 (s1 : (List TJJob)) (s2 : (List TJJob)) (F_ : Int → Option Bool) (o : Bool) (R_ : St → Prop) : Prop := ∀ (v13 : Int), F_ v13 = some o → ∀ s, Weak 0 s ⟨(ue [(13, (I v13)), (12, (I (s1.length : Int))), (1, (.c (.ro false 7 (s2.map e_TJJob)))), (0, (.c (.ro false 7 (s1.map e_TJJob))))]), e0, 0⟩ → R_ s
noncomputable def Zv (s1 : (List TJJob)) (s2 : (List TJJob)) (K0_ : Unit → Option Bool) : Nat → Int → Option Bool
 | 0, _ => none
 | k + 1, v13 =>
  if decide (v13 < (s1.length : Int)) then
   (at? s1 v13).bind fun x_ =>
   (at? s2 v13).bind fun x_1 =>
   letIn (!(decide (x_.ID = x_1.ID) && (decide (x_.Source = x_1.Source) && ((x_.Small == x_1.Small) && (decide (x_.Call = x_1.Call) && (decide (x_.Arg.Kind = x_1.Arg.Kind) && (decide (x_.Arg.N = x_1.Arg.N) && (decide (x_.Arg.S = x_1.Arg.S) && true)))))))) fun v24 : Bool =>
   if v24 then
    some false
   else
    (Zv s1 s2 K0_ k) (wi (v13 + 1))
  else
   K0_ ()
theorem Z72 {Γ : Glob} {Q : AExit → St → Prop} {s1 : (List TJJob)} {s2 : (List TJJob)} {K0_ : Unit → Option Bool} {k : Nat} {v13 : Int} {o : Bool} (h : Zv s1 s2 K0_ k v13 = some o)
  (hK0 : Z70 K0_ o (Q (.exit 0)))
  (hr : ∀ s, Ends a18.results 0 (Z47 o) .ret s → Q .ret s) :
  Sv Try.prog Γ 0 (.loop a18_c0) Q ⟨(ue [(13, (I v13)), (12, (I (s1.length : Int))), (1, (.c (.ro false 7 (s2.map e_TJJob)))), (0, (.c (.ro false 7 (s1.map e_TJJob))))]), e0, 0⟩ := by
 refine Sv.loop (I := Z48 s1 s2 (Zv s1 s2 K0_) o) (fun k s hI => ?_) ⟨v13, h, rfl⟩
 clear h
 clear v13
 obtain ⟨v13, h, rfl⟩ := hI
 cases k with
 | zero => cases h
 | succ k =>
 rw [Zv] at h
 have hself : Z71 s1 s2 (Zv s1 s2 K0_ k) o (rnd 0 (Z48 s1 s2 (Zv s1 s2 K0_) o) k Q) := fun v13 h s hw => ⟨_, k, hw, Nat.lt_succ_self k, v13, h, rfl⟩
 refine ssr <| un1 (v := (B (decide (v13 < (s1.length : Int))))) rfl <| dnil <| Sv.seq ?_
 refine Sv.cnd rfl h (fun h => ?_) fun h => ?_
 ·refine Sv.skip <| Sv.seq <| Sv.block <| ssr <| un1 rfl <| un1 rfl <| dnil <| Sv.seq <| Sv.drawn <| un1 rfl <| un1 rfl ?_
  obtain ⟨x_, hx1, h⟩ := bnd h
  refine un1 (v := (.c (.rop (e_TJJob x_)))) (s_iaddr (e := e_TJJob) (xs := s1) rfl rfl hx1) <| un1 (v := (.agg (e_TJJob x_))) rfl <| un1 rfl <| un1 rfl ?_
  obtain ⟨x_1, hx2, h⟩ := bnd h
  refine un1 (v := (.c (.rop (e_TJJob x_1)))) (s_iaddr (e := e_TJJob) (xs := s2) rfl rfl hx2) <| un1 (v := (.agg (e_TJJob x_1))) rfl ?_
  obtain ⟨v24, hv24⟩ : ∃ v24 : Bool, v24 = (!(decide (x_.ID = x_1.ID) && (decide (x_.Source = x_1.Source) && ((x_.Small == x_1.Small) && (decide (x_.Call = x_1.Call) && (decide (x_.Arg.Kind = x_1.Arg.Kind) && (decide (x_.Arg.N = x_1.Arg.N) && (decide (x_.Arg.S = x_1.Arg.S) && true)))))))) := ⟨_, rfl⟩
  replace h := letAt hv24 h
  refine un1 (v := (B v24)) (by rw [hv24]; rfl) ?_
  clear hv24
  refine dnil ?_
  refine Sv.cnd rfl h (fun h => ?_) fun h => ?_
  ·refine ssr <| un1 rfl <| dnil <| Sv.ret ?_
   exact hr _ (rt0 h rfl rfl ⟨rfl, rfl, rfl⟩)
  ·refine Sv.skip <| srg <| un1 (v := (I (wi (v13 + 1)))) rfl <| un1 rfl <| dnil ?_
   exact hself (wi (v13 + 1)) h _ (wcn [] rfl (.cf rfl rfl (.cf rfl rfl (.cf rfl rfl (.cf rfl rfl .nil)))) .nil)
 ·refine Sv.exit ?_
  exact hK0 () h _ (wcn [] rfl .nil .nil)
/-- slices.Equal(()clerestory/api.JJob,clerestory/api.JJob) -/
noncomputable def Z1p (s1 : (List TJJob)) (s2 : (List TJJob)) : Option Bool :=
 if (!decide ((s1.length : Int) = (s2.length : Int))) then
  some false
 else
  lim fun kk => Zv s1 s2 (fun (_ : Unit) => 
    some true) kk 0
theorem Z49 {Γ : Glob} {s1 : (List TJJob)} {s2 : (List TJJob)} {r : Bool} (h : Z1p s1 s2 = some r) : CPure Try.prog Γ 18 [(.c (.ro false 7 (s1.map e_TJJob))), (.c (.ro false 7 (s2.map e_TJJob)))] (B r) := by
 refine acalls_of_sv hmix c18 (R := Z47 r) ?_
 unfold Z1p at h
 refine ssr <| un1 rfl <| dnil <| Sv.seq <| ssr <| un1 rfl <| un1 (v := (I (s1.length : Int))) (s_len (e := e_TJJob) (xs := s1) rfl) <| un1 rfl <| un1 (v := (I (s2.length : Int))) (s_len (e := e_TJJob) (xs := s2) rfl) <| un1 (v := (B (!decide ((s1.length : Int) = (s2.length : Int))))) rfl <| dnil ?_
 refine Sv.cnd rfl h (fun h => ?_) fun h => ?_
 ·refine ssr <| un1 rfl <| dnil <| Sv.ret ?_
  exact rt0 h rfl rfl ⟨rfl, rfl, rfl⟩
 ·refine Sv.skip <| Sv.seq <| ssr <| un1 rfl <| un1 (v := (I (s1.length : Int))) (s_len (e := e_TJJob) (xs := s1) rfl) <| un1 rfl <| dnil <| Sv.block ?_
  obtain ⟨kk, h⟩ := lim_some h
  refine Sv.weak (wcn [] rfl (.cf rfl rfl (.cf rfl rfl (.cf rfl rfl (.cf rfl rfl .nil)))) .nil) (Z72 h ?_ (fun s hs => hs))
  ·intro _ h _ hw1
   refine Sv.weak hw1 <| ssr <| un1 rfl <| dnil <| Sv.ret ?_
   exact rt0 h rfl rfl ⟨rfl, rfl, rfl⟩
def a43_c0 : ACode := (sr [(oP 14 (.bin .lss (.tmp 13) (.tmp 12)))]
 (.seq (.cond (.tmp 14) .skip (.exit 0))
 (.seq (.block 1 (sr [(mV 15 13), (mV 5 15)]
 (.seq (.drawn (.fin [((mV 16 0), (0, 0)), ((mV 17 5), (0, 1)), ((oP 18 (.iaddr 5 (.tmp 16) (.tmp 17))), (0, 2)), ((oP 19 (.load true 5 (.tmp 18))), (0, 3)), ((mV 20 1), (0, 4)), ((mV 21 5), (0, 5)), ((oP 22 (.iaddr 5 (.tmp 20) (.tmp 21))), (0, 6)), ((oP 23 (.load true 5 (.tmp 22))), (0, 7)), ((oP 24 (.eqs true true [.i, .i, .i, .i, .s] (.tmp 19) (.tmp 23))), (0, 8))]))
 (.cond (.tmp 24) (sr [(oP 4 (.mov kF))]
 .ret) .skip))))
 (.region [(oP 25 (.bin .add (.tmp 13) (kI 1))), (mV 13 25)]))))
def a43 : AFunc := ⟨2, [(.tmp 4)], (sr [(oP 4 (.mov kF))]
 (.seq (sr [(mV 6 0), (oP 7 (.len (.tmp 6))), (mV 8 1), (oP 9 (.len (.tmp 8))), (oP 10 (.bin .neq (.tmp 7) (.tmp 9)))]
 (.cond (.tmp 10) (sr [(oP 4 (.mov kF))]
 .ret) .skip))
 (.seq (sr [(mV 11 0), (oP 12 (.len (.tmp 11))), (oP 13 (.mov (kI 0)))]
 (.block 0 (.loop a43_c0)))
 (sr [(oP 4 (.mov kT))]
 .ret))))⟩
theorem c43 : compFunc Try.prog 43 = some a43 := by kernel_rfl
def Z4a (r : Bool) : AV → Heap → Nat → Prop := fun v h' n' => v = (B r) ∧ (h' = e0) ∧ n' = 0
abbrev Z73 (F_ : Unit → Option Bool) (o : Bool) (R_ : St → Prop) : Prop := ∀ (_ : Unit), F_ () = some o → ∀ s, Weak 0 s ⟨e0, e0, 0⟩ → R_ s
abbrev Z4b (s1 : (List TJTimer)) (s2 : (List TJTimer)) (F_ : Nat → Int → Option Bool) (o : Bool) : Nat → St → Prop := fun k s => ∃ (v13 : Int), F_ k v13 = some o ∧ s = ⟨(ue [(13, (I v13)), (12, (I (s1.length : Int))), (1, (.c (.ro false 5 (s2.map e_TJTimer)))), (0, (.c (.ro false 5 (s1.map e_TJTimer))))]), e0, 0⟩
abbrev Z74 (s1 : (List TJTimer)) (s2 : (List TJTimer)) (F_ : Int → Option Bool) (o : Bool) (R_ : St → Prop) : Prop := ∀ (v13 : Int), F_ v13 = some o → ∀ s, Weak 0 s ⟨(ue [(13, (I v13)), (12, (I (s1.length : Int))), (1, (.c (.ro false 5 (s2.map e_TJTimer)))), (0, (.c (.ro false 5 (s1.map e_TJTimer))))]), e0, 0⟩ → R_ s
noncomputable def Zw (s1 : (List TJTimer)) (s2 : (List TJTimer)) (K0_ : Unit → Option Bool) : Nat → Int → Option Bool
 | 0, _ => none
 | k + 1, v13 =>
  if decide (v13 < (s1.length : Int)) then
   (at? s1 v13).bind fun x_ =>
   (at? s2 v13).bind fun x_1 =>
   letIn (!(decide (x_.ID = x_1.ID) && (decide (x_.At = x_1.At) && (decide (x_.Every = x_1.Every) && (decide (x_.Turn = x_1.Turn) && (decide (x_.Call = x_1.Call) && true)))))) fun v24 : Bool =>
   if v24 then
    some false
   else
    (Zw s1 s2 K0_ k) (wi (v13 + 1))
  else
   K0_ ()
theorem Z75 {Γ : Glob} {Q : AExit → St → Prop} {s1 : (List TJTimer)} {s2 : (List TJTimer)} {K0_ : Unit → Option Bool} {k : Nat} {v13 : Int} {o : Bool} (h : Zw s1 s2 K0_ k v13 = some o)
  (hK0 : Z73 K0_ o (Q (.exit 0)))
  (hr : ∀ s, Ends a43.results 0 (Z4a o) .ret s → Q .ret s) :
  Sv Try.prog Γ 0 (.loop a43_c0) Q ⟨(ue [(13, (I v13)), (12, (I (s1.length : Int))), (1, (.c (.ro false 5 (s2.map e_TJTimer)))), (0, (.c (.ro false 5 (s1.map e_TJTimer))))]), e0, 0⟩ := by
 refine Sv.loop (I := Z4b s1 s2 (Zw s1 s2 K0_) o) (fun k s hI => ?_) ⟨v13, h, rfl⟩
 clear h
 clear v13
 obtain ⟨v13, h, rfl⟩ := hI
 cases k with
 | zero => cases h
 | succ k =>
 rw [Zw] at h
 have hself : Z74 s1 s2 (Zw s1 s2 K0_ k) o (rnd 0 (Z4b s1 s2 (Zw s1 s2 K0_) o) k Q) := fun v13 h s hw => ⟨_, k, hw, Nat.lt_succ_self k, v13, h, rfl⟩
 refine ssr <| un1 (v := (B (decide (v13 < (s1.length : Int))))) rfl <| dnil <| Sv.seq ?_
 refine Sv.cnd rfl h (fun h => ?_) fun h => ?_
 ·refine Sv.skip <| Sv.seq <| Sv.block <| ssr <| un1 rfl <| un1 rfl <| dnil <| Sv.seq <| Sv.drawn <| un1 rfl <| un1 rfl ?_
  obtain ⟨x_, hx1, h⟩ := bnd h
  refine un1 (v := (.c (.rop (e_TJTimer x_)))) (s_iaddr (e := e_TJTimer) (xs := s1) rfl rfl hx1) <| un1 (v := (.agg (e_TJTimer x_))) rfl <| un1 rfl <| un1 rfl ?_
  obtain ⟨x_1, hx2, h⟩ := bnd h
  refine un1 (v := (.c (.rop (e_TJTimer x_1)))) (s_iaddr (e := e_TJTimer) (xs := s2) rfl rfl hx2) <| un1 (v := (.agg (e_TJTimer x_1))) rfl ?_
  obtain ⟨v24, hv24⟩ : ∃ v24 : Bool, v24 = (!(decide (x_.ID = x_1.ID) && (decide (x_.At = x_1.At) && (decide (x_.Every = x_1.Every) && (decide (x_.Turn = x_1.Turn) && (decide (x_.Call = x_1.Call) && true)))))) := ⟨_, rfl⟩
  replace h := letAt hv24 h
  refine un1 (v := (B v24)) (by rw [hv24]; rfl) ?_
  clear hv24
  refine dnil ?_
  refine Sv.cnd rfl h (fun h => ?_) fun h => ?_
  ·refine ssr <| un1 rfl <| dnil <| Sv.ret ?_
   exact hr _ (rt0 h rfl rfl ⟨rfl, rfl, rfl⟩)
  ·refine Sv.skip <| srg <| un1 (v := (I (wi (v13 + 1)))) rfl <| un1 rfl <| dnil ?_
   exact hself (wi (v13 + 1)) h _ (wcn [] rfl (.cf rfl rfl (.cf rfl rfl (.cf rfl rfl (.cf rfl rfl .nil)))) .nil)
 ·refine Sv.exit ?_
  exact hK0 () h _ (wcn [] rfl .nil .nil)
/-- slices.Equal(()clerestory/api.JTimer,clerestory/api.JTimer) -/
noncomputable def Z23 (s1 : (List TJTimer)) (s2 : (List TJTimer)) : Option Bool :=
 if (!decide ((s1.length : Int) = (s2.length : Int))) then
  some false
 else
  lim fun kk => Zw s1 s2 (fun (_ : Unit) => 
    some true) kk 0
theorem Z76 {Γ : Glob} {s1 : (List TJTimer)} {s2 : (List TJTimer)} {r : Bool} (h : Z23 s1 s2 = some r) : CPure Try.prog Γ 43 [(.c (.ro false 5 (s1.map e_TJTimer))), (.c (.ro false 5 (s2.map e_TJTimer)))] (B r) := by
 refine acalls_of_sv hmix c43 (R := Z4a r) ?_
 unfold Z23 at h
 refine ssr <| un1 rfl <| dnil <| Sv.seq <| ssr <| un1 rfl <| un1 (v := (I (s1.length : Int))) (s_len (e := e_TJTimer) (xs := s1) rfl) <| un1 rfl <| un1 (v := (I (s2.length : Int))) (s_len (e := e_TJTimer) (xs := s2) rfl) <| un1 (v := (B (!decide ((s1.length : Int) = (s2.length : Int))))) rfl <| dnil ?_
 refine Sv.cnd rfl h (fun h => ?_) fun h => ?_
 ·refine ssr <| un1 rfl <| dnil <| Sv.ret ?_
  exact rt0 h rfl rfl ⟨rfl, rfl, rfl⟩
 ·refine Sv.skip <| Sv.seq <| ssr <| un1 rfl <| un1 (v := (I (s1.length : Int))) (s_len (e := e_TJTimer) (xs := s1) rfl) <| un1 rfl <| dnil <| Sv.block ?_
  obtain ⟨kk, h⟩ := lim_some h
  refine Sv.weak (wcn [] rfl (.cf rfl rfl (.cf rfl rfl (.cf rfl rfl (.cf rfl rfl .nil)))) .nil) (Z75 h ?_ (fun s hs => hs))
  ·intro _ h _ hw1
   refine Sv.weak hw1 <| ssr <| un1 rfl <| dnil <| Sv.ret ?_
   exact rt0 h rfl rfl ⟨rfl, rfl, rfl⟩
def a10_c0 : ACode := .ret
def a10 : AFunc := ⟨2, [(.tmp 4)], (sr [(oP 2 (.box (.tmp 0))), (oP 3 (.box (.tmp 1))), (oP 4 (.mov kF))]
 (sr [(oP 5 (.faddr 0 (.tmp 2))), (oP 6 (.load false 1 (.tmp 5))), (oP 7 (.faddr 0 (.tmp 3))), (oP 8 (.load false 1 (.tmp 7))), (oP 9 (.bin .eql (.tmp 6) (.tmp 8))), (mV 10 9), ⟨(some 11), (.faddr 1 (.tmp 2)), (some (10, true))⟩, ⟨(some 12), (.load false 1 (.tmp 11)), (some (10, true))⟩, ⟨(some 13), (.faddr 1 (.tmp 3)), (some (10, true))⟩, ⟨(some 14), (.load false 1 (.tmp 13)), (some (10, true))⟩, ⟨(some 15), (.bin .eql (.tmp 12) (.tmp 14)), (some (10, true))⟩, (oP 16 (.pick (.tmp 10) (.tmp 15) kF)), (mV 17 16), ⟨(some 18), (.faddr 2 (.tmp 2)), (some (17, true))⟩, ⟨(some 19), (.load false 1 (.tmp 18)), (some (17, true))⟩, ⟨(some 20), (.faddr 2 (.tmp 3)), (some (17, true))⟩, ⟨(some 21), (.load false 1 (.tmp 20)), (some (17, true))⟩, ⟨(some 22), (.call 18 [(.tmp 19), (.tmp 21)]), (some (17, true))⟩, (oP 23 (.pick (.tmp 17) (.tmp 22) kF)), (mV 24 23), ⟨(some 25), (.faddr 3 (.tmp 2)), (some (24, true))⟩, ⟨(some 26), (.load false 1 (.tmp 25)), (some (24, true))⟩, ⟨(some 27), (.faddr 3 (.tmp 3)), (some (24, true))⟩, ⟨(some 28), (.load false 1 (.tmp 27)), (some (24, true))⟩, ⟨(some 29), (.call 18 [(.tmp 26), (.tmp 28)]), (some (24, true))⟩, (oP 30 (.pick (.tmp 24) (.tmp 29) kF)), (mV 31 30), ⟨(some 32), (.faddr 4 (.tmp 2)), (some (31, true))⟩, ⟨(some 33), (.load false 1 (.tmp 32)), (some (31, true))⟩, ⟨(some 34), (.faddr 4 (.tmp 3)), (some (31, true))⟩, ⟨(some 35), (.load false 1 (.tmp 34)), (some (31, true))⟩, ⟨(some 36), (.call 43 [(.tmp 33), (.tmp 35)]), (some (31, true))⟩, (oP 37 (.pick (.tmp 31) (.tmp 36) kF)), (mV 4 37)]
 a10_c0))⟩
theorem c10 : compFunc Try.prog 10 = some a10 := by kernel_rfl
def Z4c (r : Bool) : AV → Heap → Nat → Prop := fun v h' n' => v = (B r) ∧ (h' = e0) ∧ n' = 0
noncomputable def Z1a (v4 : Bool) : Option Bool :=
 some v4
theorem Z2j {Γ : Glob} {v4 : Bool} {o : Bool} (h : Z1a v4 = some o) :
  Sv Try.prog Γ 0 a10_c0 (Ends a10.results 0 (Z4c o)) ⟨(upd e0 4 (some (B v4))), e0, 0⟩ := by
 unfold Z1a at h
 refine Sv.ret ?_
 exact rt0 h rfl rfl ⟨rfl, rfl, rfl⟩
/-- clerestory/clerestoryref4.SameLoop -/
noncomputable def Zd (a_ : TJLoop) (b_ : TJLoop) : Option Bool :=
 if ((decide (a_.Now = b_.Now)) && (decide (a_.Next = b_.Next))) then
  (Z1p a_.Tasks b_.Tasks).bind fun r_ =>
  if r_ then
   (Z1p a_.Smalls b_.Smalls).bind fun r_1 =>
   if r_1 then
    (Z23 a_.Timers b_.Timers).bind fun r_2 =>
    Z1a r_2
   else
    Z1a false
  else
   Z1a false
 else
  Z1a false
theorem Z24 {Γ : Glob} {a_ : TJLoop} {b_ : TJLoop} {r : Bool} (h : Zd a_ b_ = some r) : CPure Try.prog Γ 10 [(.agg (e_TJLoop a_)), (.agg (e_TJLoop b_))] (B r) := by
 refine acalls_of_sv hmix c10 (R := Z4c r) ?_
 unfold Zd at h
 refine ssr <| un <| a2v (v := (.c (.ref 0 5 0 0))) (h' := upd _ 0 (some (.cells 5 [(e_TJLoop a_)]))) (n' := 1) rfl rfl hcs <| un <| a2v (v := (.c (.ref 1 5 0 0))) (h' := upd _ 1 (some (.cells 5 [(e_TJLoop b_)]))) (n' := 2) rfl rfl hcs <| un1 rfl <| dnil <| ssr <| un1 (v := (.c (.ref 0 5 0 0))) rfl <| un1 (v := (I a_.Now)) rfl <| un1 (v := (.c (.ref 1 5 0 0))) rfl <| un1 (v := (I b_.Now)) rfl <| un1 (v := (B (decide (a_.Now = b_.Now)))) rfl <| un1 rfl ?_
 refine gjoin 6 (d := 16) (v := (B ((decide (a_.Now = b_.Now)) && (decide (a_.Next = b_.Next))))) (fun X hX => ?_) ?_
 ·refine split2 (fun hc1 => ?_) (fun hc1 => ?_)
  ·refine gt rfl <| a1 (v := (.c (.ref 0 5 0 1))) rfl <| gt rfl <| a1 (v := (I a_.Next)) rfl <| gt rfl <| a1 (v := (.c (.ref 1 5 0 1))) rfl <| gt rfl <| a1 (v := (I b_.Next)) rfl <| gt rfl <| a1 (v := (B (decide (a_.Next = b_.Next)))) rfl <| un1 (v := (B (decide (a_.Next = b_.Next)))) rfl <| dnil ?_
   exact hX _ (.putEq (by rw [hc1]; rfl) (by repeat (first | exact .putEq (by rw [hc1]) (.refl _) | refine .skp ?_ rfl)))
  ·repeat (first | refine gu rfl ?_ | refine gs rfl rfl ?_)
   refine un1 (v := (B false)) rfl <| dnil ?_
   exact hX _ (.putEq (by rw [hc1]; rfl) (by repeat (first | exact .putEq (by rw [hc1]) (.refl _) | refine .skp ?_ rfl)))
 refine un1 rfl ?_
 refine spl h (fun h => ?_) fun h => ?_
 ·refine gt rfl <| a1 (v := (.c (.ref 0 5 0 2))) rfl <| gt rfl <| a1 (v := (.c (.ro false 7 (a_.Tasks.map e_TJJob)))) rfl <| gt rfl <| a1 (v := (.c (.ref 1 5 0 2))) rfl <| gt rfl <| a1 (v := (.c (.ro false 7 (b_.Tasks.map e_TJJob)))) rfl ?_
  obtain ⟨r_, hr1, h⟩ := bnd h
  refine gt rfl <| ac_pure (Z49 hr1) rfl rfl rfl <| un1 (v := (B r_)) rfl <| un1 rfl ?_
  refine spl h (fun h => ?_) fun h => ?_
  ·refine gt rfl <| a1 (v := (.c (.ref 0 5 0 3))) rfl <| gt rfl <| a1 (v := (.c (.ro false 7 (a_.Smalls.map e_TJJob)))) rfl <| gt rfl <| a1 (v := (.c (.ref 1 5 0 3))) rfl <| gt rfl <| a1 (v := (.c (.ro false 7 (b_.Smalls.map e_TJJob)))) rfl ?_
   obtain ⟨r_1, hr2, h⟩ := bnd h
   refine gt rfl <| ac_pure (Z49 hr2) rfl rfl rfl <| un1 (v := (B r_1)) rfl <| un1 rfl ?_
   refine spl h (fun h => ?_) fun h => ?_
   ·refine gt rfl <| a1 (v := (.c (.ref 0 5 0 4))) rfl <| gt rfl <| a1 (v := (.c (.ro false 5 (a_.Timers.map e_TJTimer)))) rfl <| gt rfl <| a1 (v := (.c (.ref 1 5 0 4))) rfl <| gt rfl <| a1 (v := (.c (.ro false 5 (b_.Timers.map e_TJTimer)))) rfl ?_
    obtain ⟨r_2, hr3, h⟩ := bnd h
    refine gt rfl <| ac_pure (Z76 hr3) rfl rfl rfl <| un1 (v := (B r_2)) rfl <| un1 rfl <| dnil ?_
    exact Sv.weak (wcn [] rfl (.cf rfl rfl .nil) .nil) (Z2j h)
   ·repeat (first | refine gu rfl ?_ | refine gs rfl rfl ?_)
    refine un1 (v := (B false)) rfl <| un1 rfl <| dnil ?_
    exact Sv.weak (wcn [] rfl (.cf rfl rfl .nil) .nil) (Z2j h)
  ·repeat (first | refine gu rfl ?_ | refine gs rfl rfl ?_)
   refine un1 (v := (B false)) rfl <| un1 rfl ?_
   repeat (first | refine gu rfl ?_ | refine gs rfl rfl ?_)
   refine un1 (v := (B false)) rfl <| un1 rfl <| dnil ?_
   exact Sv.weak (wcn [] rfl (.cf rfl rfl .nil) .nil) (Z2j h)
 ·repeat (first | refine gu rfl ?_ | refine gs rfl rfl ?_)
  refine un1 (v := (B false)) rfl <| un1 rfl ?_
  repeat (first | refine gu rfl ?_ | refine gs rfl rfl ?_)
  refine un1 (v := (B false)) rfl <| un1 rfl ?_
  repeat (first | refine gu rfl ?_ | refine gs rfl rfl ?_)
  refine un1 (v := (B false)) rfl <| un1 rfl <| dnil ?_
  exact Sv.weak (wcn [] rfl (.cf rfl rfl .nil) .nil) (Z2j h)
def a44 : AFunc := ⟨1, [(.cell true 5 2), (.tmp 3), (.tmp 4)], (sr [(oP 2 (.box (.const (.agg [(.val (.int .i64 0)), (.val (.int .i64 0)), (.ro true 7 []), (.ro true 7 []), (.ro true 5 [])])))), (oP 3 (.mov (kI 0))), (oP 4 (.mov (kI 0)))]
 (sr [(oP 5 (.build [(.val (.int .i64 0)), (.val (.int .i64 0)), (.ro true 7 []), (.ro true 7 []), (.ro true 5 [])] [])), (mV 6 0), (oN (.store 5 (.tmp 2) (.tmp 5))), (oP 3 (.mov (kI 0))), (mV 4 6)]
 .ret))⟩
theorem c44 : compFunc Try.prog 44 = some a44 := by kernel_rfl
def Z77 (r : (TJLoop × Int × Int)) : AV → Heap → Nat → Prop := fun v h' n' => v = (.tup [(.agg (e_TJLoop r.1)), (I r.2.1), (I r.2.2)]) ∧ (h' = e0) ∧ n' = 0
/-- clerestory/clerestoryref4.LoopAsked$1 -/
def Z0 (e_ : Int) : (TJLoop × Int × Int) :=
 ((⟨0, 0, [], [], []⟩ : TJLoop), 0, e_)
theorem Z1b {Γ : Glob} (e_ : Int) : CPure Try.prog Γ 44 [(I e_)] (.tup [(.agg [cI (((Z0 e_).1).Now), cI (((Z0 e_).1).Next), .ro false 7 ((((Z0 e_).1).Tasks).map e_TJJob), .ro false 7 ((((Z0 e_).1).Smalls).map e_TJJob), .ro false 5 ((((Z0 e_).1).Timers).map e_TJTimer)]), (I ((Z0 e_).2.1)), (I ((Z0 e_).2.2))]) := by
 generalize h : Z0 e_ = o
 refine acalls_of_sv hmix c44 (R := Z77 o) ?_
 unfold Z0 at h
 refine ssr <| un <| a2v (v := (.c (.ref 0 5 0 0))) (h' := upd _ 0 (some (.cells 5 [[cI 0, cI 0, .ro true 7 [], .ro true 7 [], .ro true 5 []]]))) (n' := 1) rfl rfl hcs <| un1 rfl <| un1 rfl <| dnil <| ssr <| un1 (v := (.agg [cI 0, cI 0, .ro true 7 [], .ro true 7 [], .ro true 5 []])) rfl <| un1 rfl <| un <| a2n (h' := upd _ 0 (some (.cells 5 [[cI 0, cI 0, .ro true 7 [], .ro true 7 [], .ro true 5 []]]))) (n' := 1) rfl rfl hcs <| un1 rfl <| un1 rfl <| dnil <| Sv.ret ?_
 subst h
 exact ⟨_, .refl _, _, rfl, ⟨upd e0 0 (some (.tup [(.agg [cI 0, cI 0, .ro false 7 (([] : List TJJob).map e_TJJob), .ro false 7 (([] : List TJJob).map e_TJJob), .ro false 5 (([] : List TJTimer).map e_TJTimer)]), (I 0), (I e_)])), e0, 0⟩, (.tup [(.agg [cI 0, cI 0, .ro false 7 (([] : List TJJob).map e_TJJob), .ro false 7 (([] : List TJJob).map e_TJJob), .ro false 5 (([] : List TJTimer).map e_TJTimer)]), (I 0), (I e_)]), weak_canon [] rfl ndl nll nlz (.cons rfl (avAs_tup (.cons (avAs_agg (.sm rfl (.sm rfl (.cons .nil (.cons .nil (.cons .nil .nil)))))) (.cons (avAs_free rfl) (.cons (avAs_free rfl) .nil)))) .nil) .nil, rfl, rfl, rfl, rfl⟩
def a45 : AFunc := ⟨2, [(.tmp 3)], (sr [(oP 3 (.mov kF))]
 (sr [(mV 4 0), (oP 5 (.bin .lss (.tmp 4) (kI 100))), (mV 6 5), ⟨(some 7), (.faddr 1 (.tmp 1)), (some (6, true))⟩, ⟨(some 8), (.load false 1 (.tmp 7)), (some (6, true))⟩, ⟨(some 9), (.bin .lss (.tmp 8) (kI 1000000000)), (some (6, true))⟩, (oP 10 (.pick (.tmp 6) (.tmp 9) kF)), (mV 3 10)]
 .ret))⟩
theorem c45 : compFunc Try.prog 45 = some a45 := by kernel_rfl
def Z78 (r : Bool) : AV → Heap → Nat → Prop := fun v h' n' => v = (B r) ∧ (h' = e0) ∧ n' = 0
/-- clerestory/clerestoryref4.LoopAsked$2 -/
def Z4 (n_ : Int) (v10 : Int) (v11 : Int) (v12 : (List TJJob)) (v13 : (List TJJob)) (v14 : (List TJTimer)) : Bool :=
 ((decide (n_ < 100)) && (decide (v11 < 1000000000)))
theorem Z2x {Γ : Glob} (n_ : Int) (v10 : Int) (v11 : Int) (v12 : (List TJJob)) (v13 : (List TJJob)) (v14 : (List TJTimer)) : CPure Try.prog Γ 45 [(I n_), (.c (.rop [cI v10, cI v11, .ro false 7 (v12.map e_TJJob), .ro false 7 (v13.map e_TJJob), .ro false 5 (v14.map e_TJTimer)]))] (B (Z4 n_ v10 v11 v12 v13 v14)) := by
 generalize h : Z4 n_ v10 v11 v12 v13 v14 = o
 refine acalls_of_sv hmix c45 (R := Z78 o) ?_
 unfold Z4 at h
 refine ssr <| un1 rfl <| dnil <| ssr <| un1 rfl <| un1 (v := (B (decide (n_ < 100)))) rfl <| un1 rfl ?_
 refine gjoin 4 (d := 10) (v := (B ((decide (n_ < 100)) && (decide (v11 < 1000000000))))) (fun X hX => ?_) ?_
 ·refine split2 (fun hc1 => ?_) (fun hc1 => ?_)
  ·refine gt rfl <| a1 (v := (.c (.rop [cI v11, .ro false 7 (v12.map e_TJJob), .ro false 7 (v13.map e_TJJob), .ro false 5 (v14.map e_TJTimer)]))) rfl <| gt rfl <| a1 (v := (I v11)) rfl <| gt rfl <| a1 (v := (B (decide (v11 < 1000000000)))) rfl <| un1 (v := (B (decide (v11 < 1000000000)))) rfl <| dnil ?_
   exact hX _ (.putEq (by rw [hc1]; rfl) (.skp (.skp (.skp (.putEq (by rw [hc1]) (.refl _)) rfl) rfl) rfl))
  ·refine gs rfl rfl <| gs rfl rfl <| gs rfl rfl <| un1 (v := (B false)) rfl <| dnil ?_
   exact hX _ (.putEq (by rw [hc1]; rfl) (.skp (.skp (.skp (.putEq (by rw [hc1]) (.refl _)) rfl) rfl) rfl))
 refine un1 rfl <| dnil <| Sv.ret ?_
 subst h
 exact ⟨_, .refl _, _, rfl, ⟨upd e0 0 (some (B ((decide (n_ < 100)) && (decide (v11 < 1000000000))))), e0, 0⟩, (B ((decide (n_ < 100)) && (decide (v11 < 1000000000)))), weak_canon [] rfl ndl nll nlz (.cf rfl rfl .nil) .nil, rfl, rfl, rfl, rfl⟩
def a47_c0 : ACode := (.region [(mV 42 5), (oP 43 (.load true 5 (.tmp 8))), (oP 44 (.bslice 5 [(.val (.int .i64 0)), (.val (.int .i64 0)), (.val (.int .i64 0)), (.val (.int .i64 0)), (.str [])] 1 [(0, (.tmp 43))])), (oP 45 (.app 5 48 (.tmp 42) (.tmp 44))), (mV 5 45)])
def a47_c1 : ACode := (.region [(oP 46 (.bin .add (.tmp 11) (kI 1))), (mV 11 46)])
def a47_c2 : ACode := (sr [(oP 12 (.bin .lss (.tmp 11) (.tmp 10)))]
 (.seq (.cond (.tmp 12) .skip (.exit 0))
 (.seq (.block 1 (sr [(oP 13 (.iaddr 5 (.tmp 9) (.tmp 11))), (oP 14 (.load true 5 (.tmp 13))), (oP 8 (.box (.const (.agg [(.val (.int .i64 0)), (.val (.int .i64 0)), (.val (.int .i64 0)), (.val (.int .i64 0)), (.str [])])))), (oN (.store 5 (.tmp 8) (.tmp 14)))]
 (.seq (sr [(mV 15 6), (oP 16 (.un .not (.tmp 15))), (mV 17 16), ⟨(some 18), (.faddr 1 (.tmp 8)), (some (17, true))⟩, ⟨(some 19), (.load false 1 (.tmp 18)), (some (17, true))⟩, ⟨(some 20), (.faddr 1 (.tmp 3)), (some (17, true))⟩, ⟨(some 21), (.load false 1 (.tmp 20)), (some (17, true))⟩, ⟨(some 22), (.bin .gtr (.tmp 19) (.tmp 21)), (some (17, true))⟩, ⟨(some 23), (.mov (.tmp 22)), (some (17, true))⟩, ⟨(some 24), (.faddr 1 (.tmp 8)), (some (23, false))⟩, ⟨(some 25), (.load false 1 (.tmp 24)), (some (23, false))⟩, ⟨(some 26), (.faddr 1 (.tmp 3)), (some (23, false))⟩, ⟨(some 27), (.load false 1 (.tmp 26)), (some (23, false))⟩, ⟨(some 28), (.bin .eql (.tmp 25) (.tmp 27)), (some (23, false))⟩, ⟨(some 29), (.mov (.tmp 28)), (some (23, false))⟩, ⟨(some 30), (.faddr 0 (.tmp 8)), (some (29, true))⟩, ⟨(some 31), (.load false 1 (.tmp 30)), (some (29, true))⟩, ⟨(some 32), (.faddr 0 (.tmp 3)), (some (29, true))⟩, ⟨(some 33), (.load false 1 (.tmp 32)), (some (29, true))⟩, ⟨(some 34), (.bin .gtr (.tmp 31) (.tmp 33)), (some (29, true))⟩, ⟨(some 35), (.pick (.tmp 29) (.tmp 34) kF), (some (23, false))⟩, ⟨(some 36), (.pick (.tmp 23) kT (.tmp 35)), (some (17, true))⟩, (oP 37 (.pick (.tmp 17) (.tmp 36) kF))]
 (.cond (.tmp 37) (.region [(mV 38 5), (oP 39 (.load true 5 (.tmp 3))), (oP 40 (.bslice 5 [(.val (.int .i64 0)), (.val (.int .i64 0)), (.val (.int .i64 0)), (.val (.int .i64 0)), (.str [])] 1 [(0, (.tmp 39))])), (oP 41 (.app 5 48 (.tmp 38) (.tmp 40))), (mV 5 41), (oP 6 (.mov kT))]) .skip))
 a47_c0)))
 a47_c1)))
def a47_c3 : ACode := (sr [(mV 53 5), (mV 4 53)]
 .ret)
def a47 : AFunc := ⟨2, [(.tmp 4)], (sr [(oP 3 (.box (.tmp 1))), (oP 4 (.mov (.const (.c (.ro true 5 [])))))]
 (sr [(oP 5 (.mov (.const (.c (.ro true 5 [])))))]
 (sr [(oP 6 (.mov kF))]
 (.seq (sr [(mV 9 0), (oP 10 (.len (.tmp 9))), (oP 11 (.mov (kI 0)))]
 (.block 0 (.loop a47_c2)))
 (.seq (sr [(mV 47 6), (oP 48 (.un .not (.tmp 47)))]
 (.cond (.tmp 48) (.region [(mV 49 5), (oP 50 (.load true 5 (.tmp 3))), (oP 51 (.bslice 5 [(.val (.int .i64 0)), (.val (.int .i64 0)), (.val (.int .i64 0)), (.val (.int .i64 0)), (.str [])] 1 [(0, (.tmp 50))])), (oP 52 (.app 5 48 (.tmp 49) (.tmp 51))), (mV 5 52)]) .skip))
 a47_c3)))))⟩
theorem c47 : compFunc Try.prog 47 = some a47 := by kernel_rfl
def Z25 (r : (List TJTimer)) : AV → Heap → Nat → Prop := fun v h' n' => ∃ z0 : Bool, (z0 = true → r = []) ∧ v = (lstV z0 0 5 r.length) ∧ (h' = (upd e0 0 (lstB z0 5 (r.map e_TJTimer)))) ∧ n' = 1
abbrev Z4d (l_ : (List TJTimer)) (t_ : TJTimer) (F_ : (List TJTimer) → Bool → Int → Option (List TJTimer)) (o : (List TJTimer)) (R_ : St → Prop) : Prop := ∀ (out : (List TJTimer)) (done : Bool) (v11 : Int) (zout : Bool) (_ : zout = true → out = []), F_ out done v11 = some o → ∀ s, Weak 0 s ⟨(ue [(11, (I v11)), (10, (I (l_.length : Int))), (9, (.c (.ro false 5 (l_.map e_TJTimer)))), (6, (B done)), (5, (lstV zout 1 5 out.length)), (3, (.c (.ref 0 5 0 0)))]), (upd (upd e0 0 (some (.cells 5 [(e_TJTimer t_)]))) 1 (lstB zout 5 (out.map e_TJTimer))), 2⟩ → R_ s
abbrev Z4e (t_ : TJTimer) (F_ : (List TJTimer) → Bool → Option (List TJTimer)) (o : (List TJTimer)) (R_ : St → Prop) : Prop := ∀ (out1 : (List TJTimer)) (done1 : Bool) (zout1 : Bool) (_ : zout1 = true → out1 = []), F_ out1 done1 = some o → ∀ s, Weak 0 s ⟨(ue [(6, (B done1)), (5, (lstV zout1 1 5 out1.length)), (3, (.c (.ref 0 5 0 0)))]), (upd (upd e0 0 (some (.cells 5 [(e_TJTimer t_)]))) 1 (lstB zout1 5 (out1.map e_TJTimer))), 2⟩ → R_ s
abbrev Z79 (Γ : Glob) (Q : AExit → St → Prop) : AExit → St → Prop := AThen (Sv Try.prog Γ 0 a47_c1 Q) Q
abbrev Z7a (Γ : Glob) (Q : AExit → St → Prop) : AExit → St → Prop := ABlock 1 (Z79 Γ Q)
noncomputable def Z1c (x_ : TJTimer) (v11 : Int) (l_ : (List TJTimer)) (t_ : TJTimer) (self : (List TJTimer) → Bool → Int → Option (List TJTimer)) (K0_ : (List TJTimer) → Bool → Option (List TJTimer)) (out2 : (List TJTimer)) (done2 : Bool) : Option (List TJTimer) :=
 (app? 48 out2 [x_]).bind fun r_ =>
 self r_ done2 (wi (v11 + 1))
theorem Z4f {Γ : Glob} {Q : AExit → St → Prop} {x_ : TJTimer} {v11 : Int} {l_ : (List TJTimer)} {t_ : TJTimer} {self : (List TJTimer) → Bool → Int → Option (List TJTimer)} {K0_ : (List TJTimer) → Bool → Option (List TJTimer)} {out2 : (List TJTimer)} {done2 : Bool} {zout2 : Bool} (hzout2 : zout2 = true → out2 = []) {o : (List TJTimer)} (h : Z1c x_ v11 l_ t_ self K0_ out2 done2 = some o)
  (hself : Z4d l_ t_ self o (Q .normal))
  (hK0 : Z4e t_ K0_ o (Q (.exit 0)))
  (hr : ∀ s, Ends a47.results 0 (Z25 o) .ret s → Q .ret s) :
  Sv Try.prog Γ 0 a47_c0 (Z7a Γ Q) ⟨(ue [(11, (I v11)), (10, (I (l_.length : Int))), (9, (.c (.ro false 5 (l_.map e_TJTimer)))), (8, (.c (.ref 2 5 0 0))), (6, (B done2)), (5, (lstV zout2 1 5 out2.length)), (3, (.c (.ref 0 5 0 0)))]), (upd (upd (upd e0 0 (some (.cells 5 [(e_TJTimer t_)]))) 1 (lstB zout2 5 (out2.map e_TJTimer))) 2 (some (.cells 5 [(e_TJTimer x_)]))), 3⟩ := by
 unfold Z1c at h
 refine srg <| un1 rfl <| un1 (v := (.agg (e_TJTimer x_))) rfl <| un <| a2v (v := (lstV false 3 5 [x_].length)) (h' := upd _ 3 (lstB false 5 ([x_].map e_TJTimer))) (n' := 4) rfl rfl hcs ?_
 obtain ⟨r_, hr1, h⟩ := bnd h
 have hz1 : (zout2 && [x_].isEmpty) = true → r_ = [] := app_nil (z := zout2) (ys := [x_]) hzout2 hr1
 refine un <| a2v rfl (s_app (xs := out2) (ys := [x_]) (e := e_TJTimer) (z := zout2) (b := 1) rfl rfl hzout2 rfl rfl (slc_lst rfl (List.length_map _).symm (map_nil_of hcs)) hr1) hcs <| un1 rfl <| dnil <| srg <| un1 (v := (I (wi (v11 + 1)))) rfl <| un1 rfl <| dnil ?_
 exact hself r_ done2 (wi (v11 + 1)) (zout2 && [x_].isEmpty) hz1 h _ (wcn [0, 4] rfl (.cf rfl rfl (.cf rfl rfl (.cf rfl rfl (.cf rfl rfl (.cons rfl (.c (lsr rfl rfl)) (.cr rfl rfl rfl .nil)))))) (.row (by decide) rfl (fr_map fun _ => rfl) (.box (by decide) rfl (blkAs_cells (.sm rfl (.sm rfl (.sm rfl (.sm rfl (.sm rfl .nil)))))) .nil)))
abbrev Z4g (l_ : (List TJTimer)) (t_ : TJTimer) (F_ : Nat → (List TJTimer) → Bool → Int → Option (List TJTimer)) (o : (List TJTimer)) : Nat → St → Prop := fun k s => ∃ (out : (List TJTimer)), ∃ (done : Bool), ∃ (v11 : Int), ∃ (zout : Bool), (zout = true → out = []) ∧ F_ k out done v11 = some o ∧ s = ⟨(ue [(11, (I v11)), (10, (I (l_.length : Int))), (9, (.c (.ro false 5 (l_.map e_TJTimer)))), (6, (B done)), (5, (lstV zout 1 5 out.length)), (3, (.c (.ref 0 5 0 0)))]), (upd (upd e0 0 (some (.cells 5 [(e_TJTimer t_)]))) 1 (lstB zout 5 (out.map e_TJTimer))), 2⟩
noncomputable def Za (l_ : (List TJTimer)) (t_ : TJTimer) (K0_ : (List TJTimer) → Bool → Option (List TJTimer)) : Nat → (List TJTimer) → Bool → Int → Option (List TJTimer)
 | 0, _, _, _ => none
 | k + 1, out, done, v11 =>
  if decide (v11 < (l_.length : Int)) then
   (at? l_ v11).bind fun x_ =>
   if ((!done) && ((decide (t_.At < x_.At)) || ((decide (x_.At = t_.At)) && (decide (t_.ID < x_.ID))))) then
    (app? 48 out [t_]).bind fun r_1 =>
    Z1c x_ v11 l_ t_ (Za l_ t_ K0_ k) K0_ r_1 true
   else
    Z1c x_ v11 l_ t_ (Za l_ t_ K0_ k) K0_ out done
  else
   K0_ out done
theorem Z7b {Γ : Glob} {Q : AExit → St → Prop} {l_ : (List TJTimer)} {t_ : TJTimer} {K0_ : (List TJTimer) → Bool → Option (List TJTimer)} {k : Nat} {out : (List TJTimer)} {done : Bool} {v11 : Int} {zout : Bool} (hzout : zout = true → out = []) {o : (List TJTimer)} (h : Za l_ t_ K0_ k out done v11 = some o)
  (hK0 : Z4e t_ K0_ o (Q (.exit 0)))
  (hr : ∀ s, Ends a47.results 0 (Z25 o) .ret s → Q .ret s) :
  Sv Try.prog Γ 0 (.loop a47_c2) Q ⟨(ue [(11, (I v11)), (10, (I (l_.length : Int))), (9, (.c (.ro false 5 (l_.map e_TJTimer)))), (6, (B done)), (5, (lstV zout 1 5 out.length)), (3, (.c (.ref 0 5 0 0)))]), (upd (upd e0 0 (some (.cells 5 [(e_TJTimer t_)]))) 1 (lstB zout 5 (out.map e_TJTimer))), 2⟩ := by
 refine Sv.loop (I := Z4g l_ t_ (Za l_ t_ K0_) o) (fun k s hI => ?_) ⟨out, done, v11, zout, hzout, h, rfl⟩
 clear h
 clear hzout zout v11 done out
 obtain ⟨out, done, v11, zout, hzout, h, rfl⟩ := hI
 cases k with
 | zero => cases h
 | succ k =>
 rw [Za] at h
 have hself : Z4d l_ t_ (Za l_ t_ K0_ k) o (rnd 0 (Z4g l_ t_ (Za l_ t_ K0_) o) k Q) := fun out done v11 zout hzout h s hw => ⟨_, k, hw, Nat.lt_succ_self k, out, done, v11, zout, hzout, h, rfl⟩
 refine ssr <| un1 (v := (B (decide (v11 < (l_.length : Int))))) rfl <| dnil <| Sv.seq ?_
 refine Sv.cnd rfl h (fun h => ?_) fun h => ?_
 ·refine Sv.skip <| Sv.seq <| Sv.block <| ssr ?_
  obtain ⟨x_, hx1, h⟩ := bnd h
  refine un1 (v := (.c (.rop (e_TJTimer x_)))) (s_iaddr (e := e_TJTimer) (xs := l_) rfl rfl hx1) <| un1 (v := (.agg (e_TJTimer x_))) rfl <| un <| a2v (v := (.c (.ref 2 5 0 0))) (h' := upd _ 2 (some (.cells 5 [[cI 0, cI 0, cI 0, cI 0, .str []]]))) (n' := 3) rfl rfl hcs <| un <| a2n (h' := upd _ 2 (some (.cells 5 [(e_TJTimer x_)]))) (n' := 3) rfl rfl hcs <| dnil <| Sv.seq <| ssr <| un1 rfl <| un1 (v := (B (!done))) rfl <| un1 rfl ?_
  refine gjoin 20 (d := 37) (v := (B ((!done) && ((decide (t_.At < x_.At)) || ((decide (x_.At = t_.At)) && (decide (t_.ID < x_.ID))))))) (fun X hX => ?_) ?_
  ·refine split2 (fun hc4 => ?_) (fun hc4 => ?_)
   ·refine gt rfl <| a1 (v := (.c (.ref 2 5 0 1))) rfl <| gt rfl <| a1 (v := (I x_.At)) rfl <| gt rfl <| a1 (v := (.c (.ref 0 5 0 1))) rfl <| gt rfl <| a1 (v := (I t_.At)) rfl <| gt rfl <| a1 (v := (B (decide (t_.At < x_.At)))) rfl <| gt rfl <| a1 rfl ?_
    refine gjoin 13 (d := 36) (v := (B ((decide (t_.At < x_.At)) || ((decide (x_.At = t_.At)) && (decide (t_.ID < x_.ID)))))) (fun X hX => ?_) ?_
    ·refine split2 (fun hc3 => ?_) (fun hc3 => ?_)
     ·repeat (first | refine gu rfl ?_ | refine gs rfl rfl ?_)
      refine gt rfl <| a1 (v := (B true)) rfl <| dnil ?_
      exact hX _ (.putEq (by rw [hc3]; rfl) (by repeat (first | exact .putEq (by rw [hc3]) (.refl _) | refine .skp ?_ rfl)))
     ·refine gt rfl <| a1 (v := (.c (.ref 2 5 0 1))) rfl <| gt rfl <| a1 (v := (I x_.At)) rfl <| gt rfl <| a1 (v := (.c (.ref 0 5 0 1))) rfl <| gt rfl <| a1 (v := (I t_.At)) rfl <| gt rfl <| a1 (v := (B (decide (x_.At = t_.At)))) rfl <| gt rfl <| a1 rfl ?_
      refine gjoin 6 (d := 35) (v := (B ((decide (x_.At = t_.At)) && (decide (t_.ID < x_.ID))))) (fun X hX => ?_) ?_
      ·refine split2 (fun hc2 => ?_) (fun hc2 => ?_)
       ·refine gt rfl <| a1 (v := (.c (.ref 2 5 0 0))) rfl <| gt rfl <| a1 (v := (I x_.ID)) rfl <| gt rfl <| a1 (v := (.c (.ref 0 5 0 0))) rfl <| gt rfl <| a1 (v := (I t_.ID)) rfl <| gt rfl <| a1 (v := (B (decide (t_.ID < x_.ID)))) rfl <| gt rfl <| a1 (v := (B (decide (t_.ID < x_.ID)))) rfl <| dnil ?_
        exact hX _ (.putEq (by rw [hc2]; rfl) (by repeat (first | exact .putEq (by rw [hc2]) (.refl _) | refine .skp ?_ rfl)))
       ·repeat (first | refine gu rfl ?_ | refine gs rfl rfl ?_)
        refine gt rfl <| a1 (v := (B false)) rfl <| dnil ?_
        exact hX _ (.putEq (by rw [hc2]; rfl) (by repeat (first | exact .putEq (by rw [hc2]) (.refl _) | refine .skp ?_ rfl)))
      refine gt rfl <| a1 (v := (B ((decide (x_.At = t_.At)) && (decide (t_.ID < x_.ID))))) rfl <| dnil ?_
      exact hX _ (.putEq (by rw [hc3]; rfl) (by repeat (first | exact .putEq (by rw [hc3]) (.refl _) | refine .skp ?_ rfl)))
    refine un1 (v := (B ((decide (t_.At < x_.At)) || ((decide (x_.At = t_.At)) && (decide (t_.ID < x_.ID)))))) rfl <| dnil ?_
    exact hX _ (.putEq (by rw [hc4]; rfl) (by repeat (first | exact .putEq (by rw [hc4]) (.refl _) | refine .skp ?_ rfl)))
   ·repeat (first | refine gu rfl ?_ | refine gs rfl rfl ?_)
    refine un1 (v := (B false)) rfl <| dnil ?_
    exact hX _ (.putEq (by rw [hc4]; rfl) (by repeat (first | exact .putEq (by rw [hc4]) (.refl _) | refine .skp ?_ rfl)))
  refine dnil ?_
  refine Sv.cnd rfl h (fun h => ?_) fun h => ?_
  ·refine srg <| un1 rfl <| un1 (v := (.agg (e_TJTimer t_))) rfl <| un <| a2v (v := (lstV false 3 5 [t_].length)) (h' := upd _ 3 (lstB false 5 ([t_].map e_TJTimer))) (n' := 4) rfl rfl hcs ?_
   obtain ⟨r_1, hr2, h⟩ := bnd h
   have hz2 : (zout && [t_].isEmpty) = true → r_1 = [] := app_nil (z := zout) (ys := [t_]) hzout hr2
   refine un <| a2v rfl (s_app (xs := out) (ys := [t_]) (e := e_TJTimer) (z := zout) (b := 1) rfl rfl hzout rfl rfl (slc_lst rfl (List.length_map _).symm (map_nil_of hcs)) hr2) hcs <| un1 rfl <| un1 rfl <| dnil ?_
   exact Sv.weak (wcn [0, 4, 2] rfl (.cf rfl rfl (.cf rfl rfl (.cf rfl rfl (.cr rfl rfl rfl (.cf rfl rfl (.cons rfl (.c (lsr rfl rfl)) (.cr rfl rfl rfl .nil))))))) (.box (by decide) rfl (blkAs_cells (.sm rfl (.sm rfl (.sm rfl (.sm rfl (.sm rfl .nil)))))) (.row (by decide) rfl (fr_map fun _ => rfl) (.box (by decide) rfl (blkAs_cells (.sm rfl (.sm rfl (.sm rfl (.sm rfl (.sm rfl .nil)))))) .nil)))) (Z4f hz2 h hself hK0 hr)
  ·refine Sv.skip ?_
   exact Sv.weak (wcn [0, 1, 2] rfl (.cf rfl rfl (.cf rfl rfl (.cf rfl rfl (.cr rfl rfl rfl (.cf rfl rfl (.cons rfl (.c (lsr rfl rfl)) (.cr rfl rfl rfl .nil))))))) (.box (by decide) rfl (blkAs_cells (.sm rfl (.sm rfl (.sm rfl (.sm rfl (.sm rfl .nil)))))) (.row (by decide) rfl (fr_map fun _ => rfl) (.box (by decide) rfl (blkAs_cells (.sm rfl (.sm rfl (.sm rfl (.sm rfl (.sm rfl .nil)))))) .nil)))) (Z4f hzout h hself hK0 hr)
 ·refine Sv.exit ?_
  exact hK0 out done zout hzout h _ (wcn [0, 1] rfl (.cf rfl rfl (.cons rfl (.c (lsr rfl rfl)) (.cr rfl rfl rfl .nil))) (.row (by decide) rfl (fr_map fun _ => rfl) (.box (by decide) rfl (blkAs_cells (.sm rfl (.sm rfl (.sm rfl (.sm rfl (.sm rfl .nil)))))) .nil)))
noncomputable def Zx (out3 : (List TJTimer)) : Option (List TJTimer) :=
 some out3
theorem Z4h {Γ : Glob} {out3 : (List TJTimer)} {zout3 : Bool} (hzout3 : zout3 = true → out3 = []) {o : (List TJTimer)} (h : Zx out3 = some o) :
  Sv Try.prog Γ 0 a47_c3 (Ends a47.results 0 (Z25 o)) ⟨(upd e0 5 (some (lstV zout3 0 5 out3.length))), (upd e0 0 (lstB zout3 5 (out3.map e_TJTimer))), 1⟩ := by
 unfold Zx at h
 refine ssr <| un1 rfl <| un1 rfl <| dnil <| Sv.ret ?_
 replace h := Option.some.inj h
 subst h
 exact ⟨_, .refl _, _, rfl, ⟨upd e0 0 (some (lstV zout3 0 5 out3.length)), (upd e0 0 (lstB zout3 5 (out3.map e_TJTimer))), 1⟩, (lstV zout3 0 5 out3.length), weak_canon2 [0] [0] (by decide) (by decide) nlz (.cons (by decide) .nil) (.cons rfl (.c (lsr rfl rfl)) .nil) (.row (by decide) rfl (fr_map fun _ => rfl) .nil), rfl, zout3, hzout3, rfl, rfl, rfl⟩
/-- clerestory/clerestoryref4.placed -/
noncomputable def Z1d (l_ : (List TJTimer)) (t_ : TJTimer) : Option (List TJTimer) :=
 lim fun kk => Za l_ t_ (fun (out1 : (List TJTimer)) (done1 : Bool) => 
   if (!done1) then
    (app? 48 out1 [t_]).bind fun r_2 =>
    Zx r_2
   else
    Zx out1) kk ([] : List TJTimer) false 0
theorem Z4i {Γ : Glob} {l_ : (List TJTimer)} {t_ : TJTimer} {r : (List TJTimer)} (h : Z1d l_ t_ = some r) : ACalls Try.prog Γ 47 [(.c (.ro false 5 (l_.map e_TJTimer))), (.agg (e_TJTimer t_))] e0 0 (Z25 r) := by
 refine acalls_of_sv hmix c47 (R := Z25 r) ?_
 unfold Z1d at h
 refine ssr <| un <| a2v (v := (.c (.ref 0 5 0 0))) (h' := upd _ 0 (some (.cells 5 [(e_TJTimer t_)]))) (n' := 1) rfl rfl hcs <| un1 rfl <| dnil <| ssr <| un1 rfl <| dnil <| ssr <| un1 rfl <| dnil <| Sv.seq <| ssr <| un1 rfl <| un1 (v := (I (l_.length : Int))) (s_len (e := e_TJTimer) (xs := l_) rfl) <| un1 rfl <| dnil <| Sv.block ?_
 obtain ⟨kk, h⟩ := lim_some h
 refine Sv.weak (wcn [0, 1000] rfl (.cf rfl rfl (.cf rfl rfl (.cf rfl rfl (.cf rfl rfl (.cons rfl (.c (.same rfl)) (.cr rfl rfl rfl .nil)))))) (.non (by decide) (.box (by decide) rfl (blkAs_cells (.sm rfl (.sm rfl (.sm rfl (.sm rfl (.sm rfl .nil)))))) .nil))) (Z7b (fun _ => rfl) h ?_ (fun s hs => hs))
 ·intro out1 done1 zout1 hzout1 h _ hw1
  refine Sv.weak hw1 <| Sv.seq <| ssr <| un1 rfl <| un1 (v := (B (!done1))) rfl <| dnil ?_
  refine Sv.cnd rfl h (fun h => ?_) fun h => ?_
  ·refine srg <| un1 rfl <| un1 (v := (.agg (e_TJTimer t_))) rfl <| un <| a2v (v := (lstV false 2 5 [t_].length)) (h' := upd _ 2 (lstB false 5 ([t_].map e_TJTimer))) (n' := 3) rfl rfl hcs ?_
   obtain ⟨r_2, hr3, h⟩ := bnd h
   have hz3 : (zout1 && [t_].isEmpty) = true → r_2 = [] := app_nil (z := zout1) (ys := [t_]) hzout1 hr3
   refine un <| a2v rfl (s_app (xs := out1) (ys := [t_]) (e := e_TJTimer) (z := zout1) (b := 1) rfl rfl hzout1 rfl rfl (slc_lst rfl (List.length_map _).symm (map_nil_of hcs)) hr3) hcs <| un1 rfl <| dnil ?_
   exact Sv.weak (wcn [3] rfl (.cons rfl (.c (lsr rfl rfl)) .nil) (.row (by decide) rfl (fr_map fun _ => rfl) .nil)) (Z4h hz3 h)
  ·refine Sv.skip ?_
   exact Sv.weak (wcn [1] rfl (.cons rfl (.c (lsr rfl rfl)) .nil) (.row (by decide) rfl (fr_map fun _ => rfl) .nil)) (Z4h hzout1 h)
end Go.Proofs.YtoomjemboekooaaBv
