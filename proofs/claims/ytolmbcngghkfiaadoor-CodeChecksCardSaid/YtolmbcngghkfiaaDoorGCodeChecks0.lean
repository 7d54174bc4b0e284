/- Printed by a program of mine (bgen.py): plain functions, and the walks that show that the code comes to what they answer. -/
import Derived.Test.YtolmbcngghkfiaaDoorRows
import Derived.Test.YtolmbcngghkfiaaDoorBv40
import Derived.Test.YtolmbcngghkfiaaDoorBv35
import Derived.Test.YtolmbcngghkfiaaDoorBv55
import Derived.Test.YtolmbcngghkfiaaDoorBv30
import Derived.Test.YtolmbcngghkfiaaDoorShelf
import Derived.Test.YtolmbcngghkfiaaDoorBv34
import Derived.Test.YtolmbcngghkfiaaDoorBv48
import Derived.Test.YtolmbcngghkfiaaDoorGrow
namespace Go.Proofs.YtolmbcngghkfiaaDoorBv
open Go
set_option linter.unusedVariables false
set_option linter.unusedSimpArgs false
set_option maxRecDepth 100000
theorem hmix : Tryd.prog.follows .mixedOrders = true := by kernel_rfl
structure TJIns where
 Do : Int
 A : Int
def e_TJIns (x : TJIns) : List Cel := [cI x.Do, cI x.A]
structure TJFunc where
 Params : Int
 Slots : Int
 Caught : (List Int)
 Code : (List TJIns)
def e_TJFunc (x : TJFunc) : List Cel := [cI x.Params, cI x.Slots, .ro false 1 (x.Caught.map eI), .ro false 2 (x.Code.map e_TJIns)]
structure TJVal where
 Kind : Int
 N : Int
 S : Tx
def e_TJVal (x : TJVal) : List Cel := [cI x.Kind, cI x.N, .str x.S]
structure TJProg where
 Funcs : (List TJFunc)
 Consts : (List TJVal)
 Shapes : (List TT)
def e_TJProg (x : TJProg) : List Cel := [.ro false 4 (x.Funcs.map e_TJFunc), .ro false 3 (x.Consts.map e_TJVal), .ro false 1 (x.Shapes.map (eSl 1 eStr))]
structure Tstate where
 f_height : Int
 f_tries : (List Int)
structure Tchecker where
 f_p : TJProg
 f_f : TJFunc
 f_own : Int
 f_seen : (List (Int × Tstate))
 f_todo : (List Int)
 f_bad : Bool
structure Tat where
 f_known : Bool
 f_height : Int
 f_tries : (List (Ar2 Int))
def e_Tat (x : Tat) : List Cel := [cB x.f_known, cI x.f_height, .ro false 2 (x.f_tries.map (eA2 eI))]
def g0_c : List Cel := [0, 0, 0, 0, 0, 0, 0, 0, 0, 1, 1, 1, 1, 1, 0, 0, 0, 0, 0, 0, 0, 0, 0, 0, 0, 0, 0, 0, 0, 0, 0, 0, 1, 0, 0, 0, 0, 0, 0, 0, 0, 0, 0, 0, 0, 0, 0, 0, 0, 0, 0, 0, 0, 0, 0, 0, 0, 0, 0, 0, 0, 0, 0, 0, 0, 0, 0, 0, 0, 0, 0, 0, 0, 0, 0, 0, 0, 0, 0, 0, 0, 0, 0, 0, 0, 0, 0, 0, 0, 0, 0, 0, 0, 0, 0, 0, 0, 0, 0, 0, 0, 0, 0, 0, 0, 0, 0, 0, 0, 0, 0, 0, 0, 0, 0, 0, 0, 0, 0, 0, 0, 0, 0, 0, 0, 0, 0, 0, 0, 0, 0, 0, 0, 0, 0, 0, 0, 0, 0, 0, 0, 0, 0, 0, 0, 0, 0, 0, 0, 0, 0, 0, 0, 0, 0, 0, 0, 0, 0, 0, 0, 0, 0, 0, 0, 0, 0, 0, 0, 0, 0, 0, 0, 0, 0, 0, 0, 0, 0, 0, 0, 0, 0, 0, 0, 0, 0, 0, 0, 0, 0, 0, 0, 0, 0, 0, 0, 0, 0, 0, 0, 0, 0, 0, 0, 0, 0, 0, 0, 0, 0, 0, 0, 0, 0, 0, 0, 0, 0, 0, 0, 0, 0, 0, 0, 0, 0, 0, 0, 0, 0, 0, 0, 0, 0, 0, 0, 0, 0, 0, 0, 0, 0, 0, 0, 0, 0, 0, 0, 0, 0, 0, 0, 0, 0, 0].map fun n => .val (.int .u8 n)
/-- what the listed package variables hold -/
def GG : Glob := fun g => if g = 0 then g0_c else []
noncomputable abbrev Z2t (s_ : Tx) : Option TT := fields? s_
/-- strings.Fields, by the contract of the shelf -/
theorem Z43 {s_ : Tx} {r : TT} (h : Z2t s_ = some r) : ACalls Tryd.prog GG 22 [(S s_)] e0 0 (fun v h' n' => ∃ z : Bool, (z = true → r = []) ∧ v = lstV z 0 1 r.length ∧ (h' = (upd e0 0 (lstB z 1 (r.map eStr)))) ∧ n' = 1) := fields_ok Tryd.lays157 (by kernel_rfl) (by kernel_rfl) (by kernel_rfl) h
def a19 : AFunc := ⟨0, [(.tmp 0)], (sr [(oP 0 (.mov (.const (.c (.ro true 1 [])))))]
 (sr [(oP 1 (.call 22 [(.const (.c (.str [61, 61, 32, 33, 61, 32, 60, 32, 60, 61, 32, 62, 32, 62, 61, 32, 43, 32, 45, 32, 42, 32, 47, 32, 37])))])), (mV 0 1)]
 .ret))⟩
theorem c19 : compFunc Tryd.prog 19 = some a19 := by kernel_rfl
def Z2u (r : TT) : AV → Heap → Nat → Prop := fun v h' n' => ∃ z0 : Bool, (z0 = true → r = []) ∧ v = (lstV z0 0 1 r.length) ∧ (h' = (upd e0 0 (lstB z0 1 (r.map eStr)))) ∧ n' = 1
/-- clerestory/code.signs -/
noncomputable def Z1d : Option TT :=
 (Z2t [61, 61, 32, 33, 61, 32, 60, 32, 60, 61, 32, 62, 32, 62, 61, 32, 43, 32, 45, 32, 42, 32, 47, 32, 37]).bind fun r_ =>
 some r_
theorem Z44 {r : TT} (h : Z1d = some r) : ACalls Tryd.prog GG 19 [] e0 0 (Z2u r) := by
 refine acalls_of_sv hmix c19 (R := Z2u r) ?_
 unfold Z1d at h
 refine ssr <| un1 rfl <| dnil <| ssr ?_
 obtain ⟨r_, hr1, h⟩ := bnd h
 refine un <| ac_gen (bs := []) («as» := [(S [61, 61, 32, 33, 61, 32, 60, 32, 60, 61, 32, 62, 32, 62, 61, 32, 43, 32, 45, 32, 42, 32, 47, 32, 37])]) (h2 := _) (h1 := e0) (Z43 hr1) rfl (.cons (avAs_free rfl) .nil) (hsub_refl _) (.nil _) (fun _ => rfl) (by decide) (by decide) (.cons (avAs_free rfl) .nil) .nil ?_
 rintro _ _ _ hn ⟨z_, hz_, rfl, rfl, rfl⟩
 refine ⟨.inl rfl, (upd (rem [] _) 0 (lstB z_ 1 (r_.map eStr))), fun hbd => (m3_cons (m3_row rfl (fr_map fun _ => rfl)) (m3_rem (in_nil _) (.cons (by decide) .nil) hbd)), (lstV z_ 0 1 r_.length), 1, (by cases z_ <;> rfl), rfl, ?_⟩
 refine un1 rfl <| dnil <| Sv.ret ?_
 replace h := Option.some.inj h
 subst h
 exact ⟨_, .refl _, _, rfl, ⟨upd e0 0 (some (lstV z_ 0 1 r_.length)), (upd e0 0 (lstB z_ 1 (r_.map eStr))), 1⟩, (lstV z_ 0 1 r_.length), weak_canon2 [0] [0] (by decide) (by decide) nlz (.cons (by decide) .nil) (.cons rfl (.c (lsr rfl rfl)) .nil) (.row (by decide) rfl (fr_map fun _ => rfl) .nil), rfl, z_, hz_, rfl, rfl, rfl⟩
def a14_c2 : ACode := (.cond (.tmp 42) (sr [(oP 4 (.mov (kI 401)))]
 .ret) (sr [(oP 46 (.bin .eql (.tmp 6) (kI 13))), (mV 45 46)]
 (.cond (.tmp 45) (sr [(mV 47 0), (oP 48 (.nilc (.tmp 47))), (oP 49 (.faddr 0 (.tmp 48))), (oP 50 (.faddr 2 (.tmp 49))), (oP 51 (.load false 1 (.tmp 50))), (oP 52 (.len (.tmp 51))), (mV 4 52)]
 .ret) (sr [(oP 54 (.bin .eql (.tmp 6) (kI 16))), (mV 53 54)]
 (.cond (.tmp 53) (sr [(mV 55 0), (oP 56 (.nilc (.tmp 55))), (oP 57 (.faddr 0 (.tmp 56))), (oP 58 (.faddr 0 (.tmp 57))), (oP 59 (.load false 1 (.tmp 58))), (oP 60 (.len (.tmp 59))), (mV 4 60)]
 .ret) .skip)))))
def a14_c1 : ACode := (.cond (.tmp 31) (sr [(mV 36 0), (oP 37 (.nilc (.tmp 36))), (oP 38 (.faddr 3 (.tmp 37))), (oP 39 (.faddr 3 (.tmp 38))), (oP 40 (.load false 1 (.tmp 39))), (oP 41 (.len (.tmp 40))), (mV 4 41)]
 .ret) (.seq (sr [(oP 43 (.bin .eql (.tmp 6) (kI 12))), (mV 42 43)]
 (.cond (.tmp 42) .skip (.region [(oP 44 (.bin .eql (.tmp 6) (kI 17))), (mV 42 44)])))
 a14_c2))
def a14_c0 : ACode := (.cond (.tmp 15) (sr [(mV 20 0), (oP 21 (.nilc (.tmp 20))), (oP 22 (.faddr 3 (.tmp 21))), (oP 23 (.faddr 1 (.tmp 22))), (oP 24 (.load false 1 (.tmp 23))), (mV 4 24)]
 .ret) (sr [(oP 26 (.bin .eql (.tmp 6) (kI 7))), (mV 25 26)]
 (.cond (.tmp 25) (sr [(oP 4 (.mov (kI 2)))]
 .ret) (sr [(oP 28 (.bin .eql (.tmp 6) (kI 8))), (mV 27 28)]
 (.cond (.tmp 27) (sr [(oP 29 (.call 19 [])), (oP 30 (.len (.tmp 29))), (mV 4 30)]
 .ret) (.seq (sr [(oP 32 (.bin .eql (.tmp 6) (kI 9))), (mV 31 32)]
 (.cond (.tmp 31) .skip (sr [(oP 33 (.bin .eql (.tmp 6) (kI 10))), (mV 31 33)]
 (.cond (.tmp 31) .skip (sr [(oP 34 (.bin .eql (.tmp 6) (kI 20))), (mV 31 34)]
 (.cond (.tmp 31) .skip (.region [(oP 35 (.bin .eql (.tmp 6) (kI 24))), (mV 31 35)])))))))
 a14_c1))))))
def a14_c3 : ACode := (sr [(oP 4 (.mov (kI 1)))]
 .ret)
def a14 : AFunc := ⟨2, [(.tmp 4)], (sr [(oP 3 (.box (.tmp 1))), (oP 4 (.mov (kI 0)))]
 (.seq (sr [(oP 5 (.faddr 0 (.tmp 3))), (oP 6 (.load false 1 (.tmp 5)))]
 (.block 0 (sr [(oP 8 (.bin .eql (.tmp 6) (kI 1))), (mV 7 8)]
 (.cond (.tmp 7) (sr [(mV 9 0), (oP 10 (.nilc (.tmp 9))), (oP 11 (.faddr 0 (.tmp 10))), (oP 12 (.faddr 1 (.tmp 11))), (oP 13 (.load false 1 (.tmp 12))), (oP 14 (.len (.tmp 13))), (mV 4 14)]
 .ret) (.seq (sr [(oP 16 (.bin .eql (.tmp 6) (kI 2))), (mV 15 16)]
 (.cond (.tmp 15) .skip (sr [(oP 17 (.bin .eql (.tmp 6) (kI 3))), (mV 15 17)]
 (.cond (.tmp 15) .skip (sr [(oP 18 (.bin .eql (.tmp 6) (kI 4))), (mV 15 18)]
 (.cond (.tmp 15) .skip (.region [(oP 19 (.bin .eql (.tmp 6) (kI 5))), (mV 15 19)])))))))
 a14_c0)))))
 a14_c3))⟩
theorem c14 : compFunc Tryd.prog 14 = some a14 := by kernel_rfl
def a8_c0 : ACode := (.cond (.tmp 58) (sr [(oP 2 (.mov kF))]
 .ret) .skip)
def a8_c1 : ACode := (sr [(oP 74 (.bin .lss (.tmp 73) (.tmp 72)))]
 (.seq (.cond (.tmp 74) .skip (.exit 2))
 (.seq (.block 3 (sr [(oP 75 (.iaddr 1 (.tmp 71) (.tmp 73))), (oP 76 (.load false 1 (.tmp 75))), (mV 7 76)]
 (sr [(oP 77 (.faddr 1 (.tmp 5))), (oP 78 (.load false 1 (.tmp 77))), (oP 79 (.bin .eql (.tmp 78) (kI 0))), (mV 80 79), ⟨(some 81), (.mov (.tmp 7)), (some (80, false))⟩, ⟨(some 82), (.bin .lss (.tmp 81) (kI 0)), (some (80, false))⟩, (oP 83 (.pick (.tmp 80) kT (.tmp 82))), (mV 84 83), ⟨(some 85), (.mov (.tmp 7)), (some (84, false))⟩, ⟨(some 86), (.faddr 1 (.tmp 3)), (some (84, false))⟩, ⟨(some 87), (.load false 1 (.tmp 86)), (some (84, false))⟩, ⟨(some 88), (.bin .geq (.tmp 85) (.tmp 87)), (some (84, false))⟩, (oP 89 (.pick (.tmp 84) kT (.tmp 88)))]
 (.cond (.tmp 89) (sr [(oP 2 (.mov kF))]
 .ret) .skip))))
 (.region [(oP 90 (.bin .add (.tmp 73) (kI 1))), (mV 73 90)]))))
def a8_c3 : ACode := (sr [(oP 59 (.faddr 0 (.tmp 5))), (oP 60 (.load false 1 (.tmp 59))), (oP 61 (.bin .eql (.tmp 60) (kI 16)))]
 (.cond (.tmp 61) (.seq (.seq (.drawn (.fin [((mV 62 0), (0, 0)), ((oP 63 (.nilc (.tmp 62))), (0, 1)), ((oP 64 (.faddr 0 (.tmp 63))), (0, 2)), ((oP 65 (.faddr 0 (.tmp 64))), (0, 3)), ((oP 66 (.load false 1 (.tmp 65))), (0, 4)), ((oP 67 (.faddr 1 (.tmp 5))), (0, 5)), ((oP 68 (.load false 1 (.tmp 67))), (0, 6)), ((oP 69 (.iaddr 4 (.tmp 66) (.tmp 68))), (0, 7)), ((oP 70 (.faddr 2 (.tmp 69))), (0, 8)), ((oP 71 (.load false 1 (.tmp 70))), (0, 9)), ((oP 72 (.len (.tmp 71))), (0, 10)), ((oP 73 (.mov (kI 0))), (0, 11))]))
 (.block 2 (.loop a8_c1)))
 (sr [(oP 91 (.faddr 1 (.tmp 5))), (oP 92 (.load false 1 (.tmp 91))), (oP 93 (.bin .eql (.tmp 92) (kI 0)))]
 (.cond (.tmp 93) (sr [(oP 2 (.mov kF))]
 .ret) .skip))) .skip))
def a8_c2 : ACode := (.region [(oP 94 (.bin .add (.tmp 34) (kI 1))), (mV 34 94)])
def a8_c4 : ACode := (sr [(oP 35 (.bin .lss (.tmp 34) (.tmp 33)))]
 (.seq (.cond (.tmp 35) .skip (.exit 0))
 (.seq (.block 1 (sr [(oP 36 (.iaddr 2 (.tmp 32) (.tmp 34))), (oP 37 (.load true 2 (.tmp 36))), (oP 5 (.box (.const (.agg [(.val (.int .i64 0)), (.val (.int .i64 0))])))), (oN (.store 2 (.tmp 5) (.tmp 37)))]
 (.seq (.seq (.drawn (.alt [((oP 38 (.faddr 0 (.tmp 5))), (0, 0)), ((oP 39 (.load false 1 (.tmp 38))), (0, 1)), ((oP 40 (.bin .lss (.tmp 39) (kI 1))), (0, 2)), ((mV 41 40), (0, 3)), (⟨(some 42), (.faddr 0 (.tmp 5)), (some (41, false))⟩, (0, 4)), (⟨(some 43), (.load false 1 (.tmp 42)), (some (41, false))⟩, (0, 5)), (⟨(some 44), (.bin .gtr (.tmp 43) (kI 25)), (some (41, false))⟩, (0, 6)), ((oP 45 (.pick (.tmp 41) kT (.tmp 44))), (0, 7)), ((mV 46 45), (0, 8)), (⟨(some 47), (.faddr 1 (.tmp 5)), (some (46, false))⟩, (0, 9)), (⟨(some 48), (.load false 1 (.tmp 47)), (some (46, false))⟩, (0, 10)), (⟨(some 49), (.bin .lss (.tmp 48) (kI 0)), (some (46, false))⟩, (0, 11)), ((oP 50 (.pick (.tmp 46) kT (.tmp 49))), (0, 12)), ((mV 51 50), (0, 13)), (⟨(some 52), (.faddr 1 (.tmp 5)), (some (51, false))⟩, (0, 14)), (⟨(some 54), (.mov (.tmp 0)), (some (51, false))⟩, (0, 16)), (⟨(some 55), (.load true 2 (.tmp 5)), (some (51, false))⟩, (0, 17))] (.fin [(⟨(some 53), (.load false 1 (.tmp 52)), (some (51, false))⟩, (1, 15)), (⟨(some 56), (.call 14 [(.tmp 54), (.tmp 55)]), (some (51, false))⟩, (2, 18)), (⟨(some 57), (.bin .geq (.tmp 53) (.tmp 56)), (some (51, false))⟩, (0, 19)), ((oP 58 (.pick (.tmp 51) kT (.tmp 57))), (0, 20))]) (.fin [(⟨(some 56), (.call 14 [(.tmp 54), (.tmp 55)]), (some (51, false))⟩, (2, 18)), (⟨(some 53), (.load false 1 (.tmp 52)), (some (51, false))⟩, (1, 15)), (⟨(some 57), (.bin .geq (.tmp 53) (.tmp 56)), (some (51, false))⟩, (0, 19)), ((oP 58 (.pick (.tmp 51) kT (.tmp 57))), (0, 20))])))
 a8_c0)
 a8_c3)))
 a8_c2)))
def a8 : AFunc := ⟨1, [(.tmp 2)], (sr [(oP 2 (.mov kF))]
 (sr [(mV 8 0), (oP 9 (.nilc (.tmp 8))), (oP 10 (.faddr 3 (.tmp 9))), (oP 11 (.load true 4 (.tmp 10))), (oP 3 (.box (.const (.agg [(.val (.int .i64 0)), (.val (.int .i64 0)), (.ro true 1 []), (.ro true 2 [])])))), (oN (.store 4 (.tmp 3) (.tmp 11)))]
 (.seq (sr [(oP 12 (.faddr 0 (.tmp 3))), (oP 13 (.load false 1 (.tmp 12))), (oP 14 (.bin .lss (.tmp 13) (kI 0))), (mV 15 14), ⟨(some 16), (.faddr 1 (.tmp 3)), (some (15, false))⟩, ⟨(some 17), (.load false 1 (.tmp 16)), (some (15, false))⟩, ⟨(some 18), (.bin .lss (.tmp 17) (kI 0)), (some (15, false))⟩, (oP 19 (.pick (.tmp 15) kT (.tmp 18))), (mV 20 19), ⟨(some 21), (.faddr 0 (.tmp 3)), (some (20, false))⟩, ⟨(some 22), (.load false 1 (.tmp 21)), (some (20, false))⟩, ⟨(some 23), (.faddr 1 (.tmp 3)), (some (20, false))⟩, ⟨(some 24), (.load false 1 (.tmp 23)), (some (20, false))⟩, ⟨(some 25), (.faddr 2 (.tmp 3)), (some (20, false))⟩, ⟨(some 26), (.load false 1 (.tmp 25)), (some (20, false))⟩, ⟨(some 27), (.len (.tmp 26)), (some (20, false))⟩, ⟨(some 28), (.bin .sub (.tmp 24) (.tmp 27)), (some (20, false))⟩, ⟨(some 29), (.bin .gtr (.tmp 22) (.tmp 28)), (some (20, false))⟩, (oP 30 (.pick (.tmp 20) kT (.tmp 29)))]
 (.cond (.tmp 30) (sr [(oP 2 (.mov kF))]
 .ret) .skip))
 (.seq (sr [(oP 31 (.faddr 3 (.tmp 3))), (oP 32 (.load false 1 (.tmp 31))), (oP 33 (.len (.tmp 32))), (oP 34 (.mov (kI 0)))]
 (.block 0 (.loop a8_c4)))
 (sr [(oP 2 (.mov kT))]
 .ret)))))⟩
theorem c8 : compFunc Tryd.prog 8 = some a8 := by kernel_rfl
def a20_c0 : ACode := (sr [(oP 14 (.bin .lss (.tmp 13) (.tmp 12)))]
 (.seq (.cond (.tmp 14) .skip (.exit 0))
 (.seq (.block 1 (sr [(mV 15 13), (mV 5 15)]
 (.seq (.drawn (.fin [((mV 16 0), (0, 0)), ((mV 17 5), (0, 1)), ((oP 18 (.iaddr 1 (.tmp 16) (.tmp 17))), (0, 2)), ((oP 19 (.load false 1 (.tmp 18))), (0, 3)), ((mV 20 1), (0, 4)), ((mV 21 5), (0, 5)), ((oP 22 (.iaddr 1 (.tmp 20) (.tmp 21))), (0, 6)), ((oP 23 (.load false 1 (.tmp 22))), (0, 7)), ((oP 24 (.bin .neq (.tmp 19) (.tmp 23))), (0, 8))]))
 (.cond (.tmp 24) (sr [(oP 4 (.mov kF))]
 .ret) .skip))))
 (.region [(oP 25 (.bin .add (.tmp 13) (kI 1))), (mV 13 25)]))))
def a20 : AFunc := ⟨2, [(.tmp 4)], (sr [(oP 4 (.mov kF))]
 (.seq (sr [(mV 6 0), (oP 7 (.len (.tmp 6))), (mV 8 1), (oP 9 (.len (.tmp 8))), (oP 10 (.bin .neq (.tmp 7) (.tmp 9)))]
 (.cond (.tmp 10) (sr [(oP 4 (.mov kF))]
 .ret) .skip))
 (.seq (sr [(mV 11 0), (oP 12 (.len (.tmp 11))), (oP 13 (.mov (kI 0)))]
 (.block 0 (.loop a20_c0)))
 (sr [(oP 4 (.mov kT))]
 .ret))))⟩
theorem c20 : compFunc Tryd.prog 20 = some a20 := by kernel_rfl
def Z2v (r : Bool) : AV → Heap → Nat → Prop := fun v h' n' => v = (B r) ∧ (h' = e0) ∧ n' = 0
abbrev Z45 (F_ : Unit → Option Bool) (o : Bool) (R_ : St → Prop) : Prop := ∀ (_ : Unit), F_ () = some o → ∀ s, Weak 0 s ⟨e0, e0, 0⟩ → R_ s
abbrev Z2w (s1 : (List Int)) (s2 : (List Int)) (F_ : Nat → Int → Option Bool) (o : Bool) : Nat → St → Prop := fun k s => ∃ (v13 : Int), F_ k v13 = some o ∧ s = ⟨(ue [(13, (I v13)), (12, (I (s1.length : Int))), (1, (.c (.ro false 1 (s2.map eI)))), (0, (.c (.ro false 1 (s1.map eI))))]), e0, 0⟩
abbrev Z46 (s1 : (List Int)) (s2 : (List Int)) (F_ : Int → Option Bool) (o : Bool) (R_ : St → Prop) : Prop := ∀ (v13 : Int), F_ v13 = some o → ∀ s, Weak 0 s ⟨(ue [(13, (I v13)), (12, (I (s1.length : Int))), (1, (.c (.ro false 1 (s2.map eI)))), (0, (.c (.ro false 1 (s1.map eI))))]), e0, 0⟩ → R_ s
noncomputable def Zg (s1 : (List Int)) (s2 : (List Int)) (K0_ : Unit → Option Bool) : Nat → Int → Option Bool
 | 0, _ => none
 | k + 1, v13 =>
  if decide (v13 < (s1.length : Int)) then
   (at? s1 v13).bind fun x_ =>
   (at? s2 v13).bind fun x_1 =>
   if (!decide (x_ = x_1)) then
    some false
   else
    (Zg s1 s2 K0_ k) (wi (v13 + 1))
  else
   K0_ ()
theorem Z47 {Q : AExit → St → Prop} {s1 : (List Int)} {s2 : (List Int)} {K0_ : Unit → Option Bool} {k : Nat} {v13 : Int} {o : Bool} (h : Zg s1 s2 K0_ k v13 = some o)
  (hK0 : Z45 K0_ o (Q (.exit 0)))
  (hr : ∀ s, Ends a20.results 0 (Z2v o) .ret s → Q .ret s) :
  Sv Tryd.prog GG 0 (.loop a20_c0) Q ⟨(ue [(13, (I v13)), (12, (I (s1.length : Int))), (1, (.c (.ro false 1 (s2.map eI)))), (0, (.c (.ro false 1 (s1.map eI))))]), e0, 0⟩ := by
 refine Sv.loop (I := Z2w s1 s2 (Zg s1 s2 K0_) o) (fun k s hI => ?_) ⟨v13, h, rfl⟩
 clear h
 clear v13
 obtain ⟨v13, h, rfl⟩ := hI
 cases k with
 | zero => cases h
 | succ k =>
 rw [Zg] at h
 have hself : Z46 s1 s2 (Zg s1 s2 K0_ k) o (rnd 0 (Z2w s1 s2 (Zg s1 s2 K0_) o) k Q) := fun v13 h s hw => ⟨_, k, hw, Nat.lt_succ_self k, v13, h, rfl⟩
 refine ssr <| un1 (v := (B (decide (v13 < (s1.length : Int))))) rfl <| dnil <| Sv.seq ?_
 refine Sv.cnd rfl h (fun h => ?_) fun h => ?_
 ·refine Sv.skip <| Sv.seq <| Sv.block <| ssr <| un1 rfl <| un1 rfl <| dnil <| Sv.seq <| Sv.drawn <| un1 rfl <| un1 rfl ?_
  obtain ⟨x_, hx1, h⟩ := bnd h
  refine un1 (v := (.c (.rop [cI x_]))) (s_iaddr (e := eI) (xs := s1) rfl rfl hx1) <| un1 (v := (I x_)) rfl <| un1 rfl <| un1 rfl ?_
  obtain ⟨x_1, hx2, h⟩ := bnd h
  refine un1 (v := (.c (.rop [cI x_1]))) (s_iaddr (e := eI) (xs := s2) rfl rfl hx2) <| un1 (v := (I x_1)) rfl <| un1 (v := (B (!decide (x_ = x_1)))) rfl <| dnil ?_
  refine Sv.cnd rfl h (fun h => ?_) fun h => ?_
  ·refine ssr <| un1 rfl <| dnil <| Sv.ret ?_
   exact hr _ (rt0 h rfl rfl ⟨rfl, rfl, rfl⟩)
  ·refine Sv.skip <| srg <| un1 (v := (I (wi (v13 + 1)))) rfl <| un1 rfl <| dnil ?_
   exact hself (wi (v13 + 1)) h _ (wcn [] rfl (.cf rfl rfl (.cf rfl rfl (.cf rfl rfl (.cf rfl rfl .nil)))) .nil)
 ·refine Sv.exit ?_
  exact hK0 () h _ (wcn [] rfl .nil .nil)
/-- slices.Equal(()int,int) -/
noncomputable def Z1e (s1 : (List Int)) (s2 : (List Int)) : Option Bool :=
 if (!decide ((s1.length : Int) = (s2.length : Int))) then
  some false
 else
  lim fun kk => Zg s1 s2 (fun (_ : Unit) => 
    some true) kk 0
theorem Z48 {s1 : (List Int)} {s2 : (List Int)} {r : Bool} (h : Z1e s1 s2 = some r) : CPure Tryd.prog GG 20 [(.c (.ro false 1 (s1.map eI))), (.c (.ro false 1 (s2.map eI)))] (B r) := by
 refine acalls_of_sv hmix c20 (R := Z2v r) ?_
 unfold Z1e at h
 refine ssr <| un1 rfl <| dnil <| Sv.seq <| ssr <| un1 rfl <| un1 (v := (I (s1.length : Int))) (s_len (e := eI) (xs := s1) rfl) <| un1 rfl <| un1 (v := (I (s2.length : Int))) (s_len (e := eI) (xs := s2) rfl) <| un1 (v := (B (!decide ((s1.length : Int) = (s2.length : Int))))) rfl <| dnil ?_
 refine Sv.cnd rfl h (fun h => ?_) fun h => ?_
 ·refine ssr <| un1 rfl <| dnil <| Sv.ret ?_
  exact rt0 h rfl rfl ⟨rfl, rfl, rfl⟩
 ·refine Sv.skip <| Sv.seq <| ssr <| un1 rfl <| un1 (v := (I (s1.length : Int))) (s_len (e := eI) (xs := s1) rfl) <| un1 rfl <| dnil <| Sv.block ?_
  obtain ⟨kk, h⟩ := lim_some h
  refine Sv.weak (wcn [] rfl (.cf rfl rfl (.cf rfl rfl (.cf rfl rfl (.cf rfl rfl .nil)))) .nil) (Z47 h ?_ (fun s hs => hs))
  ·intro _ h _ hw1
   refine Sv.weak hw1 <| ssr <| un1 rfl <| dnil <| Sv.ret ?_
   exact rt0 h rfl rfl ⟨rfl, rfl, rfl⟩
def a15_c0 : ACode := .ret
def a15 : AFunc := ⟨2, [(.tmp 4)], (sr [(oP 2 (.box (.tmp 0))), (oP 3 (.box (.tmp 1))), (oP 4 (.mov kF))]
 (sr [(oP 5 (.faddr 0 (.tmp 2))), (oP 6 (.load false 1 (.tmp 5))), (oP 7 (.faddr 0 (.tmp 3))), (oP 8 (.load false 1 (.tmp 7))), (oP 9 (.bin .eql (.tmp 6) (.tmp 8))), (mV 10 9), ⟨(some 11), (.faddr 1 (.tmp 2)), (some (10, true))⟩, ⟨(some 12), (.load false 1 (.tmp 11)), (some (10, true))⟩, ⟨(some 13), (.faddr 1 (.tmp 3)), (some (10, true))⟩, ⟨(some 14), (.load false 1 (.tmp 13)), (some (10, true))⟩, ⟨(some 15), (.call 20 [(.tmp 12), (.tmp 14)]), (some (10, true))⟩, (oP 16 (.pick (.tmp 10) (.tmp 15) kF)), (mV 4 16)]
 a15_c0))⟩
theorem c15 : compFunc Tryd.prog 15 = some a15 := by kernel_rfl
def Z2x (r : Bool) : AV → Heap → Nat → Prop := fun v h' n' => v = (B r) ∧ (h' = e0) ∧ n' = 0
noncomputable def Z1f (v4 : Bool) : Option Bool :=
 some v4
theorem Z2y {v4 : Bool} {o : Bool} (h : Z1f v4 = some o) :
  Sv Tryd.prog GG 0 a15_c0 (Ends a15.results 0 (Z2x o)) ⟨(upd e0 4 (some (B v4))), e0, 0⟩ := by
 unfold Z1f at h
 refine Sv.ret ?_
 exact rt0 h rfl rfl ⟨rfl, rfl, rfl⟩
/-- (clerestory/code.state).same -/
noncomputable def Z1g (s_ : Tstate) (t_ : Tstate) : Option Bool :=
 if decide (s_.f_height = t_.f_height) then
  (Z1e s_.f_tries t_.f_tries).bind fun r_ =>
  Z1f r_
 else
  Z1f false
theorem Z49 {s_ : Tstate} {t_ : Tstate} {r : Bool} (h : Z1g s_ t_ = some r) : CPure Tryd.prog GG 15 [(.agg [cI s_.f_height, .ro false 1 (s_.f_tries.map eI)]), (.agg [cI t_.f_height, .ro false 1 (t_.f_tries.map eI)])] (B r) := by
 refine acalls_of_sv hmix c15 (R := Z2x r) ?_
 unfold Z1g at h
 refine ssr <| un <| a2v (v := (.c (.ref 0 2 0 0))) (h' := upd _ 0 (some (.cells 2 [[cI s_.f_height, .ro false 1 (s_.f_tries.map eI)]]))) (n' := 1) rfl rfl hcs <| un <| a2v (v := (.c (.ref 1 2 0 0))) (h' := upd _ 1 (some (.cells 2 [[cI t_.f_height, .ro false 1 (t_.f_tries.map eI)]]))) (n' := 2) rfl rfl hcs <| un1 rfl <| dnil <| ssr <| un1 (v := (.c (.ref 0 2 0 0))) rfl <| un1 (v := (I s_.f_height)) rfl <| un1 (v := (.c (.ref 1 2 0 0))) rfl <| un1 (v := (I t_.f_height)) rfl <| un1 (v := (B (decide (s_.f_height = t_.f_height)))) rfl <| un1 rfl ?_
 refine spl h (fun h => ?_) fun h => ?_
 ·refine gt rfl <| a1 (v := (.c (.ref 0 2 0 1))) rfl <| gt rfl <| a1 (v := (.c (.ro false 1 (s_.f_tries.map eI)))) rfl <| gt rfl <| a1 (v := (.c (.ref 1 2 0 1))) rfl <| gt rfl <| a1 (v := (.c (.ro false 1 (t_.f_tries.map eI)))) rfl ?_
  obtain ⟨r_, hr1, h⟩ := bnd h
  refine gt rfl <| ac_pure (Z48 hr1) rfl rfl rfl <| un1 (v := (B r_)) rfl <| un1 rfl <| dnil ?_
  exact Sv.weak (wcn [] rfl (.cf rfl rfl .nil) .nil) (Z2y h)
 ·repeat (first | refine gu rfl ?_ | refine gs rfl rfl ?_)
  refine un1 (v := (B false)) rfl <| un1 rfl <| dnil ?_
  exact Sv.weak (wcn [] rfl (.cf rfl rfl .nil) .nil) (Z2y h)
def a9_c0 : ACode := .ret
def a9_c1 : ACode := (.seq (.drawn (.fin [((mV 51 0), (0, 0)), ((oP 52 (.nilc (.tmp 51))), (0, 1)), ((oP 53 (.faddr 8 (.tmp 52))), (0, 2)), ((oP 54 (.load false 1 (.tmp 53))), (0, 3)), ((mV 55 1), (0, 4)), ((oP 56 (.load true 2 (.tmp 5))), (0, 5)), ((oN (.mput (.i .i64) (.tmp 54) (.tmp 55) (.tmp 56))), (2, 6))]))
 (.region [(mV 57 0), (mV 58 0), (oP 59 (.nilc (.tmp 58))), (oP 60 (.faddr 9 (.tmp 59))), (oP 61 (.load false 1 (.tmp 60))), (mV 62 1), (oP 63 (.bslice 1 [(.val (.int .i64 0))] 1 [(0, (.tmp 62))])), (oP 64 (.app 1 8 (.tmp 61) (.tmp 63))), (oP 65 (.nilc (.tmp 57))), (oP 66 (.faddr 9 (.tmp 65))), (oN (.store 1 (.tmp 66) (.tmp 64)))]))
def a9 : AFunc := ⟨3, [], (sr [(oP 5 (.box (.tmp 2)))]
 (.seq (sr [(mV 8 1), (oP 9 (.bin .lss (.tmp 8) (kI 0))), (mV 10 9), ⟨(some 11), (.mov (.tmp 1)), (some (10, false))⟩, ⟨(some 12), (.mov (.tmp 0)), (some (10, false))⟩, ⟨(some 13), (.nilc (.tmp 12)), (some (10, false))⟩, ⟨(some 14), (.faddr 3 (.tmp 13)), (some (10, false))⟩, ⟨(some 15), (.faddr 3 (.tmp 14)), (some (10, false))⟩, ⟨(some 16), (.load false 1 (.tmp 15)), (some (10, false))⟩, ⟨(some 17), (.len (.tmp 16)), (some (10, false))⟩, ⟨(some 18), (.bin .geq (.tmp 11) (.tmp 17)), (some (10, false))⟩, (oP 19 (.pick (.tmp 10) kT (.tmp 18))), (mV 20 19), ⟨(some 21), (.faddr 0 (.tmp 5)), (some (20, false))⟩, ⟨(some 22), (.load false 1 (.tmp 21)), (some (20, false))⟩, ⟨(some 23), (.bin .lss (.tmp 22) (kI 0)), (some (20, false))⟩, (oP 24 (.pick (.tmp 20) kT (.tmp 23)))]
 (.cond (.tmp 24) (sr [(mV 25 0), (oP 26 (.nilc (.tmp 25))), (oP 27 (.faddr 10 (.tmp 26))), (oN (.store 1 (.tmp 27) kT))]
 .ret) .skip))
 (.seq (sr [(mV 29 0), (oP 30 (.nilc (.tmp 29))), (oP 31 (.faddr 8 (.tmp 30))), (oP 32 (.load false 1 (.tmp 31))), (mV 33 1), (oP 34 (.mlook (.i .i64) (.agg [(.val (.int .i64 0)), (.ro false 1 [])]) true (.tmp 32) (.tmp 33))), (mV 28 34), (oP 35 (.ext (.tmp 28) 0)), (oP 36 (.ext (.tmp 28) 1)), (oP 6 (.box (.const (.agg [(.val (.int .i64 0)), (.ro true 1 [])])))), (oN (.store 2 (.tmp 6) (.tmp 35))), (mV 7 36)]
 (sr [(mV 37 7)]
 (.cond (.tmp 37) (sr [(mV 38 0), (mV 39 0), (oP 40 (.nilc (.tmp 39))), (oP 41 (.faddr 10 (.tmp 40))), (oP 42 (.load false 1 (.tmp 41))), (mV 43 42), ⟨(some 44), (.load true 2 (.tmp 5)), (some (43, false))⟩, ⟨(some 45), (.load true 2 (.tmp 6)), (some (43, false))⟩, ⟨(some 46), (.call 15 [(.tmp 44), (.tmp 45)]), (some (43, false))⟩, ⟨(some 47), (.un .not (.tmp 46)), (some (43, false))⟩, (oP 48 (.pick (.tmp 43) kT (.tmp 47))), (oP 49 (.nilc (.tmp 38))), (oP 50 (.faddr 10 (.tmp 49))), (oN (.store 1 (.tmp 50) (.tmp 48)))]
 a9_c0) .skip)))
 a9_c1)))⟩
theorem c9 : compFunc Tryd.prog 9 = some a9 := by kernel_rfl
def Z20 (r : Tchecker) : AV → Heap → Nat → Prop := fun v h' n' => ∃ z0 : Bool, (z0 = true → r.f_todo = []) ∧ v = (.tup []) ∧ (h' = (upd (upd (upd e0 0 (some (.cells 11 [[.ro false 4 (r.f_p.Funcs.map e_TJFunc), .ro false 3 (r.f_p.Consts.map e_TJVal), .ro false 1 (r.f_p.Shapes.map (eSl 1 eStr)), cI r.f_f.Params, cI r.f_f.Slots, .ro false 1 (r.f_f.Caught.map eI), .ro false 2 (r.f_f.Code.map e_TJIns), cI r.f_own, .mp 1, lstC z0 3 1 r.f_todo.length, cB r.f_bad]]))) 1 (mapB (.i .i64) (fun x => cI x) (fun (x : Tstate) => (.agg [cI x.f_height, .ro false 1 (x.f_tries.map eI)])) r.f_seen)) 3 (lstB z0 1 (r.f_todo.map eI)))) ∧ n' = 4
abbrev Z4a (o : Tchecker) : AExit → St → Prop := AThen (Sv Tryd.prog GG 3 a9_c1 (Ends a9.results 3 (Z20 o))) (Ends a9.results 3 (Z20 o))
noncomputable def Z1h (c_ : Tchecker) (c9 : (List Int)) (c10 : Bool) : Option Tchecker :=
 some (⟨c_.f_p, c_.f_f, c_.f_own, c_.f_seen, c9, c10⟩ : Tchecker)
theorem Z2z {c_ : Tchecker} {c9 : (List Int)} {c10 : Bool} {zc9 : Bool} (hzc9 : zc9 = true → c9 = []) {o : Tchecker} (h : Z1h c_ c9 c10 = some o) :
  Sv Tryd.prog GG 3 a9_c0 (Z4a o) ⟨(upd e0 0 (some (.c (.ref 0 11 0 0)))), (upd (upd (upd e0 0 (some (.cells 11 [[.ro false 4 (c_.f_p.Funcs.map e_TJFunc), .ro false 3 (c_.f_p.Consts.map e_TJVal), .ro false 1 (c_.f_p.Shapes.map (eSl 1 eStr)), cI c_.f_f.Params, cI c_.f_f.Slots, .ro false 1 (c_.f_f.Caught.map eI), .ro false 2 (c_.f_f.Code.map e_TJIns), cI c_.f_own, .mp 1, lstC zc9 2 1 c9.length, cB c10]]))) 1 (mapB (.i .i64) (fun x => cI x) (fun (x : Tstate) => (.agg [cI x.f_height, .ro false 1 (x.f_tries.map eI)])) c_.f_seen)) 2 (lstB zc9 1 (c9.map eI))), 3⟩ := by
 unfold Z1h at h
 refine Sv.ret ?_
 replace h := Option.some.inj h
 subst h
 exact ⟨_, .refl _, _, rfl, ⟨upd e0 0 (some (.tup [])), (upd (upd (upd e0 0 (some (.cells 11 [[.ro false 4 (c_.f_p.Funcs.map e_TJFunc), .ro false 3 (c_.f_p.Consts.map e_TJVal), .ro false 1 (c_.f_p.Shapes.map (eSl 1 eStr)), cI c_.f_f.Params, cI c_.f_f.Slots, .ro false 1 (c_.f_f.Caught.map eI), .ro false 2 (c_.f_f.Code.map e_TJIns), cI c_.f_own, .mp 1, lstC zc9 3 1 c9.length, cB c10]]))) 1 (mapB (.i .i64) (fun x => cI x) (fun (x : Tstate) => (.agg [cI x.f_height, .ro false 1 (x.f_tries.map eI)])) c_.f_seen)) 3 (lstB zc9 1 (c9.map eI))), 4⟩, (.tup []), weak_canon2 [0, 1, 2, 2] [0, 1, 3] (by decide) (by decide) (by decide) (.cons (by decide) (.cons (by decide) (.cons (by decide) .nil))) (.cons rfl (avAs_tup .nil) .nil) (.row (by decide) rfl (fr_map fun _ => rfl) (.box (by decide) rfl .map (.box (by decide) rfl (blkAs_cells (.sm rfl (.sm rfl (.sm rfl (.sm rfl (.sm rfl (.sm rfl (.sm rfl (.sm rfl (.cons (.mp rfl (by decide)) (.cons (lstC_ren rfl (by decide)) (.sm rfl .nil)))))))))))) .nil))), rfl, zc9, hzc9, rfl, rfl, rfl⟩
/-- (*clerestory/code.checker).reach -/
noncomputable def Z5 (c_ : Tchecker) (at_ : Int) (s_ : Tstate) : Option Tchecker :=
 if (((decide (at_ < 0)) || (decide ((c_.f_f.Code.length : Int) ≤ at_))) || (decide (s_.f_height < 0))) then
  some (⟨c_.f_p, c_.f_f, c_.f_own, c_.f_seen, c_.f_todo, true⟩ : Tchecker)
 else
  if (mget c_.f_seen at_).isSome then
   if c_.f_bad then
    Z1h c_ c_.f_todo true
   else
    (Z1g s_ ((mget c_.f_seen at_).getD ((⟨0, []⟩ : Tstate) : Tstate))).bind fun r_ =>
    Z1h c_ c_.f_todo (!r_)
  else
   letIn (mset c_.f_seen at_ s_) fun mp : (List (Int × Tstate)) =>
   (app? 8 c_.f_todo [at_]).bind fun r_1 =>
   some (⟨c_.f_p, c_.f_f, c_.f_own, mp, r_1, c_.f_bad⟩ : Tchecker)
theorem Zj {c_ : Tchecker} {at_ : Int} {s_ : Tstate} {zc : Bool} (hzc : zc = true → c_.f_todo = []) {r : Tchecker} (h : Z5 c_ at_ s_ = some r) : ACalls Tryd.prog GG 9 [(.c (.ref 0 11 0 0)), (I at_), (.agg [cI s_.f_height, .ro false 1 (s_.f_tries.map eI)])] (upd (upd (upd e0 0 (some (.cells 11 [[.ro false 4 (c_.f_p.Funcs.map e_TJFunc), .ro false 3 (c_.f_p.Consts.map e_TJVal), .ro false 1 (c_.f_p.Shapes.map (eSl 1 eStr)), cI c_.f_f.Params, cI c_.f_f.Slots, .ro false 1 (c_.f_f.Caught.map eI), .ro false 2 (c_.f_f.Code.map e_TJIns), cI c_.f_own, .mp 1, lstC zc 2 1 c_.f_todo.length, cB c_.f_bad]]))) 1 (mapB (.i .i64) (fun x => cI x) (fun (x : Tstate) => (.agg [cI x.f_height, .ro false 1 (x.f_tries.map eI)])) c_.f_seen)) 2 (lstB zc 1 (c_.f_todo.map eI))) 3 (Z20 r) := by
 refine acalls_of_sv hmix c9 (R := Z20 r) ?_
 unfold Z5 at h
 refine ssr <| un <| a2v (v := (.c (.ref 3 2 0 0))) (h' := upd _ 3 (some (.cells 2 [[cI s_.f_height, .ro false 1 (s_.f_tries.map eI)]]))) (n' := 4) rfl rfl hcs <| dnil <| Sv.seq <| ssr <| un1 rfl <| un1 (v := (B (decide (at_ < 0)))) rfl <| un1 rfl ?_
 refine gjoin 9 (d := 19) (v := (B ((decide (at_ < 0)) || (decide ((c_.f_f.Code.length : Int) ≤ at_))))) (fun X hX => ?_) ?_
 ·refine split2 (fun hc1 => ?_) (fun hc1 => ?_)
  ·repeat (first | refine gu rfl ?_ | refine gs rfl rfl ?_)
   refine un1 (v := (B true)) rfl <| dnil ?_
   exact hX _ (.putEq (by rw [hc1]; rfl) (by repeat (first | exact .putEq (by rw [hc1]) (.refl _) | refine .skp ?_ rfl)))
  ·refine gt rfl <| a1 rfl <| gt rfl <| a1 rfl <| gt rfl <| a1 (v := (.c (.ref 0 11 0 0))) rfl <| gt rfl <| a1 (v := (.c (.ref 0 11 0 3))) rfl <| gt rfl <| a1 (v := (.c (.ref 0 11 0 6))) rfl <| gt rfl <| a1 (v := (.c (.ro false 2 (c_.f_f.Code.map e_TJIns)))) rfl <| gt rfl <| a1 (v := (I (c_.f_f.Code.length : Int))) (s_len (e := e_TJIns) (xs := c_.f_f.Code) rfl) <| gt rfl <| a1 (v := (B (decide ((c_.f_f.Code.length : Int) ≤ at_)))) rfl <| un1 (v := (B (decide ((c_.f_f.Code.length : Int) ≤ at_)))) rfl <| dnil ?_
   exact hX _ (.putEq (by rw [hc1]; rfl) (by repeat (first | exact .putEq (by rw [hc1]) (.refl _) | refine .skp ?_ rfl)))
 refine un1 rfl ?_
 refine gjoin 4 (d := 24) (v := (B (((decide (at_ < 0)) || (decide ((c_.f_f.Code.length : Int) ≤ at_))) || (decide (s_.f_height < 0))))) (fun X hX => ?_) ?_
 ·refine split2 (fun hc2 => ?_) (fun hc2 => ?_)
  ·refine gs rfl rfl <| gs rfl rfl <| gs rfl rfl <| un1 (v := (B true)) rfl <| dnil ?_
   exact hX _ (.putEq (by rw [hc2]; rfl) (.skp (.skp (.skp (.putEq (by rw [hc2]) (.refl _)) rfl) rfl) rfl))
  ·refine gt rfl <| a1 (v := (.c (.ref 3 2 0 0))) rfl <| gt rfl <| a1 (v := (I s_.f_height)) rfl <| gt rfl <| a1 (v := (B (decide (s_.f_height < 0)))) rfl <| un1 (v := (B (decide (s_.f_height < 0)))) rfl <| dnil ?_
   exact hX _ (.putEq (by rw [hc2]; rfl) (.skp (.skp (.skp (.putEq (by rw [hc2]) (.refl _)) rfl) rfl) rfl))
 refine dnil ?_
 refine Sv.cnd rfl h (fun h => ?_) fun h => ?_
 ·refine ssr <| un1 rfl <| un1 (v := (.c (.ref 0 11 0 0))) rfl <| un1 (v := (.c (.ref 0 11 0 10))) rfl <| un <| a2n (h' := upd _ 0 (some (.cells 11 [[.ro false 4 (c_.f_p.Funcs.map e_TJFunc), .ro false 3 (c_.f_p.Consts.map e_TJVal), .ro false 1 (c_.f_p.Shapes.map (eSl 1 eStr)), cI c_.f_f.Params, cI c_.f_f.Slots, .ro false 1 (c_.f_f.Caught.map eI), .ro false 2 (c_.f_f.Code.map e_TJIns), cI c_.f_own, .mp 1, lstC zc 2 1 c_.f_todo.length, cB true]]))) (n' := 4) rfl rfl hcs <| dnil <| Sv.ret ?_
  replace h := Option.some.inj h
  subst h
  exact ⟨_, .refl _, _, rfl, ⟨upd e0 0 (some (.tup [])), (upd (upd (upd e0 0 (some (.cells 11 [[.ro false 4 (c_.f_p.Funcs.map e_TJFunc), .ro false 3 (c_.f_p.Consts.map e_TJVal), .ro false 1 (c_.f_p.Shapes.map (eSl 1 eStr)), cI c_.f_f.Params, cI c_.f_f.Slots, .ro false 1 (c_.f_f.Caught.map eI), .ro false 2 (c_.f_f.Code.map e_TJIns), cI c_.f_own, .mp 1, lstC zc 3 1 c_.f_todo.length, cB true]]))) 1 (mapB (.i .i64) (fun x => cI x) (fun (x : Tstate) => (.agg [cI x.f_height, .ro false 1 (x.f_tries.map eI)])) c_.f_seen)) 3 (lstB zc 1 (c_.f_todo.map eI))), 4⟩, (.tup []), weak_canon2 [0, 1, 2, 2] [0, 1, 3] (by decide) (by decide) (by decide) (.cons (by decide) (.cons (by decide) (.cons (by decide) .nil))) (.cons rfl (avAs_tup .nil) .nil) (.row (by decide) rfl (fr_map fun _ => rfl) (.box (by decide) rfl .map (.box (by decide) rfl (blkAs_cells (.sm rfl (.sm rfl (.sm rfl (.sm rfl (.sm rfl (.sm rfl (.sm rfl (.sm rfl (.cons (.mp rfl (by decide)) (.cons (lstC_ren rfl (by decide)) (.sm rfl .nil)))))))))))) .nil))), rfl, zc, hzc, rfl, rfl, rfl⟩
 ·refine Sv.skip <| Sv.seq <| ssr <| un1 rfl <| un1 (v := (.c (.ref 0 11 0 0))) rfl <| un1 (v := (.c (.ref 0 11 0 8))) rfl <| un1 (v := (.c (.mp 1))) rfl <| un1 rfl <| un1 (v := (.tup [(.agg [cI (((mget c_.f_seen at_).getD ((⟨0, []⟩ : Tstate) : Tstate)).f_height), .ro false 1 ((((mget c_.f_seen at_).getD ((⟨0, []⟩ : Tstate) : Tstate)).f_tries).map eI)]), (B ((mget c_.f_seen at_).isSome))])) (s_mlook2 (ek := (fun x => cI x)) (ev := (fun (x : Tstate) => (.agg [cI x.f_height, .ro false 1 (x.f_tries.map eI)]))) (l := c_.f_seen) (key := at_) (z := (⟨0, []⟩ : Tstate)) (fun _ _ => rfl) rfl rfl rfl rfl rfl) <| un1 rfl <| un1 (v := (.agg [cI (((mget c_.f_seen at_).getD ((⟨0, []⟩ : Tstate) : Tstate)).f_height), .ro false 1 ((((mget c_.f_seen at_).getD ((⟨0, []⟩ : Tstate) : Tstate)).f_tries).map eI)])) rfl <| un1 (v := (B ((mget c_.f_seen at_).isSome))) rfl <| un <| a2v (v := (.c (.ref 4 2 0 0))) (h' := upd _ 4 (some (.cells 2 [[cI 0, .ro true 1 []]]))) (n' := 5) rfl rfl hcs <| un <| a2n (h' := upd _ 4 (some (.cells 2 [[cI (((mget c_.f_seen at_).getD ((⟨0, []⟩ : Tstate) : Tstate)).f_height), .ro false 1 ((((mget c_.f_seen at_).getD ((⟨0, []⟩ : Tstate) : Tstate)).f_tries).map eI)]]))) (n' := 5) rfl rfl hcs <| un1 rfl <| dnil <| ssr <| un1 rfl <| dnil ?_
  refine Sv.cnd rfl h (fun h => ?_) fun h => ?_
  ·refine ssr <| un1 rfl <| un1 rfl <| un1 (v := (.c (.ref 0 11 0 0))) rfl <| un1 (v := (.c (.ref 0 11 0 10))) rfl <| un1 (v := (B c_.f_bad)) rfl <| un1 rfl ?_
   refine spl h (fun h => ?_) fun h => ?_
   ·refine gs rfl rfl <| gs rfl rfl <| gs rfl rfl <| gs rfl rfl <| un1 (v := (B true)) rfl <| un1 (v := (.c (.ref 0 11 0 0))) rfl <| un1 (v := (.c (.ref 0 11 0 10))) rfl <| un <| a2n (h' := upd _ 0 (some (.cells 11 [[.ro false 4 (c_.f_p.Funcs.map e_TJFunc), .ro false 3 (c_.f_p.Consts.map e_TJVal), .ro false 1 (c_.f_p.Shapes.map (eSl 1 eStr)), cI c_.f_f.Params, cI c_.f_f.Slots, .ro false 1 (c_.f_f.Caught.map eI), .ro false 2 (c_.f_f.Code.map e_TJIns), cI c_.f_own, .mp 1, lstC zc 2 1 c_.f_todo.length, cB true]]))) (n' := 5) rfl rfl hcs <| dnil ?_
    exact Sv.weak (weak_canon [0, 1, 2] rfl (by decide) (by decide) (by decide) (.cr rfl rfl rfl .nil) (.row (by decide) rfl (fr_map fun _ => rfl) (.box (by decide) rfl .map (.box (by decide) rfl (blkAs_cells (.sm rfl (.sm rfl (.sm rfl (.sm rfl (.sm rfl (.sm rfl (.sm rfl (.sm rfl (.cons (.mp rfl (by decide)) (.cons (lstC_ren rfl (by decide)) (.sm rfl .nil)))))))))))) .nil)))) (Z2z hzc h)
   ·refine gt rfl <| a1 (v := (.agg [cI s_.f_height, .ro false 1 (s_.f_tries.map eI)])) rfl <| gt rfl <| a1 (v := (.agg [cI (((mget c_.f_seen at_).getD ((⟨0, []⟩ : Tstate) : Tstate)).f_height), .ro false 1 ((((mget c_.f_seen at_).getD ((⟨0, []⟩ : Tstate) : Tstate)).f_tries).map eI)])) rfl ?_
    obtain ⟨r_, hr1, h⟩ := bnd h
    refine gt rfl <| ac_pure (Z49 hr1) rfl rfl rfl <| gt rfl <| a1 (v := (B (!r_))) rfl <| un1 (v := (B (!r_))) rfl <| un1 (v := (.c (.ref 0 11 0 0))) rfl <| un1 (v := (.c (.ref 0 11 0 10))) rfl <| un <| a2n (h' := upd _ 0 (some (.cells 11 [[.ro false 4 (c_.f_p.Funcs.map e_TJFunc), .ro false 3 (c_.f_p.Consts.map e_TJVal), .ro false 1 (c_.f_p.Shapes.map (eSl 1 eStr)), cI c_.f_f.Params, cI c_.f_f.Slots, .ro false 1 (c_.f_f.Caught.map eI), .ro false 2 (c_.f_f.Code.map e_TJIns), cI c_.f_own, .mp 1, lstC zc 2 1 c_.f_todo.length, cB (!r_)]]))) (n' := 5) rfl rfl hcs <| dnil ?_
    exact Sv.weak (weak_canon [0, 1, 2] rfl (by decide) (by decide) (by decide) (.cr rfl rfl rfl .nil) (.row (by decide) rfl (fr_map fun _ => rfl) (.box (by decide) rfl .map (.box (by decide) rfl (blkAs_cells (.sm rfl (.sm rfl (.sm rfl (.sm rfl (.sm rfl (.sm rfl (.sm rfl (.sm rfl (.cons (.mp rfl (by decide)) (.cons (lstC_ren rfl (by decide)) (.sm rfl .nil)))))))))))) .nil)))) (Z2z hzc h)
  ·refine Sv.skip <| Sv.seq <| Sv.drawn <| un1 rfl <| un1 (v := (.c (.ref 0 11 0 0))) rfl <| un1 (v := (.c (.ref 0 11 0 8))) rfl <| un1 (v := (.c (.mp 1))) rfl <| un1 rfl <| un1 (v := (.agg [cI s_.f_height, .ro false 1 (s_.f_tries.map eI)])) rfl ?_
   obtain ⟨mp, hmp⟩ : ∃ mp : (List (Int × Tstate)), mp = (mset c_.f_seen at_ s_) := ⟨_, rfl⟩
   replace h := letAt hmp h
   refine un <| a2n (h' := upd _ 1 (mapB (.i .i64) (fun x => cI x) (fun (x : Tstate) => (.agg [cI x.f_height, .ro false 1 (x.f_tries.map eI)])) mp)) (n' := 5) rfl (by rw [hmp]; exact s_mput (ek := (fun x => cI x)) (ev := (fun (x : Tstate) => (.agg [cI x.f_height, .ro false 1 (x.f_tries.map eI)]))) (l := c_.f_seen) (key := at_) (val := s_) (fun _ _ => rfl) rfl rfl rfl rfl rfl rfl) hcs ?_
   clear hmp
   refine dnil <| srg <| un1 rfl <| un1 rfl <| un1 (v := (.c (.ref 0 11 0 0))) rfl <| un1 (v := (.c (.ref 0 11 0 9))) rfl <| un1 (v := (lstV zc 2 1 c_.f_todo.length)) rfl <| un1 rfl <| un <| a2v (v := (lstV false 5 1 [at_].length)) (h' := upd _ 5 (lstB false 1 ([at_].map eI))) (n' := 6) rfl rfl hcs ?_
   obtain ⟨r_1, hr2, h⟩ := bnd h
   have hz1 : (zc && [at_].isEmpty) = true → r_1 = [] := app_nil (z := zc) (ys := [at_]) hzc hr2
   refine un <| a2v rfl (s_app (xs := c_.f_todo) (ys := [at_]) (e := eI) (z := zc) (b := 2) rfl rfl hzc rfl rfl (slc_lst rfl (List.length_map _).symm (map_nil_of hcs)) hr2) hcs <| un1 (v := (.c (.ref 0 11 0 0))) rfl <| un1 (v := (.c (.ref 0 11 0 9))) rfl <| un <| a2n (h' := upd _ 0 (some (.cells 11 [[.ro false 4 (c_.f_p.Funcs.map e_TJFunc), .ro false 3 (c_.f_p.Consts.map e_TJVal), .ro false 1 (c_.f_p.Shapes.map (eSl 1 eStr)), cI c_.f_f.Params, cI c_.f_f.Slots, .ro false 1 (c_.f_f.Caught.map eI), .ro false 2 (c_.f_f.Code.map e_TJIns), cI c_.f_own, .mp 1, lstC (zc && [at_].isEmpty) 6 1 r_1.length, cB c_.f_bad]]))) (n' := 7) rfl rfl hcs <| dnil ?_
   replace h := Option.some.inj h
   subst h
   exact ⟨_, .refl _, _, rfl, ⟨upd e0 0 (some (.tup [])), (upd (upd (upd e0 0 (some (.cells 11 [[.ro false 4 (c_.f_p.Funcs.map e_TJFunc), .ro false 3 (c_.f_p.Consts.map e_TJVal), .ro false 1 (c_.f_p.Shapes.map (eSl 1 eStr)), cI c_.f_f.Params, cI c_.f_f.Slots, .ro false 1 (c_.f_f.Caught.map eI), .ro false 2 (c_.f_f.Code.map e_TJIns), cI c_.f_own, .mp 1, lstC (zc && [at_].isEmpty) 3 1 r_1.length, cB c_.f_bad]]))) 1 (mapB (.i .i64) (fun x => cI x) (fun (x : Tstate) => (.agg [cI x.f_height, .ro false 1 (x.f_tries.map eI)])) mp)) 3 (lstB (zc && [at_].isEmpty) 1 (r_1.map eI))), 4⟩, (.tup []), weak_canon2 [0, 1, 2, 6] [0, 1, 3] (by decide) (by decide) (by decide) (.cons (by decide) (.cons (by decide) (.cons (by decide) .nil))) (.cons rfl (avAs_tup .nil) .nil) (.row (by decide) rfl (fr_map fun _ => rfl) (.box (by decide) rfl .map (.box (by decide) rfl (blkAs_cells (.sm rfl (.sm rfl (.sm rfl (.sm rfl (.sm rfl (.sm rfl (.sm rfl (.sm rfl (.cons (.mp rfl (by decide)) (.cons (lstC_ren rfl (by decide)) (.sm rfl .nil)))))))))))) .nil))), rfl, (zc && [at_].isEmpty), hz1, rfl, rfl, rfl⟩
def a14_clerestory_code_checker_bound1_c2 : ACode := (.cond (.tmp 42) (sr [(oP 4 (.mov (kI 401)))]
 .ret) (sr [(oP 46 (.bin .eql (.tmp 6) (kI 13))), (mV 45 46)]
 (.cond (.tmp 45) (sr [(mV 47 0), (oP 48 (.nilc (.tmp 47))), (oP 49 (.faddr 0 (.tmp 48))), (oP 50 (.faddr 2 (.tmp 49))), (oP 51 (.load false 1 (.tmp 50))), (oP 52 (.len (.tmp 51))), (mV 4 52)]
 .ret) (sr [(oP 54 (.bin .eql (.tmp 6) (kI 16))), (mV 53 54)]
 (.cond (.tmp 53) (sr [(mV 55 0), (oP 56 (.nilc (.tmp 55))), (oP 57 (.faddr 0 (.tmp 56))), (oP 58 (.faddr 0 (.tmp 57))), (oP 59 (.load false 1 (.tmp 58))), (oP 60 (.len (.tmp 59))), (mV 4 60)]
 .ret) .skip)))))
def a14_clerestory_code_checker_bound1_c1 : ACode := (.cond (.tmp 31) (sr [(mV 36 0), (oP 37 (.nilc (.tmp 36))), (oP 38 (.faddr 3 (.tmp 37))), (oP 39 (.faddr 3 (.tmp 38))), (oP 40 (.load false 1 (.tmp 39))), (oP 41 (.len (.tmp 40))), (mV 4 41)]
 .ret) (.seq (sr [(oP 43 (.bin .eql (.tmp 6) (kI 12))), (mV 42 43)]
 (.cond (.tmp 42) .skip (.region [(oP 44 (.bin .eql (.tmp 6) (kI 17))), (mV 42 44)])))
 a14_clerestory_code_checker_bound1_c2))
def a14_clerestory_code_checker_bound1_c0 : ACode := (.cond (.tmp 15) (sr [(mV 20 0), (oP 21 (.nilc (.tmp 20))), (oP 22 (.faddr 3 (.tmp 21))), (oP 23 (.faddr 1 (.tmp 22))), (oP 24 (.load false 1 (.tmp 23))), (mV 4 24)]
 .ret) (sr [(oP 26 (.bin .eql (.tmp 6) (kI 7))), (mV 25 26)]
 (.cond (.tmp 25) (sr [(oP 4 (.mov (kI 2)))]
 .ret) (sr [(oP 28 (.bin .eql (.tmp 6) (kI 8))), (mV 27 28)]
 (.cond (.tmp 27) (sr [(oP 29 (.call 19 [])), (oP 30 (.len (.tmp 29))), (mV 4 30)]
 .ret) (.seq (sr [(oP 32 (.bin .eql (.tmp 6) (kI 9))), (mV 31 32)]
 (.cond (.tmp 31) .skip (sr [(oP 33 (.bin .eql (.tmp 6) (kI 10))), (mV 31 33)]
 (.cond (.tmp 31) .skip (sr [(oP 34 (.bin .eql (.tmp 6) (kI 20))), (mV 31 34)]
 (.cond (.tmp 31) .skip (.region [(oP 35 (.bin .eql (.tmp 6) (kI 24))), (mV 31 35)])))))))
 a14_clerestory_code_checker_bound1_c1))))))
def a14_clerestory_code_checker_bound1_c3 : ACode := (sr [(oP 4 (.mov (kI 1)))]
 .ret)
def Z21 (r : (Int × Tchecker)) : AV → Heap → Nat → Prop := fun v h' n' => ∃ z0 : Bool, (z0 = true → r.2.f_todo = []) ∧ v = (I r.1) ∧ (h' = (upd (upd (upd e0 0 (some (.cells 11 [[.ro false 4 (r.2.f_p.Funcs.map e_TJFunc), .ro false 3 (r.2.f_p.Consts.map e_TJVal), .ro false 1 (r.2.f_p.Shapes.map (eSl 1 eStr)), cI r.2.f_f.Params, cI r.2.f_f.Slots, .ro false 1 (r.2.f_f.Caught.map eI), .ro false 2 (r.2.f_f.Code.map e_TJIns), cI r.2.f_own, .mp 1, lstC z0 3 1 r.2.f_todo.length, cB r.2.f_bad]]))) 1 (mapB (.i .i64) (fun x => cI x) (fun (x : Tstate) => (.agg [cI x.f_height, .ro false 1 (x.f_tries.map eI)])) r.2.f_seen)) 3 (lstB z0 1 (r.2.f_todo.map eI)))) ∧ n' = 4
abbrev Z4b (o : (Int × Tchecker)) : AExit → St → Prop := AThen (Sv Tryd.prog GG 3 a14_clerestory_code_checker_bound1_c3 (Ends a14.results 3 (Z21 o))) (Ends a14.results 3 (Z21 o))
abbrev Z2b (o : (Int × Tchecker)) : AExit → St → Prop := ABlock 0 (Z4b o)
noncomputable def Z1i (c_ : Tchecker) (i_ : TJIns) (c92 : (List Int)) (v42 : Bool) : Option (Int × Tchecker) :=
 if v42 then
  some (401, (⟨c_.f_p, c_.f_f, c_.f_own, c_.f_seen, c92, c_.f_bad⟩ : Tchecker))
 else
  if decide (i_.Do = 13) then
   some ((c_.f_p.Shapes.length : Int), (⟨c_.f_p, c_.f_f, c_.f_own, c_.f_seen, c92, c_.f_bad⟩ : Tchecker))
  else
   if decide (i_.Do = 16) then
    some ((c_.f_p.Funcs.length : Int), (⟨c_.f_p, c_.f_f, c_.f_own, c_.f_seen, c92, c_.f_bad⟩ : Tchecker))
   else
    some (1, (⟨c_.f_p, c_.f_f, c_.f_own, c_.f_seen, c92, c_.f_bad⟩ : Tchecker))
theorem Z30 {c_ : Tchecker} {i_ : TJIns} {c92 : (List Int)} {v42 : Bool} {zc92 : Bool} (hzc92 : zc92 = true → c92 = []) {o : (Int × Tchecker)} (h : Z1i c_ i_ c92 v42 = some o) :
  Sv Tryd.prog GG 3 a14_clerestory_code_checker_bound1_c2 (Z2b o) ⟨(ue [(42, (B v42)), (6, (I i_.Do)), (0, (.c (.ref 0 11 0 0)))]), (upd (upd (upd e0 0 (some (.cells 11 [[.ro false 4 (c_.f_p.Funcs.map e_TJFunc), .ro false 3 (c_.f_p.Consts.map e_TJVal), .ro false 1 (c_.f_p.Shapes.map (eSl 1 eStr)), cI c_.f_f.Params, cI c_.f_f.Slots, .ro false 1 (c_.f_f.Caught.map eI), .ro false 2 (c_.f_f.Code.map e_TJIns), cI c_.f_own, .mp 1, lstC zc92 2 1 c92.length, cB c_.f_bad]]))) 1 (mapB (.i .i64) (fun x => cI x) (fun (x : Tstate) => (.agg [cI x.f_height, .ro false 1 (x.f_tries.map eI)])) c_.f_seen)) 2 (lstB zc92 1 (c92.map eI))), 3⟩ := by
 unfold Z1i at h
 refine Sv.cnd rfl h (fun h => ?_) fun h => ?_
 ·refine ssr <| un1 rfl <| dnil <| Sv.ret ?_
  replace h := Option.some.inj h
  subst h
  exact ⟨_, .refl _, _, rfl, ⟨upd e0 0 (some (I 401)), (upd (upd (upd e0 0 (some (.cells 11 [[.ro false 4 (c_.f_p.Funcs.map e_TJFunc), .ro false 3 (c_.f_p.Consts.map e_TJVal), .ro false 1 (c_.f_p.Shapes.map (eSl 1 eStr)), cI c_.f_f.Params, cI c_.f_f.Slots, .ro false 1 (c_.f_f.Caught.map eI), .ro false 2 (c_.f_f.Code.map e_TJIns), cI c_.f_own, .mp 1, lstC zc92 3 1 c92.length, cB c_.f_bad]]))) 1 (mapB (.i .i64) (fun x => cI x) (fun (x : Tstate) => (.agg [cI x.f_height, .ro false 1 (x.f_tries.map eI)])) c_.f_seen)) 3 (lstB zc92 1 (c92.map eI))), 4⟩, (I 401), weak_canon2 [0, 1, 2, 2] [0, 1, 3] (by decide) (by decide) (by decide) (.cons (by decide) (.cons (by decide) (.cons (by decide) .nil))) (.cf rfl rfl .nil) (.row (by decide) rfl (fr_map fun _ => rfl) (.box (by decide) rfl .map (.box (by decide) rfl (blkAs_cells (.sm rfl (.sm rfl (.sm rfl (.sm rfl (.sm rfl (.sm rfl (.sm rfl (.sm rfl (.cons (.mp rfl (by decide)) (.cons (lstC_ren rfl (by decide)) (.sm rfl .nil)))))))))))) .nil))), rfl, zc92, hzc92, rfl, rfl, rfl⟩
 ·refine ssr <| un1 (v := (B (decide (i_.Do = 13)))) rfl <| un1 rfl <| dnil ?_
  refine Sv.cnd rfl h (fun h => ?_) fun h => ?_
  ·refine ssr <| un1 rfl <| un1 (v := (.c (.ref 0 11 0 0))) rfl <| un1 (v := (.c (.ref 0 11 0 0))) rfl <| un1 (v := (.c (.ref 0 11 0 2))) rfl <| un1 (v := (.c (.ro false 1 (c_.f_p.Shapes.map (eSl 1 eStr))))) rfl <| un1 (v := (I (c_.f_p.Shapes.length : Int))) (s_len (e := (eSl 1 eStr)) (xs := c_.f_p.Shapes) rfl) <| un1 rfl <| dnil <| Sv.ret ?_
   replace h := Option.some.inj h
   subst h
   exact ⟨_, .refl _, _, rfl, ⟨upd e0 0 (some (I (c_.f_p.Shapes.length : Int))), (upd (upd (upd e0 0 (some (.cells 11 [[.ro false 4 (c_.f_p.Funcs.map e_TJFunc), .ro false 3 (c_.f_p.Consts.map e_TJVal), .ro false 1 (c_.f_p.Shapes.map (eSl 1 eStr)), cI c_.f_f.Params, cI c_.f_f.Slots, .ro false 1 (c_.f_f.Caught.map eI), .ro false 2 (c_.f_f.Code.map e_TJIns), cI c_.f_own, .mp 1, lstC zc92 3 1 c92.length, cB c_.f_bad]]))) 1 (mapB (.i .i64) (fun x => cI x) (fun (x : Tstate) => (.agg [cI x.f_height, .ro false 1 (x.f_tries.map eI)])) c_.f_seen)) 3 (lstB zc92 1 (c92.map eI))), 4⟩, (I (c_.f_p.Shapes.length : Int)), weak_canon2 [0, 1, 2, 2] [0, 1, 3] (by decide) (by decide) (by decide) (.cons (by decide) (.cons (by decide) (.cons (by decide) .nil))) (.cf rfl rfl .nil) (.row (by decide) rfl (fr_map fun _ => rfl) (.box (by decide) rfl .map (.box (by decide) rfl (blkAs_cells (.sm rfl (.sm rfl (.sm rfl (.sm rfl (.sm rfl (.sm rfl (.sm rfl (.sm rfl (.cons (.mp rfl (by decide)) (.cons (lstC_ren rfl (by decide)) (.sm rfl .nil)))))))))))) .nil))), rfl, zc92, hzc92, rfl, rfl, rfl⟩
  ·refine ssr <| un1 (v := (B (decide (i_.Do = 16)))) rfl <| un1 rfl <| dnil ?_
   refine Sv.cnd rfl h (fun h => ?_) fun h => ?_
   ·refine ssr <| un1 rfl <| un1 (v := (.c (.ref 0 11 0 0))) rfl <| un1 (v := (.c (.ref 0 11 0 0))) rfl <| un1 (v := (.c (.ref 0 11 0 0))) rfl <| un1 (v := (.c (.ro false 4 (c_.f_p.Funcs.map e_TJFunc)))) rfl <| un1 (v := (I (c_.f_p.Funcs.length : Int))) (s_len (e := e_TJFunc) (xs := c_.f_p.Funcs) rfl) <| un1 rfl <| dnil <| Sv.ret ?_
    replace h := Option.some.inj h
    subst h
    exact ⟨_, .refl _, _, rfl, ⟨upd e0 0 (some (I (c_.f_p.Funcs.length : Int))), (upd (upd (upd e0 0 (some (.cells 11 [[.ro false 4 (c_.f_p.Funcs.map e_TJFunc), .ro false 3 (c_.f_p.Consts.map e_TJVal), .ro false 1 (c_.f_p.Shapes.map (eSl 1 eStr)), cI c_.f_f.Params, cI c_.f_f.Slots, .ro false 1 (c_.f_f.Caught.map eI), .ro false 2 (c_.f_f.Code.map e_TJIns), cI c_.f_own, .mp 1, lstC zc92 3 1 c92.length, cB c_.f_bad]]))) 1 (mapB (.i .i64) (fun x => cI x) (fun (x : Tstate) => (.agg [cI x.f_height, .ro false 1 (x.f_tries.map eI)])) c_.f_seen)) 3 (lstB zc92 1 (c92.map eI))), 4⟩, (I (c_.f_p.Funcs.length : Int)), weak_canon2 [0, 1, 2, 2] [0, 1, 3] (by decide) (by decide) (by decide) (.cons (by decide) (.cons (by decide) (.cons (by decide) .nil))) (.cf rfl rfl .nil) (.row (by decide) rfl (fr_map fun _ => rfl) (.box (by decide) rfl .map (.box (by decide) rfl (blkAs_cells (.sm rfl (.sm rfl (.sm rfl (.sm rfl (.sm rfl (.sm rfl (.sm rfl (.sm rfl (.cons (.mp rfl (by decide)) (.cons (lstC_ren rfl (by decide)) (.sm rfl .nil)))))))))))) .nil))), rfl, zc92, hzc92, rfl, rfl, rfl⟩
   ·refine Sv.skip <| ssr <| un1 rfl <| dnil <| Sv.ret ?_
    replace h := Option.some.inj h
    subst h
    exact ⟨_, .refl _, _, rfl, ⟨upd e0 0 (some (I 1)), (upd (upd (upd e0 0 (some (.cells 11 [[.ro false 4 (c_.f_p.Funcs.map e_TJFunc), .ro false 3 (c_.f_p.Consts.map e_TJVal), .ro false 1 (c_.f_p.Shapes.map (eSl 1 eStr)), cI c_.f_f.Params, cI c_.f_f.Slots, .ro false 1 (c_.f_f.Caught.map eI), .ro false 2 (c_.f_f.Code.map e_TJIns), cI c_.f_own, .mp 1, lstC zc92 3 1 c92.length, cB c_.f_bad]]))) 1 (mapB (.i .i64) (fun x => cI x) (fun (x : Tstate) => (.agg [cI x.f_height, .ro false 1 (x.f_tries.map eI)])) c_.f_seen)) 3 (lstB zc92 1 (c92.map eI))), 4⟩, (I 1), weak_canon2 [0, 1, 2, 2] [0, 1, 3] (by decide) (by decide) (by decide) (.cons (by decide) (.cons (by decide) (.cons (by decide) .nil))) (.cf rfl rfl .nil) (.row (by decide) rfl (fr_map fun _ => rfl) (.box (by decide) rfl .map (.box (by decide) rfl (blkAs_cells (.sm rfl (.sm rfl (.sm rfl (.sm rfl (.sm rfl (.sm rfl (.sm rfl (.sm rfl (.cons (.mp rfl (by decide)) (.cons (lstC_ren rfl (by decide)) (.sm rfl .nil)))))))))))) .nil))), rfl, zc92, hzc92, rfl, rfl, rfl⟩
noncomputable def Zz (c_ : Tchecker) (i_ : TJIns) (c91 : (List Int)) (v31 : Bool) : Option (Int × Tchecker) :=
 if v31 then
  some ((c_.f_f.Code.length : Int), (⟨c_.f_p, c_.f_f, c_.f_own, c_.f_seen, c91, c_.f_bad⟩ : Tchecker))
 else
  if decide (i_.Do = 12) then
   Z1i c_ i_ c91 (decide (i_.Do = 12))
  else
   Z1i c_ i_ c91 (decide (i_.Do = 17))
theorem Z22 {c_ : Tchecker} {i_ : TJIns} {c91 : (List Int)} {v31 : Bool} {zc91 : Bool} (hzc91 : zc91 = true → c91 = []) {o : (Int × Tchecker)} (h : Zz c_ i_ c91 v31 = some o) :
  Sv Tryd.prog GG 3 a14_clerestory_code_checker_bound1_c1 (Z2b o) ⟨(ue [(31, (B v31)), (6, (I i_.Do)), (0, (.c (.ref 0 11 0 0)))]), (upd (upd (upd e0 0 (some (.cells 11 [[.ro false 4 (c_.f_p.Funcs.map e_TJFunc), .ro false 3 (c_.f_p.Consts.map e_TJVal), .ro false 1 (c_.f_p.Shapes.map (eSl 1 eStr)), cI c_.f_f.Params, cI c_.f_f.Slots, .ro false 1 (c_.f_f.Caught.map eI), .ro false 2 (c_.f_f.Code.map e_TJIns), cI c_.f_own, .mp 1, lstC zc91 2 1 c91.length, cB c_.f_bad]]))) 1 (mapB (.i .i64) (fun x => cI x) (fun (x : Tstate) => (.agg [cI x.f_height, .ro false 1 (x.f_tries.map eI)])) c_.f_seen)) 2 (lstB zc91 1 (c91.map eI))), 3⟩ := by
 unfold Zz at h
 refine Sv.cnd rfl h (fun h => ?_) fun h => ?_
 ·refine ssr <| un1 rfl <| un1 (v := (.c (.ref 0 11 0 0))) rfl <| un1 (v := (.c (.ref 0 11 0 3))) rfl <| un1 (v := (.c (.ref 0 11 0 6))) rfl <| un1 (v := (.c (.ro false 2 (c_.f_f.Code.map e_TJIns)))) rfl <| un1 (v := (I (c_.f_f.Code.length : Int))) (s_len (e := e_TJIns) (xs := c_.f_f.Code) rfl) <| un1 rfl <| dnil <| Sv.ret ?_
  replace h := Option.some.inj h
  subst h
  exact ⟨_, .refl _, _, rfl, ⟨upd e0 0 (some (I (c_.f_f.Code.length : Int))), (upd (upd (upd e0 0 (some (.cells 11 [[.ro false 4 (c_.f_p.Funcs.map e_TJFunc), .ro false 3 (c_.f_p.Consts.map e_TJVal), .ro false 1 (c_.f_p.Shapes.map (eSl 1 eStr)), cI c_.f_f.Params, cI c_.f_f.Slots, .ro false 1 (c_.f_f.Caught.map eI), .ro false 2 (c_.f_f.Code.map e_TJIns), cI c_.f_own, .mp 1, lstC zc91 3 1 c91.length, cB c_.f_bad]]))) 1 (mapB (.i .i64) (fun x => cI x) (fun (x : Tstate) => (.agg [cI x.f_height, .ro false 1 (x.f_tries.map eI)])) c_.f_seen)) 3 (lstB zc91 1 (c91.map eI))), 4⟩, (I (c_.f_f.Code.length : Int)), weak_canon2 [0, 1, 2, 2] [0, 1, 3] (by decide) (by decide) (by decide) (.cons (by decide) (.cons (by decide) (.cons (by decide) .nil))) (.cf rfl rfl .nil) (.row (by decide) rfl (fr_map fun _ => rfl) (.box (by decide) rfl .map (.box (by decide) rfl (blkAs_cells (.sm rfl (.sm rfl (.sm rfl (.sm rfl (.sm rfl (.sm rfl (.sm rfl (.sm rfl (.cons (.mp rfl (by decide)) (.cons (lstC_ren rfl (by decide)) (.sm rfl .nil)))))))))))) .nil))), rfl, zc91, hzc91, rfl, rfl, rfl⟩
 ·refine Sv.seq <| ssr <| un1 (v := (B (decide (i_.Do = 12)))) rfl <| un1 rfl <| dnil ?_
  refine Sv.cnd rfl h (fun h => ?_) fun h => ?_
  ·refine Sv.skip ?_
   exact Sv.weak (weak_canon [0, 1, 2] rfl (by decide) (by decide) (by decide) (.cf rfl rfl (.cf rfl rfl (.cr rfl rfl rfl .nil))) (.row (by decide) rfl (fr_map fun _ => rfl) (.box (by decide) rfl .map (.box (by decide) rfl (blkAs_cells (.sm rfl (.sm rfl (.sm rfl (.sm rfl (.sm rfl (.sm rfl (.sm rfl (.sm rfl (.cons (.mp rfl (by decide)) (.cons (lstC_ren rfl (by decide)) (.sm rfl .nil)))))))))))) .nil)))) (Z30 hzc91 h)
  ·refine srg <| un1 (v := (B (decide (i_.Do = 17)))) rfl <| un1 rfl <| dnil ?_
   exact Sv.weak (weak_canon [0, 1, 2] rfl (by decide) (by decide) (by decide) (.cf rfl rfl (.cf rfl rfl (.cr rfl rfl rfl .nil))) (.row (by decide) rfl (fr_map fun _ => rfl) (.box (by decide) rfl .map (.box (by decide) rfl (blkAs_cells (.sm rfl (.sm rfl (.sm rfl (.sm rfl (.sm rfl (.sm rfl (.sm rfl (.sm rfl (.cons (.mp rfl (by decide)) (.cons (lstC_ren rfl (by decide)) (.sm rfl .nil)))))))))))) .nil)))) (Z30 hzc91 h)
noncomputable def Z10 (c_ : Tchecker) (i_ : TJIns) (c9 : (List Int)) (v15 : Bool) : Option (Int × Tchecker) :=
 if v15 then
  some (c_.f_f.Slots, (⟨c_.f_p, c_.f_f, c_.f_own, c_.f_seen, c9, c_.f_bad⟩ : Tchecker))
 else
  if decide (i_.Do = 7) then
   some (2, (⟨c_.f_p, c_.f_f, c_.f_own, c_.f_seen, c9, c_.f_bad⟩ : Tchecker))
  else
   if decide (i_.Do = 8) then
    (Z1d).bind fun r_ =>
    some ((r_.length : Int), (⟨c_.f_p, c_.f_f, c_.f_own, c_.f_seen, c9, c_.f_bad⟩ : Tchecker))
   else
    if decide (i_.Do = 9) then
     Zz c_ i_ c9 (decide (i_.Do = 9))
    else
     if decide (i_.Do = 10) then
      Zz c_ i_ c9 (decide (i_.Do = 10))
     else
      if decide (i_.Do = 20) then
       Zz c_ i_ c9 (decide (i_.Do = 20))
      else
       Zz c_ i_ c9 (decide (i_.Do = 24))
theorem Z23 {c_ : Tchecker} {i_ : TJIns} {c9 : (List Int)} {v15 : Bool} {zc9 : Bool} (hzc9 : zc9 = true → c9 = []) {o : (Int × Tchecker)} (h : Z10 c_ i_ c9 v15 = some o) :
  Sv Tryd.prog GG 3 a14_clerestory_code_checker_bound1_c0 (Z2b o) ⟨(ue [(15, (B v15)), (6, (I i_.Do)), (0, (.c (.ref 0 11 0 0)))]), (upd (upd (upd e0 0 (some (.cells 11 [[.ro false 4 (c_.f_p.Funcs.map e_TJFunc), .ro false 3 (c_.f_p.Consts.map e_TJVal), .ro false 1 (c_.f_p.Shapes.map (eSl 1 eStr)), cI c_.f_f.Params, cI c_.f_f.Slots, .ro false 1 (c_.f_f.Caught.map eI), .ro false 2 (c_.f_f.Code.map e_TJIns), cI c_.f_own, .mp 1, lstC zc9 2 1 c9.length, cB c_.f_bad]]))) 1 (mapB (.i .i64) (fun x => cI x) (fun (x : Tstate) => (.agg [cI x.f_height, .ro false 1 (x.f_tries.map eI)])) c_.f_seen)) 2 (lstB zc9 1 (c9.map eI))), 3⟩ := by
 unfold Z10 at h
 refine Sv.cnd rfl h (fun h => ?_) fun h => ?_
 ·refine ssr <| un1 rfl <| un1 (v := (.c (.ref 0 11 0 0))) rfl <| un1 (v := (.c (.ref 0 11 0 3))) rfl <| un1 (v := (.c (.ref 0 11 0 4))) rfl <| un1 (v := (I c_.f_f.Slots)) rfl <| un1 rfl <| dnil <| Sv.ret ?_
  replace h := Option.some.inj h
  subst h
  exact ⟨_, .refl _, _, rfl, ⟨upd e0 0 (some (I c_.f_f.Slots)), (upd (upd (upd e0 0 (some (.cells 11 [[.ro false 4 (c_.f_p.Funcs.map e_TJFunc), .ro false 3 (c_.f_p.Consts.map e_TJVal), .ro false 1 (c_.f_p.Shapes.map (eSl 1 eStr)), cI c_.f_f.Params, cI c_.f_f.Slots, .ro false 1 (c_.f_f.Caught.map eI), .ro false 2 (c_.f_f.Code.map e_TJIns), cI c_.f_own, .mp 1, lstC zc9 3 1 c9.length, cB c_.f_bad]]))) 1 (mapB (.i .i64) (fun x => cI x) (fun (x : Tstate) => (.agg [cI x.f_height, .ro false 1 (x.f_tries.map eI)])) c_.f_seen)) 3 (lstB zc9 1 (c9.map eI))), 4⟩, (I c_.f_f.Slots), weak_canon2 [0, 1, 2, 2] [0, 1, 3] (by decide) (by decide) (by decide) (.cons (by decide) (.cons (by decide) (.cons (by decide) .nil))) (.cf rfl rfl .nil) (.row (by decide) rfl (fr_map fun _ => rfl) (.box (by decide) rfl .map (.box (by decide) rfl (blkAs_cells (.sm rfl (.sm rfl (.sm rfl (.sm rfl (.sm rfl (.sm rfl (.sm rfl (.sm rfl (.cons (.mp rfl (by decide)) (.cons (lstC_ren rfl (by decide)) (.sm rfl .nil)))))))))))) .nil))), rfl, zc9, hzc9, rfl, rfl, rfl⟩
 ·refine ssr <| un1 (v := (B (decide (i_.Do = 7)))) rfl <| un1 rfl <| dnil ?_
  refine Sv.cnd rfl h (fun h => ?_) fun h => ?_
  ·refine ssr <| un1 rfl <| dnil <| Sv.ret ?_
   replace h := Option.some.inj h
   subst h
   exact ⟨_, .refl _, _, rfl, ⟨upd e0 0 (some (I 2)), (upd (upd (upd e0 0 (some (.cells 11 [[.ro false 4 (c_.f_p.Funcs.map e_TJFunc), .ro false 3 (c_.f_p.Consts.map e_TJVal), .ro false 1 (c_.f_p.Shapes.map (eSl 1 eStr)), cI c_.f_f.Params, cI c_.f_f.Slots, .ro false 1 (c_.f_f.Caught.map eI), .ro false 2 (c_.f_f.Code.map e_TJIns), cI c_.f_own, .mp 1, lstC zc9 3 1 c9.length, cB c_.f_bad]]))) 1 (mapB (.i .i64) (fun x => cI x) (fun (x : Tstate) => (.agg [cI x.f_height, .ro false 1 (x.f_tries.map eI)])) c_.f_seen)) 3 (lstB zc9 1 (c9.map eI))), 4⟩, (I 2), weak_canon2 [0, 1, 2, 2] [0, 1, 3] (by decide) (by decide) (by decide) (.cons (by decide) (.cons (by decide) (.cons (by decide) .nil))) (.cf rfl rfl .nil) (.row (by decide) rfl (fr_map fun _ => rfl) (.box (by decide) rfl .map (.box (by decide) rfl (blkAs_cells (.sm rfl (.sm rfl (.sm rfl (.sm rfl (.sm rfl (.sm rfl (.sm rfl (.sm rfl (.cons (.mp rfl (by decide)) (.cons (lstC_ren rfl (by decide)) (.sm rfl .nil)))))))))))) .nil))), rfl, zc9, hzc9, rfl, rfl, rfl⟩
  ·refine ssr <| un1 (v := (B (decide (i_.Do = 8)))) rfl <| un1 rfl <| dnil ?_
   refine Sv.cnd rfl h (fun h => ?_) fun h => ?_
   ·refine ssr ?_
    obtain ⟨r_, hr1, h⟩ := bnd h
    refine un <| ac_gen (bs := []) («as» := []) (h2 := _) (h1 := e0) (Z44 hr1) rfl .nil (hsub_refl _) (.nil _) (fun _ => rfl) (by decide) (by decide) .nil .nil ?_
    rintro _ _ _ hn ⟨z_, hz_, rfl, rfl, rfl⟩
    refine ⟨.inl rfl, (upd (rem [] _) 3 (lstB z_ 1 (r_.map eStr))), fun hbd => (m3_cons (m3_row rfl (fr_map fun _ => rfl)) (m3_rem (in_nil _) (.cons (by decide) .nil) hbd)), (lstV z_ 3 1 r_.length), 4, (by cases z_ <;> rfl), rfl, ?_⟩
    refine un1 (v := (I (r_.length : Int))) (s_lenL rfl (len_nil_of hz_)) <| un1 rfl <| dnil <| Sv.ret ?_
    replace h := Option.some.inj h
    subst h
    exact ⟨_, .refl _, _, rfl, ⟨upd e0 0 (some (I (r_.length : Int))), (upd (upd (upd e0 0 (some (.cells 11 [[.ro false 4 (c_.f_p.Funcs.map e_TJFunc), .ro false 3 (c_.f_p.Consts.map e_TJVal), .ro false 1 (c_.f_p.Shapes.map (eSl 1 eStr)), cI c_.f_f.Params, cI c_.f_f.Slots, .ro false 1 (c_.f_f.Caught.map eI), .ro false 2 (c_.f_f.Code.map e_TJIns), cI c_.f_own, .mp 1, lstC zc9 3 1 c9.length, cB c_.f_bad]]))) 1 (mapB (.i .i64) (fun x => cI x) (fun (x : Tstate) => (.agg [cI x.f_height, .ro false 1 (x.f_tries.map eI)])) c_.f_seen)) 3 (lstB zc9 1 (c9.map eI))), 4⟩, (I (r_.length : Int)), weak_canon2 [0, 1, 2, 2] [0, 1, 3] (by decide) (by decide) (by decide) (.cons (by decide) (.cons (by decide) (.cons (by decide) .nil))) (.cf rfl rfl .nil) (.row (by decide) rfl (fr_map fun _ => rfl) (.box (by decide) rfl .map (.box (by decide) rfl (blkAs_cells (.sm rfl (.sm rfl (.sm rfl (.sm rfl (.sm rfl (.sm rfl (.sm rfl (.sm rfl (.cons (.mp rfl (by decide)) (.cons (lstC_ren rfl (by decide)) (.sm rfl .nil)))))))))))) .nil))), rfl, zc9, hzc9, rfl, rfl, rfl⟩
   ·refine Sv.seq <| ssr <| un1 (v := (B (decide (i_.Do = 9)))) rfl <| un1 rfl <| dnil ?_
    refine Sv.cnd rfl h (fun h => ?_) fun h => ?_
    ·refine Sv.skip ?_
     exact Sv.weak (weak_canon [0, 1, 2] rfl (by decide) (by decide) (by decide) (.cf rfl rfl (.cf rfl rfl (.cr rfl rfl rfl .nil))) (.row (by decide) rfl (fr_map fun _ => rfl) (.box (by decide) rfl .map (.box (by decide) rfl (blkAs_cells (.sm rfl (.sm rfl (.sm rfl (.sm rfl (.sm rfl (.sm rfl (.sm rfl (.sm rfl (.cons (.mp rfl (by decide)) (.cons (lstC_ren rfl (by decide)) (.sm rfl .nil)))))))))))) .nil)))) (Z22 hzc9 h)
    ·refine ssr <| un1 (v := (B (decide (i_.Do = 10)))) rfl <| un1 rfl <| dnil ?_
     refine Sv.cnd rfl h (fun h => ?_) fun h => ?_
     ·refine Sv.skip ?_
      exact Sv.weak (weak_canon [0, 1, 2] rfl (by decide) (by decide) (by decide) (.cf rfl rfl (.cf rfl rfl (.cr rfl rfl rfl .nil))) (.row (by decide) rfl (fr_map fun _ => rfl) (.box (by decide) rfl .map (.box (by decide) rfl (blkAs_cells (.sm rfl (.sm rfl (.sm rfl (.sm rfl (.sm rfl (.sm rfl (.sm rfl (.sm rfl (.cons (.mp rfl (by decide)) (.cons (lstC_ren rfl (by decide)) (.sm rfl .nil)))))))))))) .nil)))) (Z22 hzc9 h)
     ·refine ssr <| un1 (v := (B (decide (i_.Do = 20)))) rfl <| un1 rfl <| dnil ?_
      refine Sv.cnd rfl h (fun h => ?_) fun h => ?_
      ·refine Sv.skip ?_
       exact Sv.weak (weak_canon [0, 1, 2] rfl (by decide) (by decide) (by decide) (.cf rfl rfl (.cf rfl rfl (.cr rfl rfl rfl .nil))) (.row (by decide) rfl (fr_map fun _ => rfl) (.box (by decide) rfl .map (.box (by decide) rfl (blkAs_cells (.sm rfl (.sm rfl (.sm rfl (.sm rfl (.sm rfl (.sm rfl (.sm rfl (.sm rfl (.cons (.mp rfl (by decide)) (.cons (lstC_ren rfl (by decide)) (.sm rfl .nil)))))))))))) .nil)))) (Z22 hzc9 h)
      ·refine srg <| un1 (v := (B (decide (i_.Do = 24)))) rfl <| un1 rfl <| dnil ?_
       exact Sv.weak (weak_canon [0, 1, 2] rfl (by decide) (by decide) (by decide) (.cf rfl rfl (.cf rfl rfl (.cr rfl rfl rfl .nil))) (.row (by decide) rfl (fr_map fun _ => rfl) (.box (by decide) rfl .map (.box (by decide) rfl (blkAs_cells (.sm rfl (.sm rfl (.sm rfl (.sm rfl (.sm rfl (.sm rfl (.sm rfl (.sm rfl (.cons (.mp rfl (by decide)) (.cons (lstC_ren rfl (by decide)) (.sm rfl .nil)))))))))))) .nil)))) (Z22 hzc9 h)
/-- (*clerestory/code.checker).bound -/
noncomputable def Z12 (c_ : Tchecker) (i_ : TJIns) : Option (Int × Tchecker) :=
 if decide (i_.Do = 1) then
  some ((c_.f_p.Consts.length : Int), c_)
 else
  if decide (i_.Do = 2) then
   Z10 c_ i_ c_.f_todo (decide (i_.Do = 2))
  else
   if decide (i_.Do = 3) then
    Z10 c_ i_ c_.f_todo (decide (i_.Do = 3))
   else
    if decide (i_.Do = 4) then
     Z10 c_ i_ c_.f_todo (decide (i_.Do = 4))
    else
     Z10 c_ i_ c_.f_todo (decide (i_.Do = 5))
theorem Z31 {c_ : Tchecker} {i_ : TJIns} {zc : Bool} (hzc : zc = true → c_.f_todo = []) {r : (Int × Tchecker)} (h : Z12 c_ i_ = some r) : ACalls Tryd.prog GG 14 [(.c (.ref 0 11 0 0)), (.agg (e_TJIns i_))] (upd (upd (upd e0 0 (some (.cells 11 [[.ro false 4 (c_.f_p.Funcs.map e_TJFunc), .ro false 3 (c_.f_p.Consts.map e_TJVal), .ro false 1 (c_.f_p.Shapes.map (eSl 1 eStr)), cI c_.f_f.Params, cI c_.f_f.Slots, .ro false 1 (c_.f_f.Caught.map eI), .ro false 2 (c_.f_f.Code.map e_TJIns), cI c_.f_own, .mp 1, lstC zc 2 1 c_.f_todo.length, cB c_.f_bad]]))) 1 (mapB (.i .i64) (fun x => cI x) (fun (x : Tstate) => (.agg [cI x.f_height, .ro false 1 (x.f_tries.map eI)])) c_.f_seen)) 2 (lstB zc 1 (c_.f_todo.map eI))) 3 (Z21 r) := by
 refine acalls_of_sv hmix c14 (R := Z21 r) ?_
 unfold Z12 at h
 refine ssr <| un <| a2v (v := (.c (.ref 3 2 0 0))) (h' := upd _ 3 (some (.cells 2 [(e_TJIns i_)]))) (n' := 4) rfl rfl hcs <| un1 rfl <| dnil <| Sv.seq <| ssr <| un1 (v := (.c (.ref 3 2 0 0))) rfl <| un1 (v := (I i_.Do)) rfl <| dnil <| Sv.block <| ssr <| un1 (v := (B (decide (i_.Do = 1)))) rfl <| un1 rfl <| dnil ?_
 refine Sv.cnd rfl h (fun h => ?_) fun h => ?_
 ·refine ssr <| un1 rfl <| un1 (v := (.c (.ref 0 11 0 0))) rfl <| un1 (v := (.c (.ref 0 11 0 0))) rfl <| un1 (v := (.c (.ref 0 11 0 1))) rfl <| un1 (v := (.c (.ro false 3 (c_.f_p.Consts.map e_TJVal)))) rfl <| un1 (v := (I (c_.f_p.Consts.length : Int))) (s_len (e := e_TJVal) (xs := c_.f_p.Consts) rfl) <| un1 rfl <| dnil <| Sv.ret ?_
  replace h := Option.some.inj h
  subst h
  exact ⟨_, .refl _, _, rfl, ⟨upd e0 0 (some (I (c_.f_p.Consts.length : Int))), (upd (upd (upd e0 0 (some (.cells 11 [[.ro false 4 (c_.f_p.Funcs.map e_TJFunc), .ro false 3 (c_.f_p.Consts.map e_TJVal), .ro false 1 (c_.f_p.Shapes.map (eSl 1 eStr)), cI c_.f_f.Params, cI c_.f_f.Slots, .ro false 1 (c_.f_f.Caught.map eI), .ro false 2 (c_.f_f.Code.map e_TJIns), cI c_.f_own, .mp 1, lstC zc 3 1 c_.f_todo.length, cB c_.f_bad]]))) 1 (mapB (.i .i64) (fun x => cI x) (fun (x : Tstate) => (.agg [cI x.f_height, .ro false 1 (x.f_tries.map eI)])) c_.f_seen)) 3 (lstB zc 1 (c_.f_todo.map eI))), 4⟩, (I (c_.f_p.Consts.length : Int)), weak_canon2 [0, 1, 2, 2] [0, 1, 3] (by decide) (by decide) (by decide) (.cons (by decide) (.cons (by decide) (.cons (by decide) .nil))) (.cf rfl rfl .nil) (.row (by decide) rfl (fr_map fun _ => rfl) (.box (by decide) rfl .map (.box (by decide) rfl (blkAs_cells (.sm rfl (.sm rfl (.sm rfl (.sm rfl (.sm rfl (.sm rfl (.sm rfl (.sm rfl (.cons (.mp rfl (by decide)) (.cons (lstC_ren rfl (by decide)) (.sm rfl .nil)))))))))))) .nil))), rfl, zc, hzc, rfl, rfl, rfl⟩
 ·refine Sv.seq <| ssr <| un1 (v := (B (decide (i_.Do = 2)))) rfl <| un1 rfl <| dnil ?_
  refine Sv.cnd rfl h (fun h => ?_) fun h => ?_
  ·refine Sv.skip ?_
   exact Sv.weak (weak_canon [0, 1, 2] rfl (by decide) (by decide) (by decide) (.cf rfl rfl (.cf rfl rfl (.cr rfl rfl rfl .nil))) (.row (by decide) rfl (fr_map fun _ => rfl) (.box (by decide) rfl .map (.box (by decide) rfl (blkAs_cells (.sm rfl (.sm rfl (.sm rfl (.sm rfl (.sm rfl (.sm rfl (.sm rfl (.sm rfl (.cons (.mp rfl (by decide)) (.cons (lstC_ren rfl (by decide)) (.sm rfl .nil)))))))))))) .nil)))) (Z23 hzc h)
  ·refine ssr <| un1 (v := (B (decide (i_.Do = 3)))) rfl <| un1 rfl <| dnil ?_
   refine Sv.cnd rfl h (fun h => ?_) fun h => ?_
   ·refine Sv.skip ?_
    exact Sv.weak (weak_canon [0, 1, 2] rfl (by decide) (by decide) (by decide) (.cf rfl rfl (.cf rfl rfl (.cr rfl rfl rfl .nil))) (.row (by decide) rfl (fr_map fun _ => rfl) (.box (by decide) rfl .map (.box (by decide) rfl (blkAs_cells (.sm rfl (.sm rfl (.sm rfl (.sm rfl (.sm rfl (.sm rfl (.sm rfl (.sm rfl (.cons (.mp rfl (by decide)) (.cons (lstC_ren rfl (by decide)) (.sm rfl .nil)))))))))))) .nil)))) (Z23 hzc h)
   ·refine ssr <| un1 (v := (B (decide (i_.Do = 4)))) rfl <| un1 rfl <| dnil ?_
    refine Sv.cnd rfl h (fun h => ?_) fun h => ?_
    ·refine Sv.skip ?_
     exact Sv.weak (weak_canon [0, 1, 2] rfl (by decide) (by decide) (by decide) (.cf rfl rfl (.cf rfl rfl (.cr rfl rfl rfl .nil))) (.row (by decide) rfl (fr_map fun _ => rfl) (.box (by decide) rfl .map (.box (by decide) rfl (blkAs_cells (.sm rfl (.sm rfl (.sm rfl (.sm rfl (.sm rfl (.sm rfl (.sm rfl (.sm rfl (.cons (.mp rfl (by decide)) (.cons (lstC_ren rfl (by decide)) (.sm rfl .nil)))))))))))) .nil)))) (Z23 hzc h)
    ·refine srg <| un1 (v := (B (decide (i_.Do = 5)))) rfl <| un1 rfl <| dnil ?_
     exact Sv.weak (weak_canon [0, 1, 2] rfl (by decide) (by decide) (by decide) (.cf rfl rfl (.cf rfl rfl (.cr rfl rfl rfl .nil))) (.row (by decide) rfl (fr_map fun _ => rfl) (.box (by decide) rfl .map (.box (by decide) rfl (blkAs_cells (.sm rfl (.sm rfl (.sm rfl (.sm rfl (.sm rfl (.sm rfl (.sm rfl (.sm rfl (.cons (.mp rfl (by decide)) (.cons (lstC_ren rfl (by decide)) (.sm rfl .nil)))))))))))) .nil)))) (Z23 hzc h)
def a8_clerestory_code_checker_form1_c2 : ACode := (.cond (.tmp 58) (sr [(oP 2 (.mov kF))]
 .ret) .skip)
def a8_clerestory_code_checker_form1_c0 : ACode := (sr [(oP 74 (.bin .lss (.tmp 73) (.tmp 72)))]
 (.seq (.cond (.tmp 74) .skip (.exit 2))
 (.seq (.block 3 (sr [(oP 75 (.iaddr 1 (.tmp 71) (.tmp 73))), (oP 76 (.load false 1 (.tmp 75))), (mV 7 76)]
 (sr [(oP 77 (.faddr 1 (.tmp 5))), (oP 78 (.load false 1 (.tmp 77))), (oP 79 (.bin .eql (.tmp 78) (kI 0))), (mV 80 79), ⟨(some 81), (.mov (.tmp 7)), (some (80, false))⟩, ⟨(some 82), (.bin .lss (.tmp 81) (kI 0)), (some (80, false))⟩, (oP 83 (.pick (.tmp 80) kT (.tmp 82))), (mV 84 83), ⟨(some 85), (.mov (.tmp 7)), (some (84, false))⟩, ⟨(some 86), (.faddr 1 (.tmp 3)), (some (84, false))⟩, ⟨(some 87), (.load false 1 (.tmp 86)), (some (84, false))⟩, ⟨(some 88), (.bin .geq (.tmp 85) (.tmp 87)), (some (84, false))⟩, (oP 89 (.pick (.tmp 84) kT (.tmp 88)))]
 (.cond (.tmp 89) (sr [(oP 2 (.mov kF))]
 .ret) .skip))))
 (.region [(oP 90 (.bin .add (.tmp 73) (kI 1))), (mV 73 90)]))))
def a8_clerestory_code_checker_form1_c3 : ACode := (sr [(oP 59 (.faddr 0 (.tmp 5))), (oP 60 (.load false 1 (.tmp 59))), (oP 61 (.bin .eql (.tmp 60) (kI 16)))]
 (.cond (.tmp 61) (.seq (.seq (.drawn (.fin [((mV 62 0), (0, 0)), ((oP 63 (.nilc (.tmp 62))), (0, 1)), ((oP 64 (.faddr 0 (.tmp 63))), (0, 2)), ((oP 65 (.faddr 0 (.tmp 64))), (0, 3)), ((oP 66 (.load false 1 (.tmp 65))), (0, 4)), ((oP 67 (.faddr 1 (.tmp 5))), (0, 5)), ((oP 68 (.load false 1 (.tmp 67))), (0, 6)), ((oP 69 (.iaddr 4 (.tmp 66) (.tmp 68))), (0, 7)), ((oP 70 (.faddr 2 (.tmp 69))), (0, 8)), ((oP 71 (.load false 1 (.tmp 70))), (0, 9)), ((oP 72 (.len (.tmp 71))), (0, 10)), ((oP 73 (.mov (kI 0))), (0, 11))]))
 (.block 2 (.loop a8_clerestory_code_checker_form1_c0)))
 (sr [(oP 91 (.faddr 1 (.tmp 5))), (oP 92 (.load false 1 (.tmp 91))), (oP 93 (.bin .eql (.tmp 92) (kI 0)))]
 (.cond (.tmp 93) (sr [(oP 2 (.mov kF))]
 .ret) .skip))) .skip))
def a8_clerestory_code_checker_form1_c1 : ACode := (.region [(oP 94 (.bin .add (.tmp 34) (kI 1))), (mV 34 94)])
def a8_clerestory_code_checker_form1_c4 : ACode := (sr [(oP 35 (.bin .lss (.tmp 34) (.tmp 33)))]
 (.seq (.cond (.tmp 35) .skip (.exit 0))
 (.seq (.block 1 (sr [(oP 36 (.iaddr 2 (.tmp 32) (.tmp 34))), (oP 37 (.load true 2 (.tmp 36))), (oP 5 (.box (.const (.agg [(.val (.int .i64 0)), (.val (.int .i64 0))])))), (oN (.store 2 (.tmp 5) (.tmp 37)))]
 (.seq (.seq (.drawn (.alt [((oP 38 (.faddr 0 (.tmp 5))), (0, 0)), ((oP 39 (.load false 1 (.tmp 38))), (0, 1)), ((oP 40 (.bin .lss (.tmp 39) (kI 1))), (0, 2)), ((mV 41 40), (0, 3)), (⟨(some 42), (.faddr 0 (.tmp 5)), (some (41, false))⟩, (0, 4)), (⟨(some 43), (.load false 1 (.tmp 42)), (some (41, false))⟩, (0, 5)), (⟨(some 44), (.bin .gtr (.tmp 43) (kI 25)), (some (41, false))⟩, (0, 6)), ((oP 45 (.pick (.tmp 41) kT (.tmp 44))), (0, 7)), ((mV 46 45), (0, 8)), (⟨(some 47), (.faddr 1 (.tmp 5)), (some (46, false))⟩, (0, 9)), (⟨(some 48), (.load false 1 (.tmp 47)), (some (46, false))⟩, (0, 10)), (⟨(some 49), (.bin .lss (.tmp 48) (kI 0)), (some (46, false))⟩, (0, 11)), ((oP 50 (.pick (.tmp 46) kT (.tmp 49))), (0, 12)), ((mV 51 50), (0, 13)), (⟨(some 52), (.faddr 1 (.tmp 5)), (some (51, false))⟩, (0, 14)), (⟨(some 54), (.mov (.tmp 0)), (some (51, false))⟩, (0, 16)), (⟨(some 55), (.load true 2 (.tmp 5)), (some (51, false))⟩, (0, 17))] (.fin [(⟨(some 53), (.load false 1 (.tmp 52)), (some (51, false))⟩, (1, 15)), (⟨(some 56), (.call 14 [(.tmp 54), (.tmp 55)]), (some (51, false))⟩, (2, 18)), (⟨(some 57), (.bin .geq (.tmp 53) (.tmp 56)), (some (51, false))⟩, (0, 19)), ((oP 58 (.pick (.tmp 51) kT (.tmp 57))), (0, 20))]) (.fin [(⟨(some 56), (.call 14 [(.tmp 54), (.tmp 55)]), (some (51, false))⟩, (2, 18)), (⟨(some 53), (.load false 1 (.tmp 52)), (some (51, false))⟩, (1, 15)), (⟨(some 57), (.bin .geq (.tmp 53) (.tmp 56)), (some (51, false))⟩, (0, 19)), ((oP 58 (.pick (.tmp 51) kT (.tmp 57))), (0, 20))])))
 a8_clerestory_code_checker_form1_c2)
 a8_clerestory_code_checker_form1_c3)))
 a8_clerestory_code_checker_form1_c1)))
def Z13 (r : (Bool × Tchecker)) : AV → Heap → Nat → Prop := fun v h' n' => ∃ z0 : Bool, (z0 = true → r.2.f_todo = []) ∧ v = (B r.1) ∧ (h' = (upd (upd (upd e0 0 (some (.cells 11 [[.ro false 4 (r.2.f_p.Funcs.map e_TJFunc), .ro false 3 (r.2.f_p.Consts.map e_TJVal), .ro false 1 (r.2.f_p.Shapes.map (eSl 1 eStr)), cI r.2.f_f.Params, cI r.2.f_f.Slots, .ro false 1 (r.2.f_f.Caught.map eI), .ro false 2 (r.2.f_f.Code.map e_TJIns), cI r.2.f_own, .mp 1, lstC z0 3 1 r.2.f_todo.length, cB r.2.f_bad]]))) 1 (mapB (.i .i64) (fun x => cI x) (fun (x : Tstate) => (.agg [cI x.f_height, .ro false 1 (x.f_tries.map eI)])) r.2.f_seen)) 3 (lstB z0 1 (r.2.f_todo.map eI)))) ∧ n' = 4
abbrev Z2c (c_ : Tchecker) (F_ : (List TJFunc) → (List TJVal) → (List TT) → Int → Int → (List Int) → (List TJIns) → Int → (List (Int × Tstate)) → (List Int) → Bool → Int → Option (Bool × Tchecker)) (o : (Bool × Tchecker)) (R_ : St → Prop) : Prop := ∀ (c0 : (List TJFunc)) (c1 : (List TJVal)) (c2 : (List TT)) (c3 : Int) (c4 : Int) (c5 : (List Int)) (c6 : (List TJIns)) (c7 : Int) (c8 : (List (Int × Tstate))) (c9 : (List Int)) (c10 : Bool) (v34 : Int) (zc9 : Bool) (_ : zc9 = true → c9 = []), F_ c0 c1 c2 c3 c4 c5 c6 c7 c8 c9 c10 v34 = some o → ∀ s, Weak 3 s ⟨(ue [(34, (I v34)), (33, (I (c_.f_f.Code.length : Int))), (32, (.c (.ro false 2 (c_.f_f.Code.map e_TJIns)))), (3, (.c (.ref 4 4 0 0))), (0, (.c (.ref 0 11 0 0)))]), (upd (upd (upd (upd e0 0 (some (.cells 11 [[.ro false 4 (c0.map e_TJFunc), .ro false 3 (c1.map e_TJVal), .ro false 1 (c2.map (eSl 1 eStr)), cI c3, cI c4, .ro false 1 (c5.map eI), .ro false 2 (c6.map e_TJIns), cI c7, .mp 1, lstC zc9 3 1 c9.length, cB c10]]))) 1 (mapB (.i .i64) (fun x => cI x) (fun (x : Tstate) => (.agg [cI x.f_height, .ro false 1 (x.f_tries.map eI)])) c8)) 3 (lstB zc9 1 (c9.map eI))) 4 (some (.cells 4 [(e_TJFunc c_.f_f)]))), 5⟩ → R_ s
abbrev Z2d (F_ : (List TJFunc) → (List TJVal) → (List TT) → Int → Int → (List Int) → (List TJIns) → Int → (List (Int × Tstate)) → (List Int) → Bool → Option (Bool × Tchecker)) (o : (Bool × Tchecker)) (R_ : St → Prop) : Prop := ∀ (c01 : (List TJFunc)) (c11 : (List TJVal)) (c21 : (List TT)) (c31 : Int) (c41 : Int) (c51 : (List Int)) (c61 : (List TJIns)) (c71 : Int) (c81 : (List (Int × Tstate))) (c91 : (List Int)) (c101 : Bool) (zc91 : Bool) (_ : zc91 = true → c91 = []), F_ c01 c11 c21 c31 c41 c51 c61 c71 c81 c91 c101 = some o → ∀ s, Weak 3 s ⟨(upd e0 0 (some (.c (.ref 0 11 0 0)))), (upd (upd (upd e0 0 (some (.cells 11 [[.ro false 4 (c01.map e_TJFunc), .ro false 3 (c11.map e_TJVal), .ro false 1 (c21.map (eSl 1 eStr)), cI c31, cI c41, .ro false 1 (c51.map eI), .ro false 2 (c61.map e_TJIns), cI c71, .mp 1, lstC zc91 3 1 c91.length, cB c101]]))) 1 (mapB (.i .i64) (fun x => cI x) (fun (x : Tstate) => (.agg [cI x.f_height, .ro false 1 (x.f_tries.map eI)])) c81)) 3 (lstB zc91 1 (c91.map eI))), 4⟩ → R_ s
noncomputable def Zq (v34 : Int) (c_ : Tchecker) (self : (List TJFunc) → (List TJVal) → (List TT) → Int → Int → (List Int) → (List TJIns) → Int → (List (Int × Tstate)) → (List Int) → Bool → Int → Option (Bool × Tchecker)) (K0_ : (List TJFunc) → (List TJVal) → (List TT) → Int → Int → (List Int) → (List TJIns) → Int → (List (Int × Tstate)) → (List Int) → Bool → Option (Bool × Tchecker)) (c02 : (List TJFunc)) (c12 : (List TJVal)) (c22 : (List TT)) (c32 : Int) (c42 : Int) (c52 : (List Int)) (c62 : (List TJIns)) (c72 : Int) (c82 : (List (Int × Tstate))) (c92 : (List Int)) (c102 : Bool) : Option (Bool × Tchecker) :=
 self c02 c12 c22 c32 c42 c52 c62 c72 c82 c92 c102 (wi (v34 + 1))
theorem Z32 {Q : AExit → St → Prop} {v34 : Int} {c_ : Tchecker} {self : (List TJFunc) → (List TJVal) → (List TT) → Int → Int → (List Int) → (List TJIns) → Int → (List (Int × Tstate)) → (List Int) → Bool → Int → Option (Bool × Tchecker)} {K0_ : (List TJFunc) → (List TJVal) → (List TT) → Int → Int → (List Int) → (List TJIns) → Int → (List (Int × Tstate)) → (List Int) → Bool → Option (Bool × Tchecker)} {c02 : (List TJFunc)} {c12 : (List TJVal)} {c22 : (List TT)} {c32 : Int} {c42 : Int} {c52 : (List Int)} {c62 : (List TJIns)} {c72 : Int} {c82 : (List (Int × Tstate))} {c92 : (List Int)} {c102 : Bool} {zc92 : Bool} (hzc92 : zc92 = true → c92 = []) {o : (Bool × Tchecker)} (h : Zq v34 c_ self K0_ c02 c12 c22 c32 c42 c52 c62 c72 c82 c92 c102 = some o)
  (hself : Z2c c_ self o (Q .normal))
  (hK0 : Z2d K0_ o (Q (.exit 0)))
  (hr : ∀ s, Ends a8.results 3 (Z13 o) .ret s → Q .ret s) :
  Sv Tryd.prog GG 3 a8_clerestory_code_checker_form1_c1 Q ⟨(ue [(34, (I v34)), (33, (I (c_.f_f.Code.length : Int))), (32, (.c (.ro false 2 (c_.f_f.Code.map e_TJIns)))), (3, (.c (.ref 4 4 0 0))), (0, (.c (.ref 0 11 0 0)))]), (upd (upd (upd (upd e0 0 (some (.cells 11 [[.ro false 4 (c02.map e_TJFunc), .ro false 3 (c12.map e_TJVal), .ro false 1 (c22.map (eSl 1 eStr)), cI c32, cI c42, .ro false 1 (c52.map eI), .ro false 2 (c62.map e_TJIns), cI c72, .mp 1, lstC zc92 3 1 c92.length, cB c102]]))) 1 (mapB (.i .i64) (fun x => cI x) (fun (x : Tstate) => (.agg [cI x.f_height, .ro false 1 (x.f_tries.map eI)])) c82)) 3 (lstB zc92 1 (c92.map eI))) 4 (some (.cells 4 [(e_TJFunc c_.f_f)]))), 5⟩ := by
 unfold Zq at h
 refine srg <| un1 (v := (I (wi (v34 + 1)))) rfl <| un1 rfl <| dnil ?_
 exact hself c02 c12 c22 c32 c42 c52 c62 c72 c82 c92 c102 (wi (v34 + 1)) zc92 hzc92 h _ (weak_canon [0, 1, 2, 3, 4] rfl (by decide) (by decide) (by decide) (.cf rfl rfl (.cf rfl rfl (.cf rfl rfl (.cr rfl rfl rfl (.cr rfl rfl rfl .nil))))) (.box (by decide) rfl (blkAs_cells (.sm rfl (.sm rfl (.sm rfl (.sm rfl .nil))))) (.row (by decide) rfl (fr_map fun _ => rfl) (.box (by decide) rfl .map (.box (by decide) rfl (blkAs_cells (.sm rfl (.sm rfl (.sm rfl (.sm rfl (.sm rfl (.sm rfl (.sm rfl (.sm rfl (.cons (.mp rfl (by decide)) (.cons (lstC_ren rfl (by decide)) (.sm rfl .nil)))))))))))) .nil)))))
abbrev Z4c (c_ : Tchecker) (v34 : Int) (c03 : (List TJFunc)) (c13 : (List TJVal)) (c23 : (List TT)) (c33 : Int) (c43 : Int) (c53 : (List Int)) (c63 : (List TJIns)) (c73 : Int) (zc93 : Bool) (c93 : (List Int)) (c103 : Bool) (c83 : (List (Int × Tstate))) (x_ : TJIns) (F_ : Unit → Option (Bool × Tchecker)) (o : (Bool × Tchecker)) (R_ : St → Prop) : Prop := ∀ (_ : Unit), F_ () = some o → ∀ s, Weak 3 s ⟨(ue [(34, (I v34)), (33, (I (c_.f_f.Code.length : Int))), (32, (.c (.ro false 2 (c_.f_f.Code.map e_TJIns)))), (5, (.c (.ref 5 2 0 0))), (3, (.c (.ref 4 4 0 0))), (0, (.c (.ref 0 11 0 0)))]), (upd (upd (upd (upd (upd e0 0 (some (.cells 11 [[.ro false 4 (c03.map e_TJFunc), .ro false 3 (c13.map e_TJVal), .ro false 1 (c23.map (eSl 1 eStr)), cI c33, cI c43, .ro false 1 (c53.map eI), .ro false 2 (c63.map e_TJIns), cI c73, .mp 1, lstC zc93 3 1 c93.length, cB c103]]))) 1 (mapB (.i .i64) (fun x => cI x) (fun (x : Tstate) => (.agg [cI x.f_height, .ro false 1 (x.f_tries.map eI)])) c83)) 3 (lstB zc93 1 (c93.map eI))) 4 (some (.cells 4 [(e_TJFunc c_.f_f)]))) 5 (some (.cells 2 [(e_TJIns x_)]))), 6⟩ → R_ s
abbrev Z33 (c_ : Tchecker) (v34 : Int) (x_1 : TJFunc) (c03 : (List TJFunc)) (c13 : (List TJVal)) (c23 : (List TT)) (c33 : Int) (c43 : Int) (c53 : (List Int)) (c63 : (List TJIns)) (c73 : Int) (zc93 : Bool) (c93 : (List Int)) (c103 : Bool) (c83 : (List (Int × Tstate))) (x_ : TJIns) (F_ : Nat → Int → Option (Bool × Tchecker)) (o : (Bool × Tchecker)) : Nat → St → Prop := fun k s => ∃ (v73 : Int), F_ k v73 = some o ∧ s = ⟨(ue [(73, (I v73)), (72, (I (x_1.Caught.length : Int))), (71, (.c (.ro false 1 (x_1.Caught.map eI)))), (34, (I v34)), (33, (I (c_.f_f.Code.length : Int))), (32, (.c (.ro false 2 (c_.f_f.Code.map e_TJIns)))), (5, (.c (.ref 5 2 0 0))), (3, (.c (.ref 4 4 0 0))), (0, (.c (.ref 0 11 0 0)))]), (upd (upd (upd (upd (upd e0 0 (some (.cells 11 [[.ro false 4 (c03.map e_TJFunc), .ro false 3 (c13.map e_TJVal), .ro false 1 (c23.map (eSl 1 eStr)), cI c33, cI c43, .ro false 1 (c53.map eI), .ro false 2 (c63.map e_TJIns), cI c73, .mp 1, lstC zc93 3 1 c93.length, cB c103]]))) 1 (mapB (.i .i64) (fun x => cI x) (fun (x : Tstate) => (.agg [cI x.f_height, .ro false 1 (x.f_tries.map eI)])) c83)) 3 (lstB zc93 1 (c93.map eI))) 4 (some (.cells 4 [(e_TJFunc c_.f_f)]))) 5 (some (.cells 2 [(e_TJIns x_)]))), 6⟩
abbrev Z4d (c_ : Tchecker) (v34 : Int) (x_1 : TJFunc) (c03 : (List TJFunc)) (c13 : (List TJVal)) (c23 : (List TT)) (c33 : Int) (c43 : Int) (c53 : (List Int)) (c63 : (List TJIns)) (c73 : Int) (zc93 : Bool) (c93 : (List Int)) (c103 : Bool) (c83 : (List (Int × Tstate))) (x_ : TJIns) (F_ : Int → Option (Bool × Tchecker)) (o : (Bool × Tchecker)) (R_ : St → Prop) : Prop := ∀ (v73 : Int), F_ v73 = some o → ∀ s, Weak 3 s ⟨(ue [(73, (I v73)), (72, (I (x_1.Caught.length : Int))), (71, (.c (.ro false 1 (x_1.Caught.map eI)))), (34, (I v34)), (33, (I (c_.f_f.Code.length : Int))), (32, (.c (.ro false 2 (c_.f_f.Code.map e_TJIns)))), (5, (.c (.ref 5 2 0 0))), (3, (.c (.ref 4 4 0 0))), (0, (.c (.ref 0 11 0 0)))]), (upd (upd (upd (upd (upd e0 0 (some (.cells 11 [[.ro false 4 (c03.map e_TJFunc), .ro false 3 (c13.map e_TJVal), .ro false 1 (c23.map (eSl 1 eStr)), cI c33, cI c43, .ro false 1 (c53.map eI), .ro false 2 (c63.map e_TJIns), cI c73, .mp 1, lstC zc93 3 1 c93.length, cB c103]]))) 1 (mapB (.i .i64) (fun x => cI x) (fun (x : Tstate) => (.agg [cI x.f_height, .ro false 1 (x.f_tries.map eI)])) c83)) 3 (lstB zc93 1 (c93.map eI))) 4 (some (.cells 4 [(e_TJFunc c_.f_f)]))) 5 (some (.cells 2 [(e_TJIns x_)]))), 6⟩ → R_ s
noncomputable def Za (x_1 : TJFunc) (x_ : TJIns) (c_ : Tchecker) (c03 : (List TJFunc)) (c13 : (List TJVal)) (c23 : (List TT)) (c33 : Int) (c43 : Int) (c53 : (List Int)) (c63 : (List TJIns)) (c73 : Int) (c83 : (List (Int × Tstate))) (c93 : (List Int)) (c103 : Bool) (v34 : Int) (K2_ : Unit → Option (Bool × Tchecker)) : Nat → Int → Option (Bool × Tchecker)
 | 0, _ => none
 | k + 1, v73 =>
  if decide (v73 < (x_1.Caught.length : Int)) then
   (at? x_1.Caught v73).bind fun x_2 =>
   if (((decide (x_.A = 0)) || (decide (x_2 < 0))) || (decide (c_.f_f.Slots ≤ x_2))) then
    some (false, (⟨(⟨c03, c13, c23⟩ : TJProg), (⟨c33, c43, c53, c63⟩ : TJFunc), c73, c83, c93, c103⟩ : Tchecker))
   else
    (Za x_1 x_ c_ c03 c13 c23 c33 c43 c53 c63 c73 c83 c93 c103 v34 K2_ k) (wi (v73 + 1))
  else
   K2_ ()
theorem Z4e {Q : AExit → St → Prop} {x_1 : TJFunc} {x_ : TJIns} {c_ : Tchecker} {c03 : (List TJFunc)} {c13 : (List TJVal)} {c23 : (List TT)} {c33 : Int} {c43 : Int} {c53 : (List Int)} {c63 : (List TJIns)} {c73 : Int} {c83 : (List (Int × Tstate))} {c93 : (List Int)} {c103 : Bool} {v34 : Int} {K2_ : Unit → Option (Bool × Tchecker)} {zc93 : Bool} (hzc93 : zc93 = true → c93 = []) {k : Nat} {v73 : Int} {o : (Bool × Tchecker)} (h : Za x_1 x_ c_ c03 c13 c23 c33 c43 c53 c63 c73 c83 c93 c103 v34 K2_ k v73 = some o)
  (hK2 : Z4c c_ v34 c03 c13 c23 c33 c43 c53 c63 c73 zc93 c93 c103 c83 x_ K2_ o (Q (.exit 2)))
  (hr : ∀ s, Ends a8.results 3 (Z13 o) .ret s → Q .ret s) :
  Sv Tryd.prog GG 3 (.loop a8_clerestory_code_checker_form1_c0) Q ⟨(ue [(73, (I v73)), (72, (I (x_1.Caught.length : Int))), (71, (.c (.ro false 1 (x_1.Caught.map eI)))), (34, (I v34)), (33, (I (c_.f_f.Code.length : Int))), (32, (.c (.ro false 2 (c_.f_f.Code.map e_TJIns)))), (5, (.c (.ref 5 2 0 0))), (3, (.c (.ref 4 4 0 0))), (0, (.c (.ref 0 11 0 0)))]), (upd (upd (upd (upd (upd e0 0 (some (.cells 11 [[.ro false 4 (c03.map e_TJFunc), .ro false 3 (c13.map e_TJVal), .ro false 1 (c23.map (eSl 1 eStr)), cI c33, cI c43, .ro false 1 (c53.map eI), .ro false 2 (c63.map e_TJIns), cI c73, .mp 1, lstC zc93 3 1 c93.length, cB c103]]))) 1 (mapB (.i .i64) (fun x => cI x) (fun (x : Tstate) => (.agg [cI x.f_height, .ro false 1 (x.f_tries.map eI)])) c83)) 3 (lstB zc93 1 (c93.map eI))) 4 (some (.cells 4 [(e_TJFunc c_.f_f)]))) 5 (some (.cells 2 [(e_TJIns x_)]))), 6⟩ := by
 refine Sv.loop (I := Z33 c_ v34 x_1 c03 c13 c23 c33 c43 c53 c63 c73 zc93 c93 c103 c83 x_ (Za x_1 x_ c_ c03 c13 c23 c33 c43 c53 c63 c73 c83 c93 c103 v34 K2_) o) (fun k s hI => ?_) ⟨v73, h, rfl⟩
 clear h
 clear v73
 obtain ⟨v73, h, rfl⟩ := hI
 cases k with
 | zero => cases h
 | succ k =>
 rw [Za] at h
 have hself : Z4d c_ v34 x_1 c03 c13 c23 c33 c43 c53 c63 c73 zc93 c93 c103 c83 x_ (Za x_1 x_ c_ c03 c13 c23 c33 c43 c53 c63 c73 c83 c93 c103 v34 K2_ k) o (rnd 3 (Z33 c_ v34 x_1 c03 c13 c23 c33 c43 c53 c63 c73 zc93 c93 c103 c83 x_ (Za x_1 x_ c_ c03 c13 c23 c33 c43 c53 c63 c73 c83 c93 c103 v34 K2_) o) k Q) := fun v73 h s hw => ⟨_, k, hw, Nat.lt_succ_self k, v73, h, rfl⟩
 refine ssr <| un1 (v := (B (decide (v73 < (x_1.Caught.length : Int))))) rfl <| dnil <| Sv.seq ?_
 refine Sv.cnd rfl h (fun h => ?_) fun h => ?_
 ·refine Sv.skip <| Sv.seq <| Sv.block <| ssr ?_
  obtain ⟨x_2, hx3, h⟩ := bnd h
  refine un1 (v := (.c (.rop [cI x_2]))) (s_iaddr (e := eI) (xs := x_1.Caught) rfl rfl hx3) <| un1 (v := (I x_2)) rfl <| un1 rfl <| dnil <| ssr <| un1 (v := (.c (.ref 5 2 0 1))) rfl <| un1 (v := (I x_.A)) rfl <| un1 (v := (B (decide (x_.A = 0)))) rfl <| un1 rfl ?_
  refine gjoin 3 (d := 83) (v := (B ((decide (x_.A = 0)) || (decide (x_2 < 0))))) (fun X hX => ?_) ?_
  ·refine split2 (fun hc8 => ?_) (fun hc8 => ?_)
   ·refine gs rfl rfl <| gs rfl rfl <| un1 (v := (B true)) rfl <| dnil ?_
    exact hX _ (.putEq (by rw [hc8]; rfl) (.skp (.skp (.putEq (by rw [hc8]) (.refl _)) rfl) rfl))
   ·refine gt rfl <| a1 rfl <| gt rfl <| a1 (v := (B (decide (x_2 < 0)))) rfl <| un1 (v := (B (decide (x_2 < 0)))) rfl <| dnil ?_
    exact hX _ (.putEq (by rw [hc8]; rfl) (.skp (.skp (.putEq (by rw [hc8]) (.refl _)) rfl) rfl))
  refine un1 rfl ?_
  refine gjoin 5 (d := 89) (v := (B (((decide (x_.A = 0)) || (decide (x_2 < 0))) || (decide (c_.f_f.Slots ≤ x_2))))) (fun X hX => ?_) ?_
  ·refine split2 (fun hc9 => ?_) (fun hc9 => ?_)
   ·refine gs rfl rfl <| gs rfl rfl <| gs rfl rfl <| gs rfl rfl <| un1 (v := (B true)) rfl <| dnil ?_
    exact hX _ (.putEq (by rw [hc9]; rfl) (.skp (.skp (.skp (.skp (.putEq (by rw [hc9]) (.refl _)) rfl) rfl) rfl) rfl))
   ·refine gt rfl <| a1 rfl <| gt rfl <| a1 (v := (.c (.ref 4 4 0 1))) rfl <| gt rfl <| a1 (v := (I c_.f_f.Slots)) rfl <| gt rfl <| a1 (v := (B (decide (c_.f_f.Slots ≤ x_2)))) rfl <| un1 (v := (B (decide (c_.f_f.Slots ≤ x_2)))) rfl <| dnil ?_
    exact hX _ (.putEq (by rw [hc9]; rfl) (.skp (.skp (.skp (.skp (.putEq (by rw [hc9]) (.refl _)) rfl) rfl) rfl) rfl))
  refine dnil ?_
  refine Sv.cnd rfl h (fun h => ?_) fun h => ?_
  ·refine ssr <| un1 rfl <| dnil <| Sv.ret ?_
   replace h := Option.some.inj h
   subst h
   exact hr _ ⟨_, .refl _, _, rfl, ⟨upd e0 0 (some (B false)), (upd (upd (upd e0 0 (some (.cells 11 [[.ro false 4 (c03.map e_TJFunc), .ro false 3 (c13.map e_TJVal), .ro false 1 (c23.map (eSl 1 eStr)), cI c33, cI c43, .ro false 1 (c53.map eI), .ro false 2 (c63.map e_TJIns), cI c73, .mp 1, lstC zc93 3 1 c93.length, cB c103]]))) 1 (mapB (.i .i64) (fun x => cI x) (fun (x : Tstate) => (.agg [cI x.f_height, .ro false 1 (x.f_tries.map eI)])) c83)) 3 (lstB zc93 1 (c93.map eI))), 4⟩, (B false), weak_canon2 [0, 1, 2, 3] [0, 1, 3] (by decide) (by decide) (by decide) (.cons (by decide) (.cons (by decide) (.cons (by decide) .nil))) (.cf rfl rfl .nil) (.row (by decide) rfl (fr_map fun _ => rfl) (.box (by decide) rfl .map (.box (by decide) rfl (blkAs_cells (.sm rfl (.sm rfl (.sm rfl (.sm rfl (.sm rfl (.sm rfl (.sm rfl (.sm rfl (.cons (.mp rfl (by decide)) (.cons (lstC_ren rfl (by decide)) (.sm rfl .nil)))))))))))) .nil))), rfl, zc93, hzc93, rfl, rfl, rfl⟩
  ·refine Sv.skip <| srg <| un1 (v := (I (wi (v73 + 1)))) rfl <| un1 rfl <| dnil ?_
   exact hself (wi (v73 + 1)) h _ (weak_canon [0, 1, 2, 3, 4, 5] rfl (by decide) (by decide) (by decide) (.cf rfl rfl (.cf rfl rfl (.cf rfl rfl (.cf rfl rfl (.cf rfl rfl (.cf rfl rfl (.cr rfl rfl rfl (.cr rfl rfl rfl (.cr rfl rfl rfl .nil))))))))) (.box (by decide) rfl (blkAs_cells (.sm rfl (.sm rfl .nil))) (.box (by decide) rfl (blkAs_cells (.sm rfl (.sm rfl (.sm rfl (.sm rfl .nil))))) (.row (by decide) rfl (fr_map fun _ => rfl) (.box (by decide) rfl .map (.box (by decide) rfl (blkAs_cells (.sm rfl (.sm rfl (.sm rfl (.sm rfl (.sm rfl (.sm rfl (.sm rfl (.sm rfl (.cons (.mp rfl (by decide)) (.cons (lstC_ren rfl (by decide)) (.sm rfl .nil)))))))))))) .nil))))))
 ·refine Sv.exit ?_
  exact hK2 () h _ (weak_canon [0, 1, 2, 3, 4, 5] rfl (by decide) (by decide) (by decide) (.cf rfl rfl (.cf rfl rfl (.cf rfl rfl (.cr rfl rfl rfl (.cr rfl rfl rfl (.cr rfl rfl rfl .nil)))))) (.box (by decide) rfl (blkAs_cells (.sm rfl (.sm rfl .nil))) (.box (by decide) rfl (blkAs_cells (.sm rfl (.sm rfl (.sm rfl (.sm rfl .nil))))) (.row (by decide) rfl (fr_map fun _ => rfl) (.box (by decide) rfl .map (.box (by decide) rfl (blkAs_cells (.sm rfl (.sm rfl (.sm rfl (.sm rfl (.sm rfl (.sm rfl (.sm rfl (.sm rfl (.cons (.mp rfl (by decide)) (.cons (lstC_ren rfl (by decide)) (.sm rfl .nil)))))))))))) .nil))))))
abbrev Z4f (Q : AExit → St → Prop) : AExit → St → Prop := AThen (Sv Tryd.prog GG 3 a8_clerestory_code_checker_form1_c1 Q) Q
abbrev Z34 (Q : AExit → St → Prop) : AExit → St → Prop := ABlock 1 (Z4f Q)
abbrev Z4g (Q : AExit → St → Prop) : AExit → St → Prop := AThen (Sv Tryd.prog GG 3 a8_clerestory_code_checker_form1_c3 (Z34 Q)) (Z34 Q)
noncomputable def Zk (x_ : TJIns) (c_ : Tchecker) (v34 : Int) (self : (List TJFunc) → (List TJVal) → (List TT) → Int → Int → (List Int) → (List TJIns) → Int → (List (Int × Tstate)) → (List Int) → Bool → Int → Option (Bool × Tchecker)) (K0_ : (List TJFunc) → (List TJVal) → (List TT) → Int → Int → (List Int) → (List TJIns) → Int → (List (Int × Tstate)) → (List Int) → Bool → Option (Bool × Tchecker)) (c03 : (List TJFunc)) (c13 : (List TJVal)) (c23 : (List TT)) (c33 : Int) (c43 : Int) (c53 : (List Int)) (c63 : (List TJIns)) (c73 : Int) (c83 : (List (Int × Tstate))) (c93 : (List Int)) (c103 : Bool) (v58 : Bool) : Option (Bool × Tchecker) :=
 if v58 then
  some (false, (⟨(⟨c03, c13, c23⟩ : TJProg), (⟨c33, c43, c53, c63⟩ : TJFunc), c73, c83, c93, c103⟩ : Tchecker))
 else
  if decide (x_.Do = 16) then
   (at? c03 x_.A).bind fun x_1 =>
   lim fun kk => Za x_1 x_ c_ c03 c13 c23 c33 c43 c53 c63 c73 c83 c93 c103 v34 (fun (_ : Unit) => 
     if decide (x_.A = 0) then
      some (false, (⟨(⟨c03, c13, c23⟩ : TJProg), (⟨c33, c43, c53, c63⟩ : TJFunc), c73, c83, c93, c103⟩ : Tchecker))
     else
      Zq v34 c_ self K0_ c03 c13 c23 c33 c43 c53 c63 c73 c83 c93 c103) kk 0
  else
   Zq v34 c_ self K0_ c03 c13 c23 c33 c43 c53 c63 c73 c83 c93 c103
theorem Z24 {Q : AExit → St → Prop} {x_ : TJIns} {c_ : Tchecker} {v34 : Int} {self : (List TJFunc) → (List TJVal) → (List TT) → Int → Int → (List Int) → (List TJIns) → Int → (List (Int × Tstate)) → (List Int) → Bool → Int → Option (Bool × Tchecker)} {K0_ : (List TJFunc) → (List TJVal) → (List TT) → Int → Int → (List Int) → (List TJIns) → Int → (List (Int × Tstate)) → (List Int) → Bool → Option (Bool × Tchecker)} {c03 : (List TJFunc)} {c13 : (List TJVal)} {c23 : (List TT)} {c33 : Int} {c43 : Int} {c53 : (List Int)} {c63 : (List TJIns)} {c73 : Int} {c83 : (List (Int × Tstate))} {c93 : (List Int)} {c103 : Bool} {v58 : Bool} {zc93 : Bool} (hzc93 : zc93 = true → c93 = []) {o : (Bool × Tchecker)} (h : Zk x_ c_ v34 self K0_ c03 c13 c23 c33 c43 c53 c63 c73 c83 c93 c103 v58 = some o)
  (hself : Z2c c_ self o (Q .normal))
  (hK0 : Z2d K0_ o (Q (.exit 0)))
  (hr : ∀ s, Ends a8.results 3 (Z13 o) .ret s → Q .ret s) :
  Sv Tryd.prog GG 3 a8_clerestory_code_checker_form1_c2 (Z4g Q) ⟨(ue [(58, (B v58)), (34, (I v34)), (33, (I (c_.f_f.Code.length : Int))), (32, (.c (.ro false 2 (c_.f_f.Code.map e_TJIns)))), (5, (.c (.ref 5 2 0 0))), (3, (.c (.ref 4 4 0 0))), (0, (.c (.ref 0 11 0 0)))]), (upd (upd (upd (upd (upd e0 0 (some (.cells 11 [[.ro false 4 (c03.map e_TJFunc), .ro false 3 (c13.map e_TJVal), .ro false 1 (c23.map (eSl 1 eStr)), cI c33, cI c43, .ro false 1 (c53.map eI), .ro false 2 (c63.map e_TJIns), cI c73, .mp 1, lstC zc93 3 1 c93.length, cB c103]]))) 1 (mapB (.i .i64) (fun x => cI x) (fun (x : Tstate) => (.agg [cI x.f_height, .ro false 1 (x.f_tries.map eI)])) c83)) 3 (lstB zc93 1 (c93.map eI))) 4 (some (.cells 4 [(e_TJFunc c_.f_f)]))) 5 (some (.cells 2 [(e_TJIns x_)]))), 6⟩ := by
 unfold Zk at h
 refine Sv.cnd rfl h (fun h => ?_) fun h => ?_
 ·refine ssr <| un1 rfl <| dnil <| Sv.ret ?_
  replace h := Option.some.inj h
  subst h
  exact hr _ ⟨_, .refl _, _, rfl, ⟨upd e0 0 (some (B false)), (upd (upd (upd e0 0 (some (.cells 11 [[.ro false 4 (c03.map e_TJFunc), .ro false 3 (c13.map e_TJVal), .ro false 1 (c23.map (eSl 1 eStr)), cI c33, cI c43, .ro false 1 (c53.map eI), .ro false 2 (c63.map e_TJIns), cI c73, .mp 1, lstC zc93 3 1 c93.length, cB c103]]))) 1 (mapB (.i .i64) (fun x => cI x) (fun (x : Tstate) => (.agg [cI x.f_height, .ro false 1 (x.f_tries.map eI)])) c83)) 3 (lstB zc93 1 (c93.map eI))), 4⟩, (B false), weak_canon2 [0, 1, 2, 3] [0, 1, 3] (by decide) (by decide) (by decide) (.cons (by decide) (.cons (by decide) (.cons (by decide) .nil))) (.cf rfl rfl .nil) (.row (by decide) rfl (fr_map fun _ => rfl) (.box (by decide) rfl .map (.box (by decide) rfl (blkAs_cells (.sm rfl (.sm rfl (.sm rfl (.sm rfl (.sm rfl (.sm rfl (.sm rfl (.sm rfl (.cons (.mp rfl (by decide)) (.cons (lstC_ren rfl (by decide)) (.sm rfl .nil)))))))))))) .nil))), rfl, zc93, hzc93, rfl, rfl, rfl⟩
 ·refine Sv.skip <| ssr <| un1 (v := (.c (.ref 5 2 0 0))) rfl <| un1 (v := (I x_.Do)) rfl <| un1 (v := (B (decide (x_.Do = 16)))) rfl <| dnil ?_
  refine Sv.cnd rfl h (fun h => ?_) fun h => ?_
  ·refine Sv.seq <| Sv.seq <| Sv.drawn <| un1 rfl <| un1 (v := (.c (.ref 0 11 0 0))) rfl <| un1 (v := (.c (.ref 0 11 0 0))) rfl <| un1 (v := (.c (.ref 0 11 0 0))) rfl <| un1 (v := (.c (.ro false 4 (c03.map e_TJFunc)))) rfl <| un1 (v := (.c (.ref 5 2 0 1))) rfl <| un1 (v := (I x_.A)) rfl ?_
   obtain ⟨x_1, hx2, h⟩ := bnd h
   refine un1 (v := (.c (.rop (e_TJFunc x_1)))) (s_iaddr (e := e_TJFunc) (xs := c03) rfl rfl hx2) <| un1 (v := (.c (.rop [.ro false 1 (x_1.Caught.map eI), .ro false 2 (x_1.Code.map e_TJIns)]))) rfl <| un1 (v := (.c (.ro false 1 (x_1.Caught.map eI)))) rfl <| un1 (v := (I (x_1.Caught.length : Int))) (s_len (e := eI) (xs := x_1.Caught) rfl) <| un1 rfl <| dnil <| Sv.block ?_
   obtain ⟨kk, h⟩ := lim_some h
   refine Sv.weak (weak_canon [0, 1, 2, 3, 4, 5] rfl (by decide) (by decide) (by decide) (.cf rfl rfl (.cf rfl rfl (.cf rfl rfl (.cf rfl rfl (.cf rfl rfl (.cf rfl rfl (.cr rfl rfl rfl (.cr rfl rfl rfl (.cr rfl rfl rfl .nil))))))))) (.box (by decide) rfl (blkAs_cells (.sm rfl (.sm rfl .nil))) (.box (by decide) rfl (blkAs_cells (.sm rfl (.sm rfl (.sm rfl (.sm rfl .nil))))) (.row (by decide) rfl (fr_map fun _ => rfl) (.box (by decide) rfl .map (.box (by decide) rfl (blkAs_cells (.sm rfl (.sm rfl (.sm rfl (.sm rfl (.sm rfl (.sm rfl (.sm rfl (.sm rfl (.cons (.mp rfl (by decide)) (.cons (lstC_ren rfl (by decide)) (.sm rfl .nil)))))))))))) .nil)))))) (Z4e hzc93 h ?_ hr)
   ·intro _ h _ hw1
    refine Sv.weak hw1 <| ssr <| un1 (v := (.c (.ref 5 2 0 1))) rfl <| un1 (v := (I x_.A)) rfl <| un1 (v := (B (decide (x_.A = 0)))) rfl <| dnil ?_
    refine Sv.cnd rfl h (fun h => ?_) fun h => ?_
    ·refine ssr <| un1 rfl <| dnil <| Sv.ret ?_
     replace h := Option.some.inj h
     subst h
     exact hr _ ⟨_, .refl _, _, rfl, ⟨upd e0 0 (some (B false)), (upd (upd (upd e0 0 (some (.cells 11 [[.ro false 4 (c03.map e_TJFunc), .ro false 3 (c13.map e_TJVal), .ro false 1 (c23.map (eSl 1 eStr)), cI c33, cI c43, .ro false 1 (c53.map eI), .ro false 2 (c63.map e_TJIns), cI c73, .mp 1, lstC zc93 3 1 c93.length, cB c103]]))) 1 (mapB (.i .i64) (fun x => cI x) (fun (x : Tstate) => (.agg [cI x.f_height, .ro false 1 (x.f_tries.map eI)])) c83)) 3 (lstB zc93 1 (c93.map eI))), 4⟩, (B false), weak_canon2 [0, 1, 2, 3] [0, 1, 3] (by decide) (by decide) (by decide) (.cons (by decide) (.cons (by decide) (.cons (by decide) .nil))) (.cf rfl rfl .nil) (.row (by decide) rfl (fr_map fun _ => rfl) (.box (by decide) rfl .map (.box (by decide) rfl (blkAs_cells (.sm rfl (.sm rfl (.sm rfl (.sm rfl (.sm rfl (.sm rfl (.sm rfl (.sm rfl (.cons (.mp rfl (by decide)) (.cons (lstC_ren rfl (by decide)) (.sm rfl .nil)))))))))))) .nil))), rfl, zc93, hzc93, rfl, rfl, rfl⟩
    ·refine Sv.skip ?_
     exact Sv.weak (weak_canon [0, 1, 2, 3, 4] rfl (by decide) (by decide) (by decide) (.cf rfl rfl (.cf rfl rfl (.cf rfl rfl (.cr rfl rfl rfl (.cr rfl rfl rfl .nil))))) (.box (by decide) rfl (blkAs_cells (.sm rfl (.sm rfl (.sm rfl (.sm rfl .nil))))) (.row (by decide) rfl (fr_map fun _ => rfl) (.box (by decide) rfl .map (.box (by decide) rfl (blkAs_cells (.sm rfl (.sm rfl (.sm rfl (.sm rfl (.sm rfl (.sm rfl (.sm rfl (.sm rfl (.cons (.mp rfl (by decide)) (.cons (lstC_ren rfl (by decide)) (.sm rfl .nil)))))))))))) .nil))))) (Z32 hzc93 h hself hK0 hr)
  ·refine Sv.skip ?_
   exact Sv.weak (weak_canon [0, 1, 2, 3, 4] rfl (by decide) (by decide) (by decide) (.cf rfl rfl (.cf rfl rfl (.cf rfl rfl (.cr rfl rfl rfl (.cr rfl rfl rfl .nil))))) (.box (by decide) rfl (blkAs_cells (.sm rfl (.sm rfl (.sm rfl (.sm rfl .nil))))) (.row (by decide) rfl (fr_map fun _ => rfl) (.box (by decide) rfl .map (.box (by decide) rfl (blkAs_cells (.sm rfl (.sm rfl (.sm rfl (.sm rfl (.sm rfl (.sm rfl (.sm rfl (.sm rfl (.cons (.mp rfl (by decide)) (.cons (lstC_ren rfl (by decide)) (.sm rfl .nil)))))))))))) .nil))))) (Z32 hzc93 h hself hK0 hr)
abbrev Z35 (c_ : Tchecker) (F_ : Nat → (List TJFunc) → (List TJVal) → (List TT) → Int → Int → (List Int) → (List TJIns) → Int → (List (Int × Tstate)) → (List Int) → Bool → Int → Option (Bool × Tchecker)) (o : (Bool × Tchecker)) : Nat → St → Prop := fun k s => ∃ (c0 : (List TJFunc)), ∃ (c1 : (List TJVal)), ∃ (c2 : (List TT)), ∃ (c3 : Int), ∃ (c4 : Int), ∃ (c5 : (List Int)), ∃ (c6 : (List TJIns)), ∃ (c7 : Int), ∃ (c8 : (List (Int × Tstate))), ∃ (c9 : (List Int)), ∃ (c10 : Bool), ∃ (v34 : Int), ∃ (zc9 : Bool), (zc9 = true → c9 = []) ∧ F_ k c0 c1 c2 c3 c4 c5 c6 c7 c8 c9 c10 v34 = some o ∧ s = ⟨(ue [(34, (I v34)), (33, (I (c_.f_f.Code.length : Int))), (32, (.c (.ro false 2 (c_.f_f.Code.map e_TJIns)))), (3, (.c (.ref 4 4 0 0))), (0, (.c (.ref 0 11 0 0)))]), (upd (upd (upd (upd e0 0 (some (.cells 11 [[.ro false 4 (c0.map e_TJFunc), .ro false 3 (c1.map e_TJVal), .ro false 1 (c2.map (eSl 1 eStr)), cI c3, cI c4, .ro false 1 (c5.map eI), .ro false 2 (c6.map e_TJIns), cI c7, .mp 1, lstC zc9 3 1 c9.length, cB c10]]))) 1 (mapB (.i .i64) (fun x => cI x) (fun (x : Tstate) => (.agg [cI x.f_height, .ro false 1 (x.f_tries.map eI)])) c8)) 3 (lstB zc9 1 (c9.map eI))) 4 (some (.cells 4 [(e_TJFunc c_.f_f)]))), 5⟩
noncomputable def Z4 (c_ : Tchecker) (K0_ : (List TJFunc) → (List TJVal) → (List TT) → Int → Int → (List Int) → (List TJIns) → Int → (List (Int × Tstate)) → (List Int) → Bool → Option (Bool × Tchecker)) : Nat → (List TJFunc) → (List TJVal) → (List TT) → Int → Int → (List Int) → (List TJIns) → Int → (List (Int × Tstate)) → (List Int) → Bool → Int → Option (Bool × Tchecker)
 | 0, _, _, _, _, _, _, _, _, _, _, _, _ => none
 | k + 1, c0, c1, c2, c3, c4, c5, c6, c7, c8, c9, c10, v34 =>
  if decide (v34 < (c_.f_f.Code.length : Int)) then
   (at? c_.f_f.Code v34).bind fun x_ =>
   if (((decide (x_.Do < 1)) || (decide (25 < x_.Do))) || (decide (x_.A < 0))) then
    Zk x_ c_ v34 (Z4 c_ K0_ k) K0_ c0 c1 c2 c3 c4 c5 c6 c7 c8 c9 c10 true
   else
    (Z12 (⟨(⟨c0, c1, c2⟩ : TJProg), (⟨c3, c4, c5, c6⟩ : TJFunc), c7, c8, c9, c10⟩ : Tchecker) x_).bind fun r_ =>
    Zk x_ c_ v34 (Z4 c_ K0_ k) K0_ r_.2.f_p.Funcs r_.2.f_p.Consts r_.2.f_p.Shapes r_.2.f_f.Params r_.2.f_f.Slots r_.2.f_f.Caught r_.2.f_f.Code r_.2.f_own r_.2.f_seen r_.2.f_todo r_.2.f_bad (decide (r_.1 ≤ x_.A))
  else
   K0_ c0 c1 c2 c3 c4 c5 c6 c7 c8 c9 c10
theorem Z4h {Q : AExit → St → Prop} {c_ : Tchecker} {K0_ : (List TJFunc) → (List TJVal) → (List TT) → Int → Int → (List Int) → (List TJIns) → Int → (List (Int × Tstate)) → (List Int) → Bool → Option (Bool × Tchecker)} {k : Nat} {c0 : (List TJFunc)} {c1 : (List TJVal)} {c2 : (List TT)} {c3 : Int} {c4 : Int} {c5 : (List Int)} {c6 : (List TJIns)} {c7 : Int} {c8 : (List (Int × Tstate))} {c9 : (List Int)} {c10 : Bool} {v34 : Int} {zc9 : Bool} (hzc9 : zc9 = true → c9 = []) {o : (Bool × Tchecker)} (h : Z4 c_ K0_ k c0 c1 c2 c3 c4 c5 c6 c7 c8 c9 c10 v34 = some o)
  (hK0 : Z2d K0_ o (Q (.exit 0)))
  (hr : ∀ s, Ends a8.results 3 (Z13 o) .ret s → Q .ret s) :
  Sv Tryd.prog GG 3 (.loop a8_clerestory_code_checker_form1_c4) Q ⟨(ue [(34, (I v34)), (33, (I (c_.f_f.Code.length : Int))), (32, (.c (.ro false 2 (c_.f_f.Code.map e_TJIns)))), (3, (.c (.ref 4 4 0 0))), (0, (.c (.ref 0 11 0 0)))]), (upd (upd (upd (upd e0 0 (some (.cells 11 [[.ro false 4 (c0.map e_TJFunc), .ro false 3 (c1.map e_TJVal), .ro false 1 (c2.map (eSl 1 eStr)), cI c3, cI c4, .ro false 1 (c5.map eI), .ro false 2 (c6.map e_TJIns), cI c7, .mp 1, lstC zc9 3 1 c9.length, cB c10]]))) 1 (mapB (.i .i64) (fun x => cI x) (fun (x : Tstate) => (.agg [cI x.f_height, .ro false 1 (x.f_tries.map eI)])) c8)) 3 (lstB zc9 1 (c9.map eI))) 4 (some (.cells 4 [(e_TJFunc c_.f_f)]))), 5⟩ := by
 refine Sv.loop (I := Z35 c_ (Z4 c_ K0_) o) (fun k s hI => ?_) ⟨c0, c1, c2, c3, c4, c5, c6, c7, c8, c9, c10, v34, zc9, hzc9, h, rfl⟩
 clear h
 clear hzc9 zc9 v34 c10 c9 c8 c7 c6 c5 c4 c3 c2 c1 c0
 obtain ⟨c0, c1, c2, c3, c4, c5, c6, c7, c8, c9, c10, v34, zc9, hzc9, h, rfl⟩ := hI
 cases k with
 | zero => cases h
 | succ k =>
 rw [Z4] at h
 have hself : Z2c c_ (Z4 c_ K0_ k) o (rnd 3 (Z35 c_ (Z4 c_ K0_) o) k Q) := fun c0 c1 c2 c3 c4 c5 c6 c7 c8 c9 c10 v34 zc9 hzc9 h s hw => ⟨_, k, hw, Nat.lt_succ_self k, c0, c1, c2, c3, c4, c5, c6, c7, c8, c9, c10, v34, zc9, hzc9, h, rfl⟩
 refine ssr <| un1 (v := (B (decide (v34 < (c_.f_f.Code.length : Int))))) rfl <| dnil <| Sv.seq ?_
 refine Sv.cnd rfl h (fun h => ?_) fun h => ?_
 ·refine Sv.skip <| Sv.seq <| Sv.block <| ssr ?_
  obtain ⟨x_, hx1, h⟩ := bnd h
  refine un1 (v := (.c (.rop (e_TJIns x_)))) (s_iaddr (e := e_TJIns) (xs := c_.f_f.Code) rfl rfl hx1) <| un1 (v := (.agg (e_TJIns x_))) rfl <| un <| a2v (v := (.c (.ref 5 2 0 0))) (h' := upd _ 5 (some (.cells 2 [[cI 0, cI 0]]))) (n' := 6) rfl rfl hcs <| un <| a2n (h' := upd _ 5 (some (.cells 2 [(e_TJIns x_)]))) (n' := 6) rfl rfl hcs <| dnil <| Sv.seq <| Sv.seq <| Sv.drawn2 <| un1 (v := (.c (.ref 5 2 0 0))) rfl <| un1 (v := (I x_.Do)) rfl <| un1 (v := (B (decide (x_.Do < 1)))) rfl <| un1 rfl ?_
  refine gjoin 4 (d := 45) (v := (B ((decide (x_.Do < 1)) || (decide (25 < x_.Do))))) (fun X hX => ?_) ?_
  ·refine split2 (fun hc12 => ?_) (fun hc12 => ?_)
   ·refine gs rfl rfl <| gs rfl rfl <| gs rfl rfl <| un1 (v := (B true)) rfl <| dnil ?_
    exact hX _ (.putEq (by rw [hc12]; rfl) (.skp (.skp (.skp (.putEq (by rw [hc12]) (.refl _)) rfl) rfl) rfl))
   ·refine gt rfl <| a1 (v := (.c (.ref 5 2 0 0))) rfl <| gt rfl <| a1 (v := (I x_.Do)) rfl <| gt rfl <| a1 (v := (B (decide (25 < x_.Do)))) rfl <| un1 (v := (B (decide (25 < x_.Do)))) rfl <| dnil ?_
    exact hX _ (.putEq (by rw [hc12]; rfl) (.skp (.skp (.skp (.putEq (by rw [hc12]) (.refl _)) rfl) rfl) rfl))
  refine un1 rfl ?_
  refine gjoin 4 (d := 50) (v := (B (((decide (x_.Do < 1)) || (decide (25 < x_.Do))) || (decide (x_.A < 0))))) (fun X hX => ?_) ?_
  ·refine split2 (fun hc13 => ?_) (fun hc13 => ?_)
   ·refine gs rfl rfl <| gs rfl rfl <| gs rfl rfl <| un1 (v := (B true)) rfl <| dnil ?_
    exact hX _ (.putEq (by rw [hc13]; rfl) (.skp (.skp (.skp (.putEq (by rw [hc13]) (.refl _)) rfl) rfl) rfl))
   ·refine gt rfl <| a1 (v := (.c (.ref 5 2 0 1))) rfl <| gt rfl <| a1 (v := (I x_.A)) rfl <| gt rfl <| a1 (v := (B (decide (x_.A < 0)))) rfl <| un1 (v := (B (decide (x_.A < 0)))) rfl <| dnil ?_
    exact hX _ (.putEq (by rw [hc13]; rfl) (.skp (.skp (.skp (.putEq (by rw [hc13]) (.refl _)) rfl) rfl) rfl))
  refine un1 rfl ?_
  refine spl h (fun h => ?_) fun h => ?_
  ·refine gs rfl rfl <| gs rfl rfl <| gs rfl rfl <| dnil ?_
   refine ⟨?_, ?_⟩
   ·refine gs rfl rfl <| gs rfl rfl <| gs rfl rfl <| un1 (v := (B true)) rfl <| dnil ?_
    exact Sv.weak (weak_canon [0, 1, 2, 3, 4, 5] rfl (by decide) (by decide) (by decide) (.cf rfl rfl (.cf rfl rfl (.cf rfl rfl (.cf rfl rfl (.cr rfl rfl rfl (.cr rfl rfl rfl (.cr rfl rfl rfl .nil))))))) (.box (by decide) rfl (blkAs_cells (.sm rfl (.sm rfl .nil))) (.box (by decide) rfl (blkAs_cells (.sm rfl (.sm rfl (.sm rfl (.sm rfl .nil))))) (.row (by decide) rfl (fr_map fun _ => rfl) (.box (by decide) rfl .map (.box (by decide) rfl (blkAs_cells (.sm rfl (.sm rfl (.sm rfl (.sm rfl (.sm rfl (.sm rfl (.sm rfl (.sm rfl (.cons (.mp rfl (by decide)) (.cons (lstC_ren rfl (by decide)) (.sm rfl .nil)))))))))))) .nil)))))) (Z24 hzc9 h hself hK0 hr)
   ·refine gs rfl rfl <| gs rfl rfl <| gs rfl rfl <| un1 (v := (B true)) rfl <| dnil ?_
    exact Sv.weak (weak_canon [0, 1, 2, 3, 4, 5] rfl (by decide) (by decide) (by decide) (.cf rfl rfl (.cf rfl rfl (.cf rfl rfl (.cf rfl rfl (.cr rfl rfl rfl (.cr rfl rfl rfl (.cr rfl rfl rfl .nil))))))) (.box (by decide) rfl (blkAs_cells (.sm rfl (.sm rfl .nil))) (.box (by decide) rfl (blkAs_cells (.sm rfl (.sm rfl (.sm rfl (.sm rfl .nil))))) (.row (by decide) rfl (fr_map fun _ => rfl) (.box (by decide) rfl .map (.box (by decide) rfl (blkAs_cells (.sm rfl (.sm rfl (.sm rfl (.sm rfl (.sm rfl (.sm rfl (.sm rfl (.sm rfl (.cons (.mp rfl (by decide)) (.cons (lstC_ren rfl (by decide)) (.sm rfl .nil)))))))))))) .nil)))))) (Z24 hzc9 h hself hK0 hr)
  ·refine gt rfl <| a1 (v := (.c (.ref 5 2 0 1))) rfl <| gt rfl <| a1 rfl <| gt rfl <| a1 (v := (.agg (e_TJIns x_))) rfl <| dnil ?_
   refine ⟨?_, ?_⟩
   ·refine gt rfl <| a1 (v := (I x_.A)) rfl ?_
    obtain ⟨r_, hr1, h⟩ := bnd h
    refine gt rfl <| ac_gen (bs := [0, 1, 3]) («as» := [(.c (.ref 0 11 0 0)), (.agg (e_TJIns x_))]) (h2 := _) (h1 := (upd (upd (upd e0 0 (some (.cells 11 [[.ro false 4 (c0.map e_TJFunc), .ro false 3 (c1.map e_TJVal), .ro false 1 (c2.map (eSl 1 eStr)), cI c3, cI c4, .ro false 1 (c5.map eI), .ro false 2 (c6.map e_TJIns), cI c7, .mp 1, lstC zc9 3 1 c9.length, cB c10]]))) 1 (mapB (.i .i64) (fun x => cI x) (fun (x : Tstate) => (.agg [cI x.f_height, .ro false 1 (x.f_tries.map eI)])) c8)) 3 (lstB zc9 1 (c9.map eI)))) (Z31 hzc9 hr1) rfl (.cons (.c (.ref rfl (by decide))) (.cons (avAs_free rfl) .nil)) (hsub_refl _) (.cons rfl (.cons rfl (.cons rfl (.nil _)))) hcs (by decide) (by decide) (.cons (.c (.ref rfl (by decide))) (.cons (avAs_free rfl) .nil)) (.row (by decide) rfl (fr_map fun _ => rfl) (.box (by decide) rfl .map (.box (by decide) rfl (blkAs_cells (.sm rfl (.sm rfl (.sm rfl (.sm rfl (.sm rfl (.sm rfl (.sm rfl (.sm rfl (.cons (.mp rfl (by decide)) (.cons (lstC_ren rfl (by decide)) (.sm rfl .nil)))))))))))) .nil))) ?_
    rintro _ _ _ hn ⟨z_, hz_, rfl, rfl, rfl⟩
    refine ⟨.inl rfl, (upd (upd (upd (rem [0, 1, 3] _) 0 (some (.cells 11 [[.ro false 4 (r_.2.f_p.Funcs.map e_TJFunc), .ro false 3 (r_.2.f_p.Consts.map e_TJVal), .ro false 1 (r_.2.f_p.Shapes.map (eSl 1 eStr)), cI r_.2.f_f.Params, cI r_.2.f_f.Slots, .ro false 1 (r_.2.f_f.Caught.map eI), .ro false 2 (r_.2.f_f.Code.map e_TJIns), cI r_.2.f_own, .mp 1, lstC z_ 6 1 r_.2.f_todo.length, cB r_.2.f_bad]]))) 1 (mapB (.i .i64) (fun x => cI x) (fun (x : Tstate) => (.agg [cI x.f_height, .ro false 1 (x.f_tries.map eI)])) r_.2.f_seen)) 6 (lstB z_ 1 (r_.2.f_todo.map eI))), fun hbd => (m3_cons (m3_row rfl (fr_map fun _ => rfl)) (m3_cons (m3_box rfl rfl) (m3_cons (m3_box rfl (by cases z_ <;> rfl)) (m3_rem (in_cons (by decide) (in_cons (by decide) (in_cons (by decide) (in_nil _)))) (.cons (by decide) (.cons (by decide) (.cons (by decide) .nil))) hbd)))), (I r_.1), 7, (by cases z_ <;> rfl), rfl, ?_⟩
    refine gt rfl <| a1 (v := (B (decide (r_.1 ≤ x_.A)))) rfl <| un1 (v := (B (decide (r_.1 ≤ x_.A)))) rfl <| dnil ?_
    exact Sv.weak (weak_canon [0, 1, 2, 6, 4, 5] rfl (by decide) (by decide) (by decide) (.cf rfl rfl (.cf rfl rfl (.cf rfl rfl (.cf rfl rfl (.cr rfl rfl rfl (.cr rfl rfl rfl (.cr rfl rfl rfl .nil))))))) (.box (by decide) rfl (blkAs_cells (.sm rfl (.sm rfl .nil))) (.box (by decide) rfl (blkAs_cells (.sm rfl (.sm rfl (.sm rfl (.sm rfl .nil))))) (.row (by decide) rfl (fr_map fun _ => rfl) (.box (by decide) rfl .map (.box (by decide) rfl (blkAs_cells (.sm rfl (.sm rfl (.sm rfl (.sm rfl (.sm rfl (.sm rfl (.sm rfl (.sm rfl (.cons (.mp rfl (by decide)) (.cons (lstC_ren rfl (by decide)) (.sm rfl .nil)))))))))))) .nil)))))) (Z24 hz_ h hself hK0 hr)
   ·obtain ⟨r_, hr1, h⟩ := bnd h
    refine gt rfl <| ac_gen (bs := [0, 1, 3]) («as» := [(.c (.ref 0 11 0 0)), (.agg (e_TJIns x_))]) (h2 := _) (h1 := (upd (upd (upd e0 0 (some (.cells 11 [[.ro false 4 (c0.map e_TJFunc), .ro false 3 (c1.map e_TJVal), .ro false 1 (c2.map (eSl 1 eStr)), cI c3, cI c4, .ro false 1 (c5.map eI), .ro false 2 (c6.map e_TJIns), cI c7, .mp 1, lstC zc9 3 1 c9.length, cB c10]]))) 1 (mapB (.i .i64) (fun x => cI x) (fun (x : Tstate) => (.agg [cI x.f_height, .ro false 1 (x.f_tries.map eI)])) c8)) 3 (lstB zc9 1 (c9.map eI)))) (Z31 hzc9 hr1) rfl (.cons (.c (.ref rfl (by decide))) (.cons (avAs_free rfl) .nil)) (hsub_refl _) (.cons rfl (.cons rfl (.cons rfl (.nil _)))) hcs (by decide) (by decide) (.cons (.c (.ref rfl (by decide))) (.cons (avAs_free rfl) .nil)) (.row (by decide) rfl (fr_map fun _ => rfl) (.box (by decide) rfl .map (.box (by decide) rfl (blkAs_cells (.sm rfl (.sm rfl (.sm rfl (.sm rfl (.sm rfl (.sm rfl (.sm rfl (.sm rfl (.cons (.mp rfl (by decide)) (.cons (lstC_ren rfl (by decide)) (.sm rfl .nil)))))))))))) .nil))) ?_
    rintro _ _ _ hn ⟨z_, hz_, rfl, rfl, rfl⟩
    refine ⟨.inl rfl, (upd (upd (upd (rem [0, 1, 3] _) 0 (some (.cells 11 [[.ro false 4 (r_.2.f_p.Funcs.map e_TJFunc), .ro false 3 (r_.2.f_p.Consts.map e_TJVal), .ro false 1 (r_.2.f_p.Shapes.map (eSl 1 eStr)), cI r_.2.f_f.Params, cI r_.2.f_f.Slots, .ro false 1 (r_.2.f_f.Caught.map eI), .ro false 2 (r_.2.f_f.Code.map e_TJIns), cI r_.2.f_own, .mp 1, lstC z_ 6 1 r_.2.f_todo.length, cB r_.2.f_bad]]))) 1 (mapB (.i .i64) (fun x => cI x) (fun (x : Tstate) => (.agg [cI x.f_height, .ro false 1 (x.f_tries.map eI)])) r_.2.f_seen)) 6 (lstB z_ 1 (r_.2.f_todo.map eI))), fun hbd => (m3_cons (m3_row rfl (fr_map fun _ => rfl)) (m3_cons (m3_box rfl rfl) (m3_cons (m3_box rfl (by cases z_ <;> rfl)) (m3_rem (in_cons (by decide) (in_cons (by decide) (in_cons (by decide) (in_nil _)))) (.cons (by decide) (.cons (by decide) (.cons (by decide) .nil))) hbd)))), (I r_.1), 7, (by cases z_ <;> rfl), rfl, ?_⟩
    refine gt rfl <| a1 (v := (I x_.A)) rfl <| gt rfl <| a1 (v := (B (decide (r_.1 ≤ x_.A)))) rfl <| un1 (v := (B (decide (r_.1 ≤ x_.A)))) rfl <| dnil ?_
    exact Sv.weak (weak_canon [0, 1, 2, 6, 4, 5] rfl (by decide) (by decide) (by decide) (.cf rfl rfl (.cf rfl rfl (.cf rfl rfl (.cf rfl rfl (.cr rfl rfl rfl (.cr rfl rfl rfl (.cr rfl rfl rfl .nil))))))) (.box (by decide) rfl (blkAs_cells (.sm rfl (.sm rfl .nil))) (.box (by decide) rfl (blkAs_cells (.sm rfl (.sm rfl (.sm rfl (.sm rfl .nil))))) (.row (by decide) rfl (fr_map fun _ => rfl) (.box (by decide) rfl .map (.box (by decide) rfl (blkAs_cells (.sm rfl (.sm rfl (.sm rfl (.sm rfl (.sm rfl (.sm rfl (.sm rfl (.sm rfl (.cons (.mp rfl (by decide)) (.cons (lstC_ren rfl (by decide)) (.sm rfl .nil)))))))))))) .nil)))))) (Z24 hz_ h hself hK0 hr)
 ·refine Sv.exit ?_
  exact hK0 c0 c1 c2 c3 c4 c5 c6 c7 c8 c9 c10 zc9 hzc9 h _ (weak_canon [0, 1, 2, 3] rfl (by decide) (by decide) (by decide) (.cr rfl rfl rfl .nil) (.row (by decide) rfl (fr_map fun _ => rfl) (.box (by decide) rfl .map (.box (by decide) rfl (blkAs_cells (.sm rfl (.sm rfl (.sm rfl (.sm rfl (.sm rfl (.sm rfl (.sm rfl (.sm rfl (.cons (.mp rfl (by decide)) (.cons (lstC_ren rfl (by decide)) (.sm rfl .nil)))))))))))) .nil))))
/-- (*clerestory/code.checker).form -/
noncomputable def Z1j (c_ : Tchecker) : Option (Bool × Tchecker) :=
 if (((decide (c_.f_f.Params < 0)) || (decide (c_.f_f.Slots < 0))) || (decide ((wi (c_.f_f.Slots - (c_.f_f.Caught.length : Int))) < c_.f_f.Params))) then
  some (false, c_)
 else
  lim fun kk1 => Z4 c_ (fun (c01 : (List TJFunc)) (c11 : (List TJVal)) (c21 : (List TT)) (c31 : Int) (c41 : Int) (c51 : (List Int)) (c61 : (List TJIns)) (c71 : Int) (c81 : (List (Int × Tstate))) (c91 : (List Int)) (c101 : Bool) => 
    some (true, (⟨(⟨c01, c11, c21⟩ : TJProg), (⟨c31, c41, c51, c61⟩ : TJFunc), c71, c81, c91, c101⟩ : Tchecker))) kk1 c_.f_p.Funcs c_.f_p.Consts c_.f_p.Shapes c_.f_f.Params c_.f_f.Slots c_.f_f.Caught c_.f_f.Code c_.f_own c_.f_seen c_.f_todo c_.f_bad 0
theorem Z4i {c_ : Tchecker} {zc : Bool} (hzc : zc = true → c_.f_todo = []) {r : (Bool × Tchecker)} (h : Z1j c_ = some r) : ACalls Tryd.prog GG 8 [(.c (.ref 0 11 0 0))] (upd (upd (upd e0 0 (some (.cells 11 [[.ro false 4 (c_.f_p.Funcs.map e_TJFunc), .ro false 3 (c_.f_p.Consts.map e_TJVal), .ro false 1 (c_.f_p.Shapes.map (eSl 1 eStr)), cI c_.f_f.Params, cI c_.f_f.Slots, .ro false 1 (c_.f_f.Caught.map eI), .ro false 2 (c_.f_f.Code.map e_TJIns), cI c_.f_own, .mp 1, lstC zc 2 1 c_.f_todo.length, cB c_.f_bad]]))) 1 (mapB (.i .i64) (fun x => cI x) (fun (x : Tstate) => (.agg [cI x.f_height, .ro false 1 (x.f_tries.map eI)])) c_.f_seen)) 2 (lstB zc 1 (c_.f_todo.map eI))) 3 (Z13 r) := by
 refine acalls_of_sv hmix c8 (R := Z13 r) ?_
 unfold Z1j at h
 refine ssr <| un1 rfl <| dnil <| ssr <| un1 rfl <| un1 (v := (.c (.ref 0 11 0 0))) rfl <| un1 (v := (.c (.ref 0 11 0 3))) rfl <| un1 (v := (.agg (e_TJFunc c_.f_f))) rfl <| un <| a2v (v := (.c (.ref 3 4 0 0))) (h' := upd _ 3 (some (.cells 4 [[cI 0, cI 0, .ro true 1 [], .ro true 2 []]]))) (n' := 4) rfl rfl hcs <| un <| a2n (h' := upd _ 3 (some (.cells 4 [(e_TJFunc c_.f_f)]))) (n' := 4) rfl rfl hcs <| dnil <| Sv.seq <| ssr <| un1 (v := (.c (.ref 3 4 0 0))) rfl <| un1 (v := (I c_.f_f.Params)) rfl <| un1 (v := (B (decide (c_.f_f.Params < 0)))) rfl <| un1 rfl ?_
 refine gjoin 4 (d := 19) (v := (B ((decide (c_.f_f.Params < 0)) || (decide (c_.f_f.Slots < 0))))) (fun X hX => ?_) ?_
 ·refine split2 (fun hc1 => ?_) (fun hc1 => ?_)
  ·refine gs rfl rfl <| gs rfl rfl <| gs rfl rfl <| un1 (v := (B true)) rfl <| dnil ?_
   exact hX _ (.putEq (by rw [hc1]; rfl) (.skp (.skp (.skp (.putEq (by rw [hc1]) (.refl _)) rfl) rfl) rfl))
  ·refine gt rfl <| a1 (v := (.c (.ref 3 4 0 1))) rfl <| gt rfl <| a1 (v := (I c_.f_f.Slots)) rfl <| gt rfl <| a1 (v := (B (decide (c_.f_f.Slots < 0)))) rfl <| un1 (v := (B (decide (c_.f_f.Slots < 0)))) rfl <| dnil ?_
   exact hX _ (.putEq (by rw [hc1]; rfl) (.skp (.skp (.skp (.putEq (by rw [hc1]) (.refl _)) rfl) rfl) rfl))
 refine un1 rfl ?_
 refine gjoin 10 (d := 30) (v := (B (((decide (c_.f_f.Params < 0)) || (decide (c_.f_f.Slots < 0))) || (decide ((wi (c_.f_f.Slots - (c_.f_f.Caught.length : Int))) < c_.f_f.Params))))) (fun X hX => ?_) ?_
 ·refine split2 (fun hc2 => ?_) (fun hc2 => ?_)
  ·repeat (first | refine gu rfl ?_ | refine gs rfl rfl ?_)
   refine un1 (v := (B true)) rfl <| dnil ?_
   exact hX _ (.putEq (by rw [hc2]; rfl) (by repeat (first | exact .putEq (by rw [hc2]) (.refl _) | refine .skp ?_ rfl)))
  ·refine gt rfl <| a1 (v := (.c (.ref 3 4 0 0))) rfl <| gt rfl <| a1 (v := (I c_.f_f.Params)) rfl <| gt rfl <| a1 (v := (.c (.ref 3 4 0 1))) rfl <| gt rfl <| a1 (v := (I c_.f_f.Slots)) rfl <| gt rfl <| a1 (v := (.c (.ref 3 4 0 2))) rfl <| gt rfl <| a1 (v := (.c (.ro false 1 (c_.f_f.Caught.map eI)))) rfl <| gt rfl <| a1 (v := (I (c_.f_f.Caught.length : Int))) (s_len (e := eI) (xs := c_.f_f.Caught) rfl) <| gt rfl <| a1 (v := (I (wi (c_.f_f.Slots - (c_.f_f.Caught.length : Int))))) rfl <| gt rfl <| a1 (v := (B (decide ((wi (c_.f_f.Slots - (c_.f_f.Caught.length : Int))) < c_.f_f.Params)))) rfl <| un1 (v := (B (decide ((wi (c_.f_f.Slots - (c_.f_f.Caught.length : Int))) < c_.f_f.Params)))) rfl <| dnil ?_
   exact hX _ (.putEq (by rw [hc2]; rfl) (by repeat (first | exact .putEq (by rw [hc2]) (.refl _) | refine .skp ?_ rfl)))
 refine dnil ?_
 refine Sv.cnd rfl h (fun h => ?_) fun h => ?_
 ·refine ssr <| un1 rfl <| dnil <| Sv.ret ?_
  replace h := Option.some.inj h
  subst h
  exact ⟨_, .refl _, _, rfl, ⟨upd e0 0 (some (B false)), (upd (upd (upd e0 0 (some (.cells 11 [[.ro false 4 (c_.f_p.Funcs.map e_TJFunc), .ro false 3 (c_.f_p.Consts.map e_TJVal), .ro false 1 (c_.f_p.Shapes.map (eSl 1 eStr)), cI c_.f_f.Params, cI c_.f_f.Slots, .ro false 1 (c_.f_f.Caught.map eI), .ro false 2 (c_.f_f.Code.map e_TJIns), cI c_.f_own, .mp 1, lstC zc 3 1 c_.f_todo.length, cB c_.f_bad]]))) 1 (mapB (.i .i64) (fun x => cI x) (fun (x : Tstate) => (.agg [cI x.f_height, .ro false 1 (x.f_tries.map eI)])) c_.f_seen)) 3 (lstB zc 1 (c_.f_todo.map eI))), 4⟩, (B false), weak_canon2 [0, 1, 2, 2] [0, 1, 3] (by decide) (by decide) (by decide) (.cons (by decide) (.cons (by decide) (.cons (by decide) .nil))) (.cf rfl rfl .nil) (.row (by decide) rfl (fr_map fun _ => rfl) (.box (by decide) rfl .map (.box (by decide) rfl (blkAs_cells (.sm rfl (.sm rfl (.sm rfl (.sm rfl (.sm rfl (.sm rfl (.sm rfl (.sm rfl (.cons (.mp rfl (by decide)) (.cons (lstC_ren rfl (by decide)) (.sm rfl .nil)))))))))))) .nil))), rfl, zc, hzc, rfl, rfl, rfl⟩
 ·refine Sv.skip <| Sv.seq <| ssr <| un1 (v := (.c (.ref 3 4 0 3))) rfl <| un1 (v := (.c (.ro false 2 (c_.f_f.Code.map e_TJIns)))) rfl <| un1 (v := (I (c_.f_f.Code.length : Int))) (s_len (e := e_TJIns) (xs := c_.f_f.Code) rfl) <| un1 rfl <| dnil <| Sv.block ?_
  obtain ⟨kk1, h⟩ := lim_some h
  refine Sv.weak (weak_canon2 [0, 1, 2, 2, 3] [0, 1, 3, 4] (by decide) (by decide) (by decide) (.cons (by decide) (.cons (by decide) (.cons (by decide) (.cons (by decide) .nil)))) (.cf rfl rfl (.cf rfl rfl (.cf rfl rfl (.cr rfl rfl rfl (.cr rfl rfl rfl .nil))))) (.box (by decide) rfl (blkAs_cells (.sm rfl (.sm rfl (.sm rfl (.sm rfl .nil))))) (.row (by decide) rfl (fr_map fun _ => rfl) (.box (by decide) rfl .map (.box (by decide) rfl (blkAs_cells (.sm rfl (.sm rfl (.sm rfl (.sm rfl (.sm rfl (.sm rfl (.sm rfl (.sm rfl (.cons (.mp rfl (by decide)) (.cons (lstC_ren rfl (by decide)) (.sm rfl .nil)))))))))))) .nil))))) (Z4h hzc h ?_ (fun s hs => hs))
  ·intro c01 c11 c21 c31 c41 c51 c61 c71 c81 c91 c101 zc91 hzc91 h _ hw2
   refine Sv.weak hw2 <| ssr <| un1 rfl <| dnil <| Sv.ret ?_
   replace h := Option.some.inj h
   subst h
   exact ⟨_, .refl _, _, rfl, ⟨upd e0 0 (some (B true)), (upd (upd (upd e0 0 (some (.cells 11 [[.ro false 4 (c01.map e_TJFunc), .ro false 3 (c11.map e_TJVal), .ro false 1 (c21.map (eSl 1 eStr)), cI c31, cI c41, .ro false 1 (c51.map eI), .ro false 2 (c61.map e_TJIns), cI c71, .mp 1, lstC zc91 3 1 c91.length, cB c101]]))) 1 (mapB (.i .i64) (fun x => cI x) (fun (x : Tstate) => (.agg [cI x.f_height, .ro false 1 (x.f_tries.map eI)])) c81)) 3 (lstB zc91 1 (c91.map eI))), 4⟩, (B true), weak_canon2 [0, 1, 2, 3] [0, 1, 3] (by decide) (by decide) (by decide) (.cons (by decide) (.cons (by decide) (.cons (by decide) .nil))) (.cf rfl rfl .nil) (.row (by decide) rfl (fr_map fun _ => rfl) (.box (by decide) rfl .map (.box (by decide) rfl (blkAs_cells (.sm rfl (.sm rfl (.sm rfl (.sm rfl (.sm rfl (.sm rfl (.sm rfl (.sm rfl (.cons (.mp rfl (by decide)) (.cons (lstC_ren rfl (by decide)) (.sm rfl .nil)))))))))))) .nil))), rfl, zc91, hzc91, rfl, rfl, rfl⟩
def a16_c1 : ACode := (.cond (.tmp 17) (sr [(oP 4 (.mov (kI 2)))]
 .ret) (sr [(oP 22 (.bin .eql (.tmp 6) (kI 15))), (mV 21 22)]
 (.cond (.tmp 21) (sr [(oP 4 (.mov (kI 3)))]
 .ret) (sr [(oP 24 (.bin .eql (.tmp 6) (kI 12))), (mV 23 24)]
 (.cond (.tmp 23) (sr [(oP 25 (.faddr 1 (.tmp 2))), (oP 26 (.load false 1 (.tmp 25))), (mV 4 26)]
 .ret) (sr [(oP 28 (.bin .eql (.tmp 6) (kI 13))), (mV 27 28)]
 (.cond (.tmp 27) (sr [(oP 29 (.faddr 2 (.tmp 3))), (oP 30 (.load false 1 (.tmp 29))), (oP 31 (.faddr 1 (.tmp 2))), (oP 32 (.load false 1 (.tmp 31))), (oP 33 (.iaddr 1 (.tmp 30) (.tmp 32))), (oP 34 (.load false 1 (.tmp 33))), (oP 35 (.len (.tmp 34))), (mV 4 35)]
 .ret) (sr [(oP 37 (.bin .eql (.tmp 6) (kI 17))), (mV 36 37)]
 (.cond (.tmp 36) (sr [(oP 38 (.faddr 1 (.tmp 2))), (oP 39 (.load false 1 (.tmp 38))), (oP 40 (.bin .add (.tmp 39) (kI 1))), (mV 4 40)]
 .ret) .skip)))))))))
def a16_c0 : ACode := (.cond (.tmp 7) (sr [(oP 4 (.mov (kI 1)))]
 .ret) (.seq (sr [(oP 18 (.bin .eql (.tmp 6) (kI 8))), (mV 17 18)]
 (.cond (.tmp 17) .skip (sr [(oP 19 (.bin .eql (.tmp 6) (kI 14))), (mV 17 19)]
 (.cond (.tmp 17) .skip (.region [(oP 20 (.bin .eql (.tmp 6) (kI 24))), (mV 17 20)])))))
 a16_c1))
def a16_c2 : ACode := (sr [(oP 4 (.mov (kI 0)))]
 .ret)
def a16 : AFunc := ⟨2, [(.tmp 4)], (sr [(oP 2 (.box (.tmp 0))), (oP 3 (.box (.tmp 1))), (oP 4 (.mov (kI 0)))]
 (.seq (sr [(oP 5 (.faddr 0 (.tmp 2))), (oP 6 (.load false 1 (.tmp 5)))]
 (.block 0 (.seq (sr [(oP 8 (.bin .eql (.tmp 6) (kI 3))), (mV 7 8)]
 (.cond (.tmp 7) .skip (sr [(oP 9 (.bin .eql (.tmp 6) (kI 5))), (mV 7 9)]
 (.cond (.tmp 7) .skip (sr [(oP 10 (.bin .eql (.tmp 6) (kI 6))), (mV 7 10)]
 (.cond (.tmp 7) .skip (sr [(oP 11 (.bin .eql (.tmp 6) (kI 7))), (mV 7 11)]
 (.cond (.tmp 7) .skip (sr [(oP 12 (.bin .eql (.tmp 6) (kI 10))), (mV 7 12)]
 (.cond (.tmp 7) .skip (sr [(oP 13 (.bin .eql (.tmp 6) (kI 11))), (mV 7 13)]
 (.cond (.tmp 7) .skip (sr [(oP 14 (.bin .eql (.tmp 6) (kI 18))), (mV 7 14)]
 (.cond (.tmp 7) .skip (sr [(oP 15 (.bin .eql (.tmp 6) (kI 19))), (mV 7 15)]
 (.cond (.tmp 7) .skip (.region [(oP 16 (.bin .eql (.tmp 6) (kI 23))), (mV 7 16)])))))))))))))))))
 a16_c0)))
 a16_c2))⟩
theorem c16 : compFunc Tryd.prog 16 = some a16 := by kernel_rfl
def Z2e (r : Int) : AV → Heap → Nat → Prop := fun v h' n' => v = (I r) ∧ (h' = e0) ∧ n' = 0
abbrev Z4j (o : Int) : AExit → St → Prop := AThen (Sv Tryd.prog GG 0 a16_c2 (Ends a16.results 0 (Z2e o))) (Ends a16.results 0 (Z2e o))
abbrev Z36 (o : Int) : AExit → St → Prop := ABlock 0 (Z4j o)
noncomputable def Z14 (i_ : TJIns) (p_ : TJProg) (v17 : Bool) : Option Int :=
 if v17 then
  some 2
 else
  if decide (i_.Do = 15) then
   some 3
  else
   if decide (i_.Do = 12) then
    some i_.A
   else
    if decide (i_.Do = 13) then
     (at? p_.Shapes i_.A).bind fun x_ =>
     some (x_.length : Int)
    else
     if decide (i_.Do = 17) then
      some (wi (i_.A + 1))
     else
      some 0
theorem Z2f {i_ : TJIns} {p_ : TJProg} {v17 : Bool} {o : Int} (h : Z14 i_ p_ v17 = some o) :
  Sv Tryd.prog GG 0 a16_c1 (Z36 o) ⟨(ue [(17, (B v17)), (6, (I i_.Do)), (3, (.c (.ref 1 3 0 0))), (2, (.c (.ref 0 2 0 0)))]), (upd (upd e0 0 (some (.cells 2 [(e_TJIns i_)]))) 1 (some (.cells 3 [(e_TJProg p_)]))), 2⟩ := by
 unfold Z14 at h
 refine Sv.cnd rfl h (fun h => ?_) fun h => ?_
 ·refine ssr <| un1 rfl <| dnil <| Sv.ret ?_
  exact rt0 h rfl rfl ⟨rfl, rfl, rfl⟩
 ·refine ssr <| un1 (v := (B (decide (i_.Do = 15)))) rfl <| un1 rfl <| dnil ?_
  refine Sv.cnd rfl h (fun h => ?_) fun h => ?_
  ·refine ssr <| un1 rfl <| dnil <| Sv.ret ?_
   exact rt0 h rfl rfl ⟨rfl, rfl, rfl⟩
  ·refine ssr <| un1 (v := (B (decide (i_.Do = 12)))) rfl <| un1 rfl <| dnil ?_
   refine Sv.cnd rfl h (fun h => ?_) fun h => ?_
   ·refine ssr <| un1 (v := (.c (.ref 0 2 0 1))) rfl <| un1 (v := (I i_.A)) rfl <| un1 rfl <| dnil <| Sv.ret ?_
    exact rt0 h rfl rfl ⟨rfl, rfl, rfl⟩
   ·refine ssr <| un1 (v := (B (decide (i_.Do = 13)))) rfl <| un1 rfl <| dnil ?_
    refine Sv.cnd rfl h (fun h => ?_) fun h => ?_
    ·refine ssr <| un1 (v := (.c (.ref 1 3 0 2))) rfl <| un1 (v := (.c (.ro false 1 (p_.Shapes.map (eSl 1 eStr))))) rfl <| un1 (v := (.c (.ref 0 2 0 1))) rfl <| un1 (v := (I i_.A)) rfl ?_
     obtain ⟨x_, hx1, h⟩ := bnd h
     refine un1 (v := (.c (.rop [.ro false 1 (x_.map eStr)]))) (s_iaddr (e := (eSl 1 eStr)) (xs := p_.Shapes) rfl rfl hx1) <| un1 (v := (.c (.ro false 1 (x_.map eStr)))) rfl <| un1 (v := (I (x_.length : Int))) (s_len (e := eStr) (xs := x_) rfl) <| un1 rfl <| dnil <| Sv.ret ?_
     exact rt0 h rfl rfl ⟨rfl, rfl, rfl⟩
    ·refine ssr <| un1 (v := (B (decide (i_.Do = 17)))) rfl <| un1 rfl <| dnil ?_
     refine Sv.cnd rfl h (fun h => ?_) fun h => ?_
     ·refine ssr <| un1 (v := (.c (.ref 0 2 0 1))) rfl <| un1 (v := (I i_.A)) rfl <| un1 (v := (I (wi (i_.A + 1)))) rfl <| un1 rfl <| dnil <| Sv.ret ?_
      exact rt0 h rfl rfl ⟨rfl, rfl, rfl⟩
     ·refine Sv.skip <| ssr <| un1 rfl <| dnil <| Sv.ret ?_
      exact rt0 h rfl rfl ⟨rfl, rfl, rfl⟩
noncomputable def Ze (i_ : TJIns) (p_ : TJProg) (v7 : Bool) : Option Int :=
 if v7 then
  some 1
 else
  if decide (i_.Do = 8) then
   Z14 i_ p_ (decide (i_.Do = 8))
  else
   if decide (i_.Do = 14) then
    Z14 i_ p_ (decide (i_.Do = 14))
   else
    Z14 i_ p_ (decide (i_.Do = 24))
theorem Zr {i_ : TJIns} {p_ : TJProg} {v7 : Bool} {o : Int} (h : Ze i_ p_ v7 = some o) :
  Sv Tryd.prog GG 0 a16_c0 (Z36 o) ⟨(ue [(7, (B v7)), (6, (I i_.Do)), (3, (.c (.ref 1 3 0 0))), (2, (.c (.ref 0 2 0 0)))]), (upd (upd e0 0 (some (.cells 2 [(e_TJIns i_)]))) 1 (some (.cells 3 [(e_TJProg p_)]))), 2⟩ := by
 unfold Ze at h
 refine Sv.cnd rfl h (fun h => ?_) fun h => ?_
 ·refine ssr <| un1 rfl <| dnil <| Sv.ret ?_
  exact rt0 h rfl rfl ⟨rfl, rfl, rfl⟩
 ·refine Sv.seq <| ssr <| un1 (v := (B (decide (i_.Do = 8)))) rfl <| un1 rfl <| dnil ?_
  refine Sv.cnd rfl h (fun h => ?_) fun h => ?_
  ·refine Sv.skip ?_
   exact Sv.weak (wcn [0, 1] rfl (.cf rfl rfl (.cf rfl rfl (.cr rfl rfl rfl (.cr rfl rfl rfl .nil)))) (.box (by decide) rfl (blkAs_cells (.sm rfl (.sm rfl (.sm rfl .nil)))) (.box (by decide) rfl (blkAs_cells (.sm rfl (.sm rfl .nil))) .nil))) (Z2f h)
  ·refine ssr <| un1 (v := (B (decide (i_.Do = 14)))) rfl <| un1 rfl <| dnil ?_
   refine Sv.cnd rfl h (fun h => ?_) fun h => ?_
   ·refine Sv.skip ?_
    exact Sv.weak (wcn [0, 1] rfl (.cf rfl rfl (.cf rfl rfl (.cr rfl rfl rfl (.cr rfl rfl rfl .nil)))) (.box (by decide) rfl (blkAs_cells (.sm rfl (.sm rfl (.sm rfl .nil)))) (.box (by decide) rfl (blkAs_cells (.sm rfl (.sm rfl .nil))) .nil))) (Z2f h)
   ·refine srg <| un1 (v := (B (decide (i_.Do = 24)))) rfl <| un1 rfl <| dnil ?_
    exact Sv.weak (wcn [0, 1] rfl (.cf rfl rfl (.cf rfl rfl (.cr rfl rfl rfl (.cr rfl rfl rfl .nil)))) (.box (by decide) rfl (blkAs_cells (.sm rfl (.sm rfl (.sm rfl .nil)))) (.box (by decide) rfl (blkAs_cells (.sm rfl (.sm rfl .nil))) .nil))) (Z2f h)
/-- clerestory/code.needs -/
noncomputable def Z15 (i_ : TJIns) (p_ : TJProg) : Option Int :=
 if decide (i_.Do = 3) then
  Ze i_ p_ (decide (i_.Do = 3))
 else
  if decide (i_.Do = 5) then
   Ze i_ p_ (decide (i_.Do = 5))
  else
   if decide (i_.Do = 6) then
    Ze i_ p_ (decide (i_.Do = 6))
   else
    if decide (i_.Do = 7) then
     Ze i_ p_ (decide (i_.Do = 7))
    else
     if decide (i_.Do = 10) then
      Ze i_ p_ (decide (i_.Do = 10))
     else
      if decide (i_.Do = 11) then
       Ze i_ p_ (decide (i_.Do = 11))
      else
       if decide (i_.Do = 18) then
        Ze i_ p_ (decide (i_.Do = 18))
       else
        if decide (i_.Do = 19) then
         Ze i_ p_ (decide (i_.Do = 19))
        else
         Ze i_ p_ (decide (i_.Do = 23))
theorem Z4k {i_ : TJIns} {p_ : TJProg} {r : Int} (h : Z15 i_ p_ = some r) : CPure Tryd.prog GG 16 [(.agg (e_TJIns i_)), (.agg (e_TJProg p_))] (I r) := by
 refine acalls_of_sv hmix c16 (R := Z2e r) ?_
 unfold Z15 at h
 refine ssr <| un <| a2v (v := (.c (.ref 0 2 0 0))) (h' := upd _ 0 (some (.cells 2 [(e_TJIns i_)]))) (n' := 1) rfl rfl hcs <| un <| a2v (v := (.c (.ref 1 3 0 0))) (h' := upd _ 1 (some (.cells 3 [(e_TJProg p_)]))) (n' := 2) rfl rfl hcs <| un1 rfl <| dnil <| Sv.seq <| ssr <| un1 (v := (.c (.ref 0 2 0 0))) rfl <| un1 (v := (I i_.Do)) rfl <| dnil <| Sv.block <| Sv.seq <| ssr <| un1 (v := (B (decide (i_.Do = 3)))) rfl <| un1 rfl <| dnil ?_
 refine Sv.cnd rfl h (fun h => ?_) fun h => ?_
 ·refine Sv.skip ?_
  exact Sv.weak (wcn [0, 1] rfl (.cf rfl rfl (.cf rfl rfl (.cr rfl rfl rfl (.cr rfl rfl rfl .nil)))) (.box (by decide) rfl (blkAs_cells (.sm rfl (.sm rfl (.sm rfl .nil)))) (.box (by decide) rfl (blkAs_cells (.sm rfl (.sm rfl .nil))) .nil))) (Zr h)
 ·refine ssr <| un1 (v := (B (decide (i_.Do = 5)))) rfl <| un1 rfl <| dnil ?_
  refine Sv.cnd rfl h (fun h => ?_) fun h => ?_
  ·refine Sv.skip ?_
   exact Sv.weak (wcn [0, 1] rfl (.cf rfl rfl (.cf rfl rfl (.cr rfl rfl rfl (.cr rfl rfl rfl .nil)))) (.box (by decide) rfl (blkAs_cells (.sm rfl (.sm rfl (.sm rfl .nil)))) (.box (by decide) rfl (blkAs_cells (.sm rfl (.sm rfl .nil))) .nil))) (Zr h)
  ·refine ssr <| un1 (v := (B (decide (i_.Do = 6)))) rfl <| un1 rfl <| dnil ?_
   refine Sv.cnd rfl h (fun h => ?_) fun h => ?_
   ·refine Sv.skip ?_
    exact Sv.weak (wcn [0, 1] rfl (.cf rfl rfl (.cf rfl rfl (.cr rfl rfl rfl (.cr rfl rfl rfl .nil)))) (.box (by decide) rfl (blkAs_cells (.sm rfl (.sm rfl (.sm rfl .nil)))) (.box (by decide) rfl (blkAs_cells (.sm rfl (.sm rfl .nil))) .nil))) (Zr h)
   ·refine ssr <| un1 (v := (B (decide (i_.Do = 7)))) rfl <| un1 rfl <| dnil ?_
    refine Sv.cnd rfl h (fun h => ?_) fun h => ?_
    ·refine Sv.skip ?_
     exact Sv.weak (wcn [0, 1] rfl (.cf rfl rfl (.cf rfl rfl (.cr rfl rfl rfl (.cr rfl rfl rfl .nil)))) (.box (by decide) rfl (blkAs_cells (.sm rfl (.sm rfl (.sm rfl .nil)))) (.box (by decide) rfl (blkAs_cells (.sm rfl (.sm rfl .nil))) .nil))) (Zr h)
    ·refine ssr <| un1 (v := (B (decide (i_.Do = 10)))) rfl <| un1 rfl <| dnil ?_
     refine Sv.cnd rfl h (fun h => ?_) fun h => ?_
     ·refine Sv.skip ?_
      exact Sv.weak (wcn [0, 1] rfl (.cf rfl rfl (.cf rfl rfl (.cr rfl rfl rfl (.cr rfl rfl rfl .nil)))) (.box (by decide) rfl (blkAs_cells (.sm rfl (.sm rfl (.sm rfl .nil)))) (.box (by decide) rfl (blkAs_cells (.sm rfl (.sm rfl .nil))) .nil))) (Zr h)
     ·refine ssr <| un1 (v := (B (decide (i_.Do = 11)))) rfl <| un1 rfl <| dnil ?_
      refine Sv.cnd rfl h (fun h => ?_) fun h => ?_
      ·refine Sv.skip ?_
       exact Sv.weak (wcn [0, 1] rfl (.cf rfl rfl (.cf rfl rfl (.cr rfl rfl rfl (.cr rfl rfl rfl .nil)))) (.box (by decide) rfl (blkAs_cells (.sm rfl (.sm rfl (.sm rfl .nil)))) (.box (by decide) rfl (blkAs_cells (.sm rfl (.sm rfl .nil))) .nil))) (Zr h)
      ·refine ssr <| un1 (v := (B (decide (i_.Do = 18)))) rfl <| un1 rfl <| dnil ?_
       refine Sv.cnd rfl h (fun h => ?_) fun h => ?_
       ·refine Sv.skip ?_
        exact Sv.weak (wcn [0, 1] rfl (.cf rfl rfl (.cf rfl rfl (.cr rfl rfl rfl (.cr rfl rfl rfl .nil)))) (.box (by decide) rfl (blkAs_cells (.sm rfl (.sm rfl (.sm rfl .nil)))) (.box (by decide) rfl (blkAs_cells (.sm rfl (.sm rfl .nil))) .nil))) (Zr h)
       ·refine ssr <| un1 (v := (B (decide (i_.Do = 19)))) rfl <| un1 rfl <| dnil ?_
        refine Sv.cnd rfl h (fun h => ?_) fun h => ?_
        ·refine Sv.skip ?_
         exact Sv.weak (wcn [0, 1] rfl (.cf rfl rfl (.cf rfl rfl (.cr rfl rfl rfl (.cr rfl rfl rfl .nil)))) (.box (by decide) rfl (blkAs_cells (.sm rfl (.sm rfl (.sm rfl .nil)))) (.box (by decide) rfl (blkAs_cells (.sm rfl (.sm rfl .nil))) .nil))) (Zr h)
        ·refine srg <| un1 (v := (B (decide (i_.Do = 23)))) rfl <| un1 rfl <| dnil ?_
         exact Sv.weak (wcn [0, 1] rfl (.cf rfl rfl (.cf rfl rfl (.cr rfl rfl rfl (.cr rfl rfl rfl .nil)))) (.box (by decide) rfl (blkAs_cells (.sm rfl (.sm rfl (.sm rfl .nil)))) (.box (by decide) rfl (blkAs_cells (.sm rfl (.sm rfl .nil))) .nil))) (Zr h)
def a17_c1 : ACode := (.cond (.tmp 15) (sr [(oP 6 (.mov (.const (.c (.val (.int .i64 (-1)))))))]
 .ret) (sr [(oP 24 (.bin .eql (.tmp 7) (kI 15))), (mV 23 24)]
 (.cond (.tmp 23) (sr [(oP 6 (.mov (.const (.c (.val (.int .i64 (-2)))))))]
 .ret) (sr [(oP 26 (.bin .eql (.tmp 7) (kI 12))), (mV 25 26)]
 (.cond (.tmp 25) (sr [(mV 27 1), (oP 28 (.bin .sub (kI 1) (.tmp 27))), (mV 6 28)]
 .ret) (sr [(oP 30 (.bin .eql (.tmp 7) (kI 13))), (mV 29 30)]
 (.cond (.tmp 29) (sr [(oP 31 (.faddr 2 (.tmp 5))), (oP 32 (.load false 1 (.tmp 31))), (mV 33 1), (oP 34 (.iaddr 1 (.tmp 32) (.tmp 33))), (oP 35 (.load false 1 (.tmp 34))), (oP 36 (.len (.tmp 35))), (oP 37 (.bin .sub (kI 1) (.tmp 36))), (mV 6 37)]
 .ret) (sr [(oP 39 (.bin .eql (.tmp 7) (kI 17))), (mV 38 39)]
 (.cond (.tmp 38) (sr [(mV 40 1), (oP 41 (.un .neg (.tmp 40))), (mV 6 41)]
 .ret) .skip)))))))))
def a17_c0 : ACode := (.cond (.tmp 8) (sr [(oP 6 (.mov (kI 1)))]
 .ret) (.seq (sr [(oP 16 (.bin .eql (.tmp 7) (kI 5))), (mV 15 16)]
 (.cond (.tmp 15) .skip (sr [(oP 17 (.bin .eql (.tmp 7) (kI 6))), (mV 15 17)]
 (.cond (.tmp 15) .skip (sr [(oP 18 (.bin .eql (.tmp 7) (kI 8))), (mV 15 18)]
 (.cond (.tmp 15) .skip (sr [(oP 19 (.bin .eql (.tmp 7) (kI 10))), (mV 15 19)]
 (.cond (.tmp 15) .skip (sr [(oP 20 (.bin .eql (.tmp 7) (kI 14))), (mV 15 20)]
 (.cond (.tmp 15) .skip (sr [(oP 21 (.bin .eql (.tmp 7) (kI 18))), (mV 15 21)]
 (.cond (.tmp 15) .skip (.region [(oP 22 (.bin .eql (.tmp 7) (kI 19))), (mV 15 22)])))))))))))))
 a17_c1))
def a17_c2 : ACode := (sr [(oP 6 (.mov (kI 0)))]
 .ret)
def a17 : AFunc := ⟨3, [(.tmp 6)], (sr [(oP 5 (.box (.tmp 2))), (oP 6 (.mov (kI 0)))]
 (.seq (sr [(mV 7 0)]
 (.block 0 (.seq (sr [(oP 9 (.bin .eql (.tmp 7) (kI 1))), (mV 8 9)]
 (.cond (.tmp 8) .skip (sr [(oP 10 (.bin .eql (.tmp 7) (kI 2))), (mV 8 10)]
 (.cond (.tmp 8) .skip (sr [(oP 11 (.bin .eql (.tmp 7) (kI 11))), (mV 8 11)]
 (.cond (.tmp 8) .skip (sr [(oP 12 (.bin .eql (.tmp 7) (kI 16))), (mV 8 12)]
 (.cond (.tmp 8) .skip (sr [(oP 13 (.bin .eql (.tmp 7) (kI 23))), (mV 8 13)]
 (.cond (.tmp 8) .skip (.region [(oP 14 (.bin .eql (.tmp 7) (kI 24))), (mV 8 14)])))))))))))
 a17_c0)))
 a17_c2))⟩
theorem c17 : compFunc Tryd.prog 17 = some a17 := by kernel_rfl
def Z2g (r : Int) : AV → Heap → Nat → Prop := fun v h' n' => v = (I r) ∧ (h' = e0) ∧ n' = 0
abbrev Z4l (o : Int) : AExit → St → Prop := AThen (Sv Tryd.prog GG 0 a17_c2 (Ends a17.results 0 (Z2g o))) (Ends a17.results 0 (Z2g o))
abbrev Z37 (o : Int) : AExit → St → Prop := ABlock 0 (Z4l o)
noncomputable def Zl (do_ : Int) (a_ : Int) (p_ : TJProg) (v15 : Bool) : Option Int :=
 if v15 then
  some (-1)
 else
  if decide (do_ = 15) then
   some (-2)
  else
   if decide (do_ = 12) then
    some (wi (1 - a_))
   else
    if decide (do_ = 13) then
     (at? p_.Shapes a_).bind fun x_ =>
     some (wi (1 - (x_.length : Int)))
    else
     if decide (do_ = 17) then
      some (wi (0 - a_))
     else
      some 0
theorem Z11 {do_ : Int} {a_ : Int} {p_ : TJProg} {v15 : Bool} {o : Int} (h : Zl do_ a_ p_ v15 = some o) :
  Sv Tryd.prog GG 0 a17_c1 (Z37 o) ⟨(ue [(15, (B v15)), (7, (I do_)), (5, (.c (.ref 0 3 0 0))), (1, (I a_))]), (upd e0 0 (some (.cells 3 [(e_TJProg p_)]))), 1⟩ := by
 unfold Zl at h
 refine Sv.cnd rfl h (fun h => ?_) fun h => ?_
 ·refine ssr <| un1 rfl <| dnil <| Sv.ret ?_
  exact rt0 h rfl rfl ⟨rfl, rfl, rfl⟩
 ·refine ssr <| un1 (v := (B (decide (do_ = 15)))) rfl <| un1 rfl <| dnil ?_
  refine Sv.cnd rfl h (fun h => ?_) fun h => ?_
  ·refine ssr <| un1 rfl <| dnil <| Sv.ret ?_
   exact rt0 h rfl rfl ⟨rfl, rfl, rfl⟩
  ·refine ssr <| un1 (v := (B (decide (do_ = 12)))) rfl <| un1 rfl <| dnil ?_
   refine Sv.cnd rfl h (fun h => ?_) fun h => ?_
   ·refine ssr <| un1 rfl <| un1 (v := (I (wi (1 - a_)))) rfl <| un1 rfl <| dnil <| Sv.ret ?_
    exact rt0 h rfl rfl ⟨rfl, rfl, rfl⟩
   ·refine ssr <| un1 (v := (B (decide (do_ = 13)))) rfl <| un1 rfl <| dnil ?_
    refine Sv.cnd rfl h (fun h => ?_) fun h => ?_
    ·refine ssr <| un1 (v := (.c (.ref 0 3 0 2))) rfl <| un1 (v := (.c (.ro false 1 (p_.Shapes.map (eSl 1 eStr))))) rfl <| un1 rfl ?_
     obtain ⟨x_, hx1, h⟩ := bnd h
     refine un1 (v := (.c (.rop [.ro false 1 (x_.map eStr)]))) (s_iaddr (e := (eSl 1 eStr)) (xs := p_.Shapes) rfl rfl hx1) <| un1 (v := (.c (.ro false 1 (x_.map eStr)))) rfl <| un1 (v := (I (x_.length : Int))) (s_len (e := eStr) (xs := x_) rfl) <| un1 (v := (I (wi (1 - (x_.length : Int))))) rfl <| un1 rfl <| dnil <| Sv.ret ?_
     exact rt0 h rfl rfl ⟨rfl, rfl, rfl⟩
    ·refine ssr <| un1 (v := (B (decide (do_ = 17)))) rfl <| un1 rfl <| dnil ?_
     refine Sv.cnd rfl h (fun h => ?_) fun h => ?_
     ·refine ssr <| un1 rfl <| un1 (v := (I (wi (0 - a_)))) rfl <| un1 rfl <| dnil <| Sv.ret ?_
      exact rt0 h rfl rfl ⟨rfl, rfl, rfl⟩
     ·refine Sv.skip <| ssr <| un1 rfl <| dnil <| Sv.ret ?_
      exact rt0 h rfl rfl ⟨rfl, rfl, rfl⟩
noncomputable def Zs (do_ : Int) (a_ : Int) (p_ : TJProg) (v8 : Bool) : Option Int :=
 if v8 then
  some 1
 else
  if decide (do_ = 5) then
   Zl do_ a_ p_ (decide (do_ = 5))
  else
   if decide (do_ = 6) then
    Zl do_ a_ p_ (decide (do_ = 6))
   else
    if decide (do_ = 8) then
     Zl do_ a_ p_ (decide (do_ = 8))
    else
     if decide (do_ = 10) then
      Zl do_ a_ p_ (decide (do_ = 10))
     else
      if decide (do_ = 14) then
       Zl do_ a_ p_ (decide (do_ = 14))
      else
       if decide (do_ = 18) then
        Zl do_ a_ p_ (decide (do_ = 18))
       else
        Zl do_ a_ p_ (decide (do_ = 19))
theorem Z16 {do_ : Int} {a_ : Int} {p_ : TJProg} {v8 : Bool} {o : Int} (h : Zs do_ a_ p_ v8 = some o) :
  Sv Tryd.prog GG 0 a17_c0 (Z37 o) ⟨(ue [(8, (B v8)), (7, (I do_)), (5, (.c (.ref 0 3 0 0))), (1, (I a_))]), (upd e0 0 (some (.cells 3 [(e_TJProg p_)]))), 1⟩ := by
 unfold Zs at h
 refine Sv.cnd rfl h (fun h => ?_) fun h => ?_
 ·refine ssr <| un1 rfl <| dnil <| Sv.ret ?_
  exact rt0 h rfl rfl ⟨rfl, rfl, rfl⟩
 ·refine Sv.seq <| ssr <| un1 (v := (B (decide (do_ = 5)))) rfl <| un1 rfl <| dnil ?_
  refine Sv.cnd rfl h (fun h => ?_) fun h => ?_
  ·refine Sv.skip ?_
   exact Sv.weak (wcn [0] rfl (.cf rfl rfl (.cf rfl rfl (.cr rfl rfl rfl (.cf rfl rfl .nil)))) (.box (by decide) rfl (blkAs_cells (.sm rfl (.sm rfl (.sm rfl .nil)))) .nil)) (Z11 h)
  ·refine ssr <| un1 (v := (B (decide (do_ = 6)))) rfl <| un1 rfl <| dnil ?_
   refine Sv.cnd rfl h (fun h => ?_) fun h => ?_
   ·refine Sv.skip ?_
    exact Sv.weak (wcn [0] rfl (.cf rfl rfl (.cf rfl rfl (.cr rfl rfl rfl (.cf rfl rfl .nil)))) (.box (by decide) rfl (blkAs_cells (.sm rfl (.sm rfl (.sm rfl .nil)))) .nil)) (Z11 h)
   ·refine ssr <| un1 (v := (B (decide (do_ = 8)))) rfl <| un1 rfl <| dnil ?_
    refine Sv.cnd rfl h (fun h => ?_) fun h => ?_
    ·refine Sv.skip ?_
     exact Sv.weak (wcn [0] rfl (.cf rfl rfl (.cf rfl rfl (.cr rfl rfl rfl (.cf rfl rfl .nil)))) (.box (by decide) rfl (blkAs_cells (.sm rfl (.sm rfl (.sm rfl .nil)))) .nil)) (Z11 h)
    ·refine ssr <| un1 (v := (B (decide (do_ = 10)))) rfl <| un1 rfl <| dnil ?_
     refine Sv.cnd rfl h (fun h => ?_) fun h => ?_
     ·refine Sv.skip ?_
      exact Sv.weak (wcn [0] rfl (.cf rfl rfl (.cf rfl rfl (.cr rfl rfl rfl (.cf rfl rfl .nil)))) (.box (by decide) rfl (blkAs_cells (.sm rfl (.sm rfl (.sm rfl .nil)))) .nil)) (Z11 h)
     ·refine ssr <| un1 (v := (B (decide (do_ = 14)))) rfl <| un1 rfl <| dnil ?_
      refine Sv.cnd rfl h (fun h => ?_) fun h => ?_
      ·refine Sv.skip ?_
       exact Sv.weak (wcn [0] rfl (.cf rfl rfl (.cf rfl rfl (.cr rfl rfl rfl (.cf rfl rfl .nil)))) (.box (by decide) rfl (blkAs_cells (.sm rfl (.sm rfl (.sm rfl .nil)))) .nil)) (Z11 h)
      ·refine ssr <| un1 (v := (B (decide (do_ = 18)))) rfl <| un1 rfl <| dnil ?_
       refine Sv.cnd rfl h (fun h => ?_) fun h => ?_
       ·refine Sv.skip ?_
        exact Sv.weak (wcn [0] rfl (.cf rfl rfl (.cf rfl rfl (.cr rfl rfl rfl (.cf rfl rfl .nil)))) (.box (by decide) rfl (blkAs_cells (.sm rfl (.sm rfl (.sm rfl .nil)))) .nil)) (Z11 h)
       ·refine srg <| un1 (v := (B (decide (do_ = 19)))) rfl <| un1 rfl <| dnil ?_
        exact Sv.weak (wcn [0] rfl (.cf rfl rfl (.cf rfl rfl (.cr rfl rfl rfl (.cf rfl rfl .nil)))) (.box (by decide) rfl (blkAs_cells (.sm rfl (.sm rfl (.sm rfl .nil)))) .nil)) (Z11 h)
/-- clerestory/code.effect -/
noncomputable def Z1k (do_ : Int) (a_ : Int) (p_ : TJProg) : Option Int :=
 if decide (do_ = 1) then
  Zs do_ a_ p_ (decide (do_ = 1))
 else
  if decide (do_ = 2) then
   Zs do_ a_ p_ (decide (do_ = 2))
  else
   if decide (do_ = 11) then
    Zs do_ a_ p_ (decide (do_ = 11))
   else
    if decide (do_ = 16) then
     Zs do_ a_ p_ (decide (do_ = 16))
    else
     if decide (do_ = 23) then
      Zs do_ a_ p_ (decide (do_ = 23))
     else
      Zs do_ a_ p_ (decide (do_ = 24))
theorem Z38 {do_ : Int} {a_ : Int} {p_ : TJProg} {r : Int} (h : Z1k do_ a_ p_ = some r) : CPure Tryd.prog GG 17 [(I do_), (I a_), (.agg (e_TJProg p_))] (I r) := by
 refine acalls_of_sv hmix c17 (R := Z2g r) ?_
 unfold Z1k at h
 refine ssr <| un <| a2v (v := (.c (.ref 0 3 0 0))) (h' := upd _ 0 (some (.cells 3 [(e_TJProg p_)]))) (n' := 1) rfl rfl hcs <| un1 rfl <| dnil <| Sv.seq <| ssr <| un1 rfl <| dnil <| Sv.block <| Sv.seq <| ssr <| un1 (v := (B (decide (do_ = 1)))) rfl <| un1 rfl <| dnil ?_
 refine Sv.cnd rfl h (fun h => ?_) fun h => ?_
 ·refine Sv.skip ?_
  exact Sv.weak (wcn [0] rfl (.cf rfl rfl (.cf rfl rfl (.cr rfl rfl rfl (.cf rfl rfl .nil)))) (.box (by decide) rfl (blkAs_cells (.sm rfl (.sm rfl (.sm rfl .nil)))) .nil)) (Z16 h)
 ·refine ssr <| un1 (v := (B (decide (do_ = 2)))) rfl <| un1 rfl <| dnil ?_
  refine Sv.cnd rfl h (fun h => ?_) fun h => ?_
  ·refine Sv.skip ?_
   exact Sv.weak (wcn [0] rfl (.cf rfl rfl (.cf rfl rfl (.cr rfl rfl rfl (.cf rfl rfl .nil)))) (.box (by decide) rfl (blkAs_cells (.sm rfl (.sm rfl (.sm rfl .nil)))) .nil)) (Z16 h)
  ·refine ssr <| un1 (v := (B (decide (do_ = 11)))) rfl <| un1 rfl <| dnil ?_
   refine Sv.cnd rfl h (fun h => ?_) fun h => ?_
   ·refine Sv.skip ?_
    exact Sv.weak (wcn [0] rfl (.cf rfl rfl (.cf rfl rfl (.cr rfl rfl rfl (.cf rfl rfl .nil)))) (.box (by decide) rfl (blkAs_cells (.sm rfl (.sm rfl (.sm rfl .nil)))) .nil)) (Z16 h)
   ·refine ssr <| un1 (v := (B (decide (do_ = 16)))) rfl <| un1 rfl <| dnil ?_
    refine Sv.cnd rfl h (fun h => ?_) fun h => ?_
    ·refine Sv.skip ?_
     exact Sv.weak (wcn [0] rfl (.cf rfl rfl (.cf rfl rfl (.cr rfl rfl rfl (.cf rfl rfl .nil)))) (.box (by decide) rfl (blkAs_cells (.sm rfl (.sm rfl (.sm rfl .nil)))) .nil)) (Z16 h)
    ·refine ssr <| un1 (v := (B (decide (do_ = 23)))) rfl <| un1 rfl <| dnil ?_
     refine Sv.cnd rfl h (fun h => ?_) fun h => ?_
     ·refine Sv.skip ?_
      exact Sv.weak (wcn [0] rfl (.cf rfl rfl (.cf rfl rfl (.cr rfl rfl rfl (.cf rfl rfl .nil)))) (.box (by decide) rfl (blkAs_cells (.sm rfl (.sm rfl (.sm rfl .nil)))) .nil)) (Z16 h)
     ·refine srg <| un1 (v := (B (decide (do_ = 24)))) rfl <| un1 rfl <| dnil ?_
      exact Sv.weak (wcn [0] rfl (.cf rfl rfl (.cf rfl rfl (.cr rfl rfl rfl (.cf rfl rfl .nil)))) (.box (by decide) rfl (blkAs_cells (.sm rfl (.sm rfl (.sm rfl .nil)))) .nil)) (Z16 h)
noncomputable abbrev Z2h (n_ : Int) : Option (List Int) := grow? Int 8 n_
/-- slices.Grow of nil, by the contract of the shelf -/
theorem Z4m {n_ : Int} {r : List Int} (h : Z2h n_ = some r) : ACalls Tryd.prog GG 21 [.c (.ro true 1 []), I n_] e0 0 (fun v h' n' => ∃ z : Bool, (z = true → r = []) ∧ v = lstV z 0 1 r.length ∧ (h' = (upd e0 0 (lstB z 1 (r.map eI)))) ∧ n' = 1) := grow_ok Tryd.grow21 rfl rfl rfl rfl (by decide) rfl h
def a18_c0 : ACode := (sr [(oP 12 (.bin .lss (.tmp 11) (.tmp 10)))]
 (.seq (.cond (.tmp 12) .skip (.exit 0))
 (.seq (.block 1 (sr [(oP 13 (.iaddr 1 (.tmp 9) (.tmp 11))), (oP 14 (.load false 1 (.tmp 13))), (mV 5 14)]
 (sr [(mV 15 3), (mV 16 5), (oP 17 (.len (.tmp 16))), (oP 18 (.bin .add (.tmp 15) (.tmp 17))), (mV 3 18)]
 (sr [(mV 19 3), (oP 20 (.bin .lss (.tmp 19) (kI 0)))]
 (.cond (.tmp 20) (.region [⟨(some 21), .mkif, none⟩, ⟨none, .bad, none⟩]) .skip)))))
 (.region [(oP 22 (.bin .add (.tmp 11) (kI 1))), (mV 11 22)]))))
def a18_c1 : ACode := (sr [(oP 28 (.bin .lss (.tmp 27) (.tmp 26)))]
 (.seq (.cond (.tmp 28) .skip (.exit 2))
 (.seq (.block 3 (sr [(oP 29 (.iaddr 1 (.tmp 25) (.tmp 27))), (oP 30 (.load false 1 (.tmp 29))), (mV 8 30)]
 (.region [(mV 31 6), (mV 32 8), (oP 33 (.app 1 8 (.tmp 31) (.tmp 32))), (mV 6 33)])))
 (.region [(oP 34 (.bin .add (.tmp 27) (kI 1))), (mV 27 34)]))))
def a18 : AFunc := ⟨1, [(.tmp 2)], (sr [(oP 2 (.mov (.const (.c (.ro true 1 [])))))]
 (sr [(oP 3 (.mov (kI 0)))]
 (.seq (sr [(mV 9 0), (oP 10 (.len (.tmp 9))), (oP 11 (.mov (kI 0)))]
 (.block 0 (.loop a18_c0)))
 (sr [(mV 23 3), (oP 24 (.call 21 [(.const (.c (.ro true 1 []))), (.tmp 23)])), (mV 6 24)]
 (.seq (sr [(mV 25 0), (oP 26 (.len (.tmp 25))), (oP 27 (.mov (kI 0)))]
 (.block 2 (.loop a18_c1)))
 (sr [(mV 35 6), (mV 2 35)]
 .ret))))))⟩
theorem c18 : compFunc Tryd.prog 18 = some a18 := by kernel_rfl
def Z25 (r : (List Int)) : AV → Heap → Nat → Prop := fun v h' n' => ∃ z0 : Bool, (z0 = true → r = []) ∧ v = (lstV z0 0 1 r.length) ∧ (h' = (upd e0 0 (lstB z0 1 (r.map eI)))) ∧ n' = 1
abbrev Z4n (slices : (List (List Int))) (F_ : Int → Option (List Int)) (o : (List Int)) (R_ : St → Prop) : Prop := ∀ (size1 : Int), F_ size1 = some o → ∀ s, Weak 0 s ⟨(ue [(3, (I size1)), (0, (.c (.ro false 1 (slices.map (eSl 1 eI)))))]), e0, 0⟩ → R_ s
abbrev Z39 (slices : (List (List Int))) (F_ : Nat → Int → Int → Option (List Int)) (o : (List Int)) : Nat → St → Prop := fun k s => ∃ (size : Int), ∃ (v11 : Int), F_ k size v11 = some o ∧ s = ⟨(ue [(11, (I v11)), (10, (I (slices.length : Int))), (9, (.c (.ro false 1 (slices.map (eSl 1 eI))))), (3, (I size)), (0, (.c (.ro false 1 (slices.map (eSl 1 eI)))))]), e0, 0⟩
abbrev Z4o (slices : (List (List Int))) (F_ : Int → Int → Option (List Int)) (o : (List Int)) (R_ : St → Prop) : Prop := ∀ (size : Int) (v11 : Int), F_ size v11 = some o → ∀ s, Weak 0 s ⟨(ue [(11, (I v11)), (10, (I (slices.length : Int))), (9, (.c (.ro false 1 (slices.map (eSl 1 eI))))), (3, (I size)), (0, (.c (.ro false 1 (slices.map (eSl 1 eI)))))]), e0, 0⟩ → R_ s
noncomputable def Zm (slices : (List (List Int))) (K0_ : Int → Option (List Int)) : Nat → Int → Int → Option (List Int)
 | 0, _, _ => none
 | k + 1, size, v11 =>
  if decide (v11 < (slices.length : Int)) then
   (at? slices v11).bind fun x_ =>
   if decide ((wi (size + (x_.length : Int))) < 0) then
    none
   else
    (Zm slices K0_ k) (wi (size + (x_.length : Int))) (wi (v11 + 1))
  else
   K0_ size
theorem Z4p {Q : AExit → St → Prop} {slices : (List (List Int))} {K0_ : Int → Option (List Int)} {k : Nat} {size : Int} {v11 : Int} {o : (List Int)} (h : Zm slices K0_ k size v11 = some o)
  (hK0 : Z4n slices K0_ o (Q (.exit 0)))
  (hr : ∀ s, Ends a18.results 0 (Z25 o) .ret s → Q .ret s) :
  Sv Tryd.prog GG 0 (.loop a18_c0) Q ⟨(ue [(11, (I v11)), (10, (I (slices.length : Int))), (9, (.c (.ro false 1 (slices.map (eSl 1 eI))))), (3, (I size)), (0, (.c (.ro false 1 (slices.map (eSl 1 eI)))))]), e0, 0⟩ := by
 refine Sv.loop (I := Z39 slices (Zm slices K0_) o) (fun k s hI => ?_) ⟨size, v11, h, rfl⟩
 clear h
 clear v11 size
 obtain ⟨size, v11, h, rfl⟩ := hI
 cases k with
 | zero => cases h
 | succ k =>
 rw [Zm] at h
 have hself : Z4o slices (Zm slices K0_ k) o (rnd 0 (Z39 slices (Zm slices K0_) o) k Q) := fun size v11 h s hw => ⟨_, k, hw, Nat.lt_succ_self k, size, v11, h, rfl⟩
 refine ssr <| un1 (v := (B (decide (v11 < (slices.length : Int))))) rfl <| dnil <| Sv.seq ?_
 refine Sv.cnd rfl h (fun h => ?_) fun h => ?_
 ·refine Sv.skip <| Sv.seq <| Sv.block <| ssr ?_
  obtain ⟨x_, hx1, h⟩ := bnd h
  refine un1 (v := (.c (.rop [.ro false 1 (x_.map eI)]))) (s_iaddr (e := (eSl 1 eI)) (xs := slices) rfl rfl hx1) <| un1 (v := (.c (.ro false 1 (x_.map eI)))) rfl <| un1 rfl <| dnil <| ssr <| un1 rfl <| un1 rfl <| un1 (v := (I (x_.length : Int))) (s_len (e := eI) (xs := x_) rfl) <| un1 (v := (I (wi (size + (x_.length : Int))))) rfl <| un1 rfl <| dnil <| ssr <| un1 rfl <| un1 (v := (B (decide ((wi (size + (x_.length : Int))) < 0)))) rfl <| dnil ?_
  refine Sv.cnd rfl h (fun h => ?_) fun h => ?_
  ·refine srg <| un1 (v := (.c (.opq))) rfl ?_
   cases h
  ·refine Sv.skip <| srg <| un1 (v := (I (wi (v11 + 1)))) rfl <| un1 rfl <| dnil ?_
   exact hself (wi (size + (x_.length : Int))) (wi (v11 + 1)) h _ (wcn [] rfl (.cf rfl rfl (.cf rfl rfl (.cf rfl rfl (.cf rfl rfl (.cf rfl rfl .nil))))) .nil)
 ·refine Sv.exit ?_
  exact hK0 size h _ (wcn [] rfl (.cf rfl rfl (.cf rfl rfl .nil)) .nil)
abbrev Z4q (F_ : (List Int) → Option (List Int)) (o : (List Int)) (R_ : St → Prop) : Prop := ∀ (newslice1 : (List Int)) (znewslice1 : Bool) (_ : znewslice1 = true → newslice1 = []), F_ newslice1 = some o → ∀ s, Weak 0 s ⟨(upd e0 6 (some (lstV znewslice1 0 1 newslice1.length))), (upd e0 0 (lstB znewslice1 1 (newslice1.map eI))), 1⟩ → R_ s
abbrev Z3a (slices : (List (List Int))) (F_ : Nat → (List Int) → Int → Option (List Int)) (o : (List Int)) : Nat → St → Prop := fun k s => ∃ (newslice : (List Int)), ∃ (v27 : Int), ∃ (znewslice : Bool), (znewslice = true → newslice = []) ∧ F_ k newslice v27 = some o ∧ s = ⟨(ue [(27, (I v27)), (26, (I (slices.length : Int))), (25, (.c (.ro false 1 (slices.map (eSl 1 eI))))), (6, (lstV znewslice 0 1 newslice.length))]), (upd e0 0 (lstB znewslice 1 (newslice.map eI))), 1⟩
abbrev Z4r (slices : (List (List Int))) (F_ : (List Int) → Int → Option (List Int)) (o : (List Int)) (R_ : St → Prop) : Prop := ∀ (newslice : (List Int)) (v27 : Int) (znewslice : Bool) (_ : znewslice = true → newslice = []), F_ newslice v27 = some o → ∀ s, Weak 0 s ⟨(ue [(27, (I v27)), (26, (I (slices.length : Int))), (25, (.c (.ro false 1 (slices.map (eSl 1 eI))))), (6, (lstV znewslice 0 1 newslice.length))]), (upd e0 0 (lstB znewslice 1 (newslice.map eI))), 1⟩ → R_ s
noncomputable def Zn (slices : (List (List Int))) (K2_ : (List Int) → Option (List Int)) : Nat → (List Int) → Int → Option (List Int)
 | 0, _, _ => none
 | k + 1, newslice, v27 =>
  if decide (v27 < (slices.length : Int)) then
   (at? slices v27).bind fun x_1 =>
   (app? 8 newslice x_1).bind fun r_1 =>
   (Zn slices K2_ k) r_1 (wi (v27 + 1))
  else
   K2_ newslice
theorem Z4s {Q : AExit → St → Prop} {slices : (List (List Int))} {K2_ : (List Int) → Option (List Int)} {k : Nat} {newslice : (List Int)} {v27 : Int} {znewslice : Bool} (hznewslice : znewslice = true → newslice = []) {o : (List Int)} (h : Zn slices K2_ k newslice v27 = some o)
  (hK2 : Z4q K2_ o (Q (.exit 2)))
  (hr : ∀ s, Ends a18.results 0 (Z25 o) .ret s → Q .ret s) :
  Sv Tryd.prog GG 0 (.loop a18_c1) Q ⟨(ue [(27, (I v27)), (26, (I (slices.length : Int))), (25, (.c (.ro false 1 (slices.map (eSl 1 eI))))), (6, (lstV znewslice 0 1 newslice.length))]), (upd e0 0 (lstB znewslice 1 (newslice.map eI))), 1⟩ := by
 refine Sv.loop (I := Z3a slices (Zn slices K2_) o) (fun k s hI => ?_) ⟨newslice, v27, znewslice, hznewslice, h, rfl⟩
 clear h
 clear hznewslice znewslice v27 newslice
 obtain ⟨newslice, v27, znewslice, hznewslice, h, rfl⟩ := hI
 cases k with
 | zero => cases h
 | succ k =>
 rw [Zn] at h
 have hself : Z4r slices (Zn slices K2_ k) o (rnd 0 (Z3a slices (Zn slices K2_) o) k Q) := fun newslice v27 znewslice hznewslice h s hw => ⟨_, k, hw, Nat.lt_succ_self k, newslice, v27, znewslice, hznewslice, h, rfl⟩
 refine ssr <| un1 (v := (B (decide (v27 < (slices.length : Int))))) rfl <| dnil <| Sv.seq ?_
 refine Sv.cnd rfl h (fun h => ?_) fun h => ?_
 ·refine Sv.skip <| Sv.seq <| Sv.block <| ssr ?_
  obtain ⟨x_1, hx2, h⟩ := bnd h
  refine un1 (v := (.c (.rop [.ro false 1 (x_1.map eI)]))) (s_iaddr (e := (eSl 1 eI)) (xs := slices) rfl rfl hx2) <| un1 (v := (.c (.ro false 1 (x_1.map eI)))) rfl <| un1 rfl <| dnil <| srg <| un1 rfl <| un1 rfl ?_
  obtain ⟨r_1, hr2, h⟩ := bnd h
  have hz1 : (znewslice && x_1.isEmpty) = true → r_1 = [] := app_nil (z := znewslice) (ys := x_1) hznewslice hr2
  refine un <| a2v rfl (s_app (xs := newslice) (ys := x_1) (e := eI) (z := znewslice) (b := 0) rfl rfl hznewslice rfl rfl (slc_ro) hr2) hcs <| un1 rfl <| dnil <| srg <| un1 (v := (I (wi (v27 + 1)))) rfl <| un1 rfl <| dnil ?_
  exact hself r_1 (wi (v27 + 1)) (znewslice && x_1.isEmpty) hz1 h _ (wcn [1] rfl (.cf rfl rfl (.cf rfl rfl (.cf rfl rfl (.cons rfl (.c (lsr rfl rfl)) .nil)))) (.row (by decide) rfl (fr_map fun _ => rfl) .nil))
 ·refine Sv.exit ?_
  exact hK2 newslice znewslice hznewslice h _ (wcn [0] rfl (.cons rfl (.c (lsr rfl rfl)) .nil) (.row (by decide) rfl (fr_map fun _ => rfl) .nil))
/-- slices.Concat(()int,int) -/
noncomputable def Z1l (slices : (List (List Int))) : Option (List Int) :=
 lim fun kk1 => Zm slices (fun (size1 : Int) => 
   (Z2h size1).bind fun r_ =>
   lim fun kk => Zn slices (fun (newslice1 : (List Int)) => 
     some newslice1) kk r_ 0) kk1 0 0
theorem Z4t {slices : (List (List Int))} {r : (List Int)} (h : Z1l slices = some r) : ACalls Tryd.prog GG 18 [(.c (.ro false 1 (slices.map (eSl 1 eI))))] e0 0 (Z25 r) := by
 refine acalls_of_sv hmix c18 (R := Z25 r) ?_
 unfold Z1l at h
 refine ssr <| un1 rfl <| dnil <| ssr <| un1 rfl <| dnil <| Sv.seq <| ssr <| un1 rfl <| un1 (v := (I (slices.length : Int))) (s_len (e := (eSl 1 eI)) (xs := slices) rfl) <| un1 rfl <| dnil <| Sv.block ?_
 obtain ⟨kk1, h⟩ := lim_some h
 refine Sv.weak (wcn [] rfl (.cf rfl rfl (.cf rfl rfl (.cf rfl rfl (.cf rfl rfl (.cf rfl rfl .nil))))) .nil) (Z4p h ?_ (fun s hs => hs))
 ·intro size1 h _ hw1
  refine Sv.weak hw1 <| ssr <| un1 rfl ?_
  obtain ⟨r_, hr1, h⟩ := bnd h
  refine un <| ac_gen (bs := []) («as» := [(.c (.ro true 1 [])), (I size1)]) (h2 := _) (h1 := e0) (Z4m hr1) rfl (.cons (avAs_free rfl) (.cons (avAs_free rfl) .nil)) (hsub_refl _) (.nil _) (fun _ => rfl) (by decide) (by decide) (.cons (avAs_free rfl) (.cons (avAs_free rfl) .nil)) .nil ?_
  rintro _ _ _ hn ⟨z_, hz_, rfl, rfl, rfl⟩
  refine ⟨.inl rfl, (upd (rem [] _) 0 (lstB z_ 1 (r_.map eI))), fun hbd => (m3_cons (m3_row rfl (fr_map fun _ => rfl)) (m3_rem (in_nil _) (.cons (by decide) .nil) hbd)), (lstV z_ 0 1 r_.length), 1, (by cases z_ <;> rfl), rfl, ?_⟩
  refine un1 rfl <| dnil <| Sv.seq <| ssr <| un1 rfl <| un1 (v := (I (slices.length : Int))) (s_len (e := (eSl 1 eI)) (xs := slices) rfl) <| un1 rfl <| dnil <| Sv.block ?_
  obtain ⟨kk, h⟩ := lim_some h
  refine Sv.weak (wcn [0] rfl (.cf rfl rfl (.cf rfl rfl (.cf rfl rfl (.cons rfl (.c (lsr rfl rfl)) .nil)))) (.row (by decide) rfl (fr_map fun _ => rfl) .nil)) (Z4s hz_ h ?_ (fun s hs => hs))
  ·intro newslice1 znewslice1 hznewslice1 h _ hw2
   refine Sv.weak hw2 <| ssr <| un1 rfl <| un1 rfl <| dnil <| Sv.ret ?_
   replace h := Option.some.inj h
   subst h
   exact ⟨_, .refl _, _, rfl, ⟨upd e0 0 (some (lstV znewslice1 0 1 newslice1.length)), (upd e0 0 (lstB znewslice1 1 (newslice1.map eI))), 1⟩, (lstV znewslice1 0 1 newslice1.length), weak_canon2 [0] [0] (by decide) (by decide) nlz (.cons (by decide) .nil) (.cons rfl (.c (lsr rfl rfl)) .nil) (.row (by decide) rfl (fr_map fun _ => rfl) .nil), rfl, znewslice1, hznewslice1, rfl, rfl, rfl⟩
def a10_c2 : ACode := (.cond (.tmp 71) (.seq (.drawn (.fin [((mV 74 0), (0, 0)), ((mV 75 0), (0, 1)), ((oP 76 (.nilc (.tmp 75))), (0, 2)), ((oP 77 (.faddr 10 (.tmp 76))), (0, 3)), ((oP 78 (.load false 1 (.tmp 77))), (0, 4)), ((mV 79 78), (0, 5)), (⟨(some 80), (.faddr 1 (.tmp 5)), (some (79, false))⟩, (0, 6)), (⟨(some 81), (.load false 1 (.tmp 80)), (some (79, false))⟩, (0, 7)), (⟨(some 82), (.len (.tmp 81)), (some (79, false))⟩, (0, 8)), (⟨(some 83), (.bin .gtr (.tmp 82) (kI 0)), (some (79, false))⟩, (0, 9)), ((oP 84 (.pick (.tmp 79) kT (.tmp 83))), (0, 10)), ((mV 85 84), (0, 11)), (⟨(some 86), (.faddr 0 (.tmp 4)), (some (85, false))⟩, (0, 12)), (⟨(some 87), (.load false 1 (.tmp 86)), (some (85, false))⟩, (0, 13)), (⟨(some 88), (.bin .eql (.tmp 87) (kI 25)), (some (85, false))⟩, (0, 14)), (⟨(some 89), (.mov (.tmp 0)), (some (85, false))⟩, (0, 15)), (⟨(some 90), (.nilc (.tmp 89)), (some (85, false))⟩, (0, 16)), (⟨(some 91), (.faddr 7 (.tmp 90)), (some (85, false))⟩, (0, 17)), (⟨(some 92), (.load false 1 (.tmp 91)), (some (85, false))⟩, (0, 18)), (⟨(some 93), (.bin .eql (.tmp 92) (kI 0)), (some (85, false))⟩, (0, 19)), (⟨(some 94), (.eqs true false [.b] (.tmp 88) (.tmp 93)), (some (85, false))⟩, (0, 20)), ((oP 95 (.pick (.tmp 85) kT (.tmp 94))), (0, 21)), ((oP 96 (.nilc (.tmp 74))), (0, 22)), ((oP 97 (.faddr 10 (.tmp 96))), (0, 23)), ((oN (.store 1 (.tmp 97) (.tmp 95))), (2, 24))]))
 .ret) (sr [(oP 99 (.bin .eql (.tmp 49) (kI 19))), (mV 98 99)]
 (.cond (.tmp 98) .ret (sr [(oP 101 (.bin .eql (.tmp 49) (kI 20))), (mV 100 101)]
 (.cond (.tmp 100) (sr [(mV 102 0), (oP 103 (.faddr 1 (.tmp 4))), (oP 104 (.load false 1 (.tmp 103))), (oP 105 (.faddr 0 (.tmp 5))), (oP 106 (.load false 1 (.tmp 105))), (oP 107 (.bin .add (.tmp 106) (kI 1))), (oP 108 (.faddr 1 (.tmp 5))), (oP 109 (.load false 1 (.tmp 108))), (oP 110 (.build [(.val (.int .i64 0)), (.ro true 1 [])] [(0, (1, (.tmp 107))), (1, (1, (.tmp 109)))])), (oP 111 (.call 9 [(.tmp 102), (.tmp 104), (.tmp 110)]))]
 (.region [(oP 112 (.faddr 1 (.tmp 5))), (oP 113 (.load false 1 (.tmp 112))), (oP 114 (.faddr 1 (.tmp 4))), (oP 115 (.load false 1 (.tmp 114))), (oP 116 (.faddr 0 (.tmp 5))), (oP 117 (.load false 1 (.tmp 116))), (oP 118 (.bslice 1 [(.val (.int .i64 0))] 2 [(0, (.tmp 115)), (1, (.tmp 117))])), (oP 119 (.bslice 1 [(.ro true 1 [])] 2 [(0, (.tmp 113)), (1, (.tmp 118))])), (oP 120 (.call 18 [(.tmp 119)])), (oP 121 (.faddr 1 (.tmp 6))), (oN (.store 1 (.tmp 121) (.tmp 120)))])) (sr [(oP 123 (.bin .eql (.tmp 49) (kI 21))), (mV 122 123)]
 (.cond (.tmp 122) (.seq (sr [(oP 124 (.faddr 1 (.tmp 5))), (oP 125 (.load false 1 (.tmp 124))), (oP 126 (.len (.tmp 125))), (oP 127 (.bin .eql (.tmp 126) (kI 0)))]
 (.cond (.tmp 127) (sr [(mV 128 0), (oP 129 (.nilc (.tmp 128))), (oP 130 (.faddr 10 (.tmp 129))), (oN (.store 1 (.tmp 130) kT))]
 .ret) .skip))
 (.region [(oP 131 (.faddr 1 (.tmp 5))), (oP 132 (.load false 1 (.tmp 131))), (oP 133 (.faddr 1 (.tmp 5))), (oP 134 (.load false 1 (.tmp 133))), (oP 135 (.len (.tmp 134))), (oP 136 (.bin .sub (.tmp 135) (kI 2))), (oP 137 (.slSl 1 (.tmp 132) none (some (.tmp 136)) none)), (oP 138 (.faddr 1 (.tmp 6))), (oN (.store 1 (.tmp 138) (.tmp 137)))])) .skip)))))))
def a10_c3 : ACode := (.region [(mV 139 0), (mV 140 1), (oP 141 (.bin .add (.tmp 140) (kI 1))), (oP 142 (.load true 2 (.tmp 6))), (oP 143 (.call 9 [(.tmp 139), (.tmp 141), (.tmp 142)]))])
def a10_c1 : ACode := (.seq (sr [(oP 48 (.faddr 0 (.tmp 4))), (oP 49 (.load false 1 (.tmp 48)))]
 (.block 0 (sr [(oP 51 (.bin .eql (.tmp 49) (kI 9))), (mV 50 51)]
 (.cond (.tmp 50) (sr [(mV 52 0), (oP 53 (.faddr 1 (.tmp 4))), (oP 54 (.load false 1 (.tmp 53))), (oP 55 (.load true 2 (.tmp 6))), (oP 56 (.call 9 [(.tmp 52), (.tmp 54), (.tmp 55)]))]
 .ret) (sr [(oP 58 (.bin .eql (.tmp 49) (kI 10))), (mV 57 58)]
 (.cond (.tmp 57) (.region [(mV 59 0), (oP 60 (.faddr 1 (.tmp 4))), (oP 61 (.load false 1 (.tmp 60))), (oP 62 (.load true 2 (.tmp 6))), (oP 63 (.call 9 [(.tmp 59), (.tmp 61), (.tmp 62)]))]) (sr [(oP 65 (.bin .eql (.tmp 49) (kI 24))), (mV 64 65)]
 (.cond (.tmp 64) (.region [(mV 66 0), (oP 67 (.faddr 1 (.tmp 4))), (oP 68 (.load false 1 (.tmp 67))), (oP 69 (.load true 2 (.tmp 5))), (oP 70 (.call 9 [(.tmp 66), (.tmp 68), (.tmp 69)]))]) (.seq (sr [(oP 72 (.bin .eql (.tmp 49) (kI 18))), (mV 71 72)]
 (.cond (.tmp 71) .skip (.region [(oP 73 (.bin .eql (.tmp 49) (kI 25))), (mV 71 73)])))
 a10_c2)))))))))
 a10_c3)
def a10_c0 : ACode := (.seq (.seq (.drawn (.fin [((oP 21 (.faddr 0 (.tmp 5))), (0, 0)), ((oP 22 (.load false 1 (.tmp 21))), (0, 1)), ((oP 23 (.load true 2 (.tmp 4))), (0, 2)), ((mV 24 0), (0, 3)), ((oP 25 (.nilc (.tmp 24))), (0, 4)), ((oP 26 (.faddr 0 (.tmp 25))), (0, 5)), ((oP 27 (.load true 3 (.tmp 26))), (0, 6)), ((oP 28 (.call 16 [(.tmp 23), (.tmp 27)])), (1, 7)), ((oP 29 (.bin .lss (.tmp 22) (.tmp 28))), (0, 8))]))
 (.cond (.tmp 29) (sr [(mV 30 0), (oP 31 (.nilc (.tmp 30))), (oP 32 (.faddr 10 (.tmp 31))), (oN (.store 1 (.tmp 32) kT))]
 .ret) .skip))
 (.seq (.drawn (.alt [((oP 33 (.faddr 0 (.tmp 5))), (0, 0)), ((oP 34 (.load false 1 (.tmp 33))), (0, 1)), ((oP 35 (.faddr 0 (.tmp 4))), (0, 2)), ((oP 36 (.load false 1 (.tmp 35))), (0, 3)), ((oP 37 (.faddr 1 (.tmp 4))), (0, 4)), ((oP 38 (.load false 1 (.tmp 37))), (0, 5)), ((mV 39 0), (0, 6)), ((oP 40 (.nilc (.tmp 39))), (0, 7)), ((oP 41 (.faddr 0 (.tmp 40))), (0, 8)), ((oP 42 (.load true 3 (.tmp 41))), (0, 9)), ((oP 45 (.faddr 1 (.tmp 5))), (0, 12)), ((oP 46 (.load false 1 (.tmp 45))), (0, 13))] (.fin [((oP 43 (.call 17 [(.tmp 36), (.tmp 38), (.tmp 42)])), (1, 10)), ((oP 44 (.bin .add (.tmp 34) (.tmp 43))), (0, 11)), ((oP 47 (.build [(.val (.int .i64 0)), (.ro true 1 [])] [(0, (1, (.tmp 44))), (1, (1, (.tmp 46)))])), (0, 14)), ((oP 6 (.box (.const (.agg [(.val (.int .i64 0)), (.ro true 1 [])])))), (1, 15)), ((oN (.store 2 (.tmp 6) (.tmp 47))), (2, 16))]) (.fin [((oP 6 (.box (.const (.agg [(.val (.int .i64 0)), (.ro true 1 [])])))), (1, 15)), ((oP 43 (.call 17 [(.tmp 36), (.tmp 38), (.tmp 42)])), (1, 10)), ((oP 44 (.bin .add (.tmp 34) (.tmp 43))), (0, 11)), ((oP 47 (.build [(.val (.int .i64 0)), (.ro true 1 [])] [(0, (1, (.tmp 44))), (1, (1, (.tmp 46)))])), (0, 14)), ((oN (.store 2 (.tmp 6) (.tmp 47))), (2, 16))])))
 a10_c1))
def a10 : AFunc := ⟨2, [], (.seq (.drawn (.alt [((mV 7 0), (0, 0)), ((oP 8 (.nilc (.tmp 7))), (0, 1)), ((oP 9 (.faddr 3 (.tmp 8))), (0, 2)), ((oP 10 (.faddr 3 (.tmp 9))), (0, 3)), ((oP 11 (.load false 1 (.tmp 10))), (0, 4)), ((mV 12 1), (0, 5)), ((oP 13 (.iaddr 2 (.tmp 11) (.tmp 12))), (0, 6)), ((oP 14 (.load true 2 (.tmp 13))), (0, 7)), ((mV 15 0), (0, 8)), ((oP 16 (.nilc (.tmp 15))), (0, 9)), ((oP 17 (.faddr 8 (.tmp 16))), (0, 10)), ((oP 18 (.load false 1 (.tmp 17))), (0, 11)), ((mV 19 1), (0, 12)), ((oP 20 (.mlook (.i .i64) (.agg [(.val (.int .i64 0)), (.ro false 1 [])]) false (.tmp 18) (.tmp 19))), (0, 13))] (.fin [((oP 4 (.box (.const (.agg [(.val (.int .i64 0)), (.val (.int .i64 0))])))), (1, 14)), ((oP 5 (.box (.const (.agg [(.val (.int .i64 0)), (.ro true 1 [])])))), (1, 15)), ((oN (.store 2 (.tmp 4) (.tmp 14))), (3, 16)), ((oN (.store 2 (.tmp 5) (.tmp 20))), (3, 17))]) (.fin [((oP 5 (.box (.const (.agg [(.val (.int .i64 0)), (.ro true 1 [])])))), (1, 15)), ((oP 4 (.box (.const (.agg [(.val (.int .i64 0)), (.val (.int .i64 0))])))), (1, 14)), ((oN (.store 2 (.tmp 4) (.tmp 14))), (3, 16)), ((oN (.store 2 (.tmp 5) (.tmp 20))), (3, 17))])))
 a10_c0)⟩
theorem c10 : compFunc Tryd.prog 10 = some a10 := by kernel_rfl
def Z17 (r : Tchecker) : AV → Heap → Nat → Prop := fun v h' n' => ∃ z0 : Bool, (z0 = true → r.f_todo = []) ∧ v = (.tup []) ∧ (h' = (upd (upd (upd e0 0 (some (.cells 11 [[.ro false 4 (r.f_p.Funcs.map e_TJFunc), .ro false 3 (r.f_p.Consts.map e_TJVal), .ro false 1 (r.f_p.Shapes.map (eSl 1 eStr)), cI r.f_f.Params, cI r.f_f.Slots, .ro false 1 (r.f_f.Caught.map eI), .ro false 2 (r.f_f.Code.map e_TJIns), cI r.f_own, .mp 1, lstC z0 3 1 r.f_todo.length, cB r.f_bad]]))) 1 (mapB (.i .i64) (fun x => cI x) (fun (x : Tstate) => (.agg [cI x.f_height, .ro false 1 (x.f_tries.map eI)])) r.f_seen)) 3 (lstB z0 1 (r.f_todo.map eI)))) ∧ n' = 4
abbrev Z4u (o : Tchecker) : AExit → St → Prop := AThen (Sv Tryd.prog GG 3 a10_c3 (Ends a10.results 3 (Z17 o))) (Ends a10.results 3 (Z17 o))
abbrev Z4v (o : Tchecker) : AExit → St → Prop := ABlock 0 (Z4u o)
noncomputable def Z1m (c_ : Tchecker) (at_ : Int) (i0 : Int) (i1 : Int) (next0 : Int) (c92 : (List Int)) (v71 : Bool) : Option Tchecker :=
 if v71 then
  some (⟨c_.f_p, c_.f_f, c_.f_own, c_.f_seen, c92, ((c_.f_bad || (decide (0 < ((((mget c_.f_seen at_).getD ((⟨0, []⟩ : Tstate) : Tstate)).f_tries).length : Int)))) || (!((decide (i0 = 25) == decide (c_.f_own = 0)) && true)))⟩ : Tchecker)
 else
  if decide (i0 = 19) then
   some (⟨c_.f_p, c_.f_f, c_.f_own, c_.f_seen, c92, c_.f_bad⟩ : Tchecker)
  else
   if decide (i0 = 20) then
    letIn (wi (((mget c_.f_seen at_).getD ((⟨0, []⟩ : Tstate) : Tstate)).f_height + 1)) fun v107 : Int =>
    (Z5 (⟨c_.f_p, c_.f_f, c_.f_own, c_.f_seen, c92, c_.f_bad⟩ : Tchecker) i1 (⟨v107, ((mget c_.f_seen at_).getD ((⟨0, []⟩ : Tstate) : Tstate)).f_tries⟩ : Tstate)).bind fun r_6 =>
    letIn [((mget c_.f_seen at_).getD ((⟨0, []⟩ : Tstate) : Tstate)).f_tries, [i1, ((mget c_.f_seen at_).getD ((⟨0, []⟩ : Tstate) : Tstate)).f_height]] fun row : List (List Int) =>
    (Z1l row).bind fun r_7 =>
    (Z5 r_6 (wi (at_ + 1)) (⟨next0, r_7⟩ : Tstate)).bind fun r_8 =>
    some r_8
   else
    if decide (i0 = 21) then
     letIn (decide (((((mget c_.f_seen at_).getD ((⟨0, []⟩ : Tstate) : Tstate)).f_tries).length : Int) = 0)) fun v127 : Bool =>
     if v127 then
      some (⟨c_.f_p, c_.f_f, c_.f_own, c_.f_seen, c92, true⟩ : Tchecker)
     else
      letIn (wi (((((mget c_.f_seen at_).getD ((⟨0, []⟩ : Tstate) : Tstate)).f_tries).length : Int) - 2)) fun v136 : Int =>
      (sub? (((mget c_.f_seen at_).getD ((⟨0, []⟩ : Tstate) : Tstate)).f_tries) 0 v136).bind fun r_9 =>
      (Z5 (⟨c_.f_p, c_.f_f, c_.f_own, c_.f_seen, c92, c_.f_bad⟩ : Tchecker) (wi (at_ + 1)) (⟨next0, r_9⟩ : Tstate)).bind fun r_10 =>
      some r_10
    else
     (Z5 (⟨c_.f_p, c_.f_f, c_.f_own, c_.f_seen, c92, c_.f_bad⟩ : Tchecker) (wi (at_ + 1)) (⟨next0, ((mget c_.f_seen at_).getD ((⟨0, []⟩ : Tstate) : Tstate)).f_tries⟩ : Tstate)).bind fun r_11 =>
     some r_11
theorem Z3b {c_ : Tchecker} {at_ : Int} {i0 : Int} {i1 : Int} {next0 : Int} {c92 : (List Int)} {v71 : Bool} {zc92 : Bool} (hzc92 : zc92 = true → c92 = []) {o : Tchecker} (h : Z1m c_ at_ i0 i1 next0 c92 v71 = some o) :
  Sv Tryd.prog GG 3 a10_c2 (Z4v o) ⟨(ue [(71, (B v71)), (49, (I i0)), (6, (.c (.ref 5 2 0 0))), (5, (.c (.ref 4 2 0 0))), (4, (.c (.ref 3 2 0 0))), (1, (I at_)), (0, (.c (.ref 0 11 0 0)))]), (upd (upd (upd (upd (upd (upd e0 0 (some (.cells 11 [[.ro false 4 (c_.f_p.Funcs.map e_TJFunc), .ro false 3 (c_.f_p.Consts.map e_TJVal), .ro false 1 (c_.f_p.Shapes.map (eSl 1 eStr)), cI c_.f_f.Params, cI c_.f_f.Slots, .ro false 1 (c_.f_f.Caught.map eI), .ro false 2 (c_.f_f.Code.map e_TJIns), cI c_.f_own, .mp 1, lstC zc92 2 1 c92.length, cB c_.f_bad]]))) 1 (mapB (.i .i64) (fun x => cI x) (fun (x : Tstate) => (.agg [cI x.f_height, .ro false 1 (x.f_tries.map eI)])) c_.f_seen)) 2 (lstB zc92 1 (c92.map eI))) 3 (some (.cells 2 [[cI i0, cI i1]]))) 4 (some (.cells 2 [[cI (((mget c_.f_seen at_).getD ((⟨0, []⟩ : Tstate) : Tstate)).f_height), .ro false 1 ((((mget c_.f_seen at_).getD ((⟨0, []⟩ : Tstate) : Tstate)).f_tries).map eI)]]))) 5 (some (.cells 2 [[cI next0, .ro false 1 ((((mget c_.f_seen at_).getD ((⟨0, []⟩ : Tstate) : Tstate)).f_tries).map eI)]]))), 6⟩ := by
 unfold Z1m at h
 refine Sv.cnd rfl h (fun h => ?_) fun h => ?_
 ·refine Sv.seq <| Sv.drawn <| un1 rfl <| un1 rfl <| un1 (v := (.c (.ref 0 11 0 0))) rfl <| un1 (v := (.c (.ref 0 11 0 10))) rfl <| un1 (v := (B c_.f_bad)) rfl <| un1 rfl ?_
  refine gjoin 5 (d := 84) (v := (B (c_.f_bad || (decide (0 < ((((mget c_.f_seen at_).getD ((⟨0, []⟩ : Tstate) : Tstate)).f_tries).length : Int)))))) (fun X hX => ?_) ?_
  ·refine split2 (fun hc6 => ?_) (fun hc6 => ?_)
   ·refine gs rfl rfl <| gs rfl rfl <| gs rfl rfl <| gs rfl rfl <| un1 (v := (B true)) rfl <| dnil ?_
    exact hX _ (.putEq (by rw [hc6]; rfl) (.skp (.skp (.skp (.skp (.putEq (by rw [hc6]) (.refl _)) rfl) rfl) rfl) rfl))
   ·refine gt rfl <| a1 (v := (.c (.ref 4 2 0 1))) rfl <| gt rfl <| a1 (v := (.c (.ro false 1 ((((mget c_.f_seen at_).getD ((⟨0, []⟩ : Tstate) : Tstate)).f_tries).map eI)))) rfl <| gt rfl <| a1 (v := (I ((((mget c_.f_seen at_).getD ((⟨0, []⟩ : Tstate) : Tstate)).f_tries).length : Int))) (s_len (e := eI) (xs := (((mget c_.f_seen at_).getD ((⟨0, []⟩ : Tstate) : Tstate)).f_tries)) rfl) <| gt rfl <| a1 (v := (B (decide (0 < ((((mget c_.f_seen at_).getD ((⟨0, []⟩ : Tstate) : Tstate)).f_tries).length : Int))))) rfl <| un1 (v := (B (decide (0 < ((((mget c_.f_seen at_).getD ((⟨0, []⟩ : Tstate) : Tstate)).f_tries).length : Int))))) rfl <| dnil ?_
    exact hX _ (.putEq (by rw [hc6]; rfl) (.skp (.skp (.skp (.skp (.putEq (by rw [hc6]) (.refl _)) rfl) rfl) rfl) rfl))
  refine un1 rfl ?_
  refine gjoin 10 (d := 95) (v := (B ((c_.f_bad || (decide (0 < ((((mget c_.f_seen at_).getD ((⟨0, []⟩ : Tstate) : Tstate)).f_tries).length : Int)))) || (!((decide (i0 = 25) == decide (c_.f_own = 0)) && true))))) (fun X hX => ?_) ?_
  ·refine split2 (fun hc7 => ?_) (fun hc7 => ?_)
   ·repeat (first | refine gu rfl ?_ | refine gs rfl rfl ?_)
    refine un1 (v := (B true)) rfl <| dnil ?_
    exact hX _ (.putEq (by rw [hc7]; rfl) (by repeat (first | exact .putEq (by rw [hc7]) (.refl _) | refine .skp ?_ rfl)))
   ·refine gt rfl <| a1 (v := (.c (.ref 3 2 0 0))) rfl <| gt rfl <| a1 (v := (I i0)) rfl <| gt rfl <| a1 (v := (B (decide (i0 = 25)))) rfl <| gt rfl <| a1 rfl <| gt rfl <| a1 (v := (.c (.ref 0 11 0 0))) rfl <| gt rfl <| a1 (v := (.c (.ref 0 11 0 7))) rfl <| gt rfl <| a1 (v := (I c_.f_own)) rfl <| gt rfl <| a1 (v := (B (decide (c_.f_own = 0)))) rfl <| gt rfl <| a1 (v := (B (!((decide (i0 = 25) == decide (c_.f_own = 0)) && true)))) rfl <| un1 (v := (B (!((decide (i0 = 25) == decide (c_.f_own = 0)) && true)))) rfl <| dnil ?_
    exact hX _ (.putEq (by rw [hc7]; rfl) (by repeat (first | exact .putEq (by rw [hc7]) (.refl _) | refine .skp ?_ rfl)))
  refine un1 (v := (.c (.ref 0 11 0 0))) rfl <| un1 (v := (.c (.ref 0 11 0 10))) rfl <| un <| a2n (h' := upd _ 0 (some (.cells 11 [[.ro false 4 (c_.f_p.Funcs.map e_TJFunc), .ro false 3 (c_.f_p.Consts.map e_TJVal), .ro false 1 (c_.f_p.Shapes.map (eSl 1 eStr)), cI c_.f_f.Params, cI c_.f_f.Slots, .ro false 1 (c_.f_f.Caught.map eI), .ro false 2 (c_.f_f.Code.map e_TJIns), cI c_.f_own, .mp 1, lstC zc92 2 1 c92.length, cB ((c_.f_bad || (decide (0 < ((((mget c_.f_seen at_).getD ((⟨0, []⟩ : Tstate) : Tstate)).f_tries).length : Int)))) || (!((decide (i0 = 25) == decide (c_.f_own = 0)) && true)))]]))) (n' := 6) rfl rfl hcs <| dnil <| Sv.ret ?_
  replace h := Option.some.inj h
  subst h
  exact ⟨_, .refl _, _, rfl, ⟨upd e0 0 (some (.tup [])), (upd (upd (upd e0 0 (some (.cells 11 [[.ro false 4 (c_.f_p.Funcs.map e_TJFunc), .ro false 3 (c_.f_p.Consts.map e_TJVal), .ro false 1 (c_.f_p.Shapes.map (eSl 1 eStr)), cI c_.f_f.Params, cI c_.f_f.Slots, .ro false 1 (c_.f_f.Caught.map eI), .ro false 2 (c_.f_f.Code.map e_TJIns), cI c_.f_own, .mp 1, lstC zc92 3 1 c92.length, cB ((c_.f_bad || (decide (0 < ((((mget c_.f_seen at_).getD ((⟨0, []⟩ : Tstate) : Tstate)).f_tries).length : Int)))) || (!((decide (i0 = 25) == decide (c_.f_own = 0)) && true)))]]))) 1 (mapB (.i .i64) (fun x => cI x) (fun (x : Tstate) => (.agg [cI x.f_height, .ro false 1 (x.f_tries.map eI)])) c_.f_seen)) 3 (lstB zc92 1 (c92.map eI))), 4⟩, (.tup []), weak_canon2 [0, 1, 2, 2] [0, 1, 3] (by decide) (by decide) (by decide) (.cons (by decide) (.cons (by decide) (.cons (by decide) .nil))) (.cons rfl (avAs_tup .nil) .nil) (.row (by decide) rfl (fr_map fun _ => rfl) (.box (by decide) rfl .map (.box (by decide) rfl (blkAs_cells (.sm rfl (.sm rfl (.sm rfl (.sm rfl (.sm rfl (.sm rfl (.sm rfl (.sm rfl (.cons (.mp rfl (by decide)) (.cons (lstC_ren rfl (by decide)) (.sm rfl .nil)))))))))))) .nil))), rfl, zc92, hzc92, rfl, rfl, rfl⟩
 ·refine ssr <| un1 (v := (B (decide (i0 = 19)))) rfl <| un1 rfl <| dnil ?_
  refine Sv.cnd rfl h (fun h => ?_) fun h => ?_
  ·refine Sv.ret ?_
   replace h := Option.some.inj h
   subst h
   exact ⟨_, .refl _, _, rfl, ⟨upd e0 0 (some (.tup [])), (upd (upd (upd e0 0 (some (.cells 11 [[.ro false 4 (c_.f_p.Funcs.map e_TJFunc), .ro false 3 (c_.f_p.Consts.map e_TJVal), .ro false 1 (c_.f_p.Shapes.map (eSl 1 eStr)), cI c_.f_f.Params, cI c_.f_f.Slots, .ro false 1 (c_.f_f.Caught.map eI), .ro false 2 (c_.f_f.Code.map e_TJIns), cI c_.f_own, .mp 1, lstC zc92 3 1 c92.length, cB c_.f_bad]]))) 1 (mapB (.i .i64) (fun x => cI x) (fun (x : Tstate) => (.agg [cI x.f_height, .ro false 1 (x.f_tries.map eI)])) c_.f_seen)) 3 (lstB zc92 1 (c92.map eI))), 4⟩, (.tup []), weak_canon2 [0, 1, 2, 2] [0, 1, 3] (by decide) (by decide) (by decide) (.cons (by decide) (.cons (by decide) (.cons (by decide) .nil))) (.cons rfl (avAs_tup .nil) .nil) (.row (by decide) rfl (fr_map fun _ => rfl) (.box (by decide) rfl .map (.box (by decide) rfl (blkAs_cells (.sm rfl (.sm rfl (.sm rfl (.sm rfl (.sm rfl (.sm rfl (.sm rfl (.sm rfl (.cons (.mp rfl (by decide)) (.cons (lstC_ren rfl (by decide)) (.sm rfl .nil)))))))))))) .nil))), rfl, zc92, hzc92, rfl, rfl, rfl⟩
  ·refine ssr <| un1 (v := (B (decide (i0 = 20)))) rfl <| un1 rfl <| dnil ?_
   refine Sv.cnd rfl h (fun h => ?_) fun h => ?_
   ·refine ssr <| un1 rfl <| un1 (v := (.c (.ref 3 2 0 1))) rfl <| un1 (v := (I i1)) rfl <| un1 (v := (.c (.ref 4 2 0 0))) rfl <| un1 (v := (I (((mget c_.f_seen at_).getD ((⟨0, []⟩ : Tstate) : Tstate)).f_height))) rfl ?_
    obtain ⟨v107, hv107⟩ : ∃ v107 : Int, v107 = (wi (((mget c_.f_seen at_).getD ((⟨0, []⟩ : Tstate) : Tstate)).f_height + 1)) := ⟨_, rfl⟩
    replace h := letAt hv107 h
    refine un1 (v := (I v107)) (by rw [hv107]; rfl) ?_
    clear hv107
    refine un1 (v := (.c (.ref 4 2 0 1))) rfl <| un1 (v := (.c (.ro false 1 ((((mget c_.f_seen at_).getD ((⟨0, []⟩ : Tstate) : Tstate)).f_tries).map eI)))) rfl <| un1 (v := (.agg [cI v107, .ro false 1 ((((mget c_.f_seen at_).getD ((⟨0, []⟩ : Tstate) : Tstate)).f_tries).map eI)])) rfl ?_
    obtain ⟨r_6, hr7, h⟩ := bnd h
    refine un <| ac_gen (bs := [0, 1, 2]) («as» := [(.c (.ref 0 11 0 0)), (I i1), (.agg [cI v107, .ro false 1 ((((mget c_.f_seen at_).getD ((⟨0, []⟩ : Tstate) : Tstate)).f_tries).map eI)])]) (h2 := _) (h1 := (upd (upd (upd e0 0 (some (.cells 11 [[.ro false 4 (c_.f_p.Funcs.map e_TJFunc), .ro false 3 (c_.f_p.Consts.map e_TJVal), .ro false 1 (c_.f_p.Shapes.map (eSl 1 eStr)), cI c_.f_f.Params, cI c_.f_f.Slots, .ro false 1 (c_.f_f.Caught.map eI), .ro false 2 (c_.f_f.Code.map e_TJIns), cI c_.f_own, .mp 1, lstC zc92 2 1 c92.length, cB c_.f_bad]]))) 1 (mapB (.i .i64) (fun x => cI x) (fun (x : Tstate) => (.agg [cI x.f_height, .ro false 1 (x.f_tries.map eI)])) c_.f_seen)) 2 (lstB zc92 1 (c92.map eI)))) (Zj hzc92 hr7) rfl (.cons (.c (.ref rfl (by decide))) (.cons (avAs_free rfl) (.cons (avAs_free rfl) .nil))) (hsub_refl _) (.cons rfl (.cons rfl (.cons rfl (.nil _)))) hcs (by decide) (by decide) (.cons (.c (.ref rfl (by decide))) (.cons (avAs_free rfl) (.cons (avAs_free rfl) .nil))) (.row (by decide) rfl (fr_map fun _ => rfl) (.box (by decide) rfl .map (.box (by decide) rfl (blkAs_cells (.sm rfl (.sm rfl (.sm rfl (.sm rfl (.sm rfl (.sm rfl (.sm rfl (.sm rfl (.cons (.mp rfl (by decide)) (.cons (lstC_ren rfl (by decide)) (.sm rfl .nil)))))))))))) .nil))) ?_
    rintro _ _ _ hn ⟨z_5, hz_5, rfl, rfl, rfl⟩
    refine ⟨.inl rfl, (upd (upd (upd (rem [0, 1, 2] _) 0 (some (.cells 11 [[.ro false 4 (r_6.f_p.Funcs.map e_TJFunc), .ro false 3 (r_6.f_p.Consts.map e_TJVal), .ro false 1 (r_6.f_p.Shapes.map (eSl 1 eStr)), cI r_6.f_f.Params, cI r_6.f_f.Slots, .ro false 1 (r_6.f_f.Caught.map eI), .ro false 2 (r_6.f_f.Code.map e_TJIns), cI r_6.f_own, .mp 1, lstC z_5 6 1 r_6.f_todo.length, cB r_6.f_bad]]))) 1 (mapB (.i .i64) (fun x => cI x) (fun (x : Tstate) => (.agg [cI x.f_height, .ro false 1 (x.f_tries.map eI)])) r_6.f_seen)) 6 (lstB z_5 1 (r_6.f_todo.map eI))), fun hbd => (m3_cons (m3_row rfl (fr_map fun _ => rfl)) (m3_cons (m3_box rfl rfl) (m3_cons (m3_box rfl (by cases z_5 <;> rfl)) (m3_rem (in_cons (by decide) (in_cons (by decide) (in_cons (by decide) (in_nil _)))) (.cons (by decide) (.cons (by decide) (.cons (by decide) .nil))) hbd)))), (.tup []), 7, (by cases z_5 <;> rfl), rfl, ?_⟩
    refine dnil <| srg <| un1 (v := (.c (.ref 4 2 0 1))) rfl <| un1 (v := (.c (.ro false 1 ((((mget c_.f_seen at_).getD ((⟨0, []⟩ : Tstate) : Tstate)).f_tries).map eI)))) rfl <| un1 (v := (.c (.ref 3 2 0 1))) rfl <| un1 (v := (I i1)) rfl <| un1 (v := (.c (.ref 4 2 0 0))) rfl <| un1 (v := (I (((mget c_.f_seen at_).getD ((⟨0, []⟩ : Tstate) : Tstate)).f_height))) rfl <| un <| a2v (v := (lstV false 7 1 [i1, ((mget c_.f_seen at_).getD ((⟨0, []⟩ : Tstate) : Tstate)).f_height].length)) (h' := upd _ 7 (lstB false 1 ([i1, ((mget c_.f_seen at_).getD ((⟨0, []⟩ : Tstate) : Tstate)).f_height].map eI))) (n' := 8) rfl rfl hcs <| dweak (show Weak 3 _ ⟨(ue [(118, (.c (.ro false 1 ([i1, ((mget c_.f_seen at_).getD ((⟨0, []⟩ : Tstate) : Tstate)).f_height].map eI)))), (117, (I (((mget c_.f_seen at_).getD ((⟨0, []⟩ : Tstate) : Tstate)).f_height))), (116, (.c (.ref 4 2 0 0))), (115, (I i1)), (114, (.c (.ref 3 2 0 1))), (113, (.c (.ro false 1 ((((mget c_.f_seen at_).getD ((⟨0, []⟩ : Tstate) : Tstate)).f_tries).map eI)))), (112, (.c (.ref 4 2 0 1))), (111, (.tup [])), (110, (.agg [cI v107, .ro false 1 ((((mget c_.f_seen at_).getD ((⟨0, []⟩ : Tstate) : Tstate)).f_tries).map eI)])), (109, (.c (.ro false 1 ((((mget c_.f_seen at_).getD ((⟨0, []⟩ : Tstate) : Tstate)).f_tries).map eI)))), (108, (.c (.ref 4 2 0 1))), (107, (I v107)), (106, (I (((mget c_.f_seen at_).getD ((⟨0, []⟩ : Tstate) : Tstate)).f_height))), (105, (.c (.ref 4 2 0 0))), (104, (I i1)), (103, (.c (.ref 3 2 0 1))), (102, (.c (.ref 0 11 0 0))), (101, (B (decide (i0 = 20)))), (100, (B (decide (i0 = 20)))), (99, (B (decide (i0 = 19)))), (98, (B (decide (i0 = 19)))), (71, (B v71)), (49, (I i0)), (6, (.c (.ref 5 2 0 0))), (5, (.c (.ref 4 2 0 0))), (4, (.c (.ref 3 2 0 0))), (1, (I at_)), (0, (.c (.ref 0 11 0 0)))]), (upd (upd (upd (upd (upd (upd e0 0 (some (.cells 11 [[.ro false 4 (r_6.f_p.Funcs.map e_TJFunc), .ro false 3 (r_6.f_p.Consts.map e_TJVal), .ro false 1 (r_6.f_p.Shapes.map (eSl 1 eStr)), cI r_6.f_f.Params, cI r_6.f_f.Slots, .ro false 1 (r_6.f_f.Caught.map eI), .ro false 2 (r_6.f_f.Code.map e_TJIns), cI r_6.f_own, .mp 1, lstC z_5 6 1 r_6.f_todo.length, cB r_6.f_bad]]))) 1 (mapB (.i .i64) (fun x => cI x) (fun (x : Tstate) => (.agg [cI x.f_height, .ro false 1 (x.f_tries.map eI)])) r_6.f_seen)) 3 (some (.cells 2 [[cI i0, cI i1]]))) 4 (some (.cells 2 [[cI (((mget c_.f_seen at_).getD ((⟨0, []⟩ : Tstate) : Tstate)).f_height), .ro false 1 ((((mget c_.f_seen at_).getD ((⟨0, []⟩ : Tstate) : Tstate)).f_tries).map eI)]]))) 5 (some (.cells 2 [[cI next0, .ro false 1 ((((mget c_.f_seen at_).getD ((⟨0, []⟩ : Tstate) : Tstate)).f_tries).map eI)]]))) 6 (lstB z_5 1 (r_6.f_todo.map eI))), 8⟩ from (weak_canon [0, 1, 2, 3, 4, 5, 6, 1007] rfl (by decide) (by decide) (by decide) (.cons rfl (.c (lstC_ro (es := List.map eI [i1, ((mget c_.f_seen at_).getD ((⟨0, []⟩ : Tstate) : Tstate)).f_height]) rfl (List.length_map eI).symm (map_nil_of hcs) (fun b x hx => not_in (bs := [0, 1, 2, 3, 4, 5, 6, 1007]) rfl b (((.cons (by decide) (.cons (by decide) (.cons (by decide) (.cons (by decide) (.cons (by decide) (.cons (by decide) .nil)))))) : HLt _ _) b x hx)) (fr_map fun _ => rfl))) (.cf rfl rfl (.cr rfl rfl rfl (.cf rfl rfl (.cr rfl rfl rfl (.cf rfl rfl (.cr rfl rfl rfl (.cons rfl (avAs_tup .nil) (.cf rfl rfl (.cf rfl rfl (.cr rfl rfl rfl (.cf rfl rfl (.cf rfl rfl (.cr rfl rfl rfl (.cf rfl rfl (.cr rfl rfl rfl (.cr rfl rfl rfl (.cf rfl rfl (.cf rfl rfl (.cf rfl rfl (.cf rfl rfl (.cf rfl rfl (.cf rfl rfl (.cr rfl rfl rfl (.cr rfl rfl rfl (.cr rfl rfl rfl (.cf rfl rfl (.cr rfl rfl rfl .nil)))))))))))))))))))))))))))) (.row (by decide) rfl (fr_map fun _ => rfl) (.box (by decide) rfl (blkAs_cells (.sm rfl (.sm rfl .nil))) (.box (by decide) rfl (blkAs_cells (.sm rfl (.sm rfl .nil))) (.box (by decide) rfl (blkAs_cells (.sm rfl (.sm rfl .nil))) (.box (by decide) rfl .map (.box (by decide) rfl (blkAs_cells (.sm rfl (.sm rfl (.sm rfl (.sm rfl (.sm rfl (.sm rfl (.sm rfl (.sm rfl (.cons (.mp rfl (by decide)) (.cons (lstC_ren rfl (by decide)) (.sm rfl .nil)))))))))))) .nil)))))))) ?_
    obtain ⟨row, hrow⟩ : ∃ row : List (List Int), row = [((mget c_.f_seen at_).getD ((⟨0, []⟩ : Tstate) : Tstate)).f_tries, [i1, ((mget c_.f_seen at_).getD ((⟨0, []⟩ : Tstate) : Tstate)).f_height]] := ⟨_, rfl⟩
    replace h := letAt hrow h
    refine un <| a2v (v := (lstV false 8 1 row.length)) (h' := upd _ 8 (lstB false 1 (row.map (eSl 1 eI)))) (n' := 9) rfl (by rw [hrow]; rfl) hcs ?_
    clear hrow
    obtain ⟨r_7, hr8, h⟩ := bnd h
    refine un <| ac_gen (bs := []) («as» := [(.c (.ro false 1 (row.map (eSl 1 eI))))]) (h2 := (upd _ 8 none)) (h1 := e0) (Z4t hr8) rfl (.cons (.c (lstC_ro (es := List.map (eSl 1 eI) row) rfl (List.length_map (eSl 1 eI)).symm (map_nil_of hcs) (gone rfl) (fr_map fun _ => rfl))) .nil) (hsub_none (hsub_refl _)) (.nil _) (fun _ => rfl) (by decide) (by decide) (.cons (avAs_free rfl) .nil) .nil ?_
    rintro _ _ _ hn ⟨z_6, hz_6, rfl, rfl, rfl⟩
    refine ⟨.inr ⟨(by cases z_6 <;> rfl), (.row (cl_map fun _ => rfl) .nil)⟩, (upd (rem [] _) 9 (lstB z_6 1 (r_7.map eI))), fun hbd => (m3_cons (m3_row rfl (fr_map fun _ => rfl)) (m3_rem (in_nil _) (.cons (by decide) .nil) hbd)), (lstV z_6 9 1 r_7.length), 10, (by cases z_6 <;> rfl), rfl, ?_⟩
    refine un1 (v := (.c (.ref 5 2 0 1))) rfl <| dweak (show Weak 3 _ ⟨(ue [(121, (.c (.ref 5 2 0 1))), (120, (.c (.ro false 1 (r_7.map eI)))), (119, (lstV false 8 1 row.length)), (118, (.c (.ro false 1 ([i1, ((mget c_.f_seen at_).getD ((⟨0, []⟩ : Tstate) : Tstate)).f_height].map eI)))), (117, (I (((mget c_.f_seen at_).getD ((⟨0, []⟩ : Tstate) : Tstate)).f_height))), (116, (.c (.ref 4 2 0 0))), (115, (I i1)), (114, (.c (.ref 3 2 0 1))), (113, (.c (.ro false 1 ((((mget c_.f_seen at_).getD ((⟨0, []⟩ : Tstate) : Tstate)).f_tries).map eI)))), (112, (.c (.ref 4 2 0 1))), (111, (.tup [])), (110, (.agg [cI v107, .ro false 1 ((((mget c_.f_seen at_).getD ((⟨0, []⟩ : Tstate) : Tstate)).f_tries).map eI)])), (109, (.c (.ro false 1 ((((mget c_.f_seen at_).getD ((⟨0, []⟩ : Tstate) : Tstate)).f_tries).map eI)))), (108, (.c (.ref 4 2 0 1))), (107, (I v107)), (106, (I (((mget c_.f_seen at_).getD ((⟨0, []⟩ : Tstate) : Tstate)).f_height))), (105, (.c (.ref 4 2 0 0))), (104, (I i1)), (103, (.c (.ref 3 2 0 1))), (102, (.c (.ref 0 11 0 0))), (101, (B (decide (i0 = 20)))), (100, (B (decide (i0 = 20)))), (99, (B (decide (i0 = 19)))), (98, (B (decide (i0 = 19)))), (71, (B v71)), (49, (I i0)), (6, (.c (.ref 5 2 0 0))), (5, (.c (.ref 4 2 0 0))), (4, (.c (.ref 3 2 0 0))), (1, (I at_)), (0, (.c (.ref 0 11 0 0)))]), (upd (upd (upd (upd (upd (upd (upd e0 0 (some (.cells 11 [[.ro false 4 (r_6.f_p.Funcs.map e_TJFunc), .ro false 3 (r_6.f_p.Consts.map e_TJVal), .ro false 1 (r_6.f_p.Shapes.map (eSl 1 eStr)), cI r_6.f_f.Params, cI r_6.f_f.Slots, .ro false 1 (r_6.f_f.Caught.map eI), .ro false 2 (r_6.f_f.Code.map e_TJIns), cI r_6.f_own, .mp 1, lstC z_5 6 1 r_6.f_todo.length, cB r_6.f_bad]]))) 1 (mapB (.i .i64) (fun x => cI x) (fun (x : Tstate) => (.agg [cI x.f_height, .ro false 1 (x.f_tries.map eI)])) r_6.f_seen)) 3 (some (.cells 2 [[cI i0, cI i1]]))) 4 (some (.cells 2 [[cI (((mget c_.f_seen at_).getD ((⟨0, []⟩ : Tstate) : Tstate)).f_height), .ro false 1 ((((mget c_.f_seen at_).getD ((⟨0, []⟩ : Tstate) : Tstate)).f_tries).map eI)]]))) 5 (some (.cells 2 [[cI next0, .ro false 1 ((((mget c_.f_seen at_).getD ((⟨0, []⟩ : Tstate) : Tstate)).f_tries).map eI)]]))) 6 (lstB z_5 1 (r_6.f_todo.map eI))) 8 (lstB false 1 (row.map (eSl 1 eI)))), 10⟩ from (weak_canon [0, 1, 2, 3, 4, 5, 6, 1007, 8, 1009] rfl (by decide) (by decide) (by decide) (.cr rfl rfl rfl (.cons rfl (.c (lstC_ro (es := List.map eI r_7) rfl (List.length_map eI).symm (map_nil_of hz_6) (fun b x hx => not_in (bs := [0, 1, 2, 3, 4, 5, 6, 1007, 8, 1009]) rfl b (((.cons (by decide) (.cons (by decide) (.cons (by decide) (.cons (by decide) (.cons (by decide) (.cons (by decide) (.cons (by decide) .nil))))))) : HLt _ _) b x hx)) (fr_map fun _ => rfl))) (.cons rfl (.c (lsr rfl rfl)) (.cf rfl rfl (.cf rfl rfl (.cr rfl rfl rfl (.cf rfl rfl (.cr rfl rfl rfl (.cf rfl rfl (.cr rfl rfl rfl (.cons rfl (avAs_tup .nil) (.cf rfl rfl (.cf rfl rfl (.cr rfl rfl rfl (.cf rfl rfl (.cf rfl rfl (.cr rfl rfl rfl (.cf rfl rfl (.cr rfl rfl rfl (.cr rfl rfl rfl (.cf rfl rfl (.cf rfl rfl (.cf rfl rfl (.cf rfl rfl (.cf rfl rfl (.cf rfl rfl (.cr rfl rfl rfl (.cr rfl rfl rfl (.cr rfl rfl rfl (.cf rfl rfl (.cr rfl rfl rfl .nil))))))))))))))))))))))))))))))) (.row (by decide) rfl (fr_map fun _ => rfl) (.row (by decide) rfl (fr_map fun _ => rfl) (.box (by decide) rfl (blkAs_cells (.sm rfl (.sm rfl .nil))) (.box (by decide) rfl (blkAs_cells (.sm rfl (.sm rfl .nil))) (.box (by decide) rfl (blkAs_cells (.sm rfl (.sm rfl .nil))) (.box (by decide) rfl .map (.box (by decide) rfl (blkAs_cells (.sm rfl (.sm rfl (.sm rfl (.sm rfl (.sm rfl (.sm rfl (.sm rfl (.sm rfl (.cons (.mp rfl (by decide)) (.cons (lstC_ren rfl (by decide)) (.sm rfl .nil)))))))))))) .nil))))))))) <| un <| a2n (h' := upd _ 5 (some (.cells 2 [[cI next0, .ro false 1 (r_7.map eI)]]))) (n' := 10) rfl rfl hcs <| dnil <| srg <| un1 rfl <| un1 rfl <| un1 (v := (I (wi (at_ + 1)))) rfl <| un1 (v := (.agg [cI next0, .ro false 1 (r_7.map eI)])) rfl ?_
    obtain ⟨r_8, hr9, h⟩ := bnd h
    refine un <| ac_gen (bs := [0, 1, 6]) («as» := [(.c (.ref 0 11 0 0)), (I (wi (at_ + 1))), (.agg [cI next0, .ro false 1 (r_7.map eI)])]) (h2 := _) (h1 := (upd (upd (upd e0 0 (some (.cells 11 [[.ro false 4 (r_6.f_p.Funcs.map e_TJFunc), .ro false 3 (r_6.f_p.Consts.map e_TJVal), .ro false 1 (r_6.f_p.Shapes.map (eSl 1 eStr)), cI r_6.f_f.Params, cI r_6.f_f.Slots, .ro false 1 (r_6.f_f.Caught.map eI), .ro false 2 (r_6.f_f.Code.map e_TJIns), cI r_6.f_own, .mp 1, lstC z_5 6 1 r_6.f_todo.length, cB r_6.f_bad]]))) 1 (mapB (.i .i64) (fun x => cI x) (fun (x : Tstate) => (.agg [cI x.f_height, .ro false 1 (x.f_tries.map eI)])) r_6.f_seen)) 6 (lstB z_5 1 (r_6.f_todo.map eI)))) (Zj hz_5 hr9) rfl (.cons (.c (.ref rfl (by decide))) (.cons (avAs_free rfl) (.cons (avAs_free rfl) .nil))) (hsub_refl _) (.cons rfl (.cons rfl (.cons rfl (.nil _)))) hcs (by decide) (by decide) (.cons (.c (.ref rfl (by decide))) (.cons (avAs_free rfl) (.cons (avAs_free rfl) .nil))) (.row (by decide) rfl (fr_map fun _ => rfl) (.box (by decide) rfl .map (.box (by decide) rfl (blkAs_cells (.sm rfl (.sm rfl (.sm rfl (.sm rfl (.sm rfl (.sm rfl (.sm rfl (.sm rfl (.cons (.mp rfl (by decide)) (.cons (lstC_ren rfl (by decide)) (.sm rfl .nil)))))))))))) .nil))) ?_
    rintro _ _ _ hn ⟨z_7, hz_7, rfl, rfl, rfl⟩
    refine ⟨.inl rfl, (upd (upd (upd (rem [0, 1, 6] _) 0 (some (.cells 11 [[.ro false 4 (r_8.f_p.Funcs.map e_TJFunc), .ro false 3 (r_8.f_p.Consts.map e_TJVal), .ro false 1 (r_8.f_p.Shapes.map (eSl 1 eStr)), cI r_8.f_f.Params, cI r_8.f_f.Slots, .ro false 1 (r_8.f_f.Caught.map eI), .ro false 2 (r_8.f_f.Code.map e_TJIns), cI r_8.f_own, .mp 1, lstC z_7 10 1 r_8.f_todo.length, cB r_8.f_bad]]))) 1 (mapB (.i .i64) (fun x => cI x) (fun (x : Tstate) => (.agg [cI x.f_height, .ro false 1 (x.f_tries.map eI)])) r_8.f_seen)) 10 (lstB z_7 1 (r_8.f_todo.map eI))), fun hbd => (m3_cons (m3_row rfl (fr_map fun _ => rfl)) (m3_cons (m3_box rfl rfl) (m3_cons (m3_box rfl (by cases z_7 <;> rfl)) (m3_rem (in_cons (by decide) (in_cons (by decide) (in_cons (by decide) (in_nil _)))) (.cons (by decide) (.cons (by decide) (.cons (by decide) .nil))) hbd)))), (.tup []), 11, (by cases z_7 <;> rfl), rfl, ?_⟩
    refine dnil ?_
    replace h := Option.some.inj h
    subst h
    exact ⟨_, .refl _, _, rfl, ⟨upd e0 0 (some (.tup [])), (upd (upd (upd e0 0 (some (.cells 11 [[.ro false 4 (r_8.f_p.Funcs.map e_TJFunc), .ro false 3 (r_8.f_p.Consts.map e_TJVal), .ro false 1 (r_8.f_p.Shapes.map (eSl 1 eStr)), cI r_8.f_f.Params, cI r_8.f_f.Slots, .ro false 1 (r_8.f_f.Caught.map eI), .ro false 2 (r_8.f_f.Code.map e_TJIns), cI r_8.f_own, .mp 1, lstC z_7 3 1 r_8.f_todo.length, cB r_8.f_bad]]))) 1 (mapB (.i .i64) (fun x => cI x) (fun (x : Tstate) => (.agg [cI x.f_height, .ro false 1 (x.f_tries.map eI)])) r_8.f_seen)) 3 (lstB z_7 1 (r_8.f_todo.map eI))), 4⟩, (.tup []), weak_canon2 [0, 1, 2, 10] [0, 1, 3] (by decide) (by decide) (by decide) (.cons (by decide) (.cons (by decide) (.cons (by decide) .nil))) (.cons rfl (avAs_tup .nil) .nil) (.row (by decide) rfl (fr_map fun _ => rfl) (.box (by decide) rfl .map (.box (by decide) rfl (blkAs_cells (.sm rfl (.sm rfl (.sm rfl (.sm rfl (.sm rfl (.sm rfl (.sm rfl (.sm rfl (.cons (.mp rfl (by decide)) (.cons (lstC_ren rfl (by decide)) (.sm rfl .nil)))))))))))) .nil))), rfl, z_7, hz_7, rfl, rfl, rfl⟩
   ·refine ssr <| un1 (v := (B (decide (i0 = 21)))) rfl <| un1 rfl <| dnil ?_
    refine Sv.cnd rfl h (fun h => ?_) fun h => ?_
    ·refine Sv.seq <| ssr <| un1 (v := (.c (.ref 4 2 0 1))) rfl <| un1 (v := (.c (.ro false 1 ((((mget c_.f_seen at_).getD ((⟨0, []⟩ : Tstate) : Tstate)).f_tries).map eI)))) rfl <| un1 (v := (I ((((mget c_.f_seen at_).getD ((⟨0, []⟩ : Tstate) : Tstate)).f_tries).length : Int))) (s_len (e := eI) (xs := (((mget c_.f_seen at_).getD ((⟨0, []⟩ : Tstate) : Tstate)).f_tries)) rfl) ?_
     obtain ⟨v127, hv127⟩ : ∃ v127 : Bool, v127 = decide (((((mget c_.f_seen at_).getD ((⟨0, []⟩ : Tstate) : Tstate)).f_tries).length : Int) = 0) := ⟨_, rfl⟩
     replace h := letAt hv127 h
     refine un1 (v := (B v127)) (by rw [hv127]; rfl) ?_
     clear hv127
     refine dnil ?_
     refine Sv.cnd rfl h (fun h => ?_) fun h => ?_
     ·refine ssr <| un1 rfl <| un1 (v := (.c (.ref 0 11 0 0))) rfl <| un1 (v := (.c (.ref 0 11 0 10))) rfl <| un <| a2n (h' := upd _ 0 (some (.cells 11 [[.ro false 4 (c_.f_p.Funcs.map e_TJFunc), .ro false 3 (c_.f_p.Consts.map e_TJVal), .ro false 1 (c_.f_p.Shapes.map (eSl 1 eStr)), cI c_.f_f.Params, cI c_.f_f.Slots, .ro false 1 (c_.f_f.Caught.map eI), .ro false 2 (c_.f_f.Code.map e_TJIns), cI c_.f_own, .mp 1, lstC zc92 2 1 c92.length, cB true]]))) (n' := 6) rfl rfl hcs <| dnil <| Sv.ret ?_
      replace h := Option.some.inj h
      subst h
      exact ⟨_, .refl _, _, rfl, ⟨upd e0 0 (some (.tup [])), (upd (upd (upd e0 0 (some (.cells 11 [[.ro false 4 (c_.f_p.Funcs.map e_TJFunc), .ro false 3 (c_.f_p.Consts.map e_TJVal), .ro false 1 (c_.f_p.Shapes.map (eSl 1 eStr)), cI c_.f_f.Params, cI c_.f_f.Slots, .ro false 1 (c_.f_f.Caught.map eI), .ro false 2 (c_.f_f.Code.map e_TJIns), cI c_.f_own, .mp 1, lstC zc92 3 1 c92.length, cB true]]))) 1 (mapB (.i .i64) (fun x => cI x) (fun (x : Tstate) => (.agg [cI x.f_height, .ro false 1 (x.f_tries.map eI)])) c_.f_seen)) 3 (lstB zc92 1 (c92.map eI))), 4⟩, (.tup []), weak_canon2 [0, 1, 2, 2] [0, 1, 3] (by decide) (by decide) (by decide) (.cons (by decide) (.cons (by decide) (.cons (by decide) .nil))) (.cons rfl (avAs_tup .nil) .nil) (.row (by decide) rfl (fr_map fun _ => rfl) (.box (by decide) rfl .map (.box (by decide) rfl (blkAs_cells (.sm rfl (.sm rfl (.sm rfl (.sm rfl (.sm rfl (.sm rfl (.sm rfl (.sm rfl (.cons (.mp rfl (by decide)) (.cons (lstC_ren rfl (by decide)) (.sm rfl .nil)))))))))))) .nil))), rfl, zc92, hzc92, rfl, rfl, rfl⟩
     ·refine Sv.skip <| srg <| un1 (v := (.c (.ref 4 2 0 1))) rfl <| un1 (v := (.c (.ro false 1 ((((mget c_.f_seen at_).getD ((⟨0, []⟩ : Tstate) : Tstate)).f_tries).map eI)))) rfl <| un1 (v := (.c (.ref 4 2 0 1))) rfl <| un1 (v := (.c (.ro false 1 ((((mget c_.f_seen at_).getD ((⟨0, []⟩ : Tstate) : Tstate)).f_tries).map eI)))) rfl <| un1 (v := (I ((((mget c_.f_seen at_).getD ((⟨0, []⟩ : Tstate) : Tstate)).f_tries).length : Int))) (s_len (e := eI) (xs := (((mget c_.f_seen at_).getD ((⟨0, []⟩ : Tstate) : Tstate)).f_tries)) rfl) ?_
      obtain ⟨v136, hv136⟩ : ∃ v136 : Int, v136 = (wi (((((mget c_.f_seen at_).getD ((⟨0, []⟩ : Tstate) : Tstate)).f_tries).length : Int) - 2)) := ⟨_, rfl⟩
      replace h := letAt hv136 h
      refine un1 (v := (I v136)) (by rw [hv136]; rfl) ?_
      clear hv136
      obtain ⟨r_9, hx1, h⟩ := bnd h
      refine un1 (v := (.c (.ro false 1 (r_9.map eI)))) (s_slSl (e := eI) rfl rfl rfl hx1) <| un1 (v := (.c (.ref 5 2 0 1))) rfl <| un <| a2n (h' := upd _ 5 (some (.cells 2 [[cI next0, .ro false 1 (r_9.map eI)]]))) (n' := 6) rfl rfl hcs <| dnil <| srg <| un1 rfl <| un1 rfl <| un1 (v := (I (wi (at_ + 1)))) rfl <| un1 (v := (.agg [cI next0, .ro false 1 (r_9.map eI)])) rfl ?_
      obtain ⟨r_10, hr10, h⟩ := bnd h
      refine un <| ac_gen (bs := [0, 1, 2]) («as» := [(.c (.ref 0 11 0 0)), (I (wi (at_ + 1))), (.agg [cI next0, .ro false 1 (r_9.map eI)])]) (h2 := _) (h1 := (upd (upd (upd e0 0 (some (.cells 11 [[.ro false 4 (c_.f_p.Funcs.map e_TJFunc), .ro false 3 (c_.f_p.Consts.map e_TJVal), .ro false 1 (c_.f_p.Shapes.map (eSl 1 eStr)), cI c_.f_f.Params, cI c_.f_f.Slots, .ro false 1 (c_.f_f.Caught.map eI), .ro false 2 (c_.f_f.Code.map e_TJIns), cI c_.f_own, .mp 1, lstC zc92 2 1 c92.length, cB c_.f_bad]]))) 1 (mapB (.i .i64) (fun x => cI x) (fun (x : Tstate) => (.agg [cI x.f_height, .ro false 1 (x.f_tries.map eI)])) c_.f_seen)) 2 (lstB zc92 1 (c92.map eI)))) (Zj hzc92 hr10) rfl (.cons (.c (.ref rfl (by decide))) (.cons (avAs_free rfl) (.cons (avAs_free rfl) .nil))) (hsub_refl _) (.cons rfl (.cons rfl (.cons rfl (.nil _)))) hcs (by decide) (by decide) (.cons (.c (.ref rfl (by decide))) (.cons (avAs_free rfl) (.cons (avAs_free rfl) .nil))) (.row (by decide) rfl (fr_map fun _ => rfl) (.box (by decide) rfl .map (.box (by decide) rfl (blkAs_cells (.sm rfl (.sm rfl (.sm rfl (.sm rfl (.sm rfl (.sm rfl (.sm rfl (.sm rfl (.cons (.mp rfl (by decide)) (.cons (lstC_ren rfl (by decide)) (.sm rfl .nil)))))))))))) .nil))) ?_
      rintro _ _ _ hn ⟨z_8, hz_8, rfl, rfl, rfl⟩
      refine ⟨.inl rfl, (upd (upd (upd (rem [0, 1, 2] _) 0 (some (.cells 11 [[.ro false 4 (r_10.f_p.Funcs.map e_TJFunc), .ro false 3 (r_10.f_p.Consts.map e_TJVal), .ro false 1 (r_10.f_p.Shapes.map (eSl 1 eStr)), cI r_10.f_f.Params, cI r_10.f_f.Slots, .ro false 1 (r_10.f_f.Caught.map eI), .ro false 2 (r_10.f_f.Code.map e_TJIns), cI r_10.f_own, .mp 1, lstC z_8 6 1 r_10.f_todo.length, cB r_10.f_bad]]))) 1 (mapB (.i .i64) (fun x => cI x) (fun (x : Tstate) => (.agg [cI x.f_height, .ro false 1 (x.f_tries.map eI)])) r_10.f_seen)) 6 (lstB z_8 1 (r_10.f_todo.map eI))), fun hbd => (m3_cons (m3_row rfl (fr_map fun _ => rfl)) (m3_cons (m3_box rfl rfl) (m3_cons (m3_box rfl (by cases z_8 <;> rfl)) (m3_rem (in_cons (by decide) (in_cons (by decide) (in_cons (by decide) (in_nil _)))) (.cons (by decide) (.cons (by decide) (.cons (by decide) .nil))) hbd)))), (.tup []), 7, (by cases z_8 <;> rfl), rfl, ?_⟩
      refine dnil ?_
      replace h := Option.some.inj h
      subst h
      exact ⟨_, .refl _, _, rfl, ⟨upd e0 0 (some (.tup [])), (upd (upd (upd e0 0 (some (.cells 11 [[.ro false 4 (r_10.f_p.Funcs.map e_TJFunc), .ro false 3 (r_10.f_p.Consts.map e_TJVal), .ro false 1 (r_10.f_p.Shapes.map (eSl 1 eStr)), cI r_10.f_f.Params, cI r_10.f_f.Slots, .ro false 1 (r_10.f_f.Caught.map eI), .ro false 2 (r_10.f_f.Code.map e_TJIns), cI r_10.f_own, .mp 1, lstC z_8 3 1 r_10.f_todo.length, cB r_10.f_bad]]))) 1 (mapB (.i .i64) (fun x => cI x) (fun (x : Tstate) => (.agg [cI x.f_height, .ro false 1 (x.f_tries.map eI)])) r_10.f_seen)) 3 (lstB z_8 1 (r_10.f_todo.map eI))), 4⟩, (.tup []), weak_canon2 [0, 1, 2, 6] [0, 1, 3] (by decide) (by decide) (by decide) (.cons (by decide) (.cons (by decide) (.cons (by decide) .nil))) (.cons rfl (avAs_tup .nil) .nil) (.row (by decide) rfl (fr_map fun _ => rfl) (.box (by decide) rfl .map (.box (by decide) rfl (blkAs_cells (.sm rfl (.sm rfl (.sm rfl (.sm rfl (.sm rfl (.sm rfl (.sm rfl (.sm rfl (.cons (.mp rfl (by decide)) (.cons (lstC_ren rfl (by decide)) (.sm rfl .nil)))))))))))) .nil))), rfl, z_8, hz_8, rfl, rfl, rfl⟩
    ·refine Sv.skip <| srg <| un1 rfl <| un1 rfl <| un1 (v := (I (wi (at_ + 1)))) rfl <| un1 (v := (.agg [cI next0, .ro false 1 ((((mget c_.f_seen at_).getD ((⟨0, []⟩ : Tstate) : Tstate)).f_tries).map eI)])) rfl ?_
     obtain ⟨r_11, hr11, h⟩ := bnd h
     refine un <| ac_gen (bs := [0, 1, 2]) («as» := [(.c (.ref 0 11 0 0)), (I (wi (at_ + 1))), (.agg [cI next0, .ro false 1 ((((mget c_.f_seen at_).getD ((⟨0, []⟩ : Tstate) : Tstate)).f_tries).map eI)])]) (h2 := _) (h1 := (upd (upd (upd e0 0 (some (.cells 11 [[.ro false 4 (c_.f_p.Funcs.map e_TJFunc), .ro false 3 (c_.f_p.Consts.map e_TJVal), .ro false 1 (c_.f_p.Shapes.map (eSl 1 eStr)), cI c_.f_f.Params, cI c_.f_f.Slots, .ro false 1 (c_.f_f.Caught.map eI), .ro false 2 (c_.f_f.Code.map e_TJIns), cI c_.f_own, .mp 1, lstC zc92 2 1 c92.length, cB c_.f_bad]]))) 1 (mapB (.i .i64) (fun x => cI x) (fun (x : Tstate) => (.agg [cI x.f_height, .ro false 1 (x.f_tries.map eI)])) c_.f_seen)) 2 (lstB zc92 1 (c92.map eI)))) (Zj hzc92 hr11) rfl (.cons (.c (.ref rfl (by decide))) (.cons (avAs_free rfl) (.cons (avAs_free rfl) .nil))) (hsub_refl _) (.cons rfl (.cons rfl (.cons rfl (.nil _)))) hcs (by decide) (by decide) (.cons (.c (.ref rfl (by decide))) (.cons (avAs_free rfl) (.cons (avAs_free rfl) .nil))) (.row (by decide) rfl (fr_map fun _ => rfl) (.box (by decide) rfl .map (.box (by decide) rfl (blkAs_cells (.sm rfl (.sm rfl (.sm rfl (.sm rfl (.sm rfl (.sm rfl (.sm rfl (.sm rfl (.cons (.mp rfl (by decide)) (.cons (lstC_ren rfl (by decide)) (.sm rfl .nil)))))))))))) .nil))) ?_
     rintro _ _ _ hn ⟨z_9, hz_9, rfl, rfl, rfl⟩
     refine ⟨.inl rfl, (upd (upd (upd (rem [0, 1, 2] _) 0 (some (.cells 11 [[.ro false 4 (r_11.f_p.Funcs.map e_TJFunc), .ro false 3 (r_11.f_p.Consts.map e_TJVal), .ro false 1 (r_11.f_p.Shapes.map (eSl 1 eStr)), cI r_11.f_f.Params, cI r_11.f_f.Slots, .ro false 1 (r_11.f_f.Caught.map eI), .ro false 2 (r_11.f_f.Code.map e_TJIns), cI r_11.f_own, .mp 1, lstC z_9 6 1 r_11.f_todo.length, cB r_11.f_bad]]))) 1 (mapB (.i .i64) (fun x => cI x) (fun (x : Tstate) => (.agg [cI x.f_height, .ro false 1 (x.f_tries.map eI)])) r_11.f_seen)) 6 (lstB z_9 1 (r_11.f_todo.map eI))), fun hbd => (m3_cons (m3_row rfl (fr_map fun _ => rfl)) (m3_cons (m3_box rfl rfl) (m3_cons (m3_box rfl (by cases z_9 <;> rfl)) (m3_rem (in_cons (by decide) (in_cons (by decide) (in_cons (by decide) (in_nil _)))) (.cons (by decide) (.cons (by decide) (.cons (by decide) .nil))) hbd)))), (.tup []), 7, (by cases z_9 <;> rfl), rfl, ?_⟩
     refine dnil ?_
     replace h := Option.some.inj h
     subst h
     exact ⟨_, .refl _, _, rfl, ⟨upd e0 0 (some (.tup [])), (upd (upd (upd e0 0 (some (.cells 11 [[.ro false 4 (r_11.f_p.Funcs.map e_TJFunc), .ro false 3 (r_11.f_p.Consts.map e_TJVal), .ro false 1 (r_11.f_p.Shapes.map (eSl 1 eStr)), cI r_11.f_f.Params, cI r_11.f_f.Slots, .ro false 1 (r_11.f_f.Caught.map eI), .ro false 2 (r_11.f_f.Code.map e_TJIns), cI r_11.f_own, .mp 1, lstC z_9 3 1 r_11.f_todo.length, cB r_11.f_bad]]))) 1 (mapB (.i .i64) (fun x => cI x) (fun (x : Tstate) => (.agg [cI x.f_height, .ro false 1 (x.f_tries.map eI)])) r_11.f_seen)) 3 (lstB z_9 1 (r_11.f_todo.map eI))), 4⟩, (.tup []), weak_canon2 [0, 1, 2, 6] [0, 1, 3] (by decide) (by decide) (by decide) (.cons (by decide) (.cons (by decide) (.cons (by decide) .nil))) (.cons rfl (avAs_tup .nil) .nil) (.row (by decide) rfl (fr_map fun _ => rfl) (.box (by decide) rfl .map (.box (by decide) rfl (blkAs_cells (.sm rfl (.sm rfl (.sm rfl (.sm rfl (.sm rfl (.sm rfl (.sm rfl (.sm rfl (.cons (.mp rfl (by decide)) (.cons (lstC_ren rfl (by decide)) (.sm rfl .nil)))))))))))) .nil))), rfl, z_9, hz_9, rfl, rfl, rfl⟩
noncomputable def Z26 (i0 : Int) (c_ : Tchecker) (i1 : Int) (at_ : Int) (c91 : (List Int)) (next0 : Int) : Option Tchecker :=
 if decide (i0 = 9) then
  (Z5 (⟨c_.f_p, c_.f_f, c_.f_own, c_.f_seen, c91, c_.f_bad⟩ : Tchecker) i1 (⟨next0, ((mget c_.f_seen at_).getD ((⟨0, []⟩ : Tstate) : Tstate)).f_tries⟩ : Tstate)).bind fun r_1 =>
  some r_1
 else
  if decide (i0 = 10) then
   (Z5 (⟨c_.f_p, c_.f_f, c_.f_own, c_.f_seen, c91, c_.f_bad⟩ : Tchecker) i1 (⟨next0, ((mget c_.f_seen at_).getD ((⟨0, []⟩ : Tstate) : Tstate)).f_tries⟩ : Tstate)).bind fun r_2 =>
   (Z5 r_2 (wi (at_ + 1)) (⟨next0, ((mget c_.f_seen at_).getD ((⟨0, []⟩ : Tstate) : Tstate)).f_tries⟩ : Tstate)).bind fun r_3 =>
   some r_3
  else
   if decide (i0 = 24) then
    (Z5 (⟨c_.f_p, c_.f_f, c_.f_own, c_.f_seen, c91, c_.f_bad⟩ : Tchecker) i1 ((mget c_.f_seen at_).getD ((⟨0, []⟩ : Tstate) : Tstate))).bind fun r_4 =>
    (Z5 r_4 (wi (at_ + 1)) (⟨next0, ((mget c_.f_seen at_).getD ((⟨0, []⟩ : Tstate) : Tstate)).f_tries⟩ : Tstate)).bind fun r_5 =>
    some r_5
   else
    if decide (i0 = 18) then
     Z1m c_ at_ i0 i1 next0 c91 (decide (i0 = 18))
    else
     Z1m c_ at_ i0 i1 next0 c91 (decide (i0 = 25))
theorem Z3c {i0 : Int} {c_ : Tchecker} {i1 : Int} {at_ : Int} {c91 : (List Int)} {next0 : Int} {zc91 : Bool} (hzc91 : zc91 = true → c91 = []) {o : Tchecker} (h : Z26 i0 c_ i1 at_ c91 next0 = some o) :
  Sv Tryd.prog GG 3 a10_c1 (Ends a10.results 3 (Z17 o)) ⟨(ue [(6, (.c (.ref 5 2 0 0))), (5, (.c (.ref 4 2 0 0))), (4, (.c (.ref 3 2 0 0))), (1, (I at_)), (0, (.c (.ref 0 11 0 0)))]), (upd (upd (upd (upd (upd (upd e0 0 (some (.cells 11 [[.ro false 4 (c_.f_p.Funcs.map e_TJFunc), .ro false 3 (c_.f_p.Consts.map e_TJVal), .ro false 1 (c_.f_p.Shapes.map (eSl 1 eStr)), cI c_.f_f.Params, cI c_.f_f.Slots, .ro false 1 (c_.f_f.Caught.map eI), .ro false 2 (c_.f_f.Code.map e_TJIns), cI c_.f_own, .mp 1, lstC zc91 2 1 c91.length, cB c_.f_bad]]))) 1 (mapB (.i .i64) (fun x => cI x) (fun (x : Tstate) => (.agg [cI x.f_height, .ro false 1 (x.f_tries.map eI)])) c_.f_seen)) 2 (lstB zc91 1 (c91.map eI))) 3 (some (.cells 2 [[cI i0, cI i1]]))) 4 (some (.cells 2 [[cI (((mget c_.f_seen at_).getD ((⟨0, []⟩ : Tstate) : Tstate)).f_height), .ro false 1 ((((mget c_.f_seen at_).getD ((⟨0, []⟩ : Tstate) : Tstate)).f_tries).map eI)]]))) 5 (some (.cells 2 [[cI next0, .ro false 1 ((((mget c_.f_seen at_).getD ((⟨0, []⟩ : Tstate) : Tstate)).f_tries).map eI)]]))), 6⟩ := by
 unfold Z26 at h
 refine Sv.seq <| ssr <| un1 (v := (.c (.ref 3 2 0 0))) rfl <| un1 (v := (I i0)) rfl <| dnil <| Sv.block <| ssr <| un1 (v := (B (decide (i0 = 9)))) rfl <| un1 rfl <| dnil ?_
 refine Sv.cnd rfl h (fun h => ?_) fun h => ?_
 ·refine ssr <| un1 rfl <| un1 (v := (.c (.ref 3 2 0 1))) rfl <| un1 (v := (I i1)) rfl <| un1 (v := (.agg [cI next0, .ro false 1 ((((mget c_.f_seen at_).getD ((⟨0, []⟩ : Tstate) : Tstate)).f_tries).map eI)])) rfl ?_
  obtain ⟨r_1, hr2, h⟩ := bnd h
  refine un <| ac_gen (bs := [0, 1, 2]) («as» := [(.c (.ref 0 11 0 0)), (I i1), (.agg [cI next0, .ro false 1 ((((mget c_.f_seen at_).getD ((⟨0, []⟩ : Tstate) : Tstate)).f_tries).map eI)])]) (h2 := _) (h1 := (upd (upd (upd e0 0 (some (.cells 11 [[.ro false 4 (c_.f_p.Funcs.map e_TJFunc), .ro false 3 (c_.f_p.Consts.map e_TJVal), .ro false 1 (c_.f_p.Shapes.map (eSl 1 eStr)), cI c_.f_f.Params, cI c_.f_f.Slots, .ro false 1 (c_.f_f.Caught.map eI), .ro false 2 (c_.f_f.Code.map e_TJIns), cI c_.f_own, .mp 1, lstC zc91 2 1 c91.length, cB c_.f_bad]]))) 1 (mapB (.i .i64) (fun x => cI x) (fun (x : Tstate) => (.agg [cI x.f_height, .ro false 1 (x.f_tries.map eI)])) c_.f_seen)) 2 (lstB zc91 1 (c91.map eI)))) (Zj hzc91 hr2) rfl (.cons (.c (.ref rfl (by decide))) (.cons (avAs_free rfl) (.cons (avAs_free rfl) .nil))) (hsub_refl _) (.cons rfl (.cons rfl (.cons rfl (.nil _)))) hcs (by decide) (by decide) (.cons (.c (.ref rfl (by decide))) (.cons (avAs_free rfl) (.cons (avAs_free rfl) .nil))) (.row (by decide) rfl (fr_map fun _ => rfl) (.box (by decide) rfl .map (.box (by decide) rfl (blkAs_cells (.sm rfl (.sm rfl (.sm rfl (.sm rfl (.sm rfl (.sm rfl (.sm rfl (.sm rfl (.cons (.mp rfl (by decide)) (.cons (lstC_ren rfl (by decide)) (.sm rfl .nil)))))))))))) .nil))) ?_
  rintro _ _ _ hn ⟨z_, hz_, rfl, rfl, rfl⟩
  refine ⟨.inl rfl, (upd (upd (upd (rem [0, 1, 2] _) 0 (some (.cells 11 [[.ro false 4 (r_1.f_p.Funcs.map e_TJFunc), .ro false 3 (r_1.f_p.Consts.map e_TJVal), .ro false 1 (r_1.f_p.Shapes.map (eSl 1 eStr)), cI r_1.f_f.Params, cI r_1.f_f.Slots, .ro false 1 (r_1.f_f.Caught.map eI), .ro false 2 (r_1.f_f.Code.map e_TJIns), cI r_1.f_own, .mp 1, lstC z_ 6 1 r_1.f_todo.length, cB r_1.f_bad]]))) 1 (mapB (.i .i64) (fun x => cI x) (fun (x : Tstate) => (.agg [cI x.f_height, .ro false 1 (x.f_tries.map eI)])) r_1.f_seen)) 6 (lstB z_ 1 (r_1.f_todo.map eI))), fun hbd => (m3_cons (m3_row rfl (fr_map fun _ => rfl)) (m3_cons (m3_box rfl rfl) (m3_cons (m3_box rfl (by cases z_ <;> rfl)) (m3_rem (in_cons (by decide) (in_cons (by decide) (in_cons (by decide) (in_nil _)))) (.cons (by decide) (.cons (by decide) (.cons (by decide) .nil))) hbd)))), (.tup []), 7, (by cases z_ <;> rfl), rfl, ?_⟩
  refine dnil <| Sv.ret ?_
  replace h := Option.some.inj h
  subst h
  exact ⟨_, .refl _, _, rfl, ⟨upd e0 0 (some (.tup [])), (upd (upd (upd e0 0 (some (.cells 11 [[.ro false 4 (r_1.f_p.Funcs.map e_TJFunc), .ro false 3 (r_1.f_p.Consts.map e_TJVal), .ro false 1 (r_1.f_p.Shapes.map (eSl 1 eStr)), cI r_1.f_f.Params, cI r_1.f_f.Slots, .ro false 1 (r_1.f_f.Caught.map eI), .ro false 2 (r_1.f_f.Code.map e_TJIns), cI r_1.f_own, .mp 1, lstC z_ 3 1 r_1.f_todo.length, cB r_1.f_bad]]))) 1 (mapB (.i .i64) (fun x => cI x) (fun (x : Tstate) => (.agg [cI x.f_height, .ro false 1 (x.f_tries.map eI)])) r_1.f_seen)) 3 (lstB z_ 1 (r_1.f_todo.map eI))), 4⟩, (.tup []), weak_canon2 [0, 1, 2, 6] [0, 1, 3] (by decide) (by decide) (by decide) (.cons (by decide) (.cons (by decide) (.cons (by decide) .nil))) (.cons rfl (avAs_tup .nil) .nil) (.row (by decide) rfl (fr_map fun _ => rfl) (.box (by decide) rfl .map (.box (by decide) rfl (blkAs_cells (.sm rfl (.sm rfl (.sm rfl (.sm rfl (.sm rfl (.sm rfl (.sm rfl (.sm rfl (.cons (.mp rfl (by decide)) (.cons (lstC_ren rfl (by decide)) (.sm rfl .nil)))))))))))) .nil))), rfl, z_, hz_, rfl, rfl, rfl⟩
 ·refine ssr <| un1 (v := (B (decide (i0 = 10)))) rfl <| un1 rfl <| dnil ?_
  refine Sv.cnd rfl h (fun h => ?_) fun h => ?_
  ·refine srg <| un1 rfl <| un1 (v := (.c (.ref 3 2 0 1))) rfl <| un1 (v := (I i1)) rfl <| un1 (v := (.agg [cI next0, .ro false 1 ((((mget c_.f_seen at_).getD ((⟨0, []⟩ : Tstate) : Tstate)).f_tries).map eI)])) rfl ?_
   obtain ⟨r_2, hr3, h⟩ := bnd h
   refine un <| ac_gen (bs := [0, 1, 2]) («as» := [(.c (.ref 0 11 0 0)), (I i1), (.agg [cI next0, .ro false 1 ((((mget c_.f_seen at_).getD ((⟨0, []⟩ : Tstate) : Tstate)).f_tries).map eI)])]) (h2 := _) (h1 := (upd (upd (upd e0 0 (some (.cells 11 [[.ro false 4 (c_.f_p.Funcs.map e_TJFunc), .ro false 3 (c_.f_p.Consts.map e_TJVal), .ro false 1 (c_.f_p.Shapes.map (eSl 1 eStr)), cI c_.f_f.Params, cI c_.f_f.Slots, .ro false 1 (c_.f_f.Caught.map eI), .ro false 2 (c_.f_f.Code.map e_TJIns), cI c_.f_own, .mp 1, lstC zc91 2 1 c91.length, cB c_.f_bad]]))) 1 (mapB (.i .i64) (fun x => cI x) (fun (x : Tstate) => (.agg [cI x.f_height, .ro false 1 (x.f_tries.map eI)])) c_.f_seen)) 2 (lstB zc91 1 (c91.map eI)))) (Zj hzc91 hr3) rfl (.cons (.c (.ref rfl (by decide))) (.cons (avAs_free rfl) (.cons (avAs_free rfl) .nil))) (hsub_refl _) (.cons rfl (.cons rfl (.cons rfl (.nil _)))) hcs (by decide) (by decide) (.cons (.c (.ref rfl (by decide))) (.cons (avAs_free rfl) (.cons (avAs_free rfl) .nil))) (.row (by decide) rfl (fr_map fun _ => rfl) (.box (by decide) rfl .map (.box (by decide) rfl (blkAs_cells (.sm rfl (.sm rfl (.sm rfl (.sm rfl (.sm rfl (.sm rfl (.sm rfl (.sm rfl (.cons (.mp rfl (by decide)) (.cons (lstC_ren rfl (by decide)) (.sm rfl .nil)))))))))))) .nil))) ?_
   rintro _ _ _ hn ⟨z_1, hz_1, rfl, rfl, rfl⟩
   refine ⟨.inl rfl, (upd (upd (upd (rem [0, 1, 2] _) 0 (some (.cells 11 [[.ro false 4 (r_2.f_p.Funcs.map e_TJFunc), .ro false 3 (r_2.f_p.Consts.map e_TJVal), .ro false 1 (r_2.f_p.Shapes.map (eSl 1 eStr)), cI r_2.f_f.Params, cI r_2.f_f.Slots, .ro false 1 (r_2.f_f.Caught.map eI), .ro false 2 (r_2.f_f.Code.map e_TJIns), cI r_2.f_own, .mp 1, lstC z_1 6 1 r_2.f_todo.length, cB r_2.f_bad]]))) 1 (mapB (.i .i64) (fun x => cI x) (fun (x : Tstate) => (.agg [cI x.f_height, .ro false 1 (x.f_tries.map eI)])) r_2.f_seen)) 6 (lstB z_1 1 (r_2.f_todo.map eI))), fun hbd => (m3_cons (m3_row rfl (fr_map fun _ => rfl)) (m3_cons (m3_box rfl rfl) (m3_cons (m3_box rfl (by cases z_1 <;> rfl)) (m3_rem (in_cons (by decide) (in_cons (by decide) (in_cons (by decide) (in_nil _)))) (.cons (by decide) (.cons (by decide) (.cons (by decide) .nil))) hbd)))), (.tup []), 7, (by cases z_1 <;> rfl), rfl, ?_⟩
   refine dnil <| srg <| un1 rfl <| un1 rfl <| un1 (v := (I (wi (at_ + 1)))) rfl <| un1 (v := (.agg [cI next0, .ro false 1 ((((mget c_.f_seen at_).getD ((⟨0, []⟩ : Tstate) : Tstate)).f_tries).map eI)])) rfl ?_
   obtain ⟨r_3, hr4, h⟩ := bnd h
   refine un <| ac_gen (bs := [0, 1, 6]) («as» := [(.c (.ref 0 11 0 0)), (I (wi (at_ + 1))), (.agg [cI next0, .ro false 1 ((((mget c_.f_seen at_).getD ((⟨0, []⟩ : Tstate) : Tstate)).f_tries).map eI)])]) (h2 := _) (h1 := (upd (upd (upd e0 0 (some (.cells 11 [[.ro false 4 (r_2.f_p.Funcs.map e_TJFunc), .ro false 3 (r_2.f_p.Consts.map e_TJVal), .ro false 1 (r_2.f_p.Shapes.map (eSl 1 eStr)), cI r_2.f_f.Params, cI r_2.f_f.Slots, .ro false 1 (r_2.f_f.Caught.map eI), .ro false 2 (r_2.f_f.Code.map e_TJIns), cI r_2.f_own, .mp 1, lstC z_1 6 1 r_2.f_todo.length, cB r_2.f_bad]]))) 1 (mapB (.i .i64) (fun x => cI x) (fun (x : Tstate) => (.agg [cI x.f_height, .ro false 1 (x.f_tries.map eI)])) r_2.f_seen)) 6 (lstB z_1 1 (r_2.f_todo.map eI)))) (Zj hz_1 hr4) rfl (.cons (.c (.ref rfl (by decide))) (.cons (avAs_free rfl) (.cons (avAs_free rfl) .nil))) (hsub_refl _) (.cons rfl (.cons rfl (.cons rfl (.nil _)))) hcs (by decide) (by decide) (.cons (.c (.ref rfl (by decide))) (.cons (avAs_free rfl) (.cons (avAs_free rfl) .nil))) (.row (by decide) rfl (fr_map fun _ => rfl) (.box (by decide) rfl .map (.box (by decide) rfl (blkAs_cells (.sm rfl (.sm rfl (.sm rfl (.sm rfl (.sm rfl (.sm rfl (.sm rfl (.sm rfl (.cons (.mp rfl (by decide)) (.cons (lstC_ren rfl (by decide)) (.sm rfl .nil)))))))))))) .nil))) ?_
   rintro _ _ _ hn ⟨z_2, hz_2, rfl, rfl, rfl⟩
   refine ⟨.inl rfl, (upd (upd (upd (rem [0, 1, 6] _) 0 (some (.cells 11 [[.ro false 4 (r_3.f_p.Funcs.map e_TJFunc), .ro false 3 (r_3.f_p.Consts.map e_TJVal), .ro false 1 (r_3.f_p.Shapes.map (eSl 1 eStr)), cI r_3.f_f.Params, cI r_3.f_f.Slots, .ro false 1 (r_3.f_f.Caught.map eI), .ro false 2 (r_3.f_f.Code.map e_TJIns), cI r_3.f_own, .mp 1, lstC z_2 7 1 r_3.f_todo.length, cB r_3.f_bad]]))) 1 (mapB (.i .i64) (fun x => cI x) (fun (x : Tstate) => (.agg [cI x.f_height, .ro false 1 (x.f_tries.map eI)])) r_3.f_seen)) 7 (lstB z_2 1 (r_3.f_todo.map eI))), fun hbd => (m3_cons (m3_row rfl (fr_map fun _ => rfl)) (m3_cons (m3_box rfl rfl) (m3_cons (m3_box rfl (by cases z_2 <;> rfl)) (m3_rem (in_cons (by decide) (in_cons (by decide) (in_cons (by decide) (in_nil _)))) (.cons (by decide) (.cons (by decide) (.cons (by decide) .nil))) hbd)))), (.tup []), 8, (by cases z_2 <;> rfl), rfl, ?_⟩
   refine dnil ?_
   replace h := Option.some.inj h
   subst h
   exact ⟨_, .refl _, _, rfl, ⟨upd e0 0 (some (.tup [])), (upd (upd (upd e0 0 (some (.cells 11 [[.ro false 4 (r_3.f_p.Funcs.map e_TJFunc), .ro false 3 (r_3.f_p.Consts.map e_TJVal), .ro false 1 (r_3.f_p.Shapes.map (eSl 1 eStr)), cI r_3.f_f.Params, cI r_3.f_f.Slots, .ro false 1 (r_3.f_f.Caught.map eI), .ro false 2 (r_3.f_f.Code.map e_TJIns), cI r_3.f_own, .mp 1, lstC z_2 3 1 r_3.f_todo.length, cB r_3.f_bad]]))) 1 (mapB (.i .i64) (fun x => cI x) (fun (x : Tstate) => (.agg [cI x.f_height, .ro false 1 (x.f_tries.map eI)])) r_3.f_seen)) 3 (lstB z_2 1 (r_3.f_todo.map eI))), 4⟩, (.tup []), weak_canon2 [0, 1, 2, 7] [0, 1, 3] (by decide) (by decide) (by decide) (.cons (by decide) (.cons (by decide) (.cons (by decide) .nil))) (.cons rfl (avAs_tup .nil) .nil) (.row (by decide) rfl (fr_map fun _ => rfl) (.box (by decide) rfl .map (.box (by decide) rfl (blkAs_cells (.sm rfl (.sm rfl (.sm rfl (.sm rfl (.sm rfl (.sm rfl (.sm rfl (.sm rfl (.cons (.mp rfl (by decide)) (.cons (lstC_ren rfl (by decide)) (.sm rfl .nil)))))))))))) .nil))), rfl, z_2, hz_2, rfl, rfl, rfl⟩
  ·refine ssr <| un1 (v := (B (decide (i0 = 24)))) rfl <| un1 rfl <| dnil ?_
   refine Sv.cnd rfl h (fun h => ?_) fun h => ?_
   ·refine srg <| un1 rfl <| un1 (v := (.c (.ref 3 2 0 1))) rfl <| un1 (v := (I i1)) rfl <| un1 (v := (.agg [cI (((mget c_.f_seen at_).getD ((⟨0, []⟩ : Tstate) : Tstate)).f_height), .ro false 1 ((((mget c_.f_seen at_).getD ((⟨0, []⟩ : Tstate) : Tstate)).f_tries).map eI)])) rfl ?_
    obtain ⟨r_4, hr5, h⟩ := bnd h
    refine un <| ac_gen (bs := [0, 1, 2]) («as» := [(.c (.ref 0 11 0 0)), (I i1), (.agg [cI (((mget c_.f_seen at_).getD ((⟨0, []⟩ : Tstate) : Tstate)).f_height), .ro false 1 ((((mget c_.f_seen at_).getD ((⟨0, []⟩ : Tstate) : Tstate)).f_tries).map eI)])]) (h2 := _) (h1 := (upd (upd (upd e0 0 (some (.cells 11 [[.ro false 4 (c_.f_p.Funcs.map e_TJFunc), .ro false 3 (c_.f_p.Consts.map e_TJVal), .ro false 1 (c_.f_p.Shapes.map (eSl 1 eStr)), cI c_.f_f.Params, cI c_.f_f.Slots, .ro false 1 (c_.f_f.Caught.map eI), .ro false 2 (c_.f_f.Code.map e_TJIns), cI c_.f_own, .mp 1, lstC zc91 2 1 c91.length, cB c_.f_bad]]))) 1 (mapB (.i .i64) (fun x => cI x) (fun (x : Tstate) => (.agg [cI x.f_height, .ro false 1 (x.f_tries.map eI)])) c_.f_seen)) 2 (lstB zc91 1 (c91.map eI)))) (Zj hzc91 hr5) rfl (.cons (.c (.ref rfl (by decide))) (.cons (avAs_free rfl) (.cons (avAs_free rfl) .nil))) (hsub_refl _) (.cons rfl (.cons rfl (.cons rfl (.nil _)))) hcs (by decide) (by decide) (.cons (.c (.ref rfl (by decide))) (.cons (avAs_free rfl) (.cons (avAs_free rfl) .nil))) (.row (by decide) rfl (fr_map fun _ => rfl) (.box (by decide) rfl .map (.box (by decide) rfl (blkAs_cells (.sm rfl (.sm rfl (.sm rfl (.sm rfl (.sm rfl (.sm rfl (.sm rfl (.sm rfl (.cons (.mp rfl (by decide)) (.cons (lstC_ren rfl (by decide)) (.sm rfl .nil)))))))))))) .nil))) ?_
    rintro _ _ _ hn ⟨z_3, hz_3, rfl, rfl, rfl⟩
    refine ⟨.inl rfl, (upd (upd (upd (rem [0, 1, 2] _) 0 (some (.cells 11 [[.ro false 4 (r_4.f_p.Funcs.map e_TJFunc), .ro false 3 (r_4.f_p.Consts.map e_TJVal), .ro false 1 (r_4.f_p.Shapes.map (eSl 1 eStr)), cI r_4.f_f.Params, cI r_4.f_f.Slots, .ro false 1 (r_4.f_f.Caught.map eI), .ro false 2 (r_4.f_f.Code.map e_TJIns), cI r_4.f_own, .mp 1, lstC z_3 6 1 r_4.f_todo.length, cB r_4.f_bad]]))) 1 (mapB (.i .i64) (fun x => cI x) (fun (x : Tstate) => (.agg [cI x.f_height, .ro false 1 (x.f_tries.map eI)])) r_4.f_seen)) 6 (lstB z_3 1 (r_4.f_todo.map eI))), fun hbd => (m3_cons (m3_row rfl (fr_map fun _ => rfl)) (m3_cons (m3_box rfl rfl) (m3_cons (m3_box rfl (by cases z_3 <;> rfl)) (m3_rem (in_cons (by decide) (in_cons (by decide) (in_cons (by decide) (in_nil _)))) (.cons (by decide) (.cons (by decide) (.cons (by decide) .nil))) hbd)))), (.tup []), 7, (by cases z_3 <;> rfl), rfl, ?_⟩
    refine dnil <| srg <| un1 rfl <| un1 rfl <| un1 (v := (I (wi (at_ + 1)))) rfl <| un1 (v := (.agg [cI next0, .ro false 1 ((((mget c_.f_seen at_).getD ((⟨0, []⟩ : Tstate) : Tstate)).f_tries).map eI)])) rfl ?_
    obtain ⟨r_5, hr6, h⟩ := bnd h
    refine un <| ac_gen (bs := [0, 1, 6]) («as» := [(.c (.ref 0 11 0 0)), (I (wi (at_ + 1))), (.agg [cI next0, .ro false 1 ((((mget c_.f_seen at_).getD ((⟨0, []⟩ : Tstate) : Tstate)).f_tries).map eI)])]) (h2 := _) (h1 := (upd (upd (upd e0 0 (some (.cells 11 [[.ro false 4 (r_4.f_p.Funcs.map e_TJFunc), .ro false 3 (r_4.f_p.Consts.map e_TJVal), .ro false 1 (r_4.f_p.Shapes.map (eSl 1 eStr)), cI r_4.f_f.Params, cI r_4.f_f.Slots, .ro false 1 (r_4.f_f.Caught.map eI), .ro false 2 (r_4.f_f.Code.map e_TJIns), cI r_4.f_own, .mp 1, lstC z_3 6 1 r_4.f_todo.length, cB r_4.f_bad]]))) 1 (mapB (.i .i64) (fun x => cI x) (fun (x : Tstate) => (.agg [cI x.f_height, .ro false 1 (x.f_tries.map eI)])) r_4.f_seen)) 6 (lstB z_3 1 (r_4.f_todo.map eI)))) (Zj hz_3 hr6) rfl (.cons (.c (.ref rfl (by decide))) (.cons (avAs_free rfl) (.cons (avAs_free rfl) .nil))) (hsub_refl _) (.cons rfl (.cons rfl (.cons rfl (.nil _)))) hcs (by decide) (by decide) (.cons (.c (.ref rfl (by decide))) (.cons (avAs_free rfl) (.cons (avAs_free rfl) .nil))) (.row (by decide) rfl (fr_map fun _ => rfl) (.box (by decide) rfl .map (.box (by decide) rfl (blkAs_cells (.sm rfl (.sm rfl (.sm rfl (.sm rfl (.sm rfl (.sm rfl (.sm rfl (.sm rfl (.cons (.mp rfl (by decide)) (.cons (lstC_ren rfl (by decide)) (.sm rfl .nil)))))))))))) .nil))) ?_
    rintro _ _ _ hn ⟨z_4, hz_4, rfl, rfl, rfl⟩
    refine ⟨.inl rfl, (upd (upd (upd (rem [0, 1, 6] _) 0 (some (.cells 11 [[.ro false 4 (r_5.f_p.Funcs.map e_TJFunc), .ro false 3 (r_5.f_p.Consts.map e_TJVal), .ro false 1 (r_5.f_p.Shapes.map (eSl 1 eStr)), cI r_5.f_f.Params, cI r_5.f_f.Slots, .ro false 1 (r_5.f_f.Caught.map eI), .ro false 2 (r_5.f_f.Code.map e_TJIns), cI r_5.f_own, .mp 1, lstC z_4 7 1 r_5.f_todo.length, cB r_5.f_bad]]))) 1 (mapB (.i .i64) (fun x => cI x) (fun (x : Tstate) => (.agg [cI x.f_height, .ro false 1 (x.f_tries.map eI)])) r_5.f_seen)) 7 (lstB z_4 1 (r_5.f_todo.map eI))), fun hbd => (m3_cons (m3_row rfl (fr_map fun _ => rfl)) (m3_cons (m3_box rfl rfl) (m3_cons (m3_box rfl (by cases z_4 <;> rfl)) (m3_rem (in_cons (by decide) (in_cons (by decide) (in_cons (by decide) (in_nil _)))) (.cons (by decide) (.cons (by decide) (.cons (by decide) .nil))) hbd)))), (.tup []), 8, (by cases z_4 <;> rfl), rfl, ?_⟩
    refine dnil ?_
    replace h := Option.some.inj h
    subst h
    exact ⟨_, .refl _, _, rfl, ⟨upd e0 0 (some (.tup [])), (upd (upd (upd e0 0 (some (.cells 11 [[.ro false 4 (r_5.f_p.Funcs.map e_TJFunc), .ro false 3 (r_5.f_p.Consts.map e_TJVal), .ro false 1 (r_5.f_p.Shapes.map (eSl 1 eStr)), cI r_5.f_f.Params, cI r_5.f_f.Slots, .ro false 1 (r_5.f_f.Caught.map eI), .ro false 2 (r_5.f_f.Code.map e_TJIns), cI r_5.f_own, .mp 1, lstC z_4 3 1 r_5.f_todo.length, cB r_5.f_bad]]))) 1 (mapB (.i .i64) (fun x => cI x) (fun (x : Tstate) => (.agg [cI x.f_height, .ro false 1 (x.f_tries.map eI)])) r_5.f_seen)) 3 (lstB z_4 1 (r_5.f_todo.map eI))), 4⟩, (.tup []), weak_canon2 [0, 1, 2, 7] [0, 1, 3] (by decide) (by decide) (by decide) (.cons (by decide) (.cons (by decide) (.cons (by decide) .nil))) (.cons rfl (avAs_tup .nil) .nil) (.row (by decide) rfl (fr_map fun _ => rfl) (.box (by decide) rfl .map (.box (by decide) rfl (blkAs_cells (.sm rfl (.sm rfl (.sm rfl (.sm rfl (.sm rfl (.sm rfl (.sm rfl (.sm rfl (.cons (.mp rfl (by decide)) (.cons (lstC_ren rfl (by decide)) (.sm rfl .nil)))))))))))) .nil))), rfl, z_4, hz_4, rfl, rfl, rfl⟩
   ·refine Sv.seq <| ssr <| un1 (v := (B (decide (i0 = 18)))) rfl <| un1 rfl <| dnil ?_
    refine Sv.cnd rfl h (fun h => ?_) fun h => ?_
    ·refine Sv.skip ?_
     exact Sv.weak (weak_canon [0, 1, 2, 3, 4, 5] rfl (by decide) (by decide) (by decide) (.cf rfl rfl (.cf rfl rfl (.cr rfl rfl rfl (.cr rfl rfl rfl (.cr rfl rfl rfl (.cf rfl rfl (.cr rfl rfl rfl .nil))))))) (.box (by decide) rfl (blkAs_cells (.sm rfl (.sm rfl .nil))) (.box (by decide) rfl (blkAs_cells (.sm rfl (.sm rfl .nil))) (.box (by decide) rfl (blkAs_cells (.sm rfl (.sm rfl .nil))) (.row (by decide) rfl (fr_map fun _ => rfl) (.box (by decide) rfl .map (.box (by decide) rfl (blkAs_cells (.sm rfl (.sm rfl (.sm rfl (.sm rfl (.sm rfl (.sm rfl (.sm rfl (.sm rfl (.cons (.mp rfl (by decide)) (.cons (lstC_ren rfl (by decide)) (.sm rfl .nil)))))))))))) .nil))))))) (Z3b hzc91 h)
    ·refine srg <| un1 (v := (B (decide (i0 = 25)))) rfl <| un1 rfl <| dnil ?_
     exact Sv.weak (weak_canon [0, 1, 2, 3, 4, 5] rfl (by decide) (by decide) (by decide) (.cf rfl rfl (.cf rfl rfl (.cr rfl rfl rfl (.cr rfl rfl rfl (.cr rfl rfl rfl (.cf rfl rfl (.cr rfl rfl rfl .nil))))))) (.box (by decide) rfl (blkAs_cells (.sm rfl (.sm rfl .nil))) (.box (by decide) rfl (blkAs_cells (.sm rfl (.sm rfl .nil))) (.box (by decide) rfl (blkAs_cells (.sm rfl (.sm rfl .nil))) (.row (by decide) rfl (fr_map fun _ => rfl) (.box (by decide) rfl .map (.box (by decide) rfl (blkAs_cells (.sm rfl (.sm rfl (.sm rfl (.sm rfl (.sm rfl (.sm rfl (.sm rfl (.sm rfl (.cons (.mp rfl (by decide)) (.cons (lstC_ren rfl (by decide)) (.sm rfl .nil)))))))))))) .nil))))))) (Z3b hzc91 h)
noncomputable def Z27 (c_ : Tchecker) (at_ : Int) (c9 : (List Int)) (i0 : Int) (i1 : Int) : Option Tchecker :=
 (Z15 (⟨i0, i1⟩ : TJIns) c_.f_p).bind fun r_ =>
 letIn (decide (((mget c_.f_seen at_).getD ((⟨0, []⟩ : Tstate) : Tstate)).f_height < r_)) fun v29 : Bool =>
 if v29 then
  some (⟨c_.f_p, c_.f_f, c_.f_own, c_.f_seen, c9, true⟩ : Tchecker)
 else
  (Z1k i0 i1 c_.f_p).bind fun r_12 =>
  letIn (wi (((mget c_.f_seen at_).getD ((⟨0, []⟩ : Tstate) : Tstate)).f_height + r_12)) fun v44 : Int =>
  Z26 i0 c_ i1 at_ c9 v44
theorem Z3d {c_ : Tchecker} {at_ : Int} {c9 : (List Int)} {i0 : Int} {i1 : Int} {zc9 : Bool} (hzc9 : zc9 = true → c9 = []) {o : Tchecker} (h : Z27 c_ at_ c9 i0 i1 = some o) :
  Sv Tryd.prog GG 3 a10_c0 (Ends a10.results 3 (Z17 o)) ⟨(ue [(5, (.c (.ref 4 2 0 0))), (4, (.c (.ref 3 2 0 0))), (1, (I at_)), (0, (.c (.ref 0 11 0 0)))]), (upd (upd (upd (upd (upd e0 0 (some (.cells 11 [[.ro false 4 (c_.f_p.Funcs.map e_TJFunc), .ro false 3 (c_.f_p.Consts.map e_TJVal), .ro false 1 (c_.f_p.Shapes.map (eSl 1 eStr)), cI c_.f_f.Params, cI c_.f_f.Slots, .ro false 1 (c_.f_f.Caught.map eI), .ro false 2 (c_.f_f.Code.map e_TJIns), cI c_.f_own, .mp 1, lstC zc9 2 1 c9.length, cB c_.f_bad]]))) 1 (mapB (.i .i64) (fun x => cI x) (fun (x : Tstate) => (.agg [cI x.f_height, .ro false 1 (x.f_tries.map eI)])) c_.f_seen)) 2 (lstB zc9 1 (c9.map eI))) 3 (some (.cells 2 [[cI i0, cI i1]]))) 4 (some (.cells 2 [[cI (((mget c_.f_seen at_).getD ((⟨0, []⟩ : Tstate) : Tstate)).f_height), .ro false 1 ((((mget c_.f_seen at_).getD ((⟨0, []⟩ : Tstate) : Tstate)).f_tries).map eI)]]))), 5⟩ := by
 unfold Z27 at h
 refine Sv.seq <| Sv.seq <| Sv.drawn <| un1 (v := (.c (.ref 4 2 0 0))) rfl <| un1 (v := (I (((mget c_.f_seen at_).getD ((⟨0, []⟩ : Tstate) : Tstate)).f_height))) rfl <| un1 (v := (.agg [cI i0, cI i1])) rfl <| un1 rfl <| un1 (v := (.c (.ref 0 11 0 0))) rfl <| un1 (v := (.c (.ref 0 11 0 0))) rfl <| un1 (v := (.agg (e_TJProg c_.f_p))) rfl ?_
 obtain ⟨r_, hr1, h⟩ := bnd h
 refine un <| ac_pure (Z4k hr1) rfl rfl rfl ?_
 obtain ⟨v29, hv29⟩ : ∃ v29 : Bool, v29 = decide (((mget c_.f_seen at_).getD ((⟨0, []⟩ : Tstate) : Tstate)).f_height < r_) := ⟨_, rfl⟩
 replace h := letAt hv29 h
 refine un1 (v := (B v29)) (by rw [hv29]; rfl) ?_
 clear hv29
 refine dnil ?_
 refine Sv.cnd rfl h (fun h => ?_) fun h => ?_
 ·refine ssr <| un1 rfl <| un1 (v := (.c (.ref 0 11 0 0))) rfl <| un1 (v := (.c (.ref 0 11 0 10))) rfl <| un <| a2n (h' := upd _ 0 (some (.cells 11 [[.ro false 4 (c_.f_p.Funcs.map e_TJFunc), .ro false 3 (c_.f_p.Consts.map e_TJVal), .ro false 1 (c_.f_p.Shapes.map (eSl 1 eStr)), cI c_.f_f.Params, cI c_.f_f.Slots, .ro false 1 (c_.f_f.Caught.map eI), .ro false 2 (c_.f_f.Code.map e_TJIns), cI c_.f_own, .mp 1, lstC zc9 2 1 c9.length, cB true]]))) (n' := 5) rfl rfl hcs <| dnil <| Sv.ret ?_
  replace h := Option.some.inj h
  subst h
  exact ⟨_, .refl _, _, rfl, ⟨upd e0 0 (some (.tup [])), (upd (upd (upd e0 0 (some (.cells 11 [[.ro false 4 (c_.f_p.Funcs.map e_TJFunc), .ro false 3 (c_.f_p.Consts.map e_TJVal), .ro false 1 (c_.f_p.Shapes.map (eSl 1 eStr)), cI c_.f_f.Params, cI c_.f_f.Slots, .ro false 1 (c_.f_f.Caught.map eI), .ro false 2 (c_.f_f.Code.map e_TJIns), cI c_.f_own, .mp 1, lstC zc9 3 1 c9.length, cB true]]))) 1 (mapB (.i .i64) (fun x => cI x) (fun (x : Tstate) => (.agg [cI x.f_height, .ro false 1 (x.f_tries.map eI)])) c_.f_seen)) 3 (lstB zc9 1 (c9.map eI))), 4⟩, (.tup []), weak_canon2 [0, 1, 2, 2] [0, 1, 3] (by decide) (by decide) (by decide) (.cons (by decide) (.cons (by decide) (.cons (by decide) .nil))) (.cons rfl (avAs_tup .nil) .nil) (.row (by decide) rfl (fr_map fun _ => rfl) (.box (by decide) rfl .map (.box (by decide) rfl (blkAs_cells (.sm rfl (.sm rfl (.sm rfl (.sm rfl (.sm rfl (.sm rfl (.sm rfl (.sm rfl (.cons (.mp rfl (by decide)) (.cons (lstC_ren rfl (by decide)) (.sm rfl .nil)))))))))))) .nil))), rfl, zc9, hzc9, rfl, rfl, rfl⟩
 ·refine Sv.skip <| Sv.seq <| Sv.drawn2 <| un1 (v := (.c (.ref 4 2 0 0))) rfl <| un1 (v := (I (((mget c_.f_seen at_).getD ((⟨0, []⟩ : Tstate) : Tstate)).f_height))) rfl <| un1 (v := (.c (.ref 3 2 0 0))) rfl <| un1 (v := (I i0)) rfl <| un1 (v := (.c (.ref 3 2 0 1))) rfl <| un1 (v := (I i1)) rfl <| un1 rfl <| un1 (v := (.c (.ref 0 11 0 0))) rfl <| un1 (v := (.c (.ref 0 11 0 0))) rfl <| un1 (v := (.agg (e_TJProg c_.f_p))) rfl <| un1 (v := (.c (.ref 4 2 0 1))) rfl <| un1 (v := (.c (.ro false 1 ((((mget c_.f_seen at_).getD ((⟨0, []⟩ : Tstate) : Tstate)).f_tries).map eI)))) rfl <| dnil ?_
  refine ⟨?_, ?_⟩
  ·obtain ⟨r_12, hr12, h⟩ := bnd h
   refine un <| ac_pure (Z38 hr12) rfl rfl rfl ?_
   obtain ⟨v44, hv44⟩ : ∃ v44 : Int, v44 = (wi (((mget c_.f_seen at_).getD ((⟨0, []⟩ : Tstate) : Tstate)).f_height + r_12)) := ⟨_, rfl⟩
   replace h := letAt hv44 h
   refine un1 (v := (I v44)) (by rw [hv44]; rfl) ?_
   clear hv44
   refine un1 (v := (.agg [cI v44, .ro false 1 ((((mget c_.f_seen at_).getD ((⟨0, []⟩ : Tstate) : Tstate)).f_tries).map eI)])) rfl <| un <| a2v (v := (.c (.ref 5 2 0 0))) (h' := upd _ 5 (some (.cells 2 [[cI 0, .ro true 1 []]]))) (n' := 6) rfl rfl (fun _ => rfl) <| un <| a2n (h' := upd _ 5 (some (.cells 2 [[cI v44, .ro false 1 ((((mget c_.f_seen at_).getD ((⟨0, []⟩ : Tstate) : Tstate)).f_tries).map eI)]]))) (n' := 6) rfl rfl hcs <| dnil ?_
   exact Sv.weak (weak_canon [0, 1, 2, 3, 4, 5] rfl (by decide) (by decide) (by decide) (.cr rfl rfl rfl (.cr rfl rfl rfl (.cr rfl rfl rfl (.cf rfl rfl (.cr rfl rfl rfl .nil))))) (.box (by decide) rfl (blkAs_cells (.sm rfl (.sm rfl .nil))) (.box (by decide) rfl (blkAs_cells (.sm rfl (.sm rfl .nil))) (.box (by decide) rfl (blkAs_cells (.sm rfl (.sm rfl .nil))) (.row (by decide) rfl (fr_map fun _ => rfl) (.box (by decide) rfl .map (.box (by decide) rfl (blkAs_cells (.sm rfl (.sm rfl (.sm rfl (.sm rfl (.sm rfl (.sm rfl (.sm rfl (.sm rfl (.cons (.mp rfl (by decide)) (.cons (lstC_ren rfl (by decide)) (.sm rfl .nil)))))))))))) .nil))))))) (Z3c hzc9 h)
  ·refine un <| a2v (v := (.c (.ref 5 2 0 0))) (h' := upd _ 5 (some (.cells 2 [[cI 0, .ro true 1 []]]))) (n' := 6) rfl rfl (fun _ => rfl) ?_
   obtain ⟨r_12, hr12, h⟩ := bnd h
   refine un <| ac_pure (Z38 hr12) rfl rfl rfl ?_
   obtain ⟨v44, hv44⟩ : ∃ v44 : Int, v44 = (wi (((mget c_.f_seen at_).getD ((⟨0, []⟩ : Tstate) : Tstate)).f_height + r_12)) := ⟨_, rfl⟩
   replace h := letAt hv44 h
   refine un1 (v := (I v44)) (by rw [hv44]; rfl) ?_
   clear hv44
   refine un1 (v := (.agg [cI v44, .ro false 1 ((((mget c_.f_seen at_).getD ((⟨0, []⟩ : Tstate) : Tstate)).f_tries).map eI)])) rfl <| un <| a2n (h' := upd _ 5 (some (.cells 2 [[cI v44, .ro false 1 ((((mget c_.f_seen at_).getD ((⟨0, []⟩ : Tstate) : Tstate)).f_tries).map eI)]]))) (n' := 6) rfl rfl hcs <| dnil ?_
   exact Sv.weak (weak_canon [0, 1, 2, 3, 4, 5] rfl (by decide) (by decide) (by decide) (.cr rfl rfl rfl (.cr rfl rfl rfl (.cr rfl rfl rfl (.cf rfl rfl (.cr rfl rfl rfl .nil))))) (.box (by decide) rfl (blkAs_cells (.sm rfl (.sm rfl .nil))) (.box (by decide) rfl (blkAs_cells (.sm rfl (.sm rfl .nil))) (.box (by decide) rfl (blkAs_cells (.sm rfl (.sm rfl .nil))) (.row (by decide) rfl (fr_map fun _ => rfl) (.box (by decide) rfl .map (.box (by decide) rfl (blkAs_cells (.sm rfl (.sm rfl (.sm rfl (.sm rfl (.sm rfl (.sm rfl (.sm rfl (.sm rfl (.cons (.mp rfl (by decide)) (.cons (lstC_ren rfl (by decide)) (.sm rfl .nil)))))))))))) .nil))))))) (Z3c hzc9 h)
/-- (*clerestory/code.checker).step -/
noncomputable def Zv (c_ : Tchecker) (at_ : Int) : Option Tchecker :=
 (at? c_.f_f.Code at_).bind fun x_ =>
 Z27 c_ at_ c_.f_todo x_.Do x_.A
theorem Z4w {c_ : Tchecker} {at_ : Int} {zc : Bool} (hzc : zc = true → c_.f_todo = []) {r : Tchecker} (h : Zv c_ at_ = some r) : ACalls Tryd.prog GG 10 [(.c (.ref 0 11 0 0)), (I at_)] (upd (upd (upd e0 0 (some (.cells 11 [[.ro false 4 (c_.f_p.Funcs.map e_TJFunc), .ro false 3 (c_.f_p.Consts.map e_TJVal), .ro false 1 (c_.f_p.Shapes.map (eSl 1 eStr)), cI c_.f_f.Params, cI c_.f_f.Slots, .ro false 1 (c_.f_f.Caught.map eI), .ro false 2 (c_.f_f.Code.map e_TJIns), cI c_.f_own, .mp 1, lstC zc 2 1 c_.f_todo.length, cB c_.f_bad]]))) 1 (mapB (.i .i64) (fun x => cI x) (fun (x : Tstate) => (.agg [cI x.f_height, .ro false 1 (x.f_tries.map eI)])) c_.f_seen)) 2 (lstB zc 1 (c_.f_todo.map eI))) 3 (Z17 r) := by
 refine acalls_of_sv hmix c10 (R := Z17 r) ?_
 unfold Zv at h
 refine Sv.seq <| Sv.drawn2 <| un1 rfl <| un1 (v := (.c (.ref 0 11 0 0))) rfl <| un1 (v := (.c (.ref 0 11 0 3))) rfl <| un1 (v := (.c (.ref 0 11 0 6))) rfl <| un1 (v := (.c (.ro false 2 (c_.f_f.Code.map e_TJIns)))) rfl <| un1 rfl ?_
 obtain ⟨x_, hx2, h⟩ := bnd h
 refine un1 (v := (.c (.rop (e_TJIns x_)))) (s_iaddr (e := e_TJIns) (xs := c_.f_f.Code) rfl rfl hx2) <| un1 (v := (.agg (e_TJIns x_))) rfl <| un1 rfl <| un1 (v := (.c (.ref 0 11 0 0))) rfl <| un1 (v := (.c (.ref 0 11 0 8))) rfl <| un1 (v := (.c (.mp 1))) rfl <| un1 rfl <| un1 (v := (.agg [cI (((mget c_.f_seen at_).getD ((⟨0, []⟩ : Tstate) : Tstate)).f_height), .ro false 1 ((((mget c_.f_seen at_).getD ((⟨0, []⟩ : Tstate) : Tstate)).f_tries).map eI)])) (s_mlook (ek := (fun x => cI x)) (ev := (fun (x : Tstate) => (.agg [cI x.f_height, .ro false 1 (x.f_tries.map eI)]))) (l := c_.f_seen) (key := at_) (z := (⟨0, []⟩ : Tstate)) (fun _ _ => rfl) rfl rfl rfl rfl rfl) <| dnil ?_
 refine ⟨?_, ?_⟩
 ·refine un <| a2v (v := (.c (.ref 3 2 0 0))) (h' := upd _ 3 (some (.cells 2 [[cI 0, cI 0]]))) (n' := 4) rfl rfl (fun _ => rfl) <| un <| a2v (v := (.c (.ref 4 2 0 0))) (h' := upd _ 4 (some (.cells 2 [[cI 0, .ro true 1 []]]))) (n' := 5) rfl rfl (fun _ => rfl) <| un <| a2n (h' := upd _ 3 (some (.cells 2 [(e_TJIns x_)]))) (n' := 5) rfl rfl hcs <| un <| a2n (h' := upd _ 4 (some (.cells 2 [[cI (((mget c_.f_seen at_).getD ((⟨0, []⟩ : Tstate) : Tstate)).f_height), .ro false 1 ((((mget c_.f_seen at_).getD ((⟨0, []⟩ : Tstate) : Tstate)).f_tries).map eI)]]))) (n' := 5) rfl rfl hcs <| dnil ?_
  exact Sv.weak (weak_canon [0, 1, 2, 3, 4] rfl (by decide) (by decide) (by decide) (.cr rfl rfl rfl (.cr rfl rfl rfl (.cf rfl rfl (.cr rfl rfl rfl .nil)))) (.box (by decide) rfl (blkAs_cells (.sm rfl (.sm rfl .nil))) (.box (by decide) rfl (blkAs_cells (.sm rfl (.sm rfl .nil))) (.row (by decide) rfl (fr_map fun _ => rfl) (.box (by decide) rfl .map (.box (by decide) rfl (blkAs_cells (.sm rfl (.sm rfl (.sm rfl (.sm rfl (.sm rfl (.sm rfl (.sm rfl (.sm rfl (.cons (.mp rfl (by decide)) (.cons (lstC_ren rfl (by decide)) (.sm rfl .nil)))))))))))) .nil)))))) (Z3d hzc h)
 ·refine un <| a2v (v := (.c (.ref 3 2 0 0))) (h' := upd _ 3 (some (.cells 2 [[cI 0, .ro true 1 []]]))) (n' := 4) rfl rfl (fun _ => rfl) <| un <| a2v (v := (.c (.ref 4 2 0 0))) (h' := upd _ 4 (some (.cells 2 [[cI 0, cI 0]]))) (n' := 5) rfl rfl (fun _ => rfl) <| un <| a2n (h' := upd _ 4 (some (.cells 2 [(e_TJIns x_)]))) (n' := 5) rfl rfl hcs <| un <| a2n (h' := upd _ 3 (some (.cells 2 [[cI (((mget c_.f_seen at_).getD ((⟨0, []⟩ : Tstate) : Tstate)).f_height), .ro false 1 ((((mget c_.f_seen at_).getD ((⟨0, []⟩ : Tstate) : Tstate)).f_tries).map eI)]]))) (n' := 5) rfl rfl hcs <| dnil ?_
  exact Sv.weak (weak_canon [0, 1, 2, 4, 3] rfl (by decide) (by decide) (by decide) (.cr rfl rfl rfl (.cr rfl rfl rfl (.cf rfl rfl (.cr rfl rfl rfl .nil)))) (.box (by decide) rfl (blkAs_cells (.sm rfl (.sm rfl .nil))) (.box (by decide) rfl (blkAs_cells (.sm rfl (.sm rfl .nil))) (.row (by decide) rfl (fr_map fun _ => rfl) (.box (by decide) rfl .map (.box (by decide) rfl (blkAs_cells (.sm rfl (.sm rfl (.sm rfl (.sm rfl (.sm rfl (.sm rfl (.sm rfl (.sm rfl (.cons (.mp rfl (by decide)) (.cons (lstC_ren rfl (by decide)) (.sm rfl .nil)))))))))))) .nil)))))) (Z3d hzc h)
end Go.Proofs.YtolmbcngghkfiaaDoorBv
