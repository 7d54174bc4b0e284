/- Printed by a program of mine (bgen.py): plain functions, and the walks that show that the code comes to what they answer. -/
import Derived.Test.YtkimpaokepfonaaGreatDoorRows
import Derived.Test.YtkimpaokepfonaaGreatDoorBv40
import Derived.Test.YtkimpaokepfonaaGreatDoorBv35
import Derived.Test.YtkimpaokepfonaaGreatDoorBv49
import Derived.Test.YtkimpaokepfonaaGreatDoorBv30
import Derived.Test.YtkimpaokepfonaaGreatDoorShelf
import Derived.Test.YtkimpaokepfonaaGreatDoorBld
import Derived.Test.YtkimpaokepfonaaGreatDoorBv36
import Derived.Test.YtkimpaokepfonaaGreatDoorBv42
namespace Go.Proofs.YtkimpaokepfonaaGreatDoorBv
open Go
set_option linter.unusedVariables false
set_option linter.unusedSimpArgs false
set_option maxRecDepth 100000
theorem hmix : Tryz.prog.follows .mixedOrders = true := by kernel_rfl
structure TSFeature where
 Kind : Int
 Num : Int
def e_TSFeature (x : TSFeature) : List Cel := [cI x.Kind, cI x.Num]
structure TSQuery where
 Not : Bool
 Features : (List TSFeature)
def e_TSQuery (x : TSQuery) : List Cel := [cB x.Not, .ro false 2 (x.Features.map e_TSFeature)]
structure TEnv where
 Width : Int
 Height : Int
 Dark : Bool
 Print : Bool
def e_TEnv (x : TEnv) : List Cel := [cI x.Width, cI x.Height, cB x.Dark, cB x.Print]
structure TSToken where
 Kind : Int
 Raw : Tx
 Value : Tx
 Num : Int
def e_TSToken (x : TSToken) : List Cel := [cI x.Kind, .str x.Raw, .str x.Value, cI x.Num]
def g0_c : List Cel := [.str [], .str [97, 108, 108], .str [115, 99, 114, 101, 101, 110], .str [112, 114, 105, 110, 116], .str [109, 105, 110, 45, 119, 105, 100, 116, 104], .str [109, 97, 120, 45, 119, 105, 100, 116, 104], .str [109, 105, 110, 45, 104, 101, 105, 103, 104, 116], .str [109, 97, 120, 45, 104, 101, 105, 103, 104, 116], .str [112, 114, 101, 102, 101, 114, 115, 45, 99, 111, 108, 111, 114, 45, 115, 99, 104, 101, 109, 101, 58, 100, 97, 114, 107], .str [112, 114, 101, 102, 101, 114, 115, 45, 99, 111, 108, 111, 114, 45, 115, 99, 104, 101, 109, 101, 58, 108, 105, 103, 104, 116], .str [111, 114, 105, 101, 110, 116, 97, 116, 105, 111, 110, 58, 112, 111, 114, 116, 114, 97, 105, 116], .str [111, 114, 105, 101, 110, 116, 97, 116, 105, 111, 110, 58, 108, 97, 110, 100, 115, 99, 97, 112, 101]]
def g2_c : List Cel := [.opq]
def g3_c : List Cel := [.opq]
def g4_c : List Cel := [240, 240, 240, 240, 240, 240, 240, 240, 240, 240, 240, 240, 240, 240, 240, 240, 240, 240, 240, 240, 240, 240, 240, 240, 240, 240, 240, 240, 240, 240, 240, 240, 240, 240, 240, 240, 240, 240, 240, 240, 240, 240, 240, 240, 240, 240, 240, 240, 240, 240, 240, 240, 240, 240, 240, 240, 240, 240, 240, 240, 240, 240, 240, 240, 240, 240, 240, 240, 240, 240, 240, 240, 240, 240, 240, 240, 240, 240, 240, 240, 240, 240, 240, 240, 240, 240, 240, 240, 240, 240, 240, 240, 240, 240, 240, 240, 240, 240, 240, 240, 240, 240, 240, 240, 240, 240, 240, 240, 240, 240, 240, 240, 240, 240, 240, 240, 240, 240, 240, 240, 240, 240, 240, 240, 240, 240, 240, 240, 241, 241, 241, 241, 241, 241, 241, 241, 241, 241, 241, 241, 241, 241, 241, 241, 241, 241, 241, 241, 241, 241, 241, 241, 241, 241, 241, 241, 241, 241, 241, 241, 241, 241, 241, 241, 241, 241, 241, 241, 241, 241, 241, 241, 241, 241, 241, 241, 241, 241, 241, 241, 241, 241, 241, 241, 241, 241, 241, 241, 241, 241, 241, 241, 241, 241, 2, 2, 2, 2, 2, 2, 2, 2, 2, 2, 2, 2, 2, 2, 2, 2, 2, 2, 2, 2, 2, 2, 2, 2, 2, 2, 2, 2, 2, 2, 19, 3, 3, 3, 3, 3, 3, 3, 3, 3, 3, 3, 3, 35, 3, 3, 52, 4, 4, 4, 68, 241, 241, 241, 241, 241, 241, 241, 241, 241, 241, 241].map fun n => .val (.int .u8 n)
def g5_c : List Cel := [128, 191, 160, 191, 128, 159, 144, 191, 128, 143, 0, 0, 0, 0, 0, 0, 0, 0, 0, 0, 0, 0, 0, 0, 0, 0, 0, 0, 0, 0, 0, 0].map fun n => .val (.int .u8 n)
def g6_c : List Cel := [1, 10, 100, 1000, 10000, 100000, 1000000, 10000000, 100000000, 1000000000, 10000000000, 100000000000, 1000000000000, 10000000000000, 100000000000000, 1000000000000000, 10000000000000000, 100000000000000000, 1000000000000000000, 10000000000000000000].map fun n => .val (.int .u64 n)
def g7_c : List Cel := [0, 1, 28, 2, 29, 14, 24, 3, 30, 22, 20, 15, 25, 17, 4, 8, 31, 27, 13, 23, 21, 19, 16, 7, 26, 12, 18, 6, 11, 5, 10, 9].map fun n => .val (.int .u8 n)
def g8_c : List Cel := [0, 1, 56, 2, 57, 49, 28, 3, 61, 58, 42, 50, 38, 29, 17, 4, 62, 47, 59, 36, 45, 43, 51, 22, 53, 39, 33, 30, 24, 18, 12, 5, 63, 55, 48, 27, 60, 41, 37, 16, 46, 35, 44, 21, 52, 32, 23, 11, 54, 26, 40, 15, 34, 20, 31, 10, 25, 14, 19, 9, 13, 8, 7, 6].map fun n => .val (.int .u8 n)
/-- what the listed package variables hold -/
def GG (mL : Int) : Glob := fun g => if g = 0 then g0_c else if g = 1 then [.val (.int .i64 mL)] else if g = 2 then g2_c else if g = 3 then g3_c else if g = 4 then g4_c else if g = 5 then g5_c else if g = 6 then g6_c else if g = 7 then g7_c else if g = 8 then g8_c else []
noncomputable abbrev Z28 (s_ : Tx) (cutset_ : Tx) : Option Tx := trimLeft? s_ cutset_
/-- strings.TrimLeft, by the contract of the shelf -/
theorem Z48 {mL : Int} {s_ : Tx} {cutset_ : Tx} {r : Tx} (h : Z28 s_ cutset_ = some r) : CPure Tryz.prog (GG mL) 27 [(S s_), (S cutset_)] (S r) := trimLeft_ok Tryz.lays161 (by kernel_rfl) h
def a55_c0 : ACode := .ret
def a55 : AFunc := ⟨2, [(.tmp 4)], (sr [(oP 4 (.mov kF))]
 (sr [(mV 5 0), (oP 6 (.lenS (.tmp 5))), (mV 7 1), (oP 8 (.lenS (.tmp 7))), (oP 9 (.bin .geq (.tmp 6) (.tmp 8))), (mV 10 9), ⟨(some 11), (.mov (.tmp 0)), (some (10, true))⟩, ⟨(some 12), (.mov (.tmp 1)), (some (10, true))⟩, ⟨(some 13), (.lenS (.tmp 12)), (some (10, true))⟩, ⟨(some 14), (.slStr (.tmp 11) none (some (.tmp 13))), (some (10, true))⟩, ⟨(some 15), (.mov (.tmp 1)), (some (10, true))⟩, ⟨(some 16), (.bin .eql (.tmp 14) (.tmp 15)), (some (10, true))⟩, (oP 17 (.pick (.tmp 10) (.tmp 16) kF)), (mV 4 17)]
 a55_c0))⟩
theorem c55 : compFunc Tryz.prog 55 = some a55 := by kernel_rfl
def Z49 (r : Bool) : AV → Heap → Nat → Prop := fun v h' n' => v = (B r) ∧ (h' = e0) ∧ n' = 0
noncomputable def Z1j (v4 : Bool) : Option Bool :=
 some v4
theorem Z4a {mL : Int} {v4 : Bool} {o : Bool} (h : Z1j v4 = some o) :
  Sv Tryz.prog (GG mL) 0 a55_c0 (Ends a55.results 0 (Z49 o)) ⟨(upd e0 4 (some (B v4))), e0, 0⟩ := by
 unfold Z1j at h
 refine Sv.ret ?_
 exact rt0 h rfl rfl ⟨rfl, rfl, rfl⟩
/-- internal/stringslite.HasPrefix -/
noncomputable def Z1k (s_ : Tx) (prefix_ : Tx) : Option Bool :=
 if decide ((prefix_.length : Int) ≤ (s_.length : Int)) then
  (sub? s_ 0 (prefix_.length : Int)).bind fun r_ =>
  Z1j (decide (r_ = prefix_))
 else
  Z1j false
theorem Z4b {mL : Int} {s_ : Tx} {prefix_ : Tx} {r : Bool} (h : Z1k s_ prefix_ = some r) : CPure Tryz.prog (GG mL) 55 [(S s_), (S prefix_)] (B r) := by
 refine acalls_of_sv hmix c55 (R := Z49 r) ?_
 unfold Z1k at h
 refine ssr <| un1 rfl <| dnil <| ssr <| un1 rfl <| un1 (v := (I (s_.length : Int))) rfl <| un1 rfl <| un1 (v := (I (prefix_.length : Int))) rfl <| un1 (v := (B (decide ((prefix_.length : Int) ≤ (s_.length : Int))))) rfl <| un1 rfl ?_
 refine spl h (fun h => ?_) fun h => ?_
 ·refine gt rfl <| a1 rfl <| gt rfl <| a1 rfl <| gt rfl <| a1 (v := (I (prefix_.length : Int))) rfl ?_
  obtain ⟨r_, hx1, h⟩ := bnd h
  refine gt rfl <| a1 (v := (S r_)) (s_slStr rfl rfl rfl hx1) <| gt rfl <| a1 rfl <| gt rfl <| a1 (v := (B (decide (r_ = prefix_)))) rfl <| un1 (v := (B (decide (r_ = prefix_)))) rfl <| un1 rfl <| dnil ?_
  exact Sv.weak (wcn [] rfl (.cf rfl rfl .nil) .nil) (Z4a h)
 ·repeat (first | refine gu rfl ?_ | refine gs rfl rfl ?_)
  refine un1 (v := (B false)) rfl <| un1 rfl <| dnil ?_
  exact Sv.weak (wcn [] rfl (.cf rfl rfl .nil) .nil) (Z4a h)
def a45 : AFunc := ⟨2, [(.tmp 4), (.tmp 5)], (sr [(oP 4 (.mov (.const (.c (.str []))))), (oP 5 (.mov kF))]
 (.seq (sr [(mV 6 0), (mV 7 1), (oP 8 (.call 55 [(.tmp 6), (.tmp 7)])), (oP 9 (.un .not (.tmp 8)))]
 (.cond (.tmp 9) (sr [(mV 10 0), (mV 4 10), (oP 5 (.mov kF))]
 .ret) .skip))
 (sr [(mV 11 0), (mV 12 1), (oP 13 (.lenS (.tmp 12))), (oP 14 (.slStr (.tmp 11) (some (.tmp 13)) none)), (mV 4 14), (oP 5 (.mov kT))]
 .ret)))⟩
theorem c45 : compFunc Tryz.prog 45 = some a45 := by kernel_rfl
def Z6p (r : (Tx × Bool)) : AV → Heap → Nat → Prop := fun v h' n' => v = (.tup [(S r.1), (B r.2)]) ∧ (h' = e0) ∧ n' = 0
/-- internal/stringslite.CutPrefix -/
noncomputable def Z2y (s_ : Tx) (prefix_ : Tx) : Option (Tx × Bool) :=
 (Z1k s_ prefix_).bind fun r_ =>
 if (!r_) then
  some (s_, false)
 else
  (sub? s_ (prefix_.length : Int) (s_.length : Int)).bind fun r_1 =>
  some (r_1, true)
theorem Z6q {mL : Int} {s_ : Tx} {prefix_ : Tx} {r : (Tx × Bool)} (h : Z2y s_ prefix_ = some r) : CPure Tryz.prog (GG mL) 45 [(S s_), (S prefix_)] (.tup [(S r.1), (B r.2)]) := by
 refine acalls_of_sv hmix c45 (R := Z6p r) ?_
 unfold Z2y at h
 refine ssr <| un1 rfl <| un1 rfl <| dnil <| Sv.seq <| ssr <| un1 rfl <| un1 rfl ?_
 obtain ⟨r_, hr1, h⟩ := bnd h
 refine un <| ac_pure (Z4b hr1) rfl rfl rfl <| un1 (v := (B (!r_))) rfl <| dnil ?_
 refine Sv.cnd rfl h (fun h => ?_) fun h => ?_
 ·refine ssr <| un1 rfl <| un1 rfl <| un1 rfl <| dnil <| Sv.ret ?_
  exact rt0 h rfl rfl ⟨rfl, rfl, rfl⟩
 ·refine Sv.skip <| ssr <| un1 rfl <| un1 rfl <| un1 (v := (I (prefix_.length : Int))) rfl ?_
  obtain ⟨r_1, hx1, h⟩ := bnd h
  refine un1 (v := (S r_1)) (s_slStr rfl rfl rfl hx1) <| un1 rfl <| un1 rfl <| dnil <| Sv.ret ?_
  exact rt0 h rfl rfl ⟨rfl, rfl, rfl⟩
def a28 : AFunc := ⟨2, [(.tmp 4), (.tmp 5)], (sr [(oP 4 (.mov (.const (.c (.str []))))), (oP 5 (.mov kF))]
 (sr [(mV 6 0), (mV 7 1), (oP 8 (.call 45 [(.tmp 6), (.tmp 7)])), (oP 9 (.ext (.tmp 8) 0)), (oP 10 (.ext (.tmp 8) 1)), (mV 4 9), (mV 5 10)]
 .ret))⟩
theorem c28 : compFunc Tryz.prog 28 = some a28 := by kernel_rfl
def Z6r (r : (Tx × Bool)) : AV → Heap → Nat → Prop := fun v h' n' => v = (.tup [(S r.1), (B r.2)]) ∧ (h' = e0) ∧ n' = 0
/-- strings.CutPrefix -/
noncomputable def Z29 (s_ : Tx) (prefix_ : Tx) : Option (Tx × Bool) :=
 (Z2y s_ prefix_).bind fun r_ =>
 some (r_.1, r_.2)
theorem Z6s {mL : Int} {s_ : Tx} {prefix_ : Tx} {r : (Tx × Bool)} (h : Z29 s_ prefix_ = some r) : CPure Tryz.prog (GG mL) 28 [(S s_), (S prefix_)] (.tup [(S r.1), (B r.2)]) := by
 refine acalls_of_sv hmix c28 (R := Z6r r) ?_
 unfold Z29 at h
 refine ssr <| un1 rfl <| un1 rfl <| dnil <| ssr <| un1 rfl <| un1 rfl ?_
 obtain ⟨r_, hr1, h⟩ := bnd h
 refine un <| ac_pure (Z6q hr1) rfl rfl rfl <| un1 (v := (S r_.1)) rfl <| un1 (v := (B r_.2)) rfl <| un1 rfl <| un1 rfl <| dnil <| Sv.ret ?_
 exact rt0 h rfl rfl ⟨rfl, rfl, rfl⟩
noncomputable abbrev Z3d (s_ : Tx) (substr_ : Tx) : Option Int := index? s_ substr_
/-- strings.Index, by the contract of the shelf -/
theorem Z6t {mL : Int} {s_ : Tx} {substr_ : Tx} {r : Int} (h : Z3d s_ substr_ = some r) : CPure Tryz.prog (GG mL) 29 [(S s_), (S substr_)] (I r) := index_ok (m := mL) Tryz.lays143 rfl h
/-- (*strings.Builder).String, by my own walk of it -/
theorem Z3e {mL : Int} {z : Bool} {l : List UInt8} (hz : z = true → l = []) : ACalls Tryz.prog (GG mL) 47 [.c (.ref 0 2 0 0)] (bldH 90 5 z l) 2 (fun v h' n' => v = .c (.str l) ∧ h' = e0 ∧ n' = 2) := bString_ok bL bX hz
noncomputable abbrev Z1l (l : List UInt8) (x0 : Int) : Option Tx := bWriteByte? l x0
/-- (*strings.Builder).WriteByte, by my own walk of it -/
theorem Z2z {mL : Int} {z : Bool} {l : List UInt8} {x0 : Int} {r : List UInt8} (hz : z = true → l = []) (h : Z1l l x0 = some r) : ACalls Tryz.prog (GG mL) 48 [.c (.ref 0 2 0 0), (.c (.val (.int .u8 x0)))] (bldH 90 5 z l) 2 (bPost 90 5 (.c (.val .nilIface)) r) := bWriteByte_ok blays b167 hz h
def a30_c0 : ACode := (.region [(mV 10 4), (oP 11 (.bin .add (.tmp 10) (kI 1))), (mV 4 11)])
def a30_c1 : ACode := (.seq (sr [(mV 6 4), (mV 7 0), (oP 8 (.lenS (.tmp 7))), (oP 9 (.bin .lss (.tmp 6) (.tmp 8)))]
 (.cond (.tmp 9) .skip (.exit 0)))
 (.seq (.block 1 (sr [(mV 12 0), (mV 13 4), (oP 14 (.idxS (.tmp 12) (.tmp 13))), (mV 5 14)]
 (.block 2 (sr [(mV 18 5), (mV 19 0), (oP 20 (.idxS (.tmp 19) (kI 0))), (oP 21 (.bin .eql (.tmp 18) (.tmp 20))), (mV 17 21)]
 (.cond (.tmp 17) (.seq (.drawn (.fin [((mV 22 0), (0, 0)), ((mV 23 4), (0, 1)), ((oP 24 (.bin .add (.tmp 23) (kI 1))), (0, 2)), ((oP 25 (.slStr (.tmp 22) none (some (.tmp 24)))), (0, 3)), ((oP 26 (.call 47 [(.tmp 3)])), (2, 4)), ((oP 27 (.build [(.val (.int .i64 0)), (.str []), (.str []), (.val (.int .i64 0))] [(0, (1, (kI 5))), (1, (1, (.tmp 25))), (2, (1, (.tmp 26)))])), (0, 5)), ((oN (.store 4 (.tmp 2) (.tmp 27))), (2, 6))]))
 .ret) (sr [(mV 29 5), (oP 30 (.bin .eql (.tmp 29) (.const (.c (.val (.int .u8 10)))))), (mV 28 30)]
 (.cond (.tmp 28) (sr [(mV 31 0), (mV 32 4), (oP 33 (.slStr (.tmp 31) none (some (.tmp 32)))), (oP 34 (.build [(.val (.int .i64 0)), (.str []), (.str []), (.val (.int .i64 0))] [(0, (1, (kI 6))), (1, (1, (.tmp 33)))])), (oN (.store 4 (.tmp 2) (.tmp 34)))]
 .ret) (sr [(mV 36 5), (oP 37 (.bin .eql (.tmp 36) (.const (.c (.val (.int .u8 92)))))), (mV 38 37), ⟨(some 39), (.mov (.tmp 4)), (some (38, true))⟩, ⟨(some 40), (.bin .add (.tmp 39) (kI 1)), (some (38, true))⟩, ⟨(some 41), (.mov (.tmp 0)), (some (38, true))⟩, ⟨(some 42), (.lenS (.tmp 41)), (some (38, true))⟩, ⟨(some 43), (.bin .lss (.tmp 40) (.tmp 42)), (some (38, true))⟩, (oP 44 (.pick (.tmp 38) (.tmp 43) kF)), (mV 35 44)]
 (.cond (.tmp 35) (sr [(mV 45 4), (oP 46 (.bin .add (.tmp 45) (kI 1))), (mV 4 46)]
 (.region [(mV 47 0), (mV 48 4), (oP 49 (.idxS (.tmp 47) (.tmp 48))), (oP 50 (.call 48 [(.tmp 3), (.tmp 49)]))])) (.region [(mV 15 5), (oP 16 (.call 48 [(.tmp 3), (.tmp 15)]))]))))))))))
 a30_c0))
def a30 : AFunc := ⟨1, [(.cell true 4 2)], (sr [(oP 2 (.box (.const (.agg [(.val (.int .i64 0)), (.str []), (.str []), (.val (.int .i64 0))]))))]
 (sr [(oP 3 (.boxB 90))]
 (.seq (sr [(oP 4 (.mov (kI 1)))]
 (.block 0 (.loop a30_c1)))
 (sr [(mV 51 0), (oP 52 (.build [(.val (.int .i64 0)), (.str []), (.str []), (.val (.int .i64 0))] [(0, (1, (kI 6))), (1, (1, (.tmp 51)))])), (oN (.store 4 (.tmp 2) (.tmp 52)))]
 .ret))))⟩
theorem c30 : compFunc Tryz.prog 30 = some a30 := by kernel_rfl
def Z3f (r : TSToken) : AV → Heap → Nat → Prop := fun v h' n' => v = (.agg (e_TSToken r)) ∧ (h' = e0) ∧ n' = 0
abbrev Z4c (s_ : Tx) (F_ : Tx → Int → Option TSToken) (o : TSToken) (R_ : St → Prop) : Prop := ∀ (b_ : Tx) (i_ : Int) (zb : Bool) (_ : zb = true → b_ = []), F_ b_ i_ = some o → ∀ s, Weak 0 s ⟨(ue [(4, (I i_)), (3, (.c (.ref 1 2 0 0))), (2, (.c (.ref 0 4 0 0))), (0, (S s_))]), (upd (upd (upd e0 0 (some (.cells 4 [[cI 0, .str [], .str [], cI 0]]))) 1 (some (.bld 90 zb 2 b_.length))) 2 (bufB zb 5 b_)), 3⟩ → R_ s
abbrev Z4d (s_ : Tx) (F_ : Unit → Option TSToken) (o : TSToken) (R_ : St → Prop) : Prop := ∀ (_ : Unit), F_ () = some o → ∀ s, Weak 0 s ⟨(ue [(2, (.c (.ref 0 4 0 0))), (0, (S s_))]), (upd e0 0 (some (.cells 4 [[cI 0, .str [], .str [], cI 0]]))), 1⟩ → R_ s
noncomputable def Z2a (s_ : Tx) (self : Tx → Int → Option TSToken) (K0_ : Unit → Option TSToken) (b_1 : Tx) (i_1 : Int) : Option TSToken :=
 self b_1 (wi (i_1 + 1))
theorem Z4e {mL : Int} {Q : AExit → St → Prop} {s_ : Tx} {self : Tx → Int → Option TSToken} {K0_ : Unit → Option TSToken} {b_1 : Tx} {i_1 : Int} {zb_1 : Bool} (hzb_1 : zb_1 = true → b_1 = []) {o : TSToken} (h : Z2a s_ self K0_ b_1 i_1 = some o)
  (hself : Z4c s_ self o (Q .normal))
  (hK0 : Z4d s_ K0_ o (Q (.exit 0)))
  (hr : ∀ s, Ends a30.results 0 (Z3f o) .ret s → Q .ret s) :
  Sv Tryz.prog (GG mL) 0 a30_c0 Q ⟨(ue [(4, (I i_1)), (3, (.c (.ref 1 2 0 0))), (2, (.c (.ref 0 4 0 0))), (0, (S s_))]), (upd (upd (upd e0 0 (some (.cells 4 [[cI 0, .str [], .str [], cI 0]]))) 1 (some (.bld 90 zb_1 2 b_1.length))) 2 (bufB zb_1 5 b_1)), 3⟩ := by
 unfold Z2a at h
 refine srg <| un1 rfl <| un1 (v := (I (wi (i_1 + 1)))) rfl <| un1 rfl <| dnil ?_
 exact hself b_1 (wi (i_1 + 1)) zb_1 hzb_1 h _ (wcn [0, 1, 2] rfl (.cf rfl rfl (.cr rfl rfl rfl (.cr rfl rfl rfl (.cf rfl rfl .nil)))) (.buf (by decide) rfl (.box (by decide) rfl (.bld rfl (by decide)) (.box (by decide) rfl (blkAs_cells (.sm rfl (.sm rfl (.sm rfl (.sm rfl .nil))))) .nil))))
abbrev Z4f (s_ : Tx) (F_ : Nat → Tx → Int → Option TSToken) (o : TSToken) : Nat → St → Prop := fun k s => ∃ (b_ : Tx), ∃ (i_ : Int), ∃ (zb : Bool), (zb = true → b_ = []) ∧ F_ k b_ i_ = some o ∧ s = ⟨(ue [(4, (I i_)), (3, (.c (.ref 1 2 0 0))), (2, (.c (.ref 0 4 0 0))), (0, (S s_))]), (upd (upd (upd e0 0 (some (.cells 4 [[cI 0, .str [], .str [], cI 0]]))) 1 (some (.bld 90 zb 2 b_.length))) 2 (bufB zb 5 b_)), 3⟩
noncomputable def Zk (s_ : Tx) (K0_ : Unit → Option TSToken) : Nat → Tx → Int → Option TSToken
 | 0, _, _ => none
 | k + 1, b_, i_ =>
  if decide (i_ < (s_.length : Int)) then
   (at? s_ i_).bind fun c_ =>
   (at? s_ 0).bind fun c_1 =>
   if decide ((c_.toNat : Int) = (c_1.toNat : Int)) then
    (sub? s_ 0 (wi (i_ + 1))).bind fun r_ =>
    some (⟨5, r_, b_, 0⟩ : TSToken)
   else
    if decide ((c_.toNat : Int) = 10) then
     (sub? s_ 0 i_).bind fun r_1 =>
     some (⟨6, r_1, [], 0⟩ : TSToken)
    else
     if ((decide ((c_.toNat : Int) = 92)) && (decide ((wi (i_ + 1)) < (s_.length : Int)))) then
      (at? s_ (wi (i_ + 1))).bind fun c_2 =>
      (Z1l b_ (c_2.toNat : Int)).bind fun r_2 =>
      Z2a s_ (Zk s_ K0_ k) K0_ r_2 (wi (i_ + 1))
     else
      (Z1l b_ (c_.toNat : Int)).bind fun r_3 =>
      Z2a s_ (Zk s_ K0_ k) K0_ r_3 i_
  else
   K0_ ()
theorem Z6u {mL : Int} {Q : AExit → St → Prop} {s_ : Tx} {K0_ : Unit → Option TSToken} {k : Nat} {b_ : Tx} {i_ : Int} {zb : Bool} (hzb : zb = true → b_ = []) {o : TSToken} (h : Zk s_ K0_ k b_ i_ = some o)
  (hK0 : Z4d s_ K0_ o (Q (.exit 0)))
  (hr : ∀ s, Ends a30.results 0 (Z3f o) .ret s → Q .ret s) :
  Sv Tryz.prog (GG mL) 0 (.loop a30_c1) Q ⟨(ue [(4, (I i_)), (3, (.c (.ref 1 2 0 0))), (2, (.c (.ref 0 4 0 0))), (0, (S s_))]), (upd (upd (upd e0 0 (some (.cells 4 [[cI 0, .str [], .str [], cI 0]]))) 1 (some (.bld 90 zb 2 b_.length))) 2 (bufB zb 5 b_)), 3⟩ := by
 refine Sv.loop (I := Z4f s_ (Zk s_ K0_) o) (fun k s hI => ?_) ⟨b_, i_, zb, hzb, h, rfl⟩
 clear h
 clear hzb zb i_ b_
 obtain ⟨b_, i_, zb, hzb, h, rfl⟩ := hI
 cases k with
 | zero => cases h
 | succ k =>
 rw [Zk] at h
 have hself : Z4c s_ (Zk s_ K0_ k) o (rnd 0 (Z4f s_ (Zk s_ K0_) o) k Q) := fun b_ i_ zb hzb h s hw => ⟨_, k, hw, Nat.lt_succ_self k, b_, i_, zb, hzb, h, rfl⟩
 refine Sv.seq <| ssr <| un1 rfl <| un1 rfl <| un1 (v := (I (s_.length : Int))) rfl <| un1 (v := (B (decide (i_ < (s_.length : Int))))) rfl <| dnil ?_
 refine Sv.cnd rfl h (fun h => ?_) fun h => ?_
 ·refine Sv.skip <| Sv.seq <| Sv.block <| ssr <| un1 rfl <| un1 rfl ?_
  obtain ⟨c_, hx1, h⟩ := bnd h
  refine un1 (v := (.c (.val (.int .u8 (c_.toNat : Int))))) (s_idxS rfl rfl hx1) <| un1 rfl <| dnil <| Sv.block <| ssr <| un1 rfl <| un1 rfl ?_
  obtain ⟨c_1, hx2, h⟩ := bnd h
  refine un1 (v := (.c (.val (.int .u8 (c_1.toNat : Int))))) (s_idxS rfl rfl hx2) <| un1 (v := (B (decide ((c_.toNat : Int) = (c_1.toNat : Int))))) rfl <| un1 rfl <| dnil ?_
  refine Sv.cnd rfl h (fun h => ?_) fun h => ?_
  ·refine Sv.seq <| Sv.drawn <| un1 rfl <| un1 rfl <| un1 (v := (I (wi (i_ + 1)))) rfl ?_
   obtain ⟨r_, hx3, h⟩ := bnd h
   refine un1 (v := (S r_)) (s_slStr rfl rfl rfl hx3) <| un <| ac_gen (bs := [1, 2]) («as» := [(.c (.ref 1 2 0 0))]) (h2 := _) (h1 := (upd (upd e0 1 (some (.bld 90 zb 2 b_.length))) 2 (bufB zb 5 b_))) (Z3e (z := zb) (l := b_) hzb) rfl (.cons (.c (.ref rfl (by decide))) .nil) (hsub_refl _) (.cons rfl (.cons rfl (.nil _))) hcs (by decide) (by decide) (.cons (.c (.ref rfl (by decide))) .nil) (.buf (by decide) rfl (.box (by decide) rfl (.bld rfl (by decide)) .nil)) ?_
   rintro _ _ _ hn ⟨rfl, rfl, rfl⟩
   refine ⟨.inl rfl, (rem [1, 2] _), fun hbd => (m3_rem (in_cons (by decide) (in_cons (by decide) (in_nil _))) (.nil) hbd), (S b_), 3, rfl, rfl, ?_⟩
   refine un1 (v := (.agg [cI 5, .str r_, .str b_, cI 0])) rfl <| un <| a2n (h' := upd _ 0 (some (.cells 4 [[cI 5, .str r_, .str b_, cI 0]]))) (n' := 3) rfl rfl hcs <| dnil <| Sv.ret ?_
   exact hr _ (rt0 h rfl rfl ⟨rfl, rfl, rfl⟩)
  ·refine ssr <| un1 rfl <| un1 (v := (B (decide ((c_.toNat : Int) = 10)))) rfl <| un1 rfl <| dnil ?_
   refine Sv.cnd rfl h (fun h => ?_) fun h => ?_
   ·refine ssr <| un1 rfl <| un1 rfl ?_
    obtain ⟨r_1, hx4, h⟩ := bnd h
    refine un1 (v := (S r_1)) (s_slStr rfl rfl rfl hx4) <| un1 (v := (.agg [cI 6, .str r_1, .str [], cI 0])) rfl <| un <| a2n (h' := upd _ 0 (some (.cells 4 [[cI 6, .str r_1, .str [], cI 0]]))) (n' := 3) rfl rfl hcs <| dnil <| Sv.ret ?_
    exact hr _ (rt0 h rfl rfl ⟨rfl, rfl, rfl⟩)
   ·refine ssr <| un1 rfl <| un1 (v := (B (decide ((c_.toNat : Int) = 92)))) rfl <| un1 rfl ?_
    refine gjoin 6 (d := 44) (v := (B ((decide ((c_.toNat : Int) = 92)) && (decide ((wi (i_ + 1)) < (s_.length : Int)))))) (fun X hX => ?_) ?_
    ·refine split2 (fun hc4 => ?_) (fun hc4 => ?_)
     ·refine gt rfl <| a1 rfl <| gt rfl <| a1 (v := (I (wi (i_ + 1)))) rfl <| gt rfl <| a1 rfl <| gt rfl <| a1 (v := (I (s_.length : Int))) rfl <| gt rfl <| a1 (v := (B (decide ((wi (i_ + 1)) < (s_.length : Int))))) rfl <| un1 (v := (B (decide ((wi (i_ + 1)) < (s_.length : Int))))) rfl <| dnil ?_
      exact hX _ (.putEq (by rw [hc4]; rfl) (by repeat (first | exact .putEq (by rw [hc4]) (.refl _) | refine .skp ?_ rfl)))
     ·repeat (first | refine gu rfl ?_ | refine gs rfl rfl ?_)
      refine un1 (v := (B false)) rfl <| dnil ?_
      exact hX _ (.putEq (by rw [hc4]; rfl) (by repeat (first | exact .putEq (by rw [hc4]) (.refl _) | refine .skp ?_ rfl)))
    refine un1 rfl <| dnil ?_
    refine Sv.cnd rfl h (fun h => ?_) fun h => ?_
    ·refine ssr <| un1 rfl <| un1 (v := (I (wi (i_ + 1)))) rfl <| un1 rfl <| dnil <| srg <| un1 rfl <| un1 rfl ?_
     obtain ⟨c_2, hx5, h⟩ := bnd h
     refine un1 (v := (.c (.val (.int .u8 (c_2.toNat : Int))))) (s_idxS rfl rfl hx5) ?_
     obtain ⟨r_2, hr1, h⟩ := bnd h
     refine un <| ac_gen (bs := [1, 2]) («as» := [(.c (.ref 1 2 0 0)), (.c (.val (.int .u8 (c_2.toNat : Int))))]) (h2 := _) (h1 := (upd (upd e0 1 (some (.bld 90 zb 2 b_.length))) 2 (bufB zb 5 b_))) (Z2z (z := zb) (l := b_) hzb hr1) rfl (.cons (.c (.ref rfl (by decide))) (.cons (avAs_free rfl) .nil)) (hsub_refl _) (.cons rfl (.cons rfl (.nil _))) hcs (by decide) (by decide) (.cons (.c (.ref rfl (by decide))) (.cons (avAs_free rfl) .nil)) (.buf (by decide) rfl (.box (by decide) rfl (.bld rfl (by decide)) .nil)) ?_
     rintro _ _ _ hn ⟨z_, hz_, rfl, rfl, rfl⟩
     refine ⟨.inl rfl, (upd (upd (rem [1, 2] _) 1 (some (.bld 90 z_ 3 r_2.length))) 3 (bufB z_ 5 r_2)), fun hbd => (m3_cons (m3_buf rfl) (m3_cons (m3_box rfl rfl) (m3_rem (in_cons (by decide) (in_cons (by decide) (in_nil _))) (.cons (by decide) (.cons (by decide) .nil)) hbd))), (.c (.val .nilIface)), 4, (by cases z_ <;> rfl), rfl, ?_⟩
     refine dnil ?_
     exact Sv.weak (wcn [0, 1, 3] rfl (.cf rfl rfl (.cr rfl rfl rfl (.cr rfl rfl rfl (.cf rfl rfl .nil)))) (.buf (by decide) rfl (.box (by decide) rfl (.bld rfl (by decide)) (.box (by decide) rfl (blkAs_cells (.sm rfl (.sm rfl (.sm rfl (.sm rfl .nil))))) .nil)))) (Z4e hz_ h hself hK0 hr)
    ·refine srg <| un1 rfl ?_
     obtain ⟨r_3, hr2, h⟩ := bnd h
     refine un <| ac_gen (bs := [1, 2]) («as» := [(.c (.ref 1 2 0 0)), (.c (.val (.int .u8 (c_.toNat : Int))))]) (h2 := _) (h1 := (upd (upd e0 1 (some (.bld 90 zb 2 b_.length))) 2 (bufB zb 5 b_))) (Z2z (z := zb) (l := b_) hzb hr2) rfl (.cons (.c (.ref rfl (by decide))) (.cons (avAs_free rfl) .nil)) (hsub_refl _) (.cons rfl (.cons rfl (.nil _))) hcs (by decide) (by decide) (.cons (.c (.ref rfl (by decide))) (.cons (avAs_free rfl) .nil)) (.buf (by decide) rfl (.box (by decide) rfl (.bld rfl (by decide)) .nil)) ?_
     rintro _ _ _ hn ⟨z_1, hz_1, rfl, rfl, rfl⟩
     refine ⟨.inl rfl, (upd (upd (rem [1, 2] _) 1 (some (.bld 90 z_1 3 r_3.length))) 3 (bufB z_1 5 r_3)), fun hbd => (m3_cons (m3_buf rfl) (m3_cons (m3_box rfl rfl) (m3_rem (in_cons (by decide) (in_cons (by decide) (in_nil _))) (.cons (by decide) (.cons (by decide) .nil)) hbd))), (.c (.val .nilIface)), 4, (by cases z_1 <;> rfl), rfl, ?_⟩
     refine dnil ?_
     exact Sv.weak (wcn [0, 1, 3] rfl (.cf rfl rfl (.cr rfl rfl rfl (.cr rfl rfl rfl (.cf rfl rfl .nil)))) (.buf (by decide) rfl (.box (by decide) rfl (.bld rfl (by decide)) (.box (by decide) rfl (blkAs_cells (.sm rfl (.sm rfl (.sm rfl (.sm rfl .nil))))) .nil)))) (Z4e hz_1 h hself hK0 hr)
 ·refine Sv.exit ?_
  exact hK0 () h _ (wcn [0] rfl (.cr rfl rfl rfl (.cf rfl rfl .nil)) (.box (by decide) rfl (blkAs_cells (.sm rfl (.sm rfl (.sm rfl (.sm rfl .nil))))) .nil))
/-- clerestory/csstok.text -/
noncomputable def Z2b (s_ : Tx) : Option TSToken :=
 limF fun kk => Zk s_ (fun (_ : Unit) => 
   some (⟨6, s_, [], 0⟩ : TSToken)) kk ([] : List UInt8) 1
theorem Z6v {mL : Int} {s_ : Tx} {r : TSToken} (h : Z2b s_ = some r) : CPure Tryz.prog (GG mL) 30 [(S s_)] (.agg (e_TSToken r)) := by
 refine acalls_of_sv hmix c30 (R := Z3f r) ?_
 unfold Z2b at h
 refine ssr <| un <| a2v (v := (.c (.ref 0 4 0 0))) (h' := upd _ 0 (some (.cells 4 [[cI 0, .str [], .str [], cI 0]]))) (n' := 1) rfl rfl hcs <| dnil <| ssr <| un <| a2v (v := (.c (.ref 2 2 0 0))) (h' := upd _ 2 (some (.bld 90 true 1 ([] : List UInt8).length))) (n' := 3) rfl rfl hcs <| dnil <| Sv.seq <| ssr <| un1 rfl <| dnil <| Sv.block ?_
 obtain ⟨kk, h⟩ := limF_some h
 refine Sv.weak (wcn [0, 2, 1000] rfl (.cf rfl rfl (.cr rfl rfl rfl (.cr rfl rfl rfl (.cf rfl rfl .nil)))) (.nonB (by decide) (.box (by decide) rfl (.bldN (by decide)) (.box (by decide) rfl (blkAs_cells (.sm rfl (.sm rfl (.sm rfl (.sm rfl .nil))))) .nil)))) (Z6u (fun _ => rfl) h ?_ (fun s hs => hs))
 ·intro _ h _ hw1
  refine Sv.weak hw1 <| ssr <| un1 rfl <| un1 (v := (.agg [cI 6, .str s_, .str [], cI 0])) rfl <| un <| a2n (h' := upd _ 0 (some (.cells 4 [[cI 6, .str s_, .str [], cI 0]]))) (n' := 1) rfl rfl hcs <| dnil <| Sv.ret ?_
  exact rt0 h rfl rfl ⟨rfl, rfl, rfl⟩
def a49 : AFunc := ⟨1, [(.tmp 2)], (sr [(oP 2 (.mov kF))]
 (sr [(mV 3 0), (oP 4 (.bin .geq (.tmp 3) (.const (.c (.val (.int .u8 128)))))), (mV 5 4), ⟨(some 6), (.mov (.tmp 0)), (some (5, false))⟩, ⟨(some 7), (.bin .eql (.tmp 6) (.const (.c (.val (.int .u8 95))))), (some (5, false))⟩, (oP 8 (.pick (.tmp 5) kT (.tmp 7))), (mV 9 8), ⟨(some 10), (.mov (.tmp 0)), (some (9, false))⟩, ⟨(some 11), (.bin .or (.tmp 10) (.const (.c (.val (.int .u8 32))))), (some (9, false))⟩, ⟨(some 12), (.bin .geq (.tmp 11) (.const (.c (.val (.int .u8 97))))), (some (9, false))⟩, ⟨(some 13), (.mov (.tmp 12)), (some (9, false))⟩, ⟨(some 14), (.mov (.tmp 0)), (some (13, true))⟩, ⟨(some 15), (.bin .or (.tmp 14) (.const (.c (.val (.int .u8 32))))), (some (13, true))⟩, ⟨(some 16), (.bin .leq (.tmp 15) (.const (.c (.val (.int .u8 122))))), (some (13, true))⟩, ⟨(some 17), (.pick (.tmp 13) (.tmp 16) kF), (some (9, false))⟩, (oP 18 (.pick (.tmp 9) kT (.tmp 17))), (mV 2 18)]
 .ret))⟩
theorem c49 : compFunc Tryz.prog 49 = some a49 := by kernel_rfl
def Z6w (r : Bool) : AV → Heap → Nat → Prop := fun v h' n' => v = (B r) ∧ (h' = e0) ∧ n' = 0
/-- clerestory/csstok.starts -/
def Zb (c_ : Int) : Bool :=
 (((decide (128 ≤ c_)) || (decide (c_ = 95))) || ((decide (97 ≤ (bitsV .or .u8 c_ 32))) && (decide ((bitsV .or .u8 c_ 32) ≤ 122))))
theorem Z3g {mL : Int} (c_ : Int) : CPure Tryz.prog (GG mL) 49 [(.c (.val (.int .u8 c_)))] (B (Zb c_)) := by
 generalize h : Zb c_ = o
 refine acalls_of_sv hmix c49 (R := Z6w o) ?_
 unfold Zb at h
 refine ssr <| un1 rfl <| dnil <| ssr <| un1 rfl <| un1 (v := (B (decide (128 ≤ c_)))) rfl <| un1 rfl ?_
 refine gjoin 3 (d := 8) (v := (B ((decide (128 ≤ c_)) || (decide (c_ = 95))))) (fun X hX => ?_) ?_
 ·refine split2 (fun hc1 => ?_) (fun hc1 => ?_)
  ·refine gs rfl rfl <| gs rfl rfl <| un1 (v := (B true)) rfl <| dnil ?_
   exact hX _ (.putEq (by rw [hc1]; rfl) (.skp (.skp (.putEq (by rw [hc1]) (.refl _)) rfl) rfl))
  ·refine gt rfl <| a1 rfl <| gt rfl <| a1 (v := (B (decide (c_ = 95)))) rfl <| un1 (v := (B (decide (c_ = 95)))) rfl <| dnil ?_
   exact hX _ (.putEq (by rw [hc1]; rfl) (.skp (.skp (.putEq (by rw [hc1]) (.refl _)) rfl) rfl))
 refine un1 rfl ?_
 refine gjoin 9 (d := 18) (v := (B (((decide (128 ≤ c_)) || (decide (c_ = 95))) || ((decide (97 ≤ (bitsV .or .u8 c_ 32))) && (decide ((bitsV .or .u8 c_ 32) ≤ 122)))))) (fun X hX => ?_) ?_
 ·refine split2 (fun hc3 => ?_) (fun hc3 => ?_)
  ·repeat (first | refine gu rfl ?_ | refine gs rfl rfl ?_)
   refine un1 (v := (B true)) rfl <| dnil ?_
   exact hX _ (.putEq (by rw [hc3]; rfl) (by repeat (first | exact .putEq (by rw [hc3]) (.refl _) | refine .skp ?_ rfl)))
  ·refine gt rfl <| a1 rfl <| gt rfl <| a1 (v := (.c (.val (.int .u8 (bitsV .or .u8 c_ 32))))) rfl <| gt rfl <| a1 (v := (B (decide (97 ≤ (bitsV .or .u8 c_ 32))))) rfl <| gt rfl <| a1 rfl ?_
   refine gjoin 4 (d := 17) (v := (B ((decide (97 ≤ (bitsV .or .u8 c_ 32))) && (decide ((bitsV .or .u8 c_ 32) ≤ 122))))) (fun X hX => ?_) ?_
   ·refine split2 (fun hc2 => ?_) (fun hc2 => ?_)
    ·refine gt rfl <| a1 rfl <| gt rfl <| a1 (v := (.c (.val (.int .u8 (bitsV .or .u8 c_ 32))))) rfl <| gt rfl <| a1 (v := (B (decide ((bitsV .or .u8 c_ 32) ≤ 122)))) rfl <| gt rfl <| a1 (v := (B (decide ((bitsV .or .u8 c_ 32) ≤ 122)))) rfl <| dnil ?_
     exact hX _ (.putEq (by rw [hc2]; rfl) (.skp (.skp (.skp (.putEq (by rw [hc2]) (.refl _)) rfl) rfl) rfl))
    ·refine gs rfl rfl <| gs rfl rfl <| gs rfl rfl <| gt rfl <| a1 (v := (B false)) rfl <| dnil ?_
     exact hX _ (.putEq (by rw [hc2]; rfl) (.skp (.skp (.skp (.putEq (by rw [hc2]) (.refl _)) rfl) rfl) rfl))
   refine un1 (v := (B ((decide (97 ≤ (bitsV .or .u8 c_ 32))) && (decide ((bitsV .or .u8 c_ 32) ≤ 122))))) rfl <| dnil ?_
   exact hX _ (.putEq (by rw [hc3]; rfl) (by repeat (first | exact .putEq (by rw [hc3]) (.refl _) | refine .skp ?_ rfl)))
 refine un1 rfl <| dnil <| Sv.ret ?_
 subst h
 exact ⟨_, .refl _, _, rfl, ⟨upd e0 0 (some (B (((decide (128 ≤ c_)) || (decide (c_ = 95))) || ((decide (97 ≤ (bitsV .or .u8 c_ 32))) && (decide ((bitsV .or .u8 c_ 32) ≤ 122)))))), e0, 0⟩, (B (((decide (128 ≤ c_)) || (decide (c_ = 95))) || ((decide (97 ≤ (bitsV .or .u8 c_ 32))) && (decide ((bitsV .or .u8 c_ 32) ≤ 122))))), weak_canon [] rfl ndl nll nlz (.cf rfl rfl .nil) .nil, rfl, rfl, rfl, rfl⟩
def a50 : AFunc := ⟨1, [(.tmp 2)], (sr [(oP 2 (.mov kF))]
 (sr [(mV 3 0), (oP 4 (.bin .geq (.tmp 3) (.const (.c (.val (.int .u8 48)))))), (mV 5 4), ⟨(some 6), (.mov (.tmp 0)), (some (5, true))⟩, ⟨(some 7), (.bin .leq (.tmp 6) (.const (.c (.val (.int .u8 57))))), (some (5, true))⟩, (oP 8 (.pick (.tmp 5) (.tmp 7) kF)), (mV 2 8)]
 .ret))⟩
theorem c50 : compFunc Tryz.prog 50 = some a50 := by kernel_rfl
def Z6x (r : Bool) : AV → Heap → Nat → Prop := fun v h' n' => v = (B r) ∧ (h' = e0) ∧ n' = 0
/-- clerestory/csstok.digit -/
def Zg (c_ : Int) : Bool :=
 ((decide (48 ≤ c_)) && (decide (c_ ≤ 57)))
theorem Z6y {mL : Int} (c_ : Int) : CPure Tryz.prog (GG mL) 50 [(.c (.val (.int .u8 c_)))] (B (Zg c_)) := by
 generalize h : Zg c_ = o
 refine acalls_of_sv hmix c50 (R := Z6x o) ?_
 unfold Zg at h
 refine ssr <| un1 rfl <| dnil <| ssr <| un1 rfl <| un1 (v := (B (decide (48 ≤ c_)))) rfl <| un1 rfl ?_
 refine gjoin 3 (d := 8) (v := (B ((decide (48 ≤ c_)) && (decide (c_ ≤ 57))))) (fun X hX => ?_) ?_
 ·refine split2 (fun hc1 => ?_) (fun hc1 => ?_)
  ·refine gt rfl <| a1 rfl <| gt rfl <| a1 (v := (B (decide (c_ ≤ 57)))) rfl <| un1 (v := (B (decide (c_ ≤ 57)))) rfl <| dnil ?_
   exact hX _ (.putEq (by rw [hc1]; rfl) (.skp (.skp (.putEq (by rw [hc1]) (.refl _)) rfl) rfl))
  ·refine gs rfl rfl <| gs rfl rfl <| un1 (v := (B false)) rfl <| dnil ?_
   exact hX _ (.putEq (by rw [hc1]; rfl) (.skp (.skp (.putEq (by rw [hc1]) (.refl _)) rfl) rfl))
 refine un1 rfl <| dnil <| Sv.ret ?_
 subst h
 exact ⟨_, .refl _, _, rfl, ⟨upd e0 0 (some (B ((decide (48 ≤ c_)) && (decide (c_ ≤ 57))))), e0, 0⟩, (B ((decide (48 ≤ c_)) && (decide (c_ ≤ 57)))), weak_canon [] rfl ndl nll nlz (.cf rfl rfl .nil) .nil, rfl, rfl, rfl, rfl⟩
def a31 : AFunc := ⟨1, [(.tmp 2)], (sr [(oP 2 (.mov kF))]
 (sr [(mV 3 0), (oP 4 (.call 49 [(.tmp 3)])), (mV 5 4), ⟨(some 6), (.mov (.tmp 0)), (some (5, false))⟩, ⟨(some 7), (.call 50 [(.tmp 6)]), (some (5, false))⟩, (oP 8 (.pick (.tmp 5) kT (.tmp 7))), (mV 9 8), ⟨(some 10), (.mov (.tmp 0)), (some (9, false))⟩, ⟨(some 11), (.bin .eql (.tmp 10) (.const (.c (.val (.int .u8 45))))), (some (9, false))⟩, (oP 12 (.pick (.tmp 9) kT (.tmp 11))), (mV 2 12)]
 .ret))⟩
theorem c31 : compFunc Tryz.prog 31 = some a31 := by kernel_rfl
def Z6z (r : Bool) : AV → Heap → Nat → Prop := fun v h' n' => v = (B r) ∧ (h' = e0) ∧ n' = 0
/-- clerestory/csstok.sign -/
def Z17 (c_ : Int) : Bool :=
 (((Zb c_) || (Zg c_)) || (decide (c_ = 45)))
theorem Z4g {mL : Int} (c_ : Int) : CPure Tryz.prog (GG mL) 31 [(.c (.val (.int .u8 c_)))] (B (Z17 c_)) := by
 generalize h : Z17 c_ = o
 refine acalls_of_sv hmix c31 (R := Z6z o) ?_
 unfold Z17 at h
 refine ssr <| un1 rfl <| dnil <| ssr <| un1 rfl <| un <| ac_pure (Z3g (mL := mL) c_) rfl rfl rfl <| un1 rfl ?_
 refine gjoin 3 (d := 8) (v := (B ((Zb c_) || (Zg c_)))) (fun X hX => ?_) ?_
 ·refine split2 (fun hc1 => ?_) (fun hc1 => ?_)
  ·refine gs rfl rfl <| gs rfl rfl <| un1 (v := (B true)) rfl <| dnil ?_
   exact hX _ (.putEq (by rw [hc1]; rfl) (.skp (.skp (.putEq (by rw [hc1]) (.refl _)) rfl) rfl))
  ·refine gt rfl <| a1 rfl <| gt rfl <| ac_pure (Z6y (mL := mL) c_) rfl rfl rfl <| un1 (v := (B (Zg c_))) rfl <| dnil ?_
   exact hX _ (.putEq (by rw [hc1]; rfl) (.skp (.skp (.putEq (by rw [hc1]) (.refl _)) rfl) rfl))
 refine un1 rfl ?_
 refine gjoin 3 (d := 12) (v := (B (((Zb c_) || (Zg c_)) || (decide (c_ = 45))))) (fun X hX => ?_) ?_
 ·refine split2 (fun hc2 => ?_) (fun hc2 => ?_)
  ·refine gs rfl rfl <| gs rfl rfl <| un1 (v := (B true)) rfl <| dnil ?_
   exact hX _ (.putEq (by rw [hc2]; rfl) (.skp (.skp (.putEq (by rw [hc2]) (.refl _)) rfl) rfl))
  ·refine gt rfl <| a1 rfl <| gt rfl <| a1 (v := (B (decide (c_ = 45)))) rfl <| un1 (v := (B (decide (c_ = 45)))) rfl <| dnil ?_
   exact hX _ (.putEq (by rw [hc2]; rfl) (.skp (.skp (.putEq (by rw [hc2]) (.refl _)) rfl) rfl))
 refine un1 rfl <| dnil <| Sv.ret ?_
 subst h
 exact ⟨_, .refl _, _, rfl, ⟨upd e0 0 (some (B (((Zb c_) || (Zg c_)) || (decide (c_ = 45))))), e0, 0⟩, (B (((Zb c_) || (Zg c_)) || (decide (c_ = 45)))), weak_canon [] rfl ndl nll nlz (.cf rfl rfl .nil) .nil, rfl, rfl, rfl, rfl⟩
def a32_c0 : ACode := .ret
def a32 : AFunc := ⟨1, [(.tmp 2)], (sr [(oP 2 (.mov kF))]
 (sr [(mV 3 0), (oP 4 (.lenS (.tmp 3))), (oP 5 (.bin .gtr (.tmp 4) (kI 1))), (mV 6 5), ⟨(some 7), (.mov (.tmp 0)), (some (6, true))⟩, ⟨(some 8), (.idxS (.tmp 7) (kI 0)), (some (6, true))⟩, ⟨(some 9), (.bin .eql (.tmp 8) (.const (.c (.val (.int .u8 92))))), (some (6, true))⟩, (oP 10 (.pick (.tmp 6) (.tmp 9) kF)), (mV 11 10), ⟨(some 12), (.mov (.tmp 0)), (some (11, true))⟩, ⟨(some 13), (.idxS (.tmp 12) (kI 1)), (some (11, true))⟩, ⟨(some 14), (.bin .neq (.tmp 13) (.const (.c (.val (.int .u8 10))))), (some (11, true))⟩, (oP 15 (.pick (.tmp 11) (.tmp 14) kF)), (mV 2 15)]
 a32_c0))⟩
theorem c32 : compFunc Tryz.prog 32 = some a32 := by kernel_rfl
def Z4h (r : Bool) : AV → Heap → Nat → Prop := fun v h' n' => v = (B r) ∧ (h' = e0) ∧ n' = 0
noncomputable def Z1m (v2 : Bool) : Option Bool :=
 some v2
theorem Z3h {mL : Int} {v2 : Bool} {o : Bool} (h : Z1m v2 = some o) :
  Sv Tryz.prog (GG mL) 0 a32_c0 (Ends a32.results 0 (Z4h o)) ⟨(upd e0 2 (some (B v2))), e0, 0⟩ := by
 unfold Z1m at h
 refine Sv.ret ?_
 exact rt0 h rfl rfl ⟨rfl, rfl, rfl⟩
/-- clerestory/csstok.escape -/
noncomputable def Z10 (s_ : Tx) : Option Bool :=
 if decide (1 < (s_.length : Int)) then
  (at? s_ 0).bind fun c_ =>
  if decide ((c_.toNat : Int) = 92) then
   (at? s_ 1).bind fun c_1 =>
   Z1m (!decide ((c_1.toNat : Int) = 10))
  else
   Z1m false
 else
  Z1m false
theorem Z30 {mL : Int} {s_ : Tx} {r : Bool} (h : Z10 s_ = some r) : CPure Tryz.prog (GG mL) 32 [(S s_)] (B r) := by
 refine acalls_of_sv hmix c32 (R := Z4h r) ?_
 unfold Z10 at h
 refine ssr <| un1 rfl <| dnil <| ssr <| un1 rfl <| un1 (v := (I (s_.length : Int))) rfl <| un1 (v := (B (decide (1 < (s_.length : Int))))) rfl <| un1 rfl ?_
 refine spl h (fun h => ?_) fun h => ?_
 ·refine gt rfl <| a1 rfl ?_
  obtain ⟨c_, hx1, h⟩ := bnd h
  refine gt rfl <| a1 (v := (.c (.val (.int .u8 (c_.toNat : Int))))) (s_idxS rfl rfl hx1) <| gt rfl <| a1 (v := (B (decide ((c_.toNat : Int) = 92)))) rfl <| un1 (v := (B (decide ((c_.toNat : Int) = 92)))) rfl <| un1 rfl ?_
  refine spl h (fun h => ?_) fun h => ?_
  ·refine gt rfl <| a1 rfl ?_
   obtain ⟨c_1, hx2, h⟩ := bnd h
   refine gt rfl <| a1 (v := (.c (.val (.int .u8 (c_1.toNat : Int))))) (s_idxS rfl rfl hx2) <| gt rfl <| a1 (v := (B (!decide ((c_1.toNat : Int) = 10)))) rfl <| un1 (v := (B (!decide ((c_1.toNat : Int) = 10)))) rfl <| un1 rfl <| dnil ?_
   exact Sv.weak (wcn [] rfl (.cf rfl rfl .nil) .nil) (Z3h h)
  ·refine gs rfl rfl <| gs rfl rfl <| gs rfl rfl <| un1 (v := (B false)) rfl <| un1 rfl <| dnil ?_
   exact Sv.weak (wcn [] rfl (.cf rfl rfl .nil) .nil) (Z3h h)
 ·refine gs rfl rfl <| gs rfl rfl <| gs rfl rfl <| un1 (v := (B false)) rfl <| un1 rfl <| gs rfl rfl <| gs rfl rfl <| gs rfl rfl <| un1 (v := (B false)) rfl <| un1 rfl <| dnil ?_
  exact Sv.weak (wcn [] rfl (.cf rfl rfl .nil) .nil) (Z3h h)
def a51_c0 : ACode := (.seq (sr [(mV 6 5), (mV 7 0), (oP 8 (.lenS (.tmp 7))), (oP 9 (.bin .lss (.tmp 6) (.tmp 8)))]
 (.cond (.tmp 9) .skip (.exit 0)))
 (.block 1 (.block 2 (sr [(mV 13 0), (mV 14 5), (oP 15 (.slStr (.tmp 13) (some (.tmp 14)) none)), (oP 16 (.call 32 [(.tmp 15)])), (mV 12 16)]
 (.cond (.tmp 12) (sr [(mV 17 0), (mV 18 5), (oP 19 (.bin .add (.tmp 18) (kI 1))), (oP 20 (.idxS (.tmp 17) (.tmp 19))), (oP 21 (.call 48 [(.tmp 4), (.tmp 20)]))]
 (.region [(mV 22 5), (oP 23 (.bin .add (.tmp 22) (kI 2))), (mV 5 23)])) (sr [(mV 25 0), (mV 26 5), (oP 27 (.idxS (.tmp 25) (.tmp 26))), (oP 28 (.call 31 [(.tmp 27)])), (mV 24 28)]
 (.cond (.tmp 24) (sr [(mV 29 0), (mV 30 5), (oP 31 (.idxS (.tmp 29) (.tmp 30))), (oP 32 (.call 48 [(.tmp 4), (.tmp 31)]))]
 (.region [(mV 33 5), (oP 34 (.bin .add (.tmp 33) (kI 1))), (mV 5 34)])) (sr [(oP 10 (.call 47 [(.tmp 4)])), (mV 11 5), (mV 2 10), (mV 3 11)]
 .ret))))))))
def a51 : AFunc := ⟨1, [(.tmp 2), (.tmp 3)], (sr [(oP 2 (.mov (.const (.c (.str []))))), (oP 3 (.mov (kI 0)))]
 (sr [(oP 4 (.boxB 90))]
 (sr [(oP 5 (.mov (kI 0)))]
 (.seq (.block 0 (.loop a51_c0))
 (sr [(oP 35 (.call 47 [(.tmp 4)])), (mV 36 5), (mV 2 35), (mV 3 36)]
 .ret)))))⟩
theorem c51 : compFunc Tryz.prog 51 = some a51 := by kernel_rfl
def Z4i (r : (Tx × Int)) : AV → Heap → Nat → Prop := fun v h' n' => v = (.tup [(S r.1), (I r.2)]) ∧ (h' = e0) ∧ n' = 0
abbrev Z70 (F_ : Tx → Int → Option (Tx × Int)) (o : (Tx × Int)) (R_ : St → Prop) : Prop := ∀ (b_1 : Tx) (i_1 : Int) (zb_1 : Bool) (_ : zb_1 = true → b_1 = []), F_ b_1 i_1 = some o → ∀ s, Weak 0 s ⟨(ue [(5, (I i_1)), (4, (.c (.ref 0 2 0 0)))]), (upd (upd e0 0 (some (.bld 90 zb_1 1 b_1.length))) 1 (bufB zb_1 5 b_1)), 2⟩ → R_ s
abbrev Z4j (s_ : Tx) (F_ : Nat → Tx → Int → Option (Tx × Int)) (o : (Tx × Int)) : Nat → St → Prop := fun k s => ∃ (b_ : Tx), ∃ (i_ : Int), ∃ (zb : Bool), (zb = true → b_ = []) ∧ F_ k b_ i_ = some o ∧ s = ⟨(ue [(5, (I i_)), (4, (.c (.ref 0 2 0 0))), (0, (S s_))]), (upd (upd e0 0 (some (.bld 90 zb 1 b_.length))) 1 (bufB zb 5 b_)), 2⟩
abbrev Z71 (s_ : Tx) (F_ : Tx → Int → Option (Tx × Int)) (o : (Tx × Int)) (R_ : St → Prop) : Prop := ∀ (b_ : Tx) (i_ : Int) (zb : Bool) (_ : zb = true → b_ = []), F_ b_ i_ = some o → ∀ s, Weak 0 s ⟨(ue [(5, (I i_)), (4, (.c (.ref 0 2 0 0))), (0, (S s_))]), (upd (upd e0 0 (some (.bld 90 zb 1 b_.length))) 1 (bufB zb 5 b_)), 2⟩ → R_ s
noncomputable def Zl (s_ : Tx) (K0_ : Tx → Int → Option (Tx × Int)) : Nat → Tx → Int → Option (Tx × Int)
 | 0, _, _ => none
 | k + 1, b_, i_ =>
  if decide (i_ < (s_.length : Int)) then
   (sub? s_ i_ (s_.length : Int)).bind fun r_ =>
   (Z10 r_).bind fun r_1 =>
   if r_1 then
    (at? s_ (wi (i_ + 1))).bind fun c_ =>
    (Z1l b_ (c_.toNat : Int)).bind fun r_2 =>
    (Zl s_ K0_ k) r_2 (wi (i_ + 2))
   else
    (at? s_ i_).bind fun c_1 =>
    if (Z17 (c_1.toNat : Int)) then
     (at? s_ i_).bind fun c_2 =>
     (Z1l b_ (c_2.toNat : Int)).bind fun r_3 =>
     (Zl s_ K0_ k) r_3 (wi (i_ + 1))
    else
     some (b_, i_)
  else
   K0_ b_ i_
theorem Z72 {mL : Int} {Q : AExit → St → Prop} {s_ : Tx} {K0_ : Tx → Int → Option (Tx × Int)} {k : Nat} {b_ : Tx} {i_ : Int} {zb : Bool} (hzb : zb = true → b_ = []) {o : (Tx × Int)} (h : Zl s_ K0_ k b_ i_ = some o)
  (hK0 : Z70 K0_ o (Q (.exit 0)))
  (hr : ∀ s, Ends a51.results 0 (Z4i o) .ret s → Q .ret s) :
  Sv Tryz.prog (GG mL) 0 (.loop a51_c0) Q ⟨(ue [(5, (I i_)), (4, (.c (.ref 0 2 0 0))), (0, (S s_))]), (upd (upd e0 0 (some (.bld 90 zb 1 b_.length))) 1 (bufB zb 5 b_)), 2⟩ := by
 refine Sv.loop (I := Z4j s_ (Zl s_ K0_) o) (fun k s hI => ?_) ⟨b_, i_, zb, hzb, h, rfl⟩
 clear h
 clear hzb zb i_ b_
 obtain ⟨b_, i_, zb, hzb, h, rfl⟩ := hI
 cases k with
 | zero => cases h
 | succ k =>
 rw [Zl] at h
 have hself : Z71 s_ (Zl s_ K0_ k) o (rnd 0 (Z4j s_ (Zl s_ K0_) o) k Q) := fun b_ i_ zb hzb h s hw => ⟨_, k, hw, Nat.lt_succ_self k, b_, i_, zb, hzb, h, rfl⟩
 refine Sv.seq <| ssr <| un1 rfl <| un1 rfl <| un1 (v := (I (s_.length : Int))) rfl <| un1 (v := (B (decide (i_ < (s_.length : Int))))) rfl <| dnil ?_
 refine Sv.cnd rfl h (fun h => ?_) fun h => ?_
 ·refine Sv.skip <| Sv.block <| Sv.block <| ssr <| un1 rfl <| un1 rfl ?_
  obtain ⟨r_, hx1, h⟩ := bnd h
  refine un1 (v := (S r_)) (s_slStr rfl rfl rfl hx1) ?_
  obtain ⟨r_1, hr1, h⟩ := bnd h
  refine un <| ac_pure (Z30 hr1) rfl rfl rfl <| un1 rfl <| dnil ?_
  refine Sv.cnd rfl h (fun h => ?_) fun h => ?_
  ·refine ssr <| un1 rfl <| un1 rfl <| un1 (v := (I (wi (i_ + 1)))) rfl ?_
   obtain ⟨c_, hx2, h⟩ := bnd h
   refine un1 (v := (.c (.val (.int .u8 (c_.toNat : Int))))) (s_idxS rfl rfl hx2) ?_
   obtain ⟨r_2, hr2, h⟩ := bnd h
   refine un <| ac_gen (bs := [0, 1]) («as» := [(.c (.ref 0 2 0 0)), (.c (.val (.int .u8 (c_.toNat : Int))))]) (h2 := _) (h1 := (upd (upd e0 0 (some (.bld 90 zb 1 b_.length))) 1 (bufB zb 5 b_))) (Z2z (z := zb) (l := b_) hzb hr2) rfl (.cons (.c (.ref rfl (by decide))) (.cons (avAs_free rfl) .nil)) (hsub_refl _) (.cons rfl (.cons rfl (.nil _))) hcs (by decide) (by decide) (.cons (.c (.ref rfl (by decide))) (.cons (avAs_free rfl) .nil)) (.buf (by decide) rfl (.box (by decide) rfl (.bld rfl (by decide)) .nil)) ?_
   rintro _ _ _ hn ⟨z_, hz_, rfl, rfl, rfl⟩
   refine ⟨.inl rfl, (upd (upd (rem [0, 1] _) 0 (some (.bld 90 z_ 2 r_2.length))) 2 (bufB z_ 5 r_2)), fun hbd => (m3_cons (m3_buf rfl) (m3_cons (m3_box rfl rfl) (m3_rem (in_cons (by decide) (in_cons (by decide) (in_nil _))) (.cons (by decide) (.cons (by decide) .nil)) hbd))), (.c (.val .nilIface)), 3, (by cases z_ <;> rfl), rfl, ?_⟩
   refine dnil <| srg <| un1 rfl <| un1 (v := (I (wi (i_ + 2)))) rfl <| un1 rfl <| dnil ?_
   exact hself r_2 (wi (i_ + 2)) z_ hz_ h _ (wcn [0, 2] rfl (.cf rfl rfl (.cr rfl rfl rfl (.cf rfl rfl .nil))) (.buf (by decide) rfl (.box (by decide) rfl (.bld rfl (by decide)) .nil)))
  ·refine ssr <| un1 rfl <| un1 rfl ?_
   obtain ⟨c_1, hx3, h⟩ := bnd h
   refine un1 (v := (.c (.val (.int .u8 (c_1.toNat : Int))))) (s_idxS rfl rfl hx3) <| un <| ac_pure (Z4g (mL := mL) (c_1.toNat : Int)) rfl rfl rfl <| un1 rfl <| dnil ?_
   refine Sv.cnd rfl h (fun h => ?_) fun h => ?_
   ·refine ssr <| un1 rfl <| un1 rfl ?_
    obtain ⟨c_2, hx4, h⟩ := bnd h
    refine un1 (v := (.c (.val (.int .u8 (c_2.toNat : Int))))) (s_idxS rfl rfl hx4) ?_
    obtain ⟨r_3, hr3, h⟩ := bnd h
    refine un <| ac_gen (bs := [0, 1]) («as» := [(.c (.ref 0 2 0 0)), (.c (.val (.int .u8 (c_2.toNat : Int))))]) (h2 := _) (h1 := (upd (upd e0 0 (some (.bld 90 zb 1 b_.length))) 1 (bufB zb 5 b_))) (Z2z (z := zb) (l := b_) hzb hr3) rfl (.cons (.c (.ref rfl (by decide))) (.cons (avAs_free rfl) .nil)) (hsub_refl _) (.cons rfl (.cons rfl (.nil _))) hcs (by decide) (by decide) (.cons (.c (.ref rfl (by decide))) (.cons (avAs_free rfl) .nil)) (.buf (by decide) rfl (.box (by decide) rfl (.bld rfl (by decide)) .nil)) ?_
    rintro _ _ _ hn ⟨z_1, hz_1, rfl, rfl, rfl⟩
    refine ⟨.inl rfl, (upd (upd (rem [0, 1] _) 0 (some (.bld 90 z_1 2 r_3.length))) 2 (bufB z_1 5 r_3)), fun hbd => (m3_cons (m3_buf rfl) (m3_cons (m3_box rfl rfl) (m3_rem (in_cons (by decide) (in_cons (by decide) (in_nil _))) (.cons (by decide) (.cons (by decide) .nil)) hbd))), (.c (.val .nilIface)), 3, (by cases z_1 <;> rfl), rfl, ?_⟩
    refine dnil <| srg <| un1 rfl <| un1 (v := (I (wi (i_ + 1)))) rfl <| un1 rfl <| dnil ?_
    exact hself r_3 (wi (i_ + 1)) z_1 hz_1 h _ (wcn [0, 2] rfl (.cf rfl rfl (.cr rfl rfl rfl (.cf rfl rfl .nil))) (.buf (by decide) rfl (.box (by decide) rfl (.bld rfl (by decide)) .nil)))
   ·refine ssr <| un <| ac_gen (bs := [0, 1]) («as» := [(.c (.ref 0 2 0 0))]) (h2 := _) (h1 := (upd (upd e0 0 (some (.bld 90 zb 1 b_.length))) 1 (bufB zb 5 b_))) (Z3e (z := zb) (l := b_) hzb) rfl (.cons (.c (.ref rfl (by decide))) .nil) (hsub_refl _) (.cons rfl (.cons rfl (.nil _))) hcs (by decide) (by decide) (.cons (.c (.ref rfl (by decide))) .nil) (.buf (by decide) rfl (.box (by decide) rfl (.bld rfl (by decide)) .nil)) ?_
    rintro _ _ _ hn ⟨rfl, rfl, rfl⟩
    refine ⟨.inl rfl, (rem [0, 1] _), fun hbd => (m3_rem (in_cons (by decide) (in_cons (by decide) (in_nil _))) (.nil) hbd), (S b_), 2, rfl, rfl, ?_⟩
    refine un1 rfl <| un1 rfl <| un1 rfl <| dnil <| Sv.ret ?_
    exact hr _ (rt0 h rfl rfl ⟨rfl, rfl, rfl⟩)
 ·refine Sv.exit ?_
  exact hK0 b_ i_ zb hzb h _ (wcn [0, 1] rfl (.cf rfl rfl (.cr rfl rfl rfl .nil)) (.buf (by decide) rfl (.box (by decide) rfl (.bld rfl (by decide)) .nil)))
/-- clerestory/csstok.name -/
noncomputable def Z1n (s_ : Tx) : Option (Tx × Int) :=
 limF fun kk => Zl s_ (fun (b_1 : Tx) (i_1 : Int) => 
   some (b_1, i_1)) kk ([] : List UInt8) 0
theorem Z4k {mL : Int} {s_ : Tx} {r : (Tx × Int)} (h : Z1n s_ = some r) : CPure Tryz.prog (GG mL) 51 [(S s_)] (.tup [(S r.1), (I r.2)]) := by
 refine acalls_of_sv hmix c51 (R := Z4i r) ?_
 unfold Z1n at h
 refine ssr <| un1 rfl <| un1 rfl <| dnil <| ssr <| un <| a2v (v := (.c (.ref 1 2 0 0))) (h' := upd _ 1 (some (.bld 90 true 0 ([] : List UInt8).length))) (n' := 2) rfl rfl hcs <| dnil <| ssr <| un1 rfl <| dnil <| Sv.seq <| Sv.block ?_
 obtain ⟨kk, h⟩ := limF_some h
 refine Sv.weak (wcn [1, 1000] rfl (.cf rfl rfl (.cr rfl rfl rfl (.cf rfl rfl .nil))) (.nonB (by decide) (.box (by decide) rfl (.bldN (by decide)) .nil))) (Z72 (fun _ => rfl) h ?_ (fun s hs => hs))
 ·intro b_1 i_1 zb_1 hzb_1 h _ hw1
  refine Sv.weak hw1 <| ssr <| un <| ac_gen (bs := [0, 1]) («as» := [(.c (.ref 0 2 0 0))]) (h2 := _) (h1 := (upd (upd e0 0 (some (.bld 90 zb_1 1 b_1.length))) 1 (bufB zb_1 5 b_1))) (Z3e (z := zb_1) (l := b_1) hzb_1) rfl (.cons (.c (.ref rfl (by decide))) .nil) (hsub_refl _) (.cons rfl (.cons rfl (.nil _))) hcs (by decide) (by decide) (.cons (.c (.ref rfl (by decide))) .nil) (.buf (by decide) rfl (.box (by decide) rfl (.bld rfl (by decide)) .nil)) ?_
  rintro _ _ _ hn ⟨rfl, rfl, rfl⟩
  refine ⟨.inl rfl, (rem [0, 1] _), fun hbd => (m3_rem (in_cons (by decide) (in_cons (by decide) (in_nil _))) (.nil) hbd), (S b_1), 2, rfl, rfl, ?_⟩
  refine un1 rfl <| un1 rfl <| un1 rfl <| dnil <| Sv.ret ?_
  exact rt0 h rfl rfl ⟨rfl, rfl, rfl⟩
def a33 : AFunc := ⟨3, [(.cell true 4 6)], (sr [(oP 6 (.box (.const (.agg [(.val (.int .i64 0)), (.str []), (.str []), (.val (.int .i64 0))]))))]
 (sr [(mV 10 1), (mV 11 2), (oP 12 (.slStr (.tmp 10) (some (.tmp 11)) none)), (oP 13 (.call 51 [(.tmp 12)])), (mV 9 13), (oP 14 (.ext (.tmp 9) 0)), (oP 15 (.ext (.tmp 9) 1)), (mV 7 14), (mV 8 15)]
 (sr [(mV 16 0), (mV 17 1), (mV 18 2), (mV 19 8), (oP 20 (.bin .add (.tmp 18) (.tmp 19))), (oP 21 (.slStr (.tmp 17) none (some (.tmp 20)))), (mV 22 7), (oP 23 (.build [(.val (.int .i64 0)), (.str []), (.str []), (.val (.int .i64 0))] [(0, (1, (.tmp 16))), (1, (1, (.tmp 21))), (2, (1, (.tmp 22)))])), (oN (.store 4 (.tmp 6) (.tmp 23)))]
 .ret)))⟩
theorem c33 : compFunc Tryz.prog 33 = some a33 := by kernel_rfl
def Z73 (r : TSToken) : AV → Heap → Nat → Prop := fun v h' n' => v = (.agg (e_TSToken r)) ∧ (h' = e0) ∧ n' = 0
/-- clerestory/csstok.named -/
noncomputable def Zm (kind : Int) (s_ : Tx) (ahead : Int) : Option TSToken :=
 (sub? s_ ahead (s_.length : Int)).bind fun r_ =>
 (Z1n r_).bind fun r_1 =>
 (sub? s_ 0 (wi (ahead + r_1.2))).bind fun r_2 =>
 some (⟨kind, r_2, r_1.1, 0⟩ : TSToken)
theorem Z3i {mL : Int} {kind : Int} {s_ : Tx} {ahead : Int} {r : TSToken} (h : Zm kind s_ ahead = some r) : CPure Tryz.prog (GG mL) 33 [(I kind), (S s_), (I ahead)] (.agg (e_TSToken r)) := by
 refine acalls_of_sv hmix c33 (R := Z73 r) ?_
 unfold Zm at h
 refine ssr <| un <| a2v (v := (.c (.ref 0 4 0 0))) (h' := upd _ 0 (some (.cells 4 [[cI 0, .str [], .str [], cI 0]]))) (n' := 1) rfl rfl hcs <| dnil <| ssr <| un1 rfl <| un1 rfl ?_
 obtain ⟨r_, hx1, h⟩ := bnd h
 refine un1 (v := (S r_)) (s_slStr rfl rfl rfl hx1) ?_
 obtain ⟨r_1, hr1, h⟩ := bnd h
 refine un <| ac_pure (Z4k hr1) rfl rfl rfl <| un1 rfl <| un1 (v := (S r_1.1)) rfl <| un1 (v := (I r_1.2)) rfl <| un1 rfl <| un1 rfl <| dnil <| ssr <| un1 rfl <| un1 rfl <| un1 rfl <| un1 rfl <| un1 (v := (I (wi (ahead + r_1.2)))) rfl ?_
 obtain ⟨r_2, hx2, h⟩ := bnd h
 refine un1 (v := (S r_2)) (s_slStr rfl rfl rfl hx2) <| un1 rfl <| un1 (v := (.agg [cI kind, .str r_2, .str r_1.1, cI 0])) rfl <| un <| a2n (h' := upd _ 0 (some (.cells 4 [[cI kind, .str r_2, .str r_1.1, cI 0]]))) (n' := 1) rfl rfl hcs <| dnil <| Sv.ret ?_
 exact rt0 h rfl rfl ⟨rfl, rfl, rfl⟩
def a34_c0 : ACode := .ret
def a34_c2 : ACode := .ret
def a34_c1 : ACode := (sr [(mV 26 0), (oP 27 (.idxS (.tmp 26) (kI 0))), (oP 28 (.call 49 [(.tmp 27)])), (mV 29 28), ⟨(some 30), (.mov (.tmp 0)), (some (29, false))⟩, ⟨(some 31), (.call 32 [(.tmp 30)]), (some (29, false))⟩, (oP 32 (.pick (.tmp 29) kT (.tmp 31))), (mV 2 32)]
 a34_c2)
def a34 : AFunc := ⟨1, [(.tmp 2)], (sr [(oP 2 (.mov kF))]
 (.seq (sr [(mV 3 0), (oP 4 (.bin .eql (.tmp 3) (.const (.c (.str [])))))]
 (.cond (.tmp 4) (sr [(oP 2 (.mov kF))]
 .ret) .skip))
 (.seq (sr [(mV 5 0), (oP 6 (.idxS (.tmp 5) (kI 0))), (oP 7 (.bin .eql (.tmp 6) (.const (.c (.val (.int .u8 45)))))), (mV 8 7), ⟨(some 9), (.mov (.tmp 0)), (some (8, true))⟩, ⟨(some 10), (.lenS (.tmp 9)), (some (8, true))⟩, ⟨(some 11), (.bin .gtr (.tmp 10) (kI 1)), (some (8, true))⟩, (oP 12 (.pick (.tmp 8) (.tmp 11) kF))]
 (.cond (.tmp 12) (sr [(mV 13 0), (oP 14 (.idxS (.tmp 13) (kI 1))), (oP 15 (.bin .eql (.tmp 14) (.const (.c (.val (.int .u8 45)))))), (mV 16 15), ⟨(some 17), (.mov (.tmp 0)), (some (16, false))⟩, ⟨(some 18), (.idxS (.tmp 17) (kI 1)), (some (16, false))⟩, ⟨(some 19), (.call 49 [(.tmp 18)]), (some (16, false))⟩, (oP 20 (.pick (.tmp 16) kT (.tmp 19))), (mV 21 20), ⟨(some 22), (.mov (.tmp 0)), (some (21, false))⟩, ⟨(some 23), (.slStr (.tmp 22) (some (kI 1)) none), (some (21, false))⟩, ⟨(some 24), (.call 32 [(.tmp 23)]), (some (21, false))⟩, (oP 25 (.pick (.tmp 21) kT (.tmp 24))), (mV 2 25)]
 a34_c0) .skip))
 a34_c1)))⟩
theorem c34 : compFunc Tryz.prog 34 = some a34 := by kernel_rfl
def Z31 (r : Bool) : AV → Heap → Nat → Prop := fun v h' n' => v = (B r) ∧ (h' = e0) ∧ n' = 0
abbrev Z74 (mL : Int) (o : Bool) : AExit → St → Prop := AThen (Sv Tryz.prog (GG mL) 0 a34_c1 (Ends a34.results 0 (Z31 o))) (Ends a34.results 0 (Z31 o))
noncomputable def Z1o (v2 : Bool) : Option Bool :=
 some v2
theorem Z3j {mL : Int} {v2 : Bool} {o : Bool} (h : Z1o v2 = some o) :
  Sv Tryz.prog (GG mL) 0 a34_c0 (Z74 mL o) ⟨(upd e0 2 (some (B v2))), e0, 0⟩ := by
 unfold Z1o at h
 refine Sv.ret ?_
 exact rt0 h rfl rfl ⟨rfl, rfl, rfl⟩
noncomputable def Z2c (v21 : Bool) : Option Bool :=
 some v21
theorem Z4l {mL : Int} {v21 : Bool} {o : Bool} (h : Z2c v21 = some o) :
  Sv Tryz.prog (GG mL) 0 a34_c2 (Ends a34.results 0 (Z31 o)) ⟨(upd e0 2 (some (B v21))), e0, 0⟩ := by
 unfold Z2c at h
 refine Sv.ret ?_
 exact rt0 h rfl rfl ⟨rfl, rfl, rfl⟩
/-- clerestory/csstok.begins -/
noncomputable def Z18 (s_ : Tx) : Option Bool :=
 if decide (s_ = []) then
  some false
 else
  (at? s_ 0).bind fun c_ =>
  if ((decide ((c_.toNat : Int) = 45)) && (decide (1 < (s_.length : Int)))) then
   (at? s_ 1).bind fun c_1 =>
   if decide ((c_1.toNat : Int) = 45) then
    Z1o true
   else
    (at? s_ 1).bind fun c_2 =>
    if (Zb (c_2.toNat : Int)) then
     Z1o true
    else
     (sub? s_ 1 (s_.length : Int)).bind fun r_ =>
     (Z10 r_).bind fun r_1 =>
     Z1o r_1
  else
   (at? s_ 0).bind fun c_3 =>
   if (Zb (c_3.toNat : Int)) then
    Z2c true
   else
    (Z10 s_).bind fun r_2 =>
    Z2c r_2
theorem Z3k {mL : Int} {s_ : Tx} {r : Bool} (h : Z18 s_ = some r) : CPure Tryz.prog (GG mL) 34 [(S s_)] (B r) := by
 refine acalls_of_sv hmix c34 (R := Z31 r) ?_
 unfold Z18 at h
 refine ssr <| un1 rfl <| dnil <| Sv.seq <| ssr <| un1 rfl <| un1 (v := (B (decide (s_ = [])))) rfl <| dnil ?_
 refine Sv.cnd rfl h (fun h => ?_) fun h => ?_
 ·refine ssr <| un1 rfl <| dnil <| Sv.ret ?_
  exact rt0 h rfl rfl ⟨rfl, rfl, rfl⟩
 ·refine Sv.skip <| Sv.seq <| ssr <| un1 rfl ?_
  obtain ⟨c_, hx1, h⟩ := bnd h
  refine un1 (v := (.c (.val (.int .u8 (c_.toNat : Int))))) (s_idxS rfl rfl hx1) <| un1 (v := (B (decide ((c_.toNat : Int) = 45)))) rfl <| un1 rfl ?_
  refine gjoin 4 (d := 12) (v := (B ((decide ((c_.toNat : Int) = 45)) && (decide (1 < (s_.length : Int)))))) (fun X hX => ?_) ?_
  ·refine split2 (fun hc2 => ?_) (fun hc2 => ?_)
   ·refine gt rfl <| a1 rfl <| gt rfl <| a1 (v := (I (s_.length : Int))) rfl <| gt rfl <| a1 (v := (B (decide (1 < (s_.length : Int))))) rfl <| un1 (v := (B (decide (1 < (s_.length : Int))))) rfl <| dnil ?_
    exact hX _ (.putEq (by rw [hc2]; rfl) (.skp (.skp (.skp (.putEq (by rw [hc2]) (.refl _)) rfl) rfl) rfl))
   ·refine gs rfl rfl <| gs rfl rfl <| gs rfl rfl <| un1 (v := (B false)) rfl <| dnil ?_
    exact hX _ (.putEq (by rw [hc2]; rfl) (.skp (.skp (.skp (.putEq (by rw [hc2]) (.refl _)) rfl) rfl) rfl))
  refine dnil ?_
  refine Sv.cnd rfl h (fun h => ?_) fun h => ?_
  ·refine ssr <| un1 rfl ?_
   obtain ⟨c_1, hx2, h⟩ := bnd h
   refine un1 (v := (.c (.val (.int .u8 (c_1.toNat : Int))))) (s_idxS rfl rfl hx2) <| un1 (v := (B (decide ((c_1.toNat : Int) = 45)))) rfl <| un1 rfl ?_
   refine spl h (fun h => ?_) fun h => ?_
   ·refine gs rfl rfl <| gs rfl rfl <| gs rfl rfl <| un1 (v := (B true)) rfl <| un1 rfl <| gs rfl rfl <| gs rfl rfl <| gs rfl rfl <| un1 (v := (B true)) rfl <| un1 rfl <| dnil ?_
    exact Sv.weak (wcn [] rfl (.cf rfl rfl .nil) .nil) (Z3j h)
   ·refine gt rfl <| a1 rfl ?_
    obtain ⟨c_2, hx3, h⟩ := bnd h
    refine gt rfl <| a1 (v := (.c (.val (.int .u8 (c_2.toNat : Int))))) (s_idxS rfl rfl hx3) <| gt rfl <| ac_pure (Z3g (mL := mL) (c_2.toNat : Int)) rfl rfl rfl <| un1 (v := (B (Zb (c_2.toNat : Int)))) rfl <| un1 rfl ?_
    refine spl h (fun h => ?_) fun h => ?_
    ·refine gs rfl rfl <| gs rfl rfl <| gs rfl rfl <| un1 (v := (B true)) rfl <| un1 rfl <| dnil ?_
     exact Sv.weak (wcn [] rfl (.cf rfl rfl .nil) .nil) (Z3j h)
    ·refine gt rfl <| a1 rfl ?_
     obtain ⟨r_, hx4, h⟩ := bnd h
     refine gt rfl <| a1 (v := (S r_)) (s_slStr rfl rfl rfl hx4) ?_
     obtain ⟨r_1, hr1, h⟩ := bnd h
     refine gt rfl <| ac_pure (Z30 hr1) rfl rfl rfl <| un1 (v := (B r_1)) rfl <| un1 rfl <| dnil ?_
     exact Sv.weak (wcn [] rfl (.cf rfl rfl .nil) .nil) (Z3j h)
  ·refine Sv.skip <| ssr <| un1 rfl ?_
   obtain ⟨c_3, hx5, h⟩ := bnd h
   refine un1 (v := (.c (.val (.int .u8 (c_3.toNat : Int))))) (s_idxS rfl rfl hx5) <| un <| ac_pure (Z3g (mL := mL) (c_3.toNat : Int)) rfl rfl rfl <| un1 rfl ?_
   refine spl h (fun h => ?_) fun h => ?_
   ·refine gs rfl rfl <| gs rfl rfl <| un1 (v := (B true)) rfl <| un1 rfl <| dnil ?_
    exact Sv.weak (wcn [] rfl (.cf rfl rfl .nil) .nil) (Z4l h)
   ·refine gt rfl <| a1 rfl ?_
    obtain ⟨r_2, hr2, h⟩ := bnd h
    refine gt rfl <| ac_pure (Z30 hr2) rfl rfl rfl <| un1 (v := (B r_2)) rfl <| un1 rfl <| dnil ?_
    exact Sv.weak (wcn [] rfl (.cf rfl rfl .nil) .nil) (Z4l h)
def a52 : AFunc := ⟨1, [(.tmp 2)], (sr [(oP 2 (.mov (kI 0)))]
 (sr [(mV 3 0), (oP 4 (.lenS (.tmp 3))), (mV 5 0), (oP 6 (.call 27 [(.tmp 5), (.const (.c (.str [48, 49, 50, 51, 52, 53, 54, 55, 56, 57])))])), (oP 7 (.lenS (.tmp 6))), (oP 8 (.bin .sub (.tmp 4) (.tmp 7))), (mV 2 8)]
 .ret))⟩
theorem c52 : compFunc Tryz.prog 52 = some a52 := by kernel_rfl
def Z75 (r : Int) : AV → Heap → Nat → Prop := fun v h' n' => v = (I r) ∧ (h' = e0) ∧ n' = 0
/-- clerestory/csstok.digits -/
noncomputable def Z1p (s_ : Tx) : Option Int :=
 (Z28 s_ [48, 49, 50, 51, 52, 53, 54, 55, 56, 57]).bind fun r_ =>
 some (wi ((s_.length : Int) - (r_.length : Int)))
theorem Z4m {mL : Int} {s_ : Tx} {r : Int} (h : Z1p s_ = some r) : CPure Tryz.prog (GG mL) 52 [(S s_)] (I r) := by
 refine acalls_of_sv hmix c52 (R := Z75 r) ?_
 unfold Z1p at h
 refine ssr <| un1 rfl <| dnil <| ssr <| un1 rfl <| un1 (v := (I (s_.length : Int))) rfl <| un1 rfl ?_
 obtain ⟨r_, hr1, h⟩ := bnd h
 refine un <| ac_pure (Z48 hr1) rfl rfl rfl <| un1 (v := (I (r_.length : Int))) rfl <| un1 (v := (I (wi ((s_.length : Int) - (r_.length : Int))))) rfl <| un1 rfl <| dnil <| Sv.ret ?_
 exact rt0 h rfl rfl ⟨rfl, rfl, rfl⟩
def a37 : AFunc := ⟨2, [(.tmp 4)], (sr [(oP 4 (.mov kF))]
 (sr [(mV 5 0), (mV 6 1), (oP 7 (.call 55 [(.tmp 5), (.tmp 6)])), (mV 4 7)]
 .ret))⟩
theorem c37 : compFunc Tryz.prog 37 = some a37 := by kernel_rfl
def Z76 (r : Bool) : AV → Heap → Nat → Prop := fun v h' n' => v = (B r) ∧ (h' = e0) ∧ n' = 0
/-- strings.HasPrefix -/
noncomputable def Z11 (s_ : Tx) (prefix_ : Tx) : Option Bool :=
 (Z1k s_ prefix_).bind fun r_ =>
 some r_
theorem Z3l {mL : Int} {s_ : Tx} {prefix_ : Tx} {r : Bool} (h : Z11 s_ prefix_ = some r) : CPure Tryz.prog (GG mL) 37 [(S s_), (S prefix_)] (B r) := by
 refine acalls_of_sv hmix c37 (R := Z76 r) ?_
 unfold Z11 at h
 refine ssr <| un1 rfl <| dnil <| ssr <| un1 rfl <| un1 rfl ?_
 obtain ⟨r_, hr1, h⟩ := bnd h
 refine un <| ac_pure (Z4b hr1) rfl rfl rfl <| un1 rfl <| dnil <| Sv.ret ?_
 exact rt0 h rfl rfl ⟨rfl, rfl, rfl⟩
def a53 : AFunc := ⟨2, [], (.region [(oP 3 (.load false 1 (.tmp 1))), (oP 4 (.bin .mul (kI 10) (.tmp 3))), (mV 5 0), (oP 6 (.bin .sub (.tmp 5) (.const (.c (.val (.int .u8 48)))))), (oP 7 (.conv .i64 (.tmp 6))), (oP 8 (.bin .add (.tmp 4) (.tmp 7))), (oP 9 (.mm false [(.tmp 8), (kI 1000000000)])), (oN (.store 1 (.tmp 1) (.tmp 9)))])⟩
theorem c53 : compFunc Tryz.prog 53 = some a53 := by kernel_rfl
def Z4n (r : Int) : AV → Heap → Nat → Prop := fun v h' n' => v = (.tup []) ∧ (h' = (upd e0 0 (some (.cells 1 [[cI r]])))) ∧ n' = 1
/-- clerestory/csstok.Number$1 -/
noncomputable def Z19 (c_ : Int) (v1 : Int) : Option Int :=
 some (mn (wi ((wi (10 * v1)) + (wr .i64 (wr .u8 (c_ - 48))))) 1000000000)
theorem Z3m {mL : Int} {c_ : Int} {v1 : Int} {r : Int} (h : Z19 c_ v1 = some r) : ACalls Tryz.prog (GG mL) 53 [(.c (.val (.int .u8 c_))), (.c (.ref 0 1 0 0))] (upd e0 0 (some (.cells 1 [[cI v1]]))) 1 (Z4n r) := by
 refine acalls_of_sv hmix c53 (R := Z4n r) ?_
 unfold Z19 at h
 refine srg <| un1 (v := (I v1)) rfl <| un1 (v := (I (wi (10 * v1)))) rfl <| un1 rfl <| un1 (v := (.c (.val (.int .u8 (wr .u8 (c_ - 48)))))) rfl <| un1 (v := (I (wr .i64 (wr .u8 (c_ - 48))))) rfl <| un1 (v := (I (wi ((wi (10 * v1)) + (wr .i64 (wr .u8 (c_ - 48))))))) rfl <| un1 (v := (I (mn (wi ((wi (10 * v1)) + (wr .i64 (wr .u8 (c_ - 48))))) 1000000000))) (s_mn rfl rfl) <| un <| a2n (h' := upd _ 0 (some (.cells 1 [[cI (mn (wi ((wi (10 * v1)) + (wr .i64 (wr .u8 (c_ - 48))))) 1000000000)]]))) (n' := 1) rfl rfl hcs <| dnil ?_
 replace h := Option.some.inj h
 subst h
 exact ⟨_, .refl _, _, rfl, ⟨upd e0 0 (some (.tup [])), (upd e0 0 (some (.cells 1 [[cI (mn (wi ((wi (10 * v1)) + (wr .i64 (wr .u8 (c_ - 48))))) 1000000000)]]))), 1⟩, (.tup []), weak_canon2 [0] [0] (by decide) (by decide) (by decide) (.cons (by decide) .nil) (.cons rfl (avAs_tup .nil) .nil) (.box (by decide) rfl (blkAs_cells (.sm rfl .nil)) .nil), rfl, rfl, rfl, rfl⟩
def a35_c0 : ACode := (.cond (.tmp 26) (.region [(oP 4 (.mov (kI 1)))]) .skip)
def a35_c3 : ACode := (sr [(oP 55 (.bin .lss (.tmp 54) (.tmp 53)))]
 (.seq (.cond (.tmp 55) .skip (.exit 0))
 (.seq (.block 1 (sr [(oP 56 (.iaddr 1 (.tmp 52) (.tmp 54))), (oP 57 (.load false 1 (.tmp 56))), (mV 11 57)]
 (.region [(mV 58 9), (mV 59 11), (oP 60 (.callv (.tmp 58) [(.tmp 59)]))])))
 (.region [(oP 61 (.bin .add (.tmp 54) (kI 1))), (mV 54 61)]))))
def a35_c5 : ACode := (.region [(oP 93 (.bin .add (.tmp 79) (kI 1))), (mV 79 93)])
def a35_c6 : ACode := (sr [(oP 80 (.bin .lss (.tmp 79) (kI 3)))]
 (.seq (.cond (.tmp 80) .skip (.exit 2))
 (.seq (.block 3 (sr [(mV 81 79), (mV 14 81)]
 (sr [(mV 82 14), (mV 83 13), (oP 84 (.lenS (.tmp 83))), (oP 85 (.bin .lss (.tmp 82) (.tmp 84)))]
 (.cond (.tmp 85) (.region [(mV 86 9), (mV 87 13), (mV 88 14), (oP 89 (.idxS (.tmp 87) (.tmp 88))), (oP 90 (.callv (.tmp 86) [(.tmp 89)]))]) (.region [(mV 91 9), (oP 92 (.callv (.tmp 91) [(.const (.c (.val (.int .u8 48))))]))])))))
 a35_c5)))
def a35_c7 : ACode := (sr [(oP 99 (.load false 1 (.tmp 8))), (mV 100 12), (mV 2 99), (mV 3 100)]
 .ret)
def a35_c4 : ACode := (.seq (sr [(oP 79 (.mov (kI 0)))]
 (.block 2 (.loop a35_c6)))
 (.seq (sr [(mV 94 0), (oP 95 (.idxS (.tmp 94) (kI 0))), (oP 96 (.bin .eql (.tmp 95) (.const (.c (.val (.int .u8 45))))))]
 (.cond (.tmp 96) (.region [(oP 97 (.load false 1 (.tmp 8))), (oP 98 (.un .neg (.tmp 97))), (oN (.store 1 (.tmp 8) (.tmp 98)))]) .skip))
 a35_c7))
def a35_c2 : ACode := (.seq (sr [(mV 41 5), (mV 42 6), (oP 43 (.bin .add (.tmp 41) (.tmp 42))), (oP 44 (.bin .eql (.tmp 43) (kI 0)))]
 (.cond (.tmp 44) (sr [(oP 2 (.mov (kI 0))), (oP 3 (.mov (kI 0)))]
 .ret) .skip))
 (sr [(oP 8 (.box (kI 0))), (oN (.store 1 (.tmp 8) (kI 0)))]
 (sr [(oP 45 (.mkfn (.func 53) [] [(.tmp 8)])), (mV 9 45)]
 (.seq (sr [(mV 46 0), (mV 47 4), (mV 48 4), (mV 49 5), (oP 50 (.bin .add (.tmp 48) (.tmp 49))), (oP 51 (.slStr (.tmp 46) (some (.tmp 47)) (some (.tmp 50)))), (oP 52 (.toBytes (.tmp 51))), (oP 53 (.len (.tmp 52))), (oP 54 (.mov (kI 0)))]
 (.block 0 (.loop a35_c3)))
 (sr [(mV 62 4), (mV 63 5), (oP 64 (.bin .add (.tmp 62) (.tmp 63))), (mV 12 64)]
 (sr [(oP 13 (.mov (.const (.c (.str [])))))]
 (.seq (sr [(mV 65 6), (oP 66 (.bin .gtr (.tmp 65) (kI 0)))]
 (.cond (.tmp 66) (sr [(mV 67 0), (mV 68 12), (oP 69 (.bin .add (.tmp 68) (kI 1))), (mV 70 12), (oP 71 (.bin .add (.tmp 70) (kI 1))), (mV 72 6), (oP 73 (.bin .add (.tmp 71) (.tmp 72))), (oP 74 (.slStr (.tmp 67) (some (.tmp 69)) (some (.tmp 73)))), (mV 13 74)]
 (.region [(mV 75 12), (mV 76 6), (oP 77 (.bin .add (kI 1) (.tmp 76))), (oP 78 (.bin .add (.tmp 75) (.tmp 77))), (mV 12 78)])) .skip))
 a35_c4)))))))
def a35_c1 : ACode := (sr [(mV 27 0), (mV 28 4), (oP 29 (.slStr (.tmp 27) (some (.tmp 28)) none)), (oP 30 (.call 52 [(.tmp 29)])), (mV 5 30)]
 (sr [(oP 6 (.mov (kI 0)))]
 (.seq (sr [(mV 31 0), (mV 32 4), (mV 33 5), (oP 34 (.bin .add (.tmp 32) (.tmp 33))), (oP 35 (.slStr (.tmp 31) (some (.tmp 34)) none)), (mV 7 35)]
 (sr [(mV 36 7), (oP 37 (.call 37 [(.tmp 36), (.const (.c (.str [46])))]))]
 (.cond (.tmp 37) (.region [(mV 38 7), (oP 39 (.slStr (.tmp 38) (some (kI 1)) none)), (oP 40 (.call 52 [(.tmp 39)])), (mV 6 40)]) .skip)))
 a35_c2)))
def a35 : AFunc := ⟨1, [(.tmp 2), (.tmp 3)], (sr [(oP 2 (.mov (kI 0))), (oP 3 (.mov (kI 0)))]
 (sr [(oP 4 (.mov (kI 0)))]
 (.seq (sr [(mV 15 0), (oP 16 (.bin .neq (.tmp 15) (.const (.c (.str []))))), (mV 17 16), ⟨(some 18), (.mov (.tmp 0)), (some (17, true))⟩, ⟨(some 19), (.idxS (.tmp 18) (kI 0)), (some (17, true))⟩, ⟨(some 20), (.bin .eql (.tmp 19) (.const (.c (.val (.int .u8 43))))), (some (17, true))⟩, ⟨(some 21), (.mov (.tmp 20)), (some (17, true))⟩, ⟨(some 22), (.mov (.tmp 0)), (some (21, false))⟩, ⟨(some 23), (.idxS (.tmp 22) (kI 0)), (some (21, false))⟩, ⟨(some 24), (.bin .eql (.tmp 23) (.const (.c (.val (.int .u8 45))))), (some (21, false))⟩, ⟨(some 25), (.pick (.tmp 21) kT (.tmp 24)), (some (17, true))⟩, (oP 26 (.pick (.tmp 17) (.tmp 25) kF))]
 a35_c0)
 a35_c1)))⟩
theorem c35 : compFunc Tryz.prog 35 = some a35 := by kernel_rfl
def Zn (r : (Int × Int)) : AV → Heap → Nat → Prop := fun v h' n' => v = (.tup [(I r.1), (I r.2)]) ∧ (h' = e0) ∧ n' = 0
abbrev Z77 (s_ : Tx) (from_ : Int) (r_1 : Int) (behind : Int) (F_ : Int → Option (Int × Int)) (o : (Int × Int)) (R_ : St → Prop) : Prop := ∀ (n_1 : Int), F_ n_1 = some o → ∀ s, Weak 0 s ⟨(ue [(9, (.c (.fn (.func 53) [] [.ref 0 1 0 0]))), (8, (.c (.ref 0 1 0 0))), (6, (I behind)), (5, (I r_1)), (4, (I from_)), (0, (S s_))]), (upd e0 0 (some (.cells 1 [[cI n_1]]))), 1⟩ → R_ s
abbrev Z4o (s_ : Tx) (from_ : Int) (r_1 : Int) (behind : Int) (r_2 : Tx) (F_ : Nat → Int → Int → Option (Int × Int)) (o : (Int × Int)) : Nat → St → Prop := fun k s => ∃ (n_ : Int), ∃ (v54 : Int), F_ k n_ v54 = some o ∧ s = ⟨(ue [(54, (I v54)), (53, (I ((ints r_2).length : Int))), (52, (lstV false 1 1 (ints r_2).length)), (9, (.c (.fn (.func 53) [] [.ref 0 1 0 0]))), (8, (.c (.ref 0 1 0 0))), (6, (I behind)), (5, (I r_1)), (4, (I from_)), (0, (S s_))]), (upd (upd e0 0 (some (.cells 1 [[cI n_]]))) 1 (lstB false 1 ((ints r_2).map (eK .u8)))), 2⟩
abbrev Z78 (s_ : Tx) (from_ : Int) (r_1 : Int) (behind : Int) (r_2 : Tx) (F_ : Int → Int → Option (Int × Int)) (o : (Int × Int)) (R_ : St → Prop) : Prop := ∀ (n_ : Int) (v54 : Int), F_ n_ v54 = some o → ∀ s, Weak 0 s ⟨(ue [(54, (I v54)), (53, (I ((ints r_2).length : Int))), (52, (lstV false 1 1 (ints r_2).length)), (9, (.c (.fn (.func 53) [] [.ref 0 1 0 0]))), (8, (.c (.ref 0 1 0 0))), (6, (I behind)), (5, (I r_1)), (4, (I from_)), (0, (S s_))]), (upd (upd e0 0 (some (.cells 1 [[cI n_]]))) 1 (lstB false 1 ((ints r_2).map (eK .u8)))), 2⟩ → R_ s
noncomputable def Zo (r_2 : Tx) (s_ : Tx) (from_ : Int) (r_1 : Int) (behind : Int) (K0_ : Int → Option (Int × Int)) : Nat → Int → Int → Option (Int × Int)
 | 0, _, _ => none
 | k + 1, n_, v54 =>
  if decide (v54 < ((ints r_2).length : Int)) then
   (at? (ints r_2) v54).bind fun x_ =>
   (Z19 x_ n_).bind fun r_3 =>
   (Zo r_2 s_ from_ r_1 behind K0_ k) r_3 (wi (v54 + 1))
  else
   K0_ n_
theorem Z79 {mL : Int} {Q : AExit → St → Prop} {r_2 : Tx} {s_ : Tx} {from_ : Int} {r_1 : Int} {behind : Int} {K0_ : Int → Option (Int × Int)} {k : Nat} {n_ : Int} {v54 : Int} {o : (Int × Int)} (h : Zo r_2 s_ from_ r_1 behind K0_ k n_ v54 = some o)
  (hK0 : Z77 s_ from_ r_1 behind K0_ o (Q (.exit 0)))
  (hr : ∀ s, Ends a35.results 0 (Zn o) .ret s → Q .ret s) :
  Sv Tryz.prog (GG mL) 0 (.loop a35_c3) Q ⟨(ue [(54, (I v54)), (53, (I ((ints r_2).length : Int))), (52, (lstV false 1 1 (ints r_2).length)), (9, (.c (.fn (.func 53) [] [.ref 0 1 0 0]))), (8, (.c (.ref 0 1 0 0))), (6, (I behind)), (5, (I r_1)), (4, (I from_)), (0, (S s_))]), (upd (upd e0 0 (some (.cells 1 [[cI n_]]))) 1 (lstB false 1 ((ints r_2).map (eK .u8)))), 2⟩ := by
 refine Sv.loop (I := Z4o s_ from_ r_1 behind r_2 (Zo r_2 s_ from_ r_1 behind K0_) o) (fun k s hI => ?_) ⟨n_, v54, h, rfl⟩
 clear h
 clear v54 n_
 obtain ⟨n_, v54, h, rfl⟩ := hI
 cases k with
 | zero => cases h
 | succ k =>
 rw [Zo] at h
 have hself : Z78 s_ from_ r_1 behind r_2 (Zo r_2 s_ from_ r_1 behind K0_ k) o (rnd 0 (Z4o s_ from_ r_1 behind r_2 (Zo r_2 s_ from_ r_1 behind K0_) o) k Q) := fun n_ v54 h s hw => ⟨_, k, hw, Nat.lt_succ_self k, n_, v54, h, rfl⟩
 refine ssr <| un1 (v := (B (decide (v54 < ((ints r_2).length : Int))))) rfl <| dnil <| Sv.seq ?_
 refine Sv.cnd rfl h (fun h => ?_) fun h => ?_
 ·refine Sv.skip <| Sv.seq <| Sv.block <| ssr ?_
  obtain ⟨x_, hx3, h⟩ := bnd h
  refine un1 (v := (.c (.ref 1 1 v54.toNat 0))) (s_iaddrL rfl rfl hcs hx3) <| un1 (v := (.c (.val (.int .u8 x_)))) (s_loadL (z := false) (e := (eK .u8)) rfl rfl hcs hx3 rfl rfl) <| un1 rfl <| dnil <| srg <| un1 rfl <| un1 rfl ?_
  obtain ⟨r_3, hr2, h⟩ := bnd h
  refine un <| acv_gen (bs := [0]) («as» := [(.c (.val (.int .u8 x_))), (.c (.ref 0 1 0 0))]) (h2 := _) (h1 := (upd e0 0 (some (.cells 1 [[cI n_]])))) rfl (by kernel_rfl) (Z3m hr2) rfl (.cons (avAs_free rfl) (.cons (.c (.ref rfl (by decide))) .nil)) (hsub_refl _) (.cons rfl (.nil _)) hcs (by decide) (by decide) (.cons (avAs_free rfl) (.cons (.c (.ref rfl (by decide))) .nil)) (.box (by decide) rfl (blkAs_cells (.sm rfl .nil)) .nil) ?_
  rintro _ _ _ hn ⟨rfl, rfl, rfl⟩
  refine ⟨.inl rfl, (upd (rem [0] _) 0 (some (.cells 1 [[cI r_3]]))), fun hbd => (m3_cons (m3_box rfl rfl) (m3_rem (in_cons (by decide) (in_nil _)) (.cons (by decide) .nil) hbd)), (.tup []), 2, rfl, rfl, ?_⟩
  refine dnil <| srg <| un1 (v := (I (wi (v54 + 1)))) rfl <| un1 rfl <| dnil ?_
  exact hself r_3 (wi (v54 + 1)) h _ (wcn [0, 1] rfl (.cf rfl rfl (.cf rfl rfl (.cons rfl (.c (lsr rfl rfl)) (.cons rfl (.c (fn_as .nil (.cons (.ref rfl (by decide)) .nil))) (.cr rfl rfl rfl (.cf rfl rfl (.cf rfl rfl (.cf rfl rfl (.cf rfl rfl .nil))))))))) (.row (by decide) rfl (fr_map fun _ => rfl) (.box (by decide) rfl (blkAs_cells (.sm rfl .nil)) .nil)))
 ·refine Sv.exit ?_
  exact hK0 n_ h _ (wcn [0] rfl (.cons rfl (.c (fn_as .nil (.cons (.ref rfl (by decide)) .nil))) (.cr rfl rfl rfl (.cf rfl rfl (.cf rfl rfl (.cf rfl rfl (.cf rfl rfl .nil)))))) (.box (by decide) rfl (blkAs_cells (.sm rfl .nil)) .nil))
abbrev Z4p (s_ : Tx) (end_ : Int) (frac : Tx) (F_ : Int → Int → Option (Int × Int)) (o : (Int × Int)) (R_ : St → Prop) : Prop := ∀ (n_2 : Int) (v79 : Int), F_ n_2 v79 = some o → ∀ s, Weak 0 s ⟨(ue [(79, (I v79)), (13, (S frac)), (12, (I end_)), (9, (.c (.fn (.func 53) [] [.ref 0 1 0 0]))), (8, (.c (.ref 0 1 0 0))), (0, (S s_))]), (upd e0 0 (some (.cells 1 [[cI n_2]]))), 1⟩ → R_ s
abbrev Z4q (s_ : Tx) (end_ : Int) (F_ : Int → Option (Int × Int)) (o : (Int × Int)) (R_ : St → Prop) : Prop := ∀ (n_3 : Int), F_ n_3 = some o → ∀ s, Weak 0 s ⟨(ue [(12, (I end_)), (8, (.c (.ref 0 1 0 0))), (0, (S s_))]), (upd e0 0 (some (.cells 1 [[cI n_3]]))), 1⟩ → R_ s
noncomputable def Z1q (v79 : Int) (s_ : Tx) (end_ : Int) (frac : Tx) (self : Int → Int → Option (Int × Int)) (K2_ : Int → Option (Int × Int)) (n_4 : Int) : Option (Int × Int) :=
 self n_4 (wi (v79 + 1))
theorem Z4r {mL : Int} {Q : AExit → St → Prop} {v79 : Int} {s_ : Tx} {end_ : Int} {frac : Tx} {self : Int → Int → Option (Int × Int)} {K2_ : Int → Option (Int × Int)} {n_4 : Int} {o : (Int × Int)} (h : Z1q v79 s_ end_ frac self K2_ n_4 = some o)
  (hself : Z4p s_ end_ frac self o (Q .normal))
  (hK2 : Z4q s_ end_ K2_ o (Q (.exit 2)))
  (hr : ∀ s, Ends a35.results 0 (Zn o) .ret s → Q .ret s) :
  Sv Tryz.prog (GG mL) 0 a35_c5 Q ⟨(ue [(79, (I v79)), (13, (S frac)), (12, (I end_)), (9, (.c (.fn (.func 53) [] [.ref 0 1 0 0]))), (8, (.c (.ref 0 1 0 0))), (0, (S s_))]), (upd e0 0 (some (.cells 1 [[cI n_4]]))), 1⟩ := by
 unfold Z1q at h
 refine srg <| un1 (v := (I (wi (v79 + 1)))) rfl <| un1 rfl <| dnil ?_
 exact hself n_4 (wi (v79 + 1)) h _ (wcn [0] rfl (.cf rfl rfl (.cf rfl rfl (.cf rfl rfl (.cons rfl (.c (fn_as .nil (.cons (.ref rfl (by decide)) .nil))) (.cr rfl rfl rfl (.cf rfl rfl .nil)))))) (.box (by decide) rfl (blkAs_cells (.sm rfl .nil)) .nil))
abbrev Z4s (s_ : Tx) (end_ : Int) (frac : Tx) (F_ : Nat → Int → Int → Option (Int × Int)) (o : (Int × Int)) : Nat → St → Prop := fun k s => ∃ (n_2 : Int), ∃ (v79 : Int), F_ k n_2 v79 = some o ∧ s = ⟨(ue [(79, (I v79)), (13, (S frac)), (12, (I end_)), (9, (.c (.fn (.func 53) [] [.ref 0 1 0 0]))), (8, (.c (.ref 0 1 0 0))), (0, (S s_))]), (upd e0 0 (some (.cells 1 [[cI n_2]]))), 1⟩
noncomputable def Z7 (frac : Tx) (s_ : Tx) (end_ : Int) (K2_ : Int → Option (Int × Int)) : Nat → Int → Int → Option (Int × Int)
 | 0, _, _ => none
 | k + 1, n_2, v79 =>
  if decide (v79 < 3) then
   if decide (v79 < (frac.length : Int)) then
    (at? frac v79).bind fun c_ =>
    (Z19 (c_.toNat : Int) n_2).bind fun r_4 =>
    Z1q v79 s_ end_ frac (Z7 frac s_ end_ K2_ k) K2_ r_4
   else
    (Z19 48 n_2).bind fun r_5 =>
    Z1q v79 s_ end_ frac (Z7 frac s_ end_ K2_ k) K2_ r_5
  else
   K2_ n_2
theorem Z7a {mL : Int} {Q : AExit → St → Prop} {frac : Tx} {s_ : Tx} {end_ : Int} {K2_ : Int → Option (Int × Int)} {k : Nat} {n_2 : Int} {v79 : Int} {o : (Int × Int)} (h : Z7 frac s_ end_ K2_ k n_2 v79 = some o)
  (hK2 : Z4q s_ end_ K2_ o (Q (.exit 2)))
  (hr : ∀ s, Ends a35.results 0 (Zn o) .ret s → Q .ret s) :
  Sv Tryz.prog (GG mL) 0 (.loop a35_c6) Q ⟨(ue [(79, (I v79)), (13, (S frac)), (12, (I end_)), (9, (.c (.fn (.func 53) [] [.ref 0 1 0 0]))), (8, (.c (.ref 0 1 0 0))), (0, (S s_))]), (upd e0 0 (some (.cells 1 [[cI n_2]]))), 1⟩ := by
 refine Sv.loop (I := Z4s s_ end_ frac (Z7 frac s_ end_ K2_) o) (fun k s hI => ?_) ⟨n_2, v79, h, rfl⟩
 clear h
 clear v79 n_2
 obtain ⟨n_2, v79, h, rfl⟩ := hI
 cases k with
 | zero => cases h
 | succ k =>
 rw [Z7] at h
 have hself : Z4p s_ end_ frac (Z7 frac s_ end_ K2_ k) o (rnd 0 (Z4s s_ end_ frac (Z7 frac s_ end_ K2_) o) k Q) := fun n_2 v79 h s hw => ⟨_, k, hw, Nat.lt_succ_self k, n_2, v79, h, rfl⟩
 refine ssr <| un1 (v := (B (decide (v79 < 3)))) rfl <| dnil <| Sv.seq ?_
 refine Sv.cnd rfl h (fun h => ?_) fun h => ?_
 ·refine Sv.skip <| Sv.seq <| Sv.block <| ssr <| un1 rfl <| un1 rfl <| dnil <| ssr <| un1 rfl <| un1 rfl <| un1 (v := (I (frac.length : Int))) rfl <| un1 (v := (B (decide (v79 < (frac.length : Int))))) rfl <| dnil ?_
  refine Sv.cnd rfl h (fun h => ?_) fun h => ?_
  ·refine srg <| un1 rfl <| un1 rfl <| un1 rfl ?_
   obtain ⟨c_, hx4, h⟩ := bnd h
   refine un1 (v := (.c (.val (.int .u8 (c_.toNat : Int))))) (s_idxS rfl rfl hx4) ?_
   obtain ⟨r_4, hr3, h⟩ := bnd h
   refine un <| acv_gen (bs := [0]) («as» := [(.c (.val (.int .u8 (c_.toNat : Int)))), (.c (.ref 0 1 0 0))]) (h2 := _) (h1 := (upd e0 0 (some (.cells 1 [[cI n_2]])))) rfl (by kernel_rfl) (Z3m hr3) rfl (.cons (avAs_free rfl) (.cons (.c (.ref rfl (by decide))) .nil)) (hsub_refl _) (.cons rfl (.nil _)) hcs (by decide) (by decide) (.cons (avAs_free rfl) (.cons (.c (.ref rfl (by decide))) .nil)) (.box (by decide) rfl (blkAs_cells (.sm rfl .nil)) .nil) ?_
   rintro _ _ _ hn ⟨rfl, rfl, rfl⟩
   refine ⟨.inl rfl, (upd (rem [0] _) 0 (some (.cells 1 [[cI r_4]]))), fun hbd => (m3_cons (m3_box rfl rfl) (m3_rem (in_cons (by decide) (in_nil _)) (.cons (by decide) .nil) hbd)), (.tup []), 1, rfl, rfl, ?_⟩
   refine dnil ?_
   exact Sv.weak (wcn [0] rfl (.cf rfl rfl (.cf rfl rfl (.cf rfl rfl (.cons rfl (.c (fn_as .nil (.cons (.ref rfl (by decide)) .nil))) (.cr rfl rfl rfl (.cf rfl rfl .nil)))))) (.box (by decide) rfl (blkAs_cells (.sm rfl .nil)) .nil)) (Z4r h hself hK2 hr)
  ·refine srg <| un1 rfl ?_
   obtain ⟨r_5, hr4, h⟩ := bnd h
   refine un <| acv_gen (bs := [0]) («as» := [(.c (.val (.int .u8 48))), (.c (.ref 0 1 0 0))]) (h2 := _) (h1 := (upd e0 0 (some (.cells 1 [[cI n_2]])))) rfl (by kernel_rfl) (Z3m hr4) rfl (.cons (avAs_free rfl) (.cons (.c (.ref rfl (by decide))) .nil)) (hsub_refl _) (.cons rfl (.nil _)) hcs (by decide) (by decide) (.cons (avAs_free rfl) (.cons (.c (.ref rfl (by decide))) .nil)) (.box (by decide) rfl (blkAs_cells (.sm rfl .nil)) .nil) ?_
   rintro _ _ _ hn ⟨rfl, rfl, rfl⟩
   refine ⟨.inl rfl, (upd (rem [0] _) 0 (some (.cells 1 [[cI r_5]]))), fun hbd => (m3_cons (m3_box rfl rfl) (m3_rem (in_cons (by decide) (in_nil _)) (.cons (by decide) .nil) hbd)), (.tup []), 1, rfl, rfl, ?_⟩
   refine dnil ?_
   exact Sv.weak (wcn [0] rfl (.cf rfl rfl (.cf rfl rfl (.cf rfl rfl (.cons rfl (.c (fn_as .nil (.cons (.ref rfl (by decide)) .nil))) (.cr rfl rfl rfl (.cf rfl rfl .nil)))))) (.box (by decide) rfl (blkAs_cells (.sm rfl .nil)) .nil)) (Z4r h hself hK2 hr)
 ·refine Sv.exit ?_
  exact hK2 n_2 h _ (wcn [0] rfl (.cf rfl rfl (.cr rfl rfl rfl (.cf rfl rfl .nil))) (.box (by decide) rfl (blkAs_cells (.sm rfl .nil)) .nil))
noncomputable def Z2d (end_ : Int) (n_5 : Int) : Option (Int × Int) :=
 some (n_5, end_)
theorem Z4t {mL : Int} {end_ : Int} {n_5 : Int} {o : (Int × Int)} (h : Z2d end_ n_5 = some o) :
  Sv Tryz.prog (GG mL) 0 a35_c7 (Ends a35.results 0 (Zn o)) ⟨(ue [(12, (I end_)), (8, (.c (.ref 0 1 0 0)))]), (upd e0 0 (some (.cells 1 [[cI n_5]]))), 1⟩ := by
 unfold Z2d at h
 refine ssr <| un1 (v := (I n_5)) rfl <| un1 rfl <| un1 rfl <| un1 rfl <| dnil <| Sv.ret ?_
 exact rt0 h rfl rfl ⟨rfl, rfl, rfl⟩
noncomputable def Z1r (s_ : Tx) (n_1 : Int) (end_ : Int) (frac : Tx) : Option (Int × Int) :=
 limF fun kk => Z7 frac s_ end_ (fun (n_3 : Int) => 
   (at? s_ 0).bind fun c_1 =>
   if decide ((c_1.toNat : Int) = 45) then
    Z2d end_ (wi (0 - n_3))
   else
    Z2d end_ n_3) kk n_1 0
theorem Z4u {mL : Int} {s_ : Tx} {n_1 : Int} {end_ : Int} {frac : Tx} {o : (Int × Int)} (h : Z1r s_ n_1 end_ frac = some o) :
  Sv Tryz.prog (GG mL) 0 a35_c4 (Ends a35.results 0 (Zn o)) ⟨(ue [(13, (S frac)), (12, (I end_)), (9, (.c (.fn (.func 53) [] [.ref 0 1 0 0]))), (8, (.c (.ref 0 1 0 0))), (0, (S s_))]), (upd e0 0 (some (.cells 1 [[cI n_1]]))), 1⟩ := by
 unfold Z1r at h
 refine Sv.seq <| ssr <| un1 rfl <| dnil <| Sv.block ?_
 obtain ⟨kk, h⟩ := limF_some h
 refine Sv.weak (wcn [0] rfl (.cf rfl rfl (.cf rfl rfl (.cf rfl rfl (.cons rfl (.c (fn_as .nil (.cons (.ref rfl (by decide)) .nil))) (.cr rfl rfl rfl (.cf rfl rfl .nil)))))) (.box (by decide) rfl (blkAs_cells (.sm rfl .nil)) .nil)) (Z7a h ?_ (fun s hs => hs))
 ·intro n_3 h _ hw2
  refine Sv.weak hw2 <| Sv.seq <| ssr <| un1 rfl ?_
  obtain ⟨c_1, hx5, h⟩ := bnd h
  refine un1 (v := (.c (.val (.int .u8 (c_1.toNat : Int))))) (s_idxS rfl rfl hx5) <| un1 (v := (B (decide ((c_1.toNat : Int) = 45)))) rfl <| dnil ?_
  refine Sv.cnd rfl h (fun h => ?_) fun h => ?_
  ·refine srg <| un1 (v := (I n_3)) rfl <| un1 (v := (I (wi (0 - n_3)))) rfl <| un <| a2n (h' := upd _ 0 (some (.cells 1 [[cI (wi (0 - n_3))]]))) (n' := 1) rfl rfl hcs <| dnil ?_
   exact Sv.weak (wcn [0] rfl (.cf rfl rfl (.cr rfl rfl rfl .nil)) (.box (by decide) rfl (blkAs_cells (.sm rfl .nil)) .nil)) (Z4t h)
  ·refine Sv.skip ?_
   exact Sv.weak (wcn [0] rfl (.cf rfl rfl (.cr rfl rfl rfl .nil)) (.box (by decide) rfl (blkAs_cells (.sm rfl .nil)) .nil)) (Z4t h)
noncomputable def Z1a (r_1 : Int) (s_ : Tx) (from_ : Int) (behind : Int) : Option (Int × Int) :=
 if decide ((wi (r_1 + behind)) = 0) then
  some (0, 0)
 else
  (sub? s_ from_ (wi (from_ + r_1))).bind fun r_2 =>
  limF fun kk1 => Zo r_2 s_ from_ r_1 behind (fun (n_1 : Int) => 
    if decide (0 < behind) then
     (sub? s_ (wi ((wi (from_ + r_1)) + 1)) (wi ((wi ((wi (from_ + r_1)) + 1)) + behind))).bind fun r_6 =>
     Z1r s_ n_1 (wi ((wi (from_ + r_1)) + (wi (1 + behind)))) r_6
    else
     Z1r s_ n_1 (wi (from_ + r_1)) []) kk1 0 0
theorem Z4v {mL : Int} {r_1 : Int} {s_ : Tx} {from_ : Int} {behind : Int} {o : (Int × Int)} (h : Z1a r_1 s_ from_ behind = some o) :
  Sv Tryz.prog (GG mL) 0 a35_c2 (Ends a35.results 0 (Zn o)) ⟨(ue [(6, (I behind)), (5, (I r_1)), (4, (I from_)), (0, (S s_))]), e0, 0⟩ := by
 unfold Z1a at h
 refine Sv.seq <| ssr <| un1 rfl <| un1 rfl <| un1 (v := (I (wi (r_1 + behind)))) rfl <| un1 (v := (B (decide ((wi (r_1 + behind)) = 0)))) rfl <| dnil ?_
 refine Sv.cnd rfl h (fun h => ?_) fun h => ?_
 ·refine ssr <| un1 rfl <| un1 rfl <| dnil <| Sv.ret ?_
  exact rt0 h rfl rfl ⟨rfl, rfl, rfl⟩
 ·refine Sv.skip <| ssr <| un <| a2v (v := (.c (.ref 0 1 0 0))) (h' := upd _ 0 (some (.cells 1 [[cI 0]]))) (n' := 1) rfl rfl hcs <| un <| a2n (h' := upd _ 0 (some (.cells 1 [[cI 0]]))) (n' := 1) rfl rfl hcs <| dnil <| ssr <| un1 (v := (.c (.fn (.func 53) [] [.ref 0 1 0 0]))) rfl <| un1 rfl <| dnil <| Sv.seq <| ssr <| un1 rfl <| un1 rfl <| un1 rfl <| un1 rfl <| un1 (v := (I (wi (from_ + r_1)))) rfl ?_
  obtain ⟨r_2, hx2, h⟩ := bnd h
  refine un1 (v := (S r_2)) (s_slStr rfl rfl rfl hx2) <| un <| a2v (v := (lstV false 1 1 (ints r_2).length)) (h' := upd _ 1 (lstB false 1 ((ints r_2).map (eK .u8)))) (n' := 2) rfl (s_toBytes rfl) hcs <| un1 (v := (I ((ints r_2).length : Int))) (s_lenL rfl (len_nil_of hcs)) <| un1 rfl <| dnil <| Sv.block ?_
  obtain ⟨kk1, h⟩ := limF_some h
  refine Sv.weak (wcn [0, 1] rfl (.cf rfl rfl (.cf rfl rfl (.cons rfl (.c (lsr rfl rfl)) (.cons rfl (.c (fn_as .nil (.cons (.ref rfl (by decide)) .nil))) (.cr rfl rfl rfl (.cf rfl rfl (.cf rfl rfl (.cf rfl rfl (.cf rfl rfl .nil))))))))) (.row (by decide) rfl (fr_map fun _ => rfl) (.box (by decide) rfl (blkAs_cells (.sm rfl .nil)) .nil))) (Z79 h ?_ (fun s hs => hs))
  ·intro n_1 h _ hw1
   refine Sv.weak hw1 <| ssr <| un1 rfl <| un1 rfl <| un1 (v := (I (wi (from_ + r_1)))) rfl <| un1 rfl <| dnil <| ssr <| un1 rfl <| dnil <| Sv.seq <| ssr <| un1 rfl <| un1 (v := (B (decide (0 < behind)))) rfl <| dnil ?_
   refine Sv.cnd rfl h (fun h => ?_) fun h => ?_
   ·refine ssr <| un1 rfl <| un1 rfl <| un1 (v := (I (wi ((wi (from_ + r_1)) + 1)))) rfl <| un1 rfl <| un1 (v := (I (wi ((wi (from_ + r_1)) + 1)))) rfl <| un1 rfl <| un1 (v := (I (wi ((wi ((wi (from_ + r_1)) + 1)) + behind)))) rfl ?_
    obtain ⟨r_6, hx6, h⟩ := bnd h
    refine un1 (v := (S r_6)) (s_slStr rfl rfl rfl hx6) <| un1 rfl <| dnil <| srg <| un1 rfl <| un1 rfl <| un1 (v := (I (wi (1 + behind)))) rfl <| un1 (v := (I (wi ((wi (from_ + r_1)) + (wi (1 + behind)))))) rfl <| un1 rfl <| dnil ?_
    exact Sv.weak (wcn [0] rfl (.cf rfl rfl (.cf rfl rfl (.cons rfl (.c (fn_as .nil (.cons (.ref rfl (by decide)) .nil))) (.cr rfl rfl rfl (.cf rfl rfl .nil))))) (.box (by decide) rfl (blkAs_cells (.sm rfl .nil)) .nil)) (Z4u h)
   ·refine Sv.skip ?_
    exact Sv.weak (wcn [0] rfl (.cf rfl rfl (.cf rfl rfl (.cons rfl (.c (fn_as .nil (.cons (.ref rfl (by decide)) .nil))) (.cr rfl rfl rfl (.cf rfl rfl .nil))))) (.box (by decide) rfl (blkAs_cells (.sm rfl .nil)) .nil)) (Z4u h)
noncomputable def Z1s (s_ : Tx) (from_ : Int) : Option (Int × Int) :=
 (sub? s_ from_ (s_.length : Int)).bind fun r_ =>
 (Z1p r_).bind fun r_1 =>
 (sub? s_ (wi (from_ + r_1)) (s_.length : Int)).bind fun r_7 =>
 (Z11 r_7 [46]).bind fun r_8 =>
 if r_8 then
  (sub? r_7 1 (r_7.length : Int)).bind fun r_9 =>
  (Z1p r_9).bind fun r_10 =>
  Z1a r_1 s_ from_ r_10
 else
  Z1a r_1 s_ from_ 0
theorem Z4w {mL : Int} {s_ : Tx} {from_ : Int} {o : (Int × Int)} (h : Z1s s_ from_ = some o) :
  Sv Tryz.prog (GG mL) 0 a35_c1 (Ends a35.results 0 (Zn o)) ⟨(ue [(4, (I from_)), (0, (S s_))]), e0, 0⟩ := by
 unfold Z1s at h
 refine ssr <| un1 rfl <| un1 rfl ?_
 obtain ⟨r_, hx1, h⟩ := bnd h
 refine un1 (v := (S r_)) (s_slStr rfl rfl rfl hx1) ?_
 obtain ⟨r_1, hr1, h⟩ := bnd h
 refine un <| ac_pure (Z4m hr1) rfl rfl rfl <| un1 rfl <| dnil <| ssr <| un1 rfl <| dnil <| Sv.seq <| ssr <| un1 rfl <| un1 rfl <| un1 rfl <| un1 (v := (I (wi (from_ + r_1)))) rfl ?_
 obtain ⟨r_7, hx7, h⟩ := bnd h
 refine un1 (v := (S r_7)) (s_slStr rfl rfl rfl hx7) <| un1 rfl <| dnil <| ssr <| un1 rfl ?_
 obtain ⟨r_8, hr5, h⟩ := bnd h
 refine un <| ac_pure (Z3l hr5) rfl rfl rfl <| dnil ?_
 refine Sv.cnd rfl h (fun h => ?_) fun h => ?_
 ·refine srg <| un1 rfl ?_
  obtain ⟨r_9, hx8, h⟩ := bnd h
  refine un1 (v := (S r_9)) (s_slStr rfl rfl rfl hx8) ?_
  obtain ⟨r_10, hr6, h⟩ := bnd h
  refine un <| ac_pure (Z4m hr6) rfl rfl rfl <| un1 rfl <| dnil ?_
  exact Sv.weak (wcn [] rfl (.cf rfl rfl (.cf rfl rfl (.cf rfl rfl (.cf rfl rfl .nil)))) .nil) (Z4v h)
 ·refine Sv.skip ?_
  exact Sv.weak (wcn [] rfl (.cf rfl rfl (.cf rfl rfl (.cf rfl rfl (.cf rfl rfl .nil)))) .nil) (Z4v h)
abbrev Z7b (mL : Int) (o : (Int × Int)) : AExit → St → Prop := AThen (Sv Tryz.prog (GG mL) 0 a35_c1 (Ends a35.results 0 (Zn o))) (Ends a35.results 0 (Zn o))
noncomputable def Z1t (s_ : Tx) (v26 : Bool) : Option (Int × Int) :=
 if v26 then
  Z1s s_ 1
 else
  Z1s s_ 0
theorem Z3n {mL : Int} {s_ : Tx} {v26 : Bool} {o : (Int × Int)} (h : Z1t s_ v26 = some o) :
  Sv Tryz.prog (GG mL) 0 a35_c0 (Z7b mL o) ⟨(ue [(26, (B v26)), (4, (I 0)), (0, (S s_))]), e0, 0⟩ := by
 unfold Z1t at h
 refine Sv.cnd rfl h (fun h => ?_) fun h => ?_
 ·refine srg <| un1 rfl <| dnil ?_
  exact Sv.weak (wcn [] rfl (.cf rfl rfl (.cf rfl rfl .nil)) .nil) (Z4w h)
 ·refine Sv.skip ?_
  exact Sv.weak (wcn [] rfl (.cf rfl rfl (.cf rfl rfl .nil)) .nil) (Z4w h)
/-- clerestory/csstok.Number -/
noncomputable def Z2e (s_ : Tx) : Option (Int × Int) :=
 if (!decide (s_ = [])) then
  (at? s_ 0).bind fun c_2 =>
  if decide ((c_2.toNat : Int) = 43) then
   Z1t s_ true
  else
   (at? s_ 0).bind fun c_3 =>
   Z1t s_ (decide ((c_3.toNat : Int) = 45))
 else
  Z1t s_ false
theorem Z7c {mL : Int} {s_ : Tx} {r : (Int × Int)} (h : Z2e s_ = some r) : CPure Tryz.prog (GG mL) 35 [(S s_)] (.tup [(I r.1), (I r.2)]) := by
 refine acalls_of_sv hmix c35 (R := Zn r) ?_
 unfold Z2e at h
 refine ssr <| un1 rfl <| un1 rfl <| dnil <| ssr <| un1 rfl <| dnil <| Sv.seq <| ssr <| un1 rfl <| un1 (v := (B (!decide (s_ = [])))) rfl <| un1 rfl ?_
 refine spl h (fun h => ?_) fun h => ?_
 ·refine gt rfl <| a1 rfl ?_
  obtain ⟨c_2, hx9, h⟩ := bnd h
  refine gt rfl <| a1 (v := (.c (.val (.int .u8 (c_2.toNat : Int))))) (s_idxS rfl rfl hx9) <| gt rfl <| a1 (v := (B (decide ((c_2.toNat : Int) = 43)))) rfl <| gt rfl <| a1 rfl ?_
  refine spl h (fun h => ?_) fun h => ?_
  ·refine gs rfl rfl <| gs rfl rfl <| gs rfl rfl <| gt rfl <| a1 (v := (B true)) rfl <| un1 (v := (B true)) rfl <| dnil ?_
   exact Sv.weak (wcn [] rfl (.cf rfl rfl (.cf rfl rfl (.cf rfl rfl .nil))) .nil) (Z3n h)
  ·refine gt rfl <| a1 rfl ?_
   obtain ⟨c_3, hx10, h⟩ := bnd h
   refine gt rfl <| a1 (v := (.c (.val (.int .u8 (c_3.toNat : Int))))) (s_idxS rfl rfl hx10) <| gt rfl <| a1 (v := (B (decide ((c_3.toNat : Int) = 45)))) rfl <| gt rfl <| a1 (v := (B (decide ((c_3.toNat : Int) = 45)))) rfl <| un1 (v := (B (decide ((c_3.toNat : Int) = 45)))) rfl <| dnil ?_
   exact Sv.weak (wcn [] rfl (.cf rfl rfl (.cf rfl rfl (.cf rfl rfl .nil))) .nil) (Z3n h)
 ·repeat (first | refine gu rfl ?_ | refine gs rfl rfl ?_)
  refine un1 (v := (B false)) rfl <| dnil ?_
  exact Sv.weak (wcn [] rfl (.cf rfl rfl (.cf rfl rfl (.cf rfl rfl .nil))) .nil) (Z3n h)
def a54_c0 : ACode := (.region [(oP 26 (.bin .add (.tmp 10) (kI 1))), (mV 10 26)])
def a54_c1 : ACode := (sr [(oP 11 (.bin .lss (.tmp 10) (.tmp 9)))]
 (.seq (.cond (.tmp 11) .skip (.exit 0))
 (.seq (.block 1 (sr [(mV 12 10), (oP 13 (.iaddr 1 (.tmp 8) (.tmp 10))), (oP 14 (.load false 1 (.tmp 13))), (mV 4 12), (mV 5 14)]
 (sr [(mV 15 5), (oP 16 (.bin .geq (.tmp 15) (.const (.c (.val (.int .u8 65)))))), (mV 17 16), ⟨(some 18), (.mov (.tmp 5)), (some (17, true))⟩, ⟨(some 19), (.bin .leq (.tmp 18) (.const (.c (.val (.int .u8 90))))), (some (17, true))⟩, (oP 20 (.pick (.tmp 17) (.tmp 19) kF))]
 (.cond (.tmp 20) (.region [(mV 21 3), (mV 22 4), (mV 23 5), (oP 24 (.bin .add (.tmp 23) (.const (.c (.val (.int .u8 32)))))), (oP 25 (.iaddr 1 (.tmp 21) (.tmp 22))), (oN (.store 1 (.tmp 25) (.tmp 24)))]) .skip))))
 a54_c0)))
def a54 : AFunc := ⟨1, [(.tmp 2)], (sr [(oP 2 (.mov (.const (.c (.str [])))))]
 (sr [(mV 6 0), (oP 7 (.toBytes (.tmp 6))), (mV 3 7)]
 (.seq (sr [(mV 8 3), (oP 9 (.len (.tmp 8))), (oP 10 (.mov (kI 0)))]
 (.block 0 (.loop a54_c1)))
 (sr [(mV 27 3), (oP 28 (.ofBytes (.tmp 27))), (mV 2 28)]
 .ret))))⟩
theorem c54 : compFunc Tryz.prog 54 = some a54 := by kernel_rfl
def Z3o (r : Tx) : AV → Heap → Nat → Prop := fun v h' n' => v = (S r) ∧ (h' = e0) ∧ n' = 0
abbrev Z4x (F_ : (List Int) → Int → Int → Option Tx) (o : Tx) (R_ : St → Prop) : Prop := ∀ (b_ : (List Int)) (v9 : Int) (v10 : Int) (zb : Bool) (_ : zb = true → b_ = []), F_ b_ v9 v10 = some o → ∀ s, Weak 0 s ⟨(ue [(10, (I v10)), (9, (I v9)), (8, (lstV zb 0 1 b_.length)), (3, (lstV zb 0 1 b_.length))]), (upd e0 0 (lstB zb 1 (b_.map (eK .u8)))), 1⟩ → R_ s
abbrev Z4y (F_ : (List Int) → Option Tx) (o : Tx) (R_ : St → Prop) : Prop := ∀ (b_1 : (List Int)) (zb_1 : Bool) (_ : zb_1 = true → b_1 = []), F_ b_1 = some o → ∀ s, Weak 0 s ⟨(upd e0 3 (some (lstV zb_1 0 1 b_1.length))), (upd e0 0 (lstB zb_1 1 (b_1.map (eK .u8)))), 1⟩ → R_ s
noncomputable def Z2f (v9 : Int) (v10 : Int) (self : (List Int) → Int → Int → Option Tx) (K0_ : (List Int) → Option Tx) (b_2 : (List Int)) : Option Tx :=
 self b_2 v9 (wi (v10 + 1))
theorem Z4z {mL : Int} {Q : AExit → St → Prop} {v9 : Int} {v10 : Int} {self : (List Int) → Int → Int → Option Tx} {K0_ : (List Int) → Option Tx} {b_2 : (List Int)} {zb_2 : Bool} (hzb_2 : zb_2 = true → b_2 = []) {o : Tx} (h : Z2f v9 v10 self K0_ b_2 = some o)
  (hself : Z4x self o (Q .normal))
  (hK0 : Z4y K0_ o (Q (.exit 0)))
  (hr : ∀ s, Ends a54.results 0 (Z3o o) .ret s → Q .ret s) :
  Sv Tryz.prog (GG mL) 0 a54_c0 Q ⟨(ue [(10, (I v10)), (9, (I v9)), (8, (lstV zb_2 0 1 b_2.length)), (3, (lstV zb_2 0 1 b_2.length))]), (upd e0 0 (lstB zb_2 1 (b_2.map (eK .u8)))), 1⟩ := by
 unfold Z2f at h
 refine srg <| un1 (v := (I (wi (v10 + 1)))) rfl <| un1 rfl <| dnil ?_
 exact hself b_2 v9 (wi (v10 + 1)) zb_2 hzb_2 h _ (wcn [0] rfl (.cf rfl rfl (.cf rfl rfl (.cons rfl (.c (lsr rfl rfl)) (.cons rfl (.c (lsr rfl rfl)) .nil)))) (.row (by decide) rfl (fr_map fun _ => rfl) .nil))
abbrev Z50 (F_ : Nat → (List Int) → Int → Int → Option Tx) (o : Tx) : Nat → St → Prop := fun k s => ∃ (b_ : (List Int)), ∃ (v9 : Int), ∃ (v10 : Int), ∃ (zb : Bool), (zb = true → b_ = []) ∧ F_ k b_ v9 v10 = some o ∧ s = ⟨(ue [(10, (I v10)), (9, (I v9)), (8, (lstV zb 0 1 b_.length)), (3, (lstV zb 0 1 b_.length))]), (upd e0 0 (lstB zb 1 (b_.map (eK .u8)))), 1⟩
noncomputable def Zp (K0_ : (List Int) → Option Tx) : Nat → (List Int) → Int → Int → Option Tx
 | 0, _, _, _ => none
 | k + 1, b_, v9, v10 =>
  if decide (v10 < v9) then
   (at? b_ v10).bind fun x_ =>
   if ((decide (65 ≤ x_)) && (decide (x_ ≤ 90))) then
    (at? b_ v10).bind fun x_1 =>
    Z2f v9 v10 (Zp K0_ k) K0_ (b_.set v10.toNat (wr .u8 (x_ + 32)))
   else
    Z2f v9 v10 (Zp K0_ k) K0_ b_
  else
   K0_ b_
theorem Z7d {mL : Int} {Q : AExit → St → Prop} {K0_ : (List Int) → Option Tx} {k : Nat} {b_ : (List Int)} {v9 : Int} {v10 : Int} {zb : Bool} (hzb : zb = true → b_ = []) {o : Tx} (h : Zp K0_ k b_ v9 v10 = some o)
  (hK0 : Z4y K0_ o (Q (.exit 0)))
  (hr : ∀ s, Ends a54.results 0 (Z3o o) .ret s → Q .ret s) :
  Sv Tryz.prog (GG mL) 0 (.loop a54_c1) Q ⟨(ue [(10, (I v10)), (9, (I v9)), (8, (lstV zb 0 1 b_.length)), (3, (lstV zb 0 1 b_.length))]), (upd e0 0 (lstB zb 1 (b_.map (eK .u8)))), 1⟩ := by
 refine Sv.loop (I := Z50 (Zp K0_) o) (fun k s hI => ?_) ⟨b_, v9, v10, zb, hzb, h, rfl⟩
 clear h
 clear hzb zb v10 v9 b_
 obtain ⟨b_, v9, v10, zb, hzb, h, rfl⟩ := hI
 cases k with
 | zero => cases h
 | succ k =>
 rw [Zp] at h
 have hself : Z4x (Zp K0_ k) o (rnd 0 (Z50 (Zp K0_) o) k Q) := fun b_ v9 v10 zb hzb h s hw => ⟨_, k, hw, Nat.lt_succ_self k, b_, v9, v10, zb, hzb, h, rfl⟩
 refine ssr <| un1 (v := (B (decide (v10 < v9)))) rfl <| dnil <| Sv.seq ?_
 refine Sv.cnd rfl h (fun h => ?_) fun h => ?_
 ·refine Sv.skip <| Sv.seq <| Sv.block <| ssr <| un1 rfl ?_
  obtain ⟨x_, hx1, h⟩ := bnd h
  refine un1 (v := (.c (.ref 0 1 v10.toNat 0))) (s_iaddrL rfl rfl hzb hx1) <| un1 (v := (.c (.val (.int .u8 x_)))) (s_loadL (z := zb) (e := (eK .u8)) rfl rfl hzb hx1 rfl rfl) <| un1 rfl <| un1 rfl <| dnil <| ssr <| un1 rfl <| un1 (v := (B (decide (65 ≤ x_)))) rfl <| un1 rfl ?_
  refine gjoin 3 (d := 20) (v := (B ((decide (65 ≤ x_)) && (decide (x_ ≤ 90))))) (fun X hX => ?_) ?_
  ·refine split2 (fun hc2 => ?_) (fun hc2 => ?_)
   ·refine gt rfl <| a1 rfl <| gt rfl <| a1 (v := (B (decide (x_ ≤ 90)))) rfl <| un1 (v := (B (decide (x_ ≤ 90)))) rfl <| dnil ?_
    exact hX _ (.putEq (by rw [hc2]; rfl) (.skp (.skp (.putEq (by rw [hc2]) (.refl _)) rfl) rfl))
   ·refine gs rfl rfl <| gs rfl rfl <| un1 (v := (B false)) rfl <| dnil ?_
    exact hX _ (.putEq (by rw [hc2]; rfl) (.skp (.skp (.putEq (by rw [hc2]) (.refl _)) rfl) rfl))
  refine dnil ?_
  refine Sv.cnd rfl h (fun h => ?_) fun h => ?_
  ·refine srg <| un1 rfl <| un1 rfl <| un1 rfl <| un1 (v := (.c (.val (.int .u8 (wr .u8 (x_ + 32)))))) rfl ?_
   obtain ⟨x_1, hx2, h⟩ := bnd h
   refine un1 (v := (.c (.ref 0 1 v10.toNat 0))) (s_iaddrL rfl rfl hzb hx2) <| un <| a2n (h' := upd _ 0 (lstB zb 1 ((b_.set v10.toNat (wr .u8 (x_ + 32))).map (eK .u8)))) (n' := 1) rfl (s_storeL (e := (eK .u8)) (q' := (wr .u8 (x_ + 32))) rfl rfl hzb hx2 rfl rfl rfl (Nat.le_of_ble_eq_true rfl) rfl) hcs ?_
   try rw [len_set b_ v10.toNat (wr .u8 (x_ + 32))]
   refine dnil ?_
   exact Sv.weak (wcn [0] rfl (.cf rfl rfl (.cf rfl rfl (.cons rfl (.c (lsr rfl rfl)) (.cons rfl (.c (lsr rfl rfl)) .nil)))) (.row (by decide) rfl (fr_map fun _ => rfl) .nil)) (Z4z (hz_len hzb (len_set b_ v10.toNat (wr .u8 (x_ + 32)))) h hself hK0 hr)
  ·refine Sv.skip ?_
   exact Sv.weak (wcn [0] rfl (.cf rfl rfl (.cf rfl rfl (.cons rfl (.c (lsr rfl rfl)) (.cons rfl (.c (lsr rfl rfl)) .nil)))) (.row (by decide) rfl (fr_map fun _ => rfl) .nil)) (Z4z hzb h hself hK0 hr)
 ·refine Sv.exit ?_
  exact hK0 b_ zb hzb h _ (wcn [0] rfl (.cons rfl (.c (lsr rfl rfl)) .nil) (.row (by decide) rfl (fr_map fun _ => rfl) .nil))
/-- clerestory/csstok.lower -/
noncomputable def Z2g (s_ : Tx) : Option Tx :=
 limF fun kk => Zp (fun (b_1 : (List Int)) => 
   some (byts b_1)) kk (ints s_) ((ints s_).length : Int) 0
theorem Z7e {mL : Int} {s_ : Tx} {r : Tx} (h : Z2g s_ = some r) : CPure Tryz.prog (GG mL) 54 [(S s_)] (S r) := by
 refine acalls_of_sv hmix c54 (R := Z3o r) ?_
 unfold Z2g at h
 refine ssr <| un1 rfl <| dnil <| ssr <| un1 rfl <| un <| a2v (v := (lstV false 0 1 (ints s_).length)) (h' := upd _ 0 (lstB false 1 ((ints s_).map (eK .u8)))) (n' := 1) rfl (s_toBytes rfl) hcs <| un1 rfl <| dnil <| Sv.seq <| ssr <| un1 rfl <| un1 (v := (I ((ints s_).length : Int))) (s_lenL rfl (len_nil_of hcs)) <| un1 rfl <| dnil <| Sv.block ?_
 obtain ⟨kk, h⟩ := limF_some h
 refine Sv.weak (wcn [0] rfl (.cf rfl rfl (.cf rfl rfl (.cons rfl (.c (lsr rfl rfl)) (.cons rfl (.c (lsr rfl rfl)) .nil)))) (.row (by decide) rfl (fr_map fun _ => rfl) .nil)) (Z7d hcs h ?_ (fun s hs => hs))
 ·intro b_1 zb_1 hzb_1 h _ hw1
  refine Sv.weak hw1 <| ssr <| un1 rfl <| un1 (v := (S (byts b_1))) (s_ofBytes (xs := b_1) rfl (slc_lst rfl (List.length_map _).symm (map_nil_of hzb_1))) <| un1 rfl <| dnil <| Sv.ret ?_
  exact rt0 h rfl rfl ⟨rfl, rfl, rfl⟩
def a36_c0 : ACode := (sr [(oP 43 (.load true 4 (.tmp 7))), (oN (.store 4 (.tmp 6) (.tmp 43)))]
 .ret)
def a36 : AFunc := ⟨3, [(.cell true 4 6)], (sr [(oP 6 (.box (.const (.agg [(.val (.int .i64 0)), (.str []), (.str []), (.val (.int .i64 0))]))))]
 (sr [(mV 11 0), (mV 12 2), (oP 13 (.slStr (.tmp 11) none (some (.tmp 12)))), (mV 14 1), (oP 15 (.build [(.val (.int .i64 0)), (.str []), (.str []), (.val (.int .i64 0))] [(0, (1, (kI 7))), (1, (1, (.tmp 13))), (3, (1, (.tmp 14)))])), (oP 7 (.box (.const (.agg [(.val (.int .i64 0)), (.str []), (.str []), (.val (.int .i64 0))])))), (oN (.store 4 (.tmp 7) (.tmp 15)))]
 (.seq (sr [(mV 16 0), (mV 17 2), (oP 18 (.slStr (.tmp 16) (some (.tmp 17)) none)), (mV 8 18)]
 (sr [(mV 19 8), (oP 20 (.call 37 [(.tmp 19), (.const (.c (.str [37])))]))]
 (.cond (.tmp 20) (.region [(mV 21 0), (mV 22 2), (oP 23 (.bin .add (.tmp 22) (kI 1))), (oP 24 (.slStr (.tmp 21) none (some (.tmp 23)))), (oP 25 (.faddr 1 (.tmp 7))), (oN (.store 1 (.tmp 25) (.tmp 24))), (oP 26 (.faddr 2 (.tmp 7))), (oN (.store 1 (.tmp 26) (.const (.c (.str [37])))))]) (sr [(mV 27 8), (oP 28 (.call 34 [(.tmp 27)]))]
 (.cond (.tmp 28) (sr [(mV 30 8), (oP 31 (.call 51 [(.tmp 30)])), (mV 29 31), (oP 32 (.ext (.tmp 29) 0)), (oP 33 (.ext (.tmp 29) 1)), (mV 9 32), (mV 10 33)]
 (.drawn (.fin [((mV 34 0), (0, 0)), ((mV 35 2), (0, 1)), ((mV 36 10), (0, 2)), ((oP 37 (.bin .add (.tmp 35) (.tmp 36))), (0, 3)), ((oP 38 (.slStr (.tmp 34) none (some (.tmp 37)))), (0, 4)), ((mV 39 9), (0, 5)), ((oP 41 (.faddr 1 (.tmp 7))), (0, 7)), ((oP 40 (.call 54 [(.tmp 39)])), (2, 6)), ((oN (.store 1 (.tmp 41) (.tmp 38))), (2, 8)), ((oP 42 (.faddr 2 (.tmp 7))), (0, 9)), ((oN (.store 1 (.tmp 42) (.tmp 40))), (2, 10))]))) .skip)))))
 a36_c0)))⟩
theorem c36 : compFunc Tryz.prog 36 = some a36 := by kernel_rfl
def Z51 (r : TSToken) : AV → Heap → Nat → Prop := fun v h' n' => v = (.agg (e_TSToken r)) ∧ (h' = e0) ∧ n' = 0
noncomputable def Z1u (num : Int) (t1 : Tx) (t2 : Tx) : Option TSToken :=
 some (⟨7, t1, t2, num⟩ : TSToken)
theorem Z3p {mL : Int} {num : Int} {t1 : Tx} {t2 : Tx} {o : TSToken} (h : Z1u num t1 t2 = some o) :
  Sv Tryz.prog (GG mL) 0 a36_c0 (Ends a36.results 0 (Z51 o)) ⟨(ue [(7, (.c (.ref 1 4 0 0))), (6, (.c (.ref 0 4 0 0)))]), (upd (upd e0 0 (some (.cells 4 [[cI 0, .str [], .str [], cI 0]]))) 1 (some (.cells 4 [[cI 7, .str t1, .str t2, cI num]]))), 2⟩ := by
 unfold Z1u at h
 refine ssr <| un1 (v := (.agg [cI 7, .str t1, .str t2, cI num])) rfl <| un <| a2n (h' := upd _ 0 (some (.cells 4 [[cI 7, .str t1, .str t2, cI num]]))) (n' := 2) rfl rfl hcs <| dnil <| Sv.ret ?_
 exact rt0 h rfl rfl ⟨rfl, rfl, rfl⟩
/-- clerestory/csstok.number -/
noncomputable def Z2h (s_ : Tx) (num : Int) (n_ : Int) : Option TSToken :=
 (sub? s_ 0 n_).bind fun r_ =>
 (sub? s_ n_ (s_.length : Int)).bind fun r_1 =>
 (Z11 r_1 [37]).bind fun r_2 =>
 if r_2 then
  (sub? s_ 0 (wi (n_ + 1))).bind fun r_3 =>
  Z1u num r_3 [37]
 else
  (Z18 r_1).bind fun r_4 =>
  if r_4 then
   (Z1n r_1).bind fun r_5 =>
   (sub? s_ 0 (wi (n_ + r_5.2))).bind fun r_6 =>
   (Z2g r_5.1).bind fun r_7 =>
   Z1u num r_6 r_7
  else
   Z1u num r_ []
theorem Z7f {mL : Int} {s_ : Tx} {num : Int} {n_ : Int} {r : TSToken} (h : Z2h s_ num n_ = some r) : CPure Tryz.prog (GG mL) 36 [(S s_), (I num), (I n_)] (.agg (e_TSToken r)) := by
 refine acalls_of_sv hmix c36 (R := Z51 r) ?_
 unfold Z2h at h
 refine ssr <| un <| a2v (v := (.c (.ref 0 4 0 0))) (h' := upd _ 0 (some (.cells 4 [[cI 0, .str [], .str [], cI 0]]))) (n' := 1) rfl rfl hcs <| dnil <| ssr <| un1 rfl <| un1 rfl ?_
 obtain ⟨r_, hx1, h⟩ := bnd h
 refine un1 (v := (S r_)) (s_slStr rfl rfl rfl hx1) <| un1 rfl <| un1 (v := (.agg [cI 7, .str r_, .str [], cI num])) rfl <| un <| a2v (v := (.c (.ref 1 4 0 0))) (h' := upd _ 1 (some (.cells 4 [[cI 0, .str [], .str [], cI 0]]))) (n' := 2) rfl rfl hcs <| un <| a2n (h' := upd _ 1 (some (.cells 4 [[cI 7, .str r_, .str [], cI num]]))) (n' := 2) rfl rfl hcs <| dnil <| Sv.seq <| ssr <| un1 rfl <| un1 rfl ?_
 obtain ⟨r_1, hx2, h⟩ := bnd h
 refine un1 (v := (S r_1)) (s_slStr rfl rfl rfl hx2) <| un1 rfl <| dnil <| ssr <| un1 rfl ?_
 obtain ⟨r_2, hr1, h⟩ := bnd h
 refine un <| ac_pure (Z3l hr1) rfl rfl rfl <| dnil ?_
 refine Sv.cnd rfl h (fun h => ?_) fun h => ?_
 ·refine srg <| un1 rfl <| un1 rfl <| un1 (v := (I (wi (n_ + 1)))) rfl ?_
  obtain ⟨r_3, hx3, h⟩ := bnd h
  refine un1 (v := (S r_3)) (s_slStr rfl rfl rfl hx3) <| un1 (v := (.c (.ref 1 4 0 1))) rfl <| un <| a2n (h' := upd _ 1 (some (.cells 4 [[cI 7, .str r_3, .str [], cI num]]))) (n' := 2) rfl rfl hcs <| un1 (v := (.c (.ref 1 4 0 2))) rfl <| un <| a2n (h' := upd _ 1 (some (.cells 4 [[cI 7, .str r_3, .str [37], cI num]]))) (n' := 2) rfl rfl hcs <| dnil ?_
  exact Sv.weak (wcn [0, 1] rfl (.cr rfl rfl rfl (.cr rfl rfl rfl .nil)) (.box (by decide) rfl (blkAs_cells (.sm rfl (.sm rfl (.sm rfl (.sm rfl .nil))))) (.box (by decide) rfl (blkAs_cells (.sm rfl (.sm rfl (.sm rfl (.sm rfl .nil))))) .nil))) (Z3p h)
 ·refine ssr <| un1 rfl ?_
  obtain ⟨r_4, hr2, h⟩ := bnd h
  refine un <| ac_pure (Z3k hr2) rfl rfl rfl <| dnil ?_
  refine Sv.cnd rfl h (fun h => ?_) fun h => ?_
  ·refine ssr <| un1 rfl ?_
   obtain ⟨r_5, hr3, h⟩ := bnd h
   refine un <| ac_pure (Z4k hr3) rfl rfl rfl <| un1 rfl <| un1 (v := (S r_5.1)) rfl <| un1 (v := (I r_5.2)) rfl <| un1 rfl <| un1 rfl <| dnil <| Sv.drawn <| un1 rfl <| un1 rfl <| un1 rfl <| un1 (v := (I (wi (n_ + r_5.2)))) rfl ?_
   obtain ⟨r_6, hx4, h⟩ := bnd h
   refine un1 (v := (S r_6)) (s_slStr rfl rfl rfl hx4) <| un1 rfl <| un1 (v := (.c (.ref 1 4 0 1))) rfl ?_
   obtain ⟨r_7, hr4, h⟩ := bnd h
   refine un <| ac_pure (Z7e hr4) rfl rfl rfl <| un <| a2n (h' := upd _ 1 (some (.cells 4 [[cI 7, .str r_6, .str [], cI num]]))) (n' := 2) rfl rfl hcs <| un1 (v := (.c (.ref 1 4 0 2))) rfl <| un <| a2n (h' := upd _ 1 (some (.cells 4 [[cI 7, .str r_6, .str r_7, cI num]]))) (n' := 2) rfl rfl hcs <| dnil ?_
   exact Sv.weak (wcn [0, 1] rfl (.cr rfl rfl rfl (.cr rfl rfl rfl .nil)) (.box (by decide) rfl (blkAs_cells (.sm rfl (.sm rfl (.sm rfl (.sm rfl .nil))))) (.box (by decide) rfl (blkAs_cells (.sm rfl (.sm rfl (.sm rfl (.sm rfl .nil))))) .nil))) (Z3p h)
  ·refine Sv.skip ?_
   exact Sv.weak (wcn [0, 1] rfl (.cr rfl rfl rfl (.cr rfl rfl rfl .nil)) (.box (by decide) rfl (blkAs_cells (.sm rfl (.sm rfl (.sm rfl (.sm rfl .nil))))) (.box (by decide) rfl (blkAs_cells (.sm rfl (.sm rfl (.sm rfl (.sm rfl .nil))))) .nil))) (Z3p h)
def a26 : AFunc := ⟨2, [(.cell true 4 3)], (sr [(oP 3 (.box (.const (.agg [(.val (.int .i64 0)), (.str []), (.str []), (.val (.int .i64 0))]))))]
 (sr [(mV 4 0), (oP 5 (.load false 1 (.tmp 1))), (oP 6 (.slStr (.tmp 5) none (some (kI 1)))), (oP 7 (.build [(.val (.int .i64 0)), (.str []), (.str []), (.val (.int .i64 0))] [(0, (1, (.tmp 4))), (1, (1, (.tmp 6)))])), (oN (.store 4 (.tmp 3) (.tmp 7)))]
 .ret))⟩
theorem c26 : compFunc Tryz.prog 26 = some a26 := by kernel_rfl
def Z7g (r : TSToken) : AV → Heap → Nat → Prop := fun v h' n' => v = (.agg (e_TSToken r)) ∧ (h' = e0) ∧ n' = 0
/-- clerestory/csstok.first$1 -/
noncomputable def Z12 (kind : Int) (v1 : Tx) : Option TSToken :=
 (sub? v1 0 1).bind fun r_ =>
 some (⟨kind, r_, [], 0⟩ : TSToken)
theorem Z32 {mL : Int} {kind : Int} {v1 : Tx} {r : TSToken} (h : Z12 kind v1 = some r) : CPure Tryz.prog (GG mL) 26 [(I kind), (.c (.rop [.str v1]))] (.agg (e_TSToken r)) := by
 refine acalls_of_sv hmix c26 (R := Z7g r) ?_
 unfold Z12 at h
 refine ssr <| un <| a2v (v := (.c (.ref 0 4 0 0))) (h' := upd _ 0 (some (.cells 4 [[cI 0, .str [], .str [], cI 0]]))) (n' := 1) rfl rfl hcs <| dnil <| ssr <| un1 rfl <| un1 (v := (S v1)) rfl ?_
 obtain ⟨r_, hx1, h⟩ := bnd h
 refine un1 (v := (S r_)) (s_slStr rfl rfl rfl hx1) <| un1 (v := (.agg [cI kind, .str r_, .str [], cI 0])) rfl <| un <| a2n (h' := upd _ 0 (some (.cells 4 [[cI kind, .str r_, .str [], cI 0]]))) (n' := 1) rfl rfl hcs <| dnil <| Sv.ret ?_
 exact rt0 h rfl rfl ⟨rfl, rfl, rfl⟩
def a21_c0 : ACode := (sr [(oP 40 (.load false 1 (.tmp 1))), (oP 41 (.build [(.val (.int .i64 0)), (.str []), (.str []), (.val (.int .i64 0))] [(0, (1, (kI 9))), (1, (1, (.tmp 40)))])), (oN (.store 4 (.tmp 2) (.tmp 41)))]
 .ret)
def a21_c3 : ACode := (.cond (.tmp 73) (sr [(oP 81 (.load false 1 (.tmp 1))), (oP 82 (.call 33 [(kI 3), (.tmp 81), (kI 1)])), (oN (.store 4 (.tmp 2) (.tmp 82)))]
 .ret) .skip)
def a21_c2 : ACode := (.cond (.tmp 53) (sr [(oP 71 (.load false 1 (.tmp 1))), (oP 72 (.call 33 [(kI 4), (.tmp 71), (kI 1)])), (oN (.store 4 (.tmp 2) (.tmp 72)))]
 .ret) (sr [(mV 74 8), (oP 75 (.bin .eql (.tmp 74) (.const (.c (.val (.int .u8 64)))))), (mV 76 75), ⟨(some 77), (.load false 1 (.tmp 1)), (some (76, true))⟩, ⟨(some 78), (.slStr (.tmp 77) (some (kI 1)) none), (some (76, true))⟩, ⟨(some 79), (.call 34 [(.tmp 78)]), (some (76, true))⟩, (oP 80 (.pick (.tmp 76) (.tmp 79) kF)), (mV 73 80)]
 a21_c3))
def a21_c4 : ACode := (sr [(oP 111 (.load true 4 (.tmp 11))), (oN (.store 4 (.tmp 2) (.tmp 111)))]
 .ret)
def a21_c7 : ACode := (.cond (.tmp 120) (sr [(mV 124 3), (oP 125 (.callv (.tmp 124) [(kI 11)])), (oN (.store 4 (.tmp 2) (.tmp 125)))]
 .ret) (sr [(oP 127 (.bin .eql (.tmp 113) (.const (.c (.val (.int .u8 92)))))), (mV 126 127)]
 (.cond (.tmp 126) (sr [(mV 128 3), (oP 129 (.callv (.tmp 128) [(kI 6)])), (oN (.store 4 (.tmp 2) (.tmp 129)))]
 .ret) .skip)))
def a21_c6 : ACode := (.cond (.tmp 114) (sr [(mV 118 3), (oP 119 (.callv (.tmp 118) [(kI 10)])), (oN (.store 4 (.tmp 2) (.tmp 119)))]
 .ret) (.seq (sr [(oP 121 (.bin .eql (.tmp 113) (.const (.c (.val (.int .u8 41)))))), (mV 120 121)]
 (.cond (.tmp 120) .skip (sr [(oP 122 (.bin .eql (.tmp 113) (.const (.c (.val (.int .u8 93)))))), (mV 120 122)]
 (.cond (.tmp 120) .skip (.region [(oP 123 (.bin .eql (.tmp 113) (.const (.c (.val (.int .u8 125)))))), (mV 120 123)])))))
 a21_c7))
def a21_c8 : ACode := (sr [(mV 130 3), (oP 131 (.callv (.tmp 130) [(kI 12)])), (oN (.store 4 (.tmp 2) (.tmp 131)))]
 .ret)
def a21_c5 : ACode := (.seq (sr [(oP 112 (.load false 1 (.tmp 1))), (oP 113 (.idxS (.tmp 112) (kI 0)))]
 (.block 1 (.seq (sr [(oP 115 (.bin .eql (.tmp 113) (.const (.c (.val (.int .u8 40)))))), (mV 114 115)]
 (.cond (.tmp 114) .skip (sr [(oP 116 (.bin .eql (.tmp 113) (.const (.c (.val (.int .u8 91)))))), (mV 114 116)]
 (.cond (.tmp 114) .skip (.region [(oP 117 (.bin .eql (.tmp 113) (.const (.c (.val (.int .u8 123)))))), (mV 114 117)])))))
 a21_c6)))
 a21_c8)
def a21_c9 : ACode := (.seq (sr [(oP 84 (.load false 1 (.tmp 1))), (oP 85 (.call 35 [(.tmp 84)])), (mV 83 85), (oP 86 (.ext (.tmp 83) 0)), (oP 87 (.ext (.tmp 83) 1)), (mV 9 86), (mV 10 87)]
 (sr [(mV 88 10), (oP 89 (.bin .gtr (.tmp 88) (kI 0)))]
 (.cond (.tmp 89) (sr [(oP 90 (.load false 1 (.tmp 1))), (mV 91 9), (mV 92 10), (oP 93 (.call 36 [(.tmp 90), (.tmp 91), (.tmp 92)])), (oN (.store 4 (.tmp 2) (.tmp 93)))]
 .ret) .skip)))
 (.seq (sr [(oP 94 (.load false 1 (.tmp 1))), (oP 95 (.call 34 [(.tmp 94)]))]
 (.cond (.tmp 95) (sr [(oP 96 (.load false 1 (.tmp 1))), (oP 97 (.call 33 [(kI 1), (.tmp 96), (kI 0)])), (oP 11 (.box (.const (.agg [(.val (.int .i64 0)), (.str []), (.str []), (.val (.int .i64 0))])))), (oN (.store 4 (.tmp 11) (.tmp 97)))]
 (.seq (sr [(oP 98 (.faddr 1 (.tmp 11))), (oP 99 (.load false 1 (.tmp 98))), (oP 100 (.lenS (.tmp 99))), (mV 12 100)]
 (sr [(oP 101 (.load false 1 (.tmp 1))), (mV 102 12), (oP 103 (.slStr (.tmp 101) (some (.tmp 102)) none)), (oP 104 (.call 37 [(.tmp 103), (.const (.c (.str [40])))]))]
 (.cond (.tmp 104) (.drawn (.alt [((mV 106 12), (0, 1)), ((oP 107 (.bin .add (.tmp 106) (kI 1))), (0, 2)), ((oP 109 (.faddr 0 (.tmp 11))), (0, 4))] (.fin [((oP 105 (.load false 1 (.tmp 1))), (2, 0)), ((oP 108 (.slStr (.tmp 105) none (some (.tmp 107)))), (0, 3)), ((oN (.store 1 (.tmp 109) (kI 2))), (2, 5)), ((oP 110 (.faddr 1 (.tmp 11))), (0, 6)), ((oN (.store 1 (.tmp 110) (.tmp 108))), (2, 7))]) (.fin [((oN (.store 1 (.tmp 109) (kI 2))), (2, 5)), ((oP 105 (.load false 1 (.tmp 1))), (2, 0)), ((oP 108 (.slStr (.tmp 105) none (some (.tmp 107)))), (0, 3)), ((oP 110 (.faddr 1 (.tmp 11))), (0, 6)), ((oN (.store 1 (.tmp 110) (.tmp 108))), (2, 7))]))) .skip)))
 a21_c4)) .skip))
 a21_c5))
def a21_c1 : ACode := (.seq (sr [(oP 42 (.load false 1 (.tmp 1))), (oP 43 (.idxS (.tmp 42) (kI 0))), (mV 8 43)]
 (.block 0 (sr [(mV 45 8), (oP 46 (.bin .eql (.tmp 45) (.const (.c (.val (.int .u8 39)))))), (mV 47 46), ⟨(some 48), (.mov (.tmp 8)), (some (47, false))⟩, ⟨(some 49), (.bin .eql (.tmp 48) (.const (.c (.val (.int .u8 34))))), (some (47, false))⟩, (oP 50 (.pick (.tmp 47) kT (.tmp 49))), (mV 44 50)]
 (.cond (.tmp 44) (sr [(oP 51 (.load false 1 (.tmp 1))), (oP 52 (.call 30 [(.tmp 51)])), (oN (.store 4 (.tmp 2) (.tmp 52)))]
 .ret) (sr [(mV 54 8), (oP 55 (.bin .eql (.tmp 54) (.const (.c (.val (.int .u8 35)))))), (mV 56 55), ⟨(some 57), (.load false 1 (.tmp 1)), (some (56, true))⟩, ⟨(some 58), (.lenS (.tmp 57)), (some (56, true))⟩, ⟨(some 59), (.bin .gtr (.tmp 58) (kI 1)), (some (56, true))⟩, (oP 60 (.pick (.tmp 56) (.tmp 59) kF)), (mV 61 60), ⟨(some 62), (.load false 1 (.tmp 1)), (some (61, true))⟩, ⟨(some 63), (.idxS (.tmp 62) (kI 1)), (some (61, true))⟩, ⟨(some 64), (.call 31 [(.tmp 63)]), (some (61, true))⟩, ⟨(some 65), (.mov (.tmp 64)), (some (61, true))⟩, ⟨(some 66), (.load false 1 (.tmp 1)), (some (65, false))⟩, ⟨(some 67), (.slStr (.tmp 66) (some (kI 1)) none), (some (65, false))⟩, ⟨(some 68), (.call 32 [(.tmp 67)]), (some (65, false))⟩, ⟨(some 69), (.pick (.tmp 65) kT (.tmp 68)), (some (61, true))⟩, (oP 70 (.pick (.tmp 61) (.tmp 69) kF)), (mV 53 70)]
 a21_c2)))))
 a21_c9)
def a21 : AFunc := ⟨1, [(.cell true 4 2)], (sr [(oP 1 (.box (.tmp 0))), (oP 2 (.box (.const (.agg [(.val (.int .i64 0)), (.str []), (.str []), (.val (.int .i64 0))]))))]
 (sr [(oP 13 (.mkfn (.func 26) [] [(.tmp 1)])), (mV 3 13)]
 (.seq (.seq (.drawn (.fin [((oP 14 (.load false 1 (.tmp 1))), (0, 0)), ((oP 15 (.lenS (.tmp 14))), (0, 1)), ((oP 16 (.load false 1 (.tmp 1))), (0, 2)), ((oP 17 (.call 27 [(.tmp 16), (.const (.c (.str [32, 9, 10, 12, 13])))])), (1, 3)), ((oP 18 (.lenS (.tmp 17))), (0, 4)), ((oP 19 (.bin .sub (.tmp 15) (.tmp 18))), (0, 5)), ((mV 4 19), (0, 6))]))
 (sr [(mV 20 4), (oP 21 (.bin .gtr (.tmp 20) (kI 0)))]
 (.cond (.tmp 21) (sr [(oP 22 (.load false 1 (.tmp 1))), (mV 23 4), (oP 24 (.slStr (.tmp 22) none (some (.tmp 23)))), (oP 25 (.build [(.val (.int .i64 0)), (.str []), (.str []), (.val (.int .i64 0))] [(0, (1, (kI 8))), (1, (1, (.tmp 24)))])), (oN (.store 4 (.tmp 2) (.tmp 25)))]
 .ret) .skip)))
 (.seq (sr [(oP 27 (.load false 1 (.tmp 1))), (oP 28 (.call 28 [(.tmp 27), (.const (.c (.str [47, 42])))])), (mV 26 28), (oP 29 (.ext (.tmp 26) 0)), (oP 30 (.ext (.tmp 26) 1)), (mV 5 29), (mV 6 30)]
 (sr [(mV 31 6)]
 (.cond (.tmp 31) (.seq (sr [(mV 32 5), (oP 33 (.call 29 [(.tmp 32), (.const (.c (.str [42, 47])))])), (mV 7 33)]
 (sr [(mV 34 7), (oP 35 (.bin .geq (.tmp 34) (kI 0)))]
 (.cond (.tmp 35) (.region [(oP 36 (.load false 1 (.tmp 1))), (mV 37 7), (oP 38 (.bin .add (.tmp 37) (kI 4))), (oP 39 (.slStr (.tmp 36) none (some (.tmp 38)))), (oN (.store 1 (.tmp 1) (.tmp 39)))]) .skip)))
 a21_c0) .skip)))
 a21_c1))))⟩
theorem c21 : compFunc Tryz.prog 21 = some a21 := by kernel_rfl
def Zs (r : TSToken) : AV → Heap → Nat → Prop := fun v h' n' => v = (.agg (e_TSToken r)) ∧ (h' = e0) ∧ n' = 0
abbrev Z7h (mL : Int) (o : TSToken) : AExit → St → Prop := AThen (Sv Tryz.prog (GG mL) 0 a21_c1 (Ends a21.results 0 (Zs o))) (Ends a21.results 0 (Zs o))
noncomputable def Z2i (s_1 : Tx) : Option TSToken :=
 some (⟨9, s_1, [], 0⟩ : TSToken)
theorem Z52 {mL : Int} {s_1 : Tx} {o : TSToken} (h : Z2i s_1 = some o) :
  Sv Tryz.prog (GG mL) 0 a21_c0 (Z7h mL o) ⟨(ue [(2, (.c (.ref 1 4 0 0))), (1, (.c (.ref 0 1 0 0)))]), (upd (upd e0 0 (some (.cells 1 [[.str s_1]]))) 1 (some (.cells 4 [[cI 0, .str [], .str [], cI 0]]))), 2⟩ := by
 unfold Z2i at h
 refine ssr <| un1 (v := (S s_1)) rfl <| un1 (v := (.agg [cI 9, .str s_1, .str [], cI 0])) rfl <| un <| a2n (h' := upd _ 1 (some (.cells 4 [[cI 9, .str s_1, .str [], cI 0]]))) (n' := 2) rfl rfl hcs <| dnil <| Sv.ret ?_
 exact rt0 h rfl rfl ⟨rfl, rfl, rfl⟩
abbrev Z7i (mL : Int) (o : TSToken) : AExit → St → Prop := AThen (Sv Tryz.prog (GG mL) 0 a21_c5 (Ends a21.results 0 (Zs o))) (Ends a21.results 0 (Zs o))
noncomputable def Z1b (r_11 : TSToken) (t0 : Int) (t1 : Tx) : Option TSToken :=
 some (⟨t0, t1, r_11.Value, r_11.Num⟩ : TSToken)
theorem Z3q {mL : Int} {r_11 : TSToken} {t0 : Int} {t1 : Tx} {o : TSToken} (h : Z1b r_11 t0 t1 = some o) :
  Sv Tryz.prog (GG mL) 0 a21_c4 (Z7i mL o) ⟨(ue [(11, (.c (.ref 1 4 0 0))), (2, (.c (.ref 0 4 0 0)))]), (upd (upd e0 0 (some (.cells 4 [[cI 0, .str [], .str [], cI 0]]))) 1 (some (.cells 4 [[cI t0, .str t1, .str r_11.Value, cI r_11.Num]]))), 2⟩ := by
 unfold Z1b at h
 refine ssr <| un1 (v := (.agg [cI t0, .str t1, .str r_11.Value, cI r_11.Num])) rfl <| un <| a2n (h' := upd _ 0 (some (.cells 4 [[cI t0, .str t1, .str r_11.Value, cI r_11.Num]]))) (n' := 2) rfl rfl hcs <| dnil <| Sv.ret ?_
 exact rt0 h rfl rfl ⟨rfl, rfl, rfl⟩
abbrev Z7j (mL : Int) (o : TSToken) : AExit → St → Prop := AThen (Sv Tryz.prog (GG mL) 0 a21_c8 (Ends a21.results 0 (Zs o))) (Ends a21.results 0 (Zs o))
abbrev Z53 (mL : Int) (o : TSToken) : AExit → St → Prop := ABlock 1 (Z7j mL o)
noncomputable def Z1v (s_ : Tx) (c_1 : UInt8) (v120 : Bool) : Option TSToken :=
 if v120 then
  (Z12 11 s_).bind fun r_16 =>
  some r_16
 else
  if decide ((c_1.toNat : Int) = 92) then
   (Z12 6 s_).bind fun r_17 =>
   some r_17
  else
   (Z12 12 s_).bind fun r_18 =>
   some r_18
theorem Z3r {mL : Int} {s_ : Tx} {c_1 : UInt8} {v120 : Bool} {o : TSToken} (h : Z1v s_ c_1 v120 = some o) :
  Sv Tryz.prog (GG mL) 0 a21_c7 (Z53 mL o) ⟨(ue [(120, (B v120)), (113, (.c (.val (.int .u8 (c_1.toNat : Int))))), (3, (.c (.fn (.func 26) [] [.ref 1 1 0 0]))), (2, (.c (.ref 0 4 0 0)))]), (upd (upd e0 0 (some (.cells 4 [[cI 0, .str [], .str [], cI 0]]))) 1 (some (.cells 1 [[.str s_]]))), 2⟩ := by
 unfold Z1v at h
 refine Sv.cnd rfl h (fun h => ?_) fun h => ?_
 ·refine ssr <| un1 rfl ?_
  obtain ⟨r_16, hr13, h⟩ := bnd h
  refine un <| acv_gen (bs := []) («as» := [(I 11), (.c (.rop [.str s_]))]) (h2 := (upd _ 1 none)) (h1 := e0) rfl (by kernel_rfl) (Z32 hr13) rfl (.cons (avAs_free rfl) (.cons (.c (ref_ro rfl (gone rfl) (.sm rfl .nil) rfl)) .nil)) (hsub_none (hsub_refl _)) (.nil _) (fun _ => rfl) (by decide) (by decide) (.cons (avAs_free rfl) (.cons (avAs_free rfl) .nil)) .nil ?_
  rintro _ _ _ hn ⟨rfl, rfl, rfl⟩
  refine ⟨.inr ⟨rfl, .nil⟩, (rem [] _), fun hbd => (m3_rem (in_nil _) (.nil) hbd), (.agg (e_TSToken r_16)), 2, rfl, rfl, ?_⟩
  refine un <| a2n (h' := upd _ 0 (some (.cells 4 [(e_TSToken r_16)]))) (n' := 2) rfl rfl hcs <| dnil <| Sv.ret ?_
  exact rt0 h rfl rfl ⟨rfl, rfl, rfl⟩
 ·refine ssr <| un1 (v := (B (decide ((c_1.toNat : Int) = 92)))) rfl <| un1 rfl <| dnil ?_
  refine Sv.cnd rfl h (fun h => ?_) fun h => ?_
  ·refine ssr <| un1 rfl ?_
   obtain ⟨r_17, hr14, h⟩ := bnd h
   refine un <| acv_gen (bs := []) («as» := [(I 6), (.c (.rop [.str s_]))]) (h2 := (upd _ 1 none)) (h1 := e0) rfl (by kernel_rfl) (Z32 hr14) rfl (.cons (avAs_free rfl) (.cons (.c (ref_ro rfl (gone rfl) (.sm rfl .nil) rfl)) .nil)) (hsub_none (hsub_refl _)) (.nil _) (fun _ => rfl) (by decide) (by decide) (.cons (avAs_free rfl) (.cons (avAs_free rfl) .nil)) .nil ?_
   rintro _ _ _ hn ⟨rfl, rfl, rfl⟩
   refine ⟨.inr ⟨rfl, .nil⟩, (rem [] _), fun hbd => (m3_rem (in_nil _) (.nil) hbd), (.agg (e_TSToken r_17)), 2, rfl, rfl, ?_⟩
   refine un <| a2n (h' := upd _ 0 (some (.cells 4 [(e_TSToken r_17)]))) (n' := 2) rfl rfl hcs <| dnil <| Sv.ret ?_
   exact rt0 h rfl rfl ⟨rfl, rfl, rfl⟩
  ·refine Sv.skip <| ssr <| un1 rfl ?_
   obtain ⟨r_18, hr15, h⟩ := bnd h
   refine un <| acv_gen (bs := []) («as» := [(I 12), (.c (.rop [.str s_]))]) (h2 := (upd _ 1 none)) (h1 := e0) rfl (by kernel_rfl) (Z32 hr15) rfl (.cons (avAs_free rfl) (.cons (.c (ref_ro rfl (gone rfl) (.sm rfl .nil) rfl)) .nil)) (hsub_none (hsub_refl _)) (.nil _) (fun _ => rfl) (by decide) (by decide) (.cons (avAs_free rfl) (.cons (avAs_free rfl) .nil)) .nil ?_
   rintro _ _ _ hn ⟨rfl, rfl, rfl⟩
   refine ⟨.inr ⟨rfl, .nil⟩, (rem [] _), fun hbd => (m3_rem (in_nil _) (.nil) hbd), (.agg (e_TSToken r_18)), 2, rfl, rfl, ?_⟩
   refine un <| a2n (h' := upd _ 0 (some (.cells 4 [(e_TSToken r_18)]))) (n' := 2) rfl rfl hcs <| dnil <| Sv.ret ?_
   exact rt0 h rfl rfl ⟨rfl, rfl, rfl⟩
noncomputable def Z1w (s_ : Tx) (c_1 : UInt8) (v114 : Bool) : Option TSToken :=
 if v114 then
  (Z12 10 s_).bind fun r_15 =>
  some r_15
 else
  if decide ((c_1.toNat : Int) = 41) then
   Z1v s_ c_1 (decide ((c_1.toNat : Int) = 41))
  else
   if decide ((c_1.toNat : Int) = 93) then
    Z1v s_ c_1 (decide ((c_1.toNat : Int) = 93))
   else
    Z1v s_ c_1 (decide ((c_1.toNat : Int) = 125))
theorem Z3s {mL : Int} {s_ : Tx} {c_1 : UInt8} {v114 : Bool} {o : TSToken} (h : Z1w s_ c_1 v114 = some o) :
  Sv Tryz.prog (GG mL) 0 a21_c6 (Z53 mL o) ⟨(ue [(114, (B v114)), (113, (.c (.val (.int .u8 (c_1.toNat : Int))))), (3, (.c (.fn (.func 26) [] [.ref 1 1 0 0]))), (2, (.c (.ref 0 4 0 0)))]), (upd (upd e0 0 (some (.cells 4 [[cI 0, .str [], .str [], cI 0]]))) 1 (some (.cells 1 [[.str s_]]))), 2⟩ := by
 unfold Z1w at h
 refine Sv.cnd rfl h (fun h => ?_) fun h => ?_
 ·refine ssr <| un1 rfl ?_
  obtain ⟨r_15, hr12, h⟩ := bnd h
  refine un <| acv_gen (bs := []) («as» := [(I 10), (.c (.rop [.str s_]))]) (h2 := (upd _ 1 none)) (h1 := e0) rfl (by kernel_rfl) (Z32 hr12) rfl (.cons (avAs_free rfl) (.cons (.c (ref_ro rfl (gone rfl) (.sm rfl .nil) rfl)) .nil)) (hsub_none (hsub_refl _)) (.nil _) (fun _ => rfl) (by decide) (by decide) (.cons (avAs_free rfl) (.cons (avAs_free rfl) .nil)) .nil ?_
  rintro _ _ _ hn ⟨rfl, rfl, rfl⟩
  refine ⟨.inr ⟨rfl, .nil⟩, (rem [] _), fun hbd => (m3_rem (in_nil _) (.nil) hbd), (.agg (e_TSToken r_15)), 2, rfl, rfl, ?_⟩
  refine un <| a2n (h' := upd _ 0 (some (.cells 4 [(e_TSToken r_15)]))) (n' := 2) rfl rfl hcs <| dnil <| Sv.ret ?_
  exact rt0 h rfl rfl ⟨rfl, rfl, rfl⟩
 ·refine Sv.seq <| ssr <| un1 (v := (B (decide ((c_1.toNat : Int) = 41)))) rfl <| un1 rfl <| dnil ?_
  refine Sv.cnd rfl h (fun h => ?_) fun h => ?_
  ·refine Sv.skip ?_
   exact Sv.weak (wcn [0, 1] rfl (.cf rfl rfl (.cf rfl rfl (.cons rfl (.c (fn_as .nil (.cons (.ref rfl (by decide)) .nil))) (.cr rfl rfl rfl .nil)))) (.box (by decide) rfl (blkAs_cells (.sm rfl .nil)) (.box (by decide) rfl (blkAs_cells (.sm rfl (.sm rfl (.sm rfl (.sm rfl .nil))))) .nil))) (Z3r h)
  ·refine ssr <| un1 (v := (B (decide ((c_1.toNat : Int) = 93)))) rfl <| un1 rfl <| dnil ?_
   refine Sv.cnd rfl h (fun h => ?_) fun h => ?_
   ·refine Sv.skip ?_
    exact Sv.weak (wcn [0, 1] rfl (.cf rfl rfl (.cf rfl rfl (.cons rfl (.c (fn_as .nil (.cons (.ref rfl (by decide)) .nil))) (.cr rfl rfl rfl .nil)))) (.box (by decide) rfl (blkAs_cells (.sm rfl .nil)) (.box (by decide) rfl (blkAs_cells (.sm rfl (.sm rfl (.sm rfl (.sm rfl .nil))))) .nil))) (Z3r h)
   ·refine srg <| un1 (v := (B (decide ((c_1.toNat : Int) = 125)))) rfl <| un1 rfl <| dnil ?_
    exact Sv.weak (wcn [0, 1] rfl (.cf rfl rfl (.cf rfl rfl (.cons rfl (.c (fn_as .nil (.cons (.ref rfl (by decide)) .nil))) (.cr rfl rfl rfl .nil)))) (.box (by decide) rfl (blkAs_cells (.sm rfl .nil)) (.box (by decide) rfl (blkAs_cells (.sm rfl (.sm rfl (.sm rfl (.sm rfl .nil))))) .nil))) (Z3r h)
abbrev Z7k (mL : Int) (o : TSToken) : AExit → St → Prop := AThen (Sv Tryz.prog (GG mL) 0 a21_c9 (Ends a21.results 0 (Zs o))) (Ends a21.results 0 (Zs o))
abbrev Z54 (mL : Int) (o : TSToken) : AExit → St → Prop := ABlock 0 (Z7k mL o)
noncomputable def Z1c (s_ : Tx) (v73 : Bool) : Option TSToken :=
 if v73 then
  (Zm 3 s_ 1).bind fun r_7 =>
  some r_7
 else
  (Z2e s_).bind fun r_8 =>
  if decide (0 < r_8.2) then
   (Z2h s_ r_8.1 r_8.2).bind fun r_9 =>
   some r_9
  else
   (Z18 s_).bind fun r_10 =>
   if r_10 then
    (Zm 1 s_ 0).bind fun r_11 =>
    (sub? s_ (r_11.Raw.length : Int) (s_.length : Int)).bind fun r_12 =>
    (Z11 r_12 [40]).bind fun r_13 =>
    if r_13 then
     (sub? s_ 0 (wi ((r_11.Raw.length : Int) + 1))).bind fun r_14 =>
     Z1b r_11 2 r_14
    else
     Z1b r_11 r_11.Kind r_11.Raw
   else
    (at? s_ 0).bind fun c_1 =>
    if decide ((c_1.toNat : Int) = 40) then
     Z1w s_ c_1 (decide ((c_1.toNat : Int) = 40))
    else
     if decide ((c_1.toNat : Int) = 91) then
      Z1w s_ c_1 (decide ((c_1.toNat : Int) = 91))
     else
      Z1w s_ c_1 (decide ((c_1.toNat : Int) = 123))
theorem Z55 {mL : Int} {s_ : Tx} {v73 : Bool} {o : TSToken} (h : Z1c s_ v73 = some o) :
  Sv Tryz.prog (GG mL) 0 a21_c3 (Z54 mL o) ⟨(ue [(73, (B v73)), (3, (.c (.fn (.func 26) [] [.ref 0 1 0 0]))), (2, (.c (.ref 1 4 0 0))), (1, (.c (.ref 0 1 0 0)))]), (upd (upd e0 0 (some (.cells 1 [[.str s_]]))) 1 (some (.cells 4 [[cI 0, .str [], .str [], cI 0]]))), 2⟩ := by
 unfold Z1c at h
 refine Sv.cnd rfl h (fun h => ?_) fun h => ?_
 ·refine ssr <| un1 (v := (S s_)) rfl ?_
  obtain ⟨r_7, hr6, h⟩ := bnd h
  refine un <| ac_pure (Z3i hr6) rfl rfl rfl <| un <| a2n (h' := upd _ 1 (some (.cells 4 [(e_TSToken r_7)]))) (n' := 2) rfl rfl hcs <| dnil <| Sv.ret ?_
  exact rt0 h rfl rfl ⟨rfl, rfl, rfl⟩
 ·refine Sv.skip <| Sv.seq <| ssr <| un1 (v := (S s_)) rfl ?_
  obtain ⟨r_8, hr7, h⟩ := bnd h
  refine un <| ac_pure (Z7c hr7) rfl rfl rfl <| un1 rfl <| un1 (v := (I r_8.1)) rfl <| un1 (v := (I r_8.2)) rfl <| un1 rfl <| un1 rfl <| dnil <| ssr <| un1 rfl <| un1 (v := (B (decide (0 < r_8.2)))) rfl <| dnil ?_
  refine Sv.cnd rfl h (fun h => ?_) fun h => ?_
  ·refine ssr <| un1 (v := (S s_)) rfl <| un1 rfl <| un1 rfl ?_
   obtain ⟨r_9, hr8, h⟩ := bnd h
   refine un <| ac_pure (Z7f hr8) rfl rfl rfl <| un <| a2n (h' := upd _ 1 (some (.cells 4 [(e_TSToken r_9)]))) (n' := 2) rfl rfl hcs <| dnil <| Sv.ret ?_
   exact rt0 h rfl rfl ⟨rfl, rfl, rfl⟩
  ·refine Sv.skip <| Sv.seq <| ssr <| un1 (v := (S s_)) rfl ?_
   obtain ⟨r_10, hr9, h⟩ := bnd h
   refine un <| ac_pure (Z3k hr9) rfl rfl rfl <| dnil ?_
   refine Sv.cnd rfl h (fun h => ?_) fun h => ?_
   ·refine ssr <| un1 (v := (S s_)) rfl ?_
    obtain ⟨r_11, hr10, h⟩ := bnd h
    refine un <| ac_pure (Z3i hr10) rfl rfl rfl <| un <| a2v (v := (.c (.ref 2 4 0 0))) (h' := upd _ 2 (some (.cells 4 [[cI 0, .str [], .str [], cI 0]]))) (n' := 3) rfl rfl hcs <| un <| a2n (h' := upd _ 2 (some (.cells 4 [(e_TSToken r_11)]))) (n' := 3) rfl rfl hcs <| dnil <| Sv.seq <| ssr <| un1 (v := (.c (.ref 2 4 0 1))) rfl <| un1 (v := (S r_11.Raw)) rfl <| un1 (v := (I (r_11.Raw.length : Int))) rfl <| un1 rfl <| dnil <| ssr <| un1 (v := (S s_)) rfl <| un1 rfl ?_
    obtain ⟨r_12, hx4, h⟩ := bnd h
    refine un1 (v := (S r_12)) (s_slStr rfl rfl rfl hx4) ?_
    obtain ⟨r_13, hr11, h⟩ := bnd h
    refine un <| ac_pure (Z3l hr11) rfl rfl rfl <| dnil ?_
    refine Sv.cnd rfl h (fun h => ?_) fun h => ?_
    ·refine Sv.drawn2 <| un1 rfl <| un1 (v := (I (wi ((r_11.Raw.length : Int) + 1)))) rfl <| un1 (v := (.c (.ref 2 4 0 0))) rfl <| dnil ?_
     refine ⟨?_, ?_⟩
     ·refine un1 (v := (S s_)) rfl ?_
      obtain ⟨r_14, hx5, h⟩ := bnd h
      refine un1 (v := (S r_14)) (s_slStr rfl rfl rfl hx5) <| un <| a2n (h' := upd _ 2 (some (.cells 4 [[cI 2, .str r_11.Raw, .str r_11.Value, cI r_11.Num]]))) (n' := 3) rfl rfl hcs <| un1 (v := (.c (.ref 2 4 0 1))) rfl <| un <| a2n (h' := upd _ 2 (some (.cells 4 [[cI 2, .str r_14, .str r_11.Value, cI r_11.Num]]))) (n' := 3) rfl rfl hcs <| dnil ?_
      exact Sv.weak (wcn [1, 2] rfl (.cr rfl rfl rfl (.cr rfl rfl rfl .nil)) (.box (by decide) rfl (blkAs_cells (.sm rfl (.sm rfl (.sm rfl (.sm rfl .nil))))) (.box (by decide) rfl (blkAs_cells (.sm rfl (.sm rfl (.sm rfl (.sm rfl .nil))))) .nil))) (Z3q h)
     ·refine un <| a2n (h' := upd _ 2 (some (.cells 4 [[cI 2, .str r_11.Raw, .str r_11.Value, cI r_11.Num]]))) (n' := 3) rfl rfl hcs <| un1 (v := (S s_)) rfl ?_
      obtain ⟨r_14, hx5, h⟩ := bnd h
      refine un1 (v := (S r_14)) (s_slStr rfl rfl rfl hx5) <| un1 (v := (.c (.ref 2 4 0 1))) rfl <| un <| a2n (h' := upd _ 2 (some (.cells 4 [[cI 2, .str r_14, .str r_11.Value, cI r_11.Num]]))) (n' := 3) rfl rfl hcs <| dnil ?_
      exact Sv.weak (wcn [1, 2] rfl (.cr rfl rfl rfl (.cr rfl rfl rfl .nil)) (.box (by decide) rfl (blkAs_cells (.sm rfl (.sm rfl (.sm rfl (.sm rfl .nil))))) (.box (by decide) rfl (blkAs_cells (.sm rfl (.sm rfl (.sm rfl (.sm rfl .nil))))) .nil))) (Z3q h)
    ·refine Sv.skip ?_
     exact Sv.weak (wcn [1, 2] rfl (.cr rfl rfl rfl (.cr rfl rfl rfl .nil)) (.box (by decide) rfl (blkAs_cells (.sm rfl (.sm rfl (.sm rfl (.sm rfl .nil))))) (.box (by decide) rfl (blkAs_cells (.sm rfl (.sm rfl (.sm rfl (.sm rfl .nil))))) .nil))) (Z3q h)
   ·refine Sv.skip <| Sv.seq <| ssr <| un1 (v := (S s_)) rfl ?_
    obtain ⟨c_1, hx6, h⟩ := bnd h
    refine un1 (v := (.c (.val (.int .u8 (c_1.toNat : Int))))) (s_idxS rfl rfl hx6) <| dnil <| Sv.block <| Sv.seq <| ssr <| un1 (v := (B (decide ((c_1.toNat : Int) = 40)))) rfl <| un1 rfl <| dnil ?_
    refine Sv.cnd rfl h (fun h => ?_) fun h => ?_
    ·refine Sv.skip ?_
     exact Sv.weak (wcn [1, 0] rfl (.cf rfl rfl (.cf rfl rfl (.cons rfl (.c (fn_as .nil (.cons (.ref rfl (by decide)) .nil))) (.cr rfl rfl rfl .nil)))) (.box (by decide) rfl (blkAs_cells (.sm rfl .nil)) (.box (by decide) rfl (blkAs_cells (.sm rfl (.sm rfl (.sm rfl (.sm rfl .nil))))) .nil))) (Z3s h)
    ·refine ssr <| un1 (v := (B (decide ((c_1.toNat : Int) = 91)))) rfl <| un1 rfl <| dnil ?_
     refine Sv.cnd rfl h (fun h => ?_) fun h => ?_
     ·refine Sv.skip ?_
      exact Sv.weak (wcn [1, 0] rfl (.cf rfl rfl (.cf rfl rfl (.cons rfl (.c (fn_as .nil (.cons (.ref rfl (by decide)) .nil))) (.cr rfl rfl rfl .nil)))) (.box (by decide) rfl (blkAs_cells (.sm rfl .nil)) (.box (by decide) rfl (blkAs_cells (.sm rfl (.sm rfl (.sm rfl (.sm rfl .nil))))) .nil))) (Z3s h)
     ·refine srg <| un1 (v := (B (decide ((c_1.toNat : Int) = 123)))) rfl <| un1 rfl <| dnil ?_
      exact Sv.weak (wcn [1, 0] rfl (.cf rfl rfl (.cf rfl rfl (.cons rfl (.c (fn_as .nil (.cons (.ref rfl (by decide)) .nil))) (.cr rfl rfl rfl .nil)))) (.box (by decide) rfl (blkAs_cells (.sm rfl .nil)) (.box (by decide) rfl (blkAs_cells (.sm rfl (.sm rfl (.sm rfl (.sm rfl .nil))))) .nil))) (Z3s h)
noncomputable def Zt (s_ : Tx) (c_ : UInt8) (v53 : Bool) : Option TSToken :=
 if v53 then
  (Zm 4 s_ 1).bind fun r_6 =>
  some r_6
 else
  if decide ((c_.toNat : Int) = 64) then
   (sub? s_ 1 (s_.length : Int)).bind fun r_19 =>
   (Z18 r_19).bind fun r_20 =>
   Z1c s_ r_20
  else
   Z1c s_ false
theorem Z3t {mL : Int} {s_ : Tx} {c_ : UInt8} {v53 : Bool} {o : TSToken} (h : Zt s_ c_ v53 = some o) :
  Sv Tryz.prog (GG mL) 0 a21_c2 (Z54 mL o) ⟨(ue [(53, (B v53)), (8, (.c (.val (.int .u8 (c_.toNat : Int))))), (3, (.c (.fn (.func 26) [] [.ref 0 1 0 0]))), (2, (.c (.ref 1 4 0 0))), (1, (.c (.ref 0 1 0 0)))]), (upd (upd e0 0 (some (.cells 1 [[.str s_]]))) 1 (some (.cells 4 [[cI 0, .str [], .str [], cI 0]]))), 2⟩ := by
 unfold Zt at h
 refine Sv.cnd rfl h (fun h => ?_) fun h => ?_
 ·refine ssr <| un1 (v := (S s_)) rfl ?_
  obtain ⟨r_6, hr5, h⟩ := bnd h
  refine un <| ac_pure (Z3i hr5) rfl rfl rfl <| un <| a2n (h' := upd _ 1 (some (.cells 4 [(e_TSToken r_6)]))) (n' := 2) rfl rfl hcs <| dnil <| Sv.ret ?_
  exact rt0 h rfl rfl ⟨rfl, rfl, rfl⟩
 ·refine ssr <| un1 rfl <| un1 (v := (B (decide ((c_.toNat : Int) = 64)))) rfl <| un1 rfl ?_
  refine spl h (fun h => ?_) fun h => ?_
  ·refine gt rfl <| a1 (v := (S s_)) rfl ?_
   obtain ⟨r_19, hx7, h⟩ := bnd h
   refine gt rfl <| a1 (v := (S r_19)) (s_slStr rfl rfl rfl hx7) ?_
   obtain ⟨r_20, hr16, h⟩ := bnd h
   refine gt rfl <| ac_pure (Z3k hr16) rfl rfl rfl <| un1 (v := (B r_20)) rfl <| un1 rfl <| dnil ?_
   exact Sv.weak (wcn [0, 1] rfl (.cf rfl rfl (.cons rfl (.c (fn_as .nil (.cons (.ref rfl (by decide)) .nil))) (.cr rfl rfl rfl (.cr rfl rfl rfl .nil)))) (.box (by decide) rfl (blkAs_cells (.sm rfl (.sm rfl (.sm rfl (.sm rfl .nil))))) (.box (by decide) rfl (blkAs_cells (.sm rfl .nil)) .nil))) (Z55 h)
  ·refine gs rfl rfl <| gs rfl rfl <| gs rfl rfl <| un1 (v := (B false)) rfl <| un1 rfl <| dnil ?_
   exact Sv.weak (wcn [0, 1] rfl (.cf rfl rfl (.cons rfl (.c (fn_as .nil (.cons (.ref rfl (by decide)) .nil))) (.cr rfl rfl rfl (.cr rfl rfl rfl .nil)))) (.box (by decide) rfl (blkAs_cells (.sm rfl (.sm rfl (.sm rfl (.sm rfl .nil))))) (.box (by decide) rfl (blkAs_cells (.sm rfl .nil)) .nil))) (Z55 h)
/-- clerestory/csstok.first -/
noncomputable def Z2j (s_ : Tx) : Option TSToken :=
 (Z28 s_ [32, 9, 10, 12, 13]).bind fun r_ =>
 if decide (0 < (wi ((s_.length : Int) - (r_.length : Int)))) then
  (sub? s_ 0 (wi ((s_.length : Int) - (r_.length : Int)))).bind fun r_1 =>
  some (⟨8, r_1, [], 0⟩ : TSToken)
 else
  (Z29 s_ [47, 42]).bind fun r_2 =>
  if r_2.2 then
   (Z3d r_2.1 [42, 47]).bind fun r_3 =>
   if decide (0 ≤ r_3) then
    (sub? s_ 0 (wi (r_3 + 4))).bind fun r_4 =>
    Z2i r_4
   else
    Z2i s_
  else
   (at? s_ 0).bind fun c_ =>
   if ((decide ((c_.toNat : Int) = 39)) || (decide ((c_.toNat : Int) = 34))) then
    (Z2b s_).bind fun r_5 =>
    some r_5
   else
    if ((decide ((c_.toNat : Int) = 35)) && (decide (1 < (s_.length : Int)))) then
     (at? s_ 1).bind fun c_2 =>
     if (Z17 (c_2.toNat : Int)) then
      Zt s_ c_ true
     else
      (sub? s_ 1 (s_.length : Int)).bind fun r_21 =>
      (Z10 r_21).bind fun r_22 =>
      Zt s_ c_ r_22
    else
     Zt s_ c_ false
theorem Z7l {mL : Int} {s_ : Tx} {r : TSToken} (h : Z2j s_ = some r) : CPure Tryz.prog (GG mL) 21 [(S s_)] (.agg (e_TSToken r)) := by
 refine acalls_of_sv hmix c21 (R := Zs r) ?_
 unfold Z2j at h
 refine ssr <| un <| a2v (v := (.c (.ref 0 1 0 0))) (h' := upd _ 0 (some (.cells 1 [[.str s_]]))) (n' := 1) rfl rfl hcs <| un <| a2v (v := (.c (.ref 1 4 0 0))) (h' := upd _ 1 (some (.cells 4 [[cI 0, .str [], .str [], cI 0]]))) (n' := 2) rfl rfl hcs <| dnil <| ssr <| un1 (v := (.c (.fn (.func 26) [] [.ref 0 1 0 0]))) rfl <| un1 rfl <| dnil <| Sv.seq <| Sv.seq <| Sv.drawn <| un1 (v := (S s_)) rfl <| un1 (v := (I (s_.length : Int))) rfl <| un1 (v := (S s_)) rfl ?_
 obtain ⟨r_, hr1, h⟩ := bnd h
 refine un <| ac_pure (Z48 hr1) rfl rfl rfl <| un1 (v := (I (r_.length : Int))) rfl <| un1 (v := (I (wi ((s_.length : Int) - (r_.length : Int))))) rfl <| un1 rfl <| dnil <| ssr <| un1 rfl <| un1 (v := (B (decide (0 < (wi ((s_.length : Int) - (r_.length : Int))))))) rfl <| dnil ?_
 refine Sv.cnd rfl h (fun h => ?_) fun h => ?_
 ·refine ssr <| un1 (v := (S s_)) rfl <| un1 rfl ?_
  obtain ⟨r_1, hx1, h⟩ := bnd h
  refine un1 (v := (S r_1)) (s_slStr rfl rfl rfl hx1) <| un1 (v := (.agg [cI 8, .str r_1, .str [], cI 0])) rfl <| un <| a2n (h' := upd _ 1 (some (.cells 4 [[cI 8, .str r_1, .str [], cI 0]]))) (n' := 2) rfl rfl hcs <| dnil <| Sv.ret ?_
  exact rt0 h rfl rfl ⟨rfl, rfl, rfl⟩
 ·refine Sv.skip <| Sv.seq <| ssr <| un1 (v := (S s_)) rfl ?_
  obtain ⟨r_2, hr2, h⟩ := bnd h
  refine un <| ac_pure (Z6s hr2) rfl rfl rfl <| un1 rfl <| un1 (v := (S r_2.1)) rfl <| un1 (v := (B r_2.2)) rfl <| un1 rfl <| un1 rfl <| dnil <| ssr <| un1 rfl <| dnil ?_
  refine Sv.cnd rfl h (fun h => ?_) fun h => ?_
  ·refine Sv.seq <| ssr <| un1 rfl ?_
   obtain ⟨r_3, hr3, h⟩ := bnd h
   refine un <| ac_pure (Z6t hr3) rfl rfl rfl <| un1 rfl <| dnil <| ssr <| un1 rfl <| un1 (v := (B (decide (0 ≤ r_3)))) rfl <| dnil ?_
   refine Sv.cnd rfl h (fun h => ?_) fun h => ?_
   ·refine srg <| un1 (v := (S s_)) rfl <| un1 rfl <| un1 (v := (I (wi (r_3 + 4)))) rfl ?_
    obtain ⟨r_4, hx2, h⟩ := bnd h
    refine un1 (v := (S r_4)) (s_slStr rfl rfl rfl hx2) <| un <| a2n (h' := upd _ 0 (some (.cells 1 [[.str r_4]]))) (n' := 2) rfl rfl hcs <| dnil ?_
    exact Sv.weak (wcn [0, 1] rfl (.cr rfl rfl rfl (.cr rfl rfl rfl .nil)) (.box (by decide) rfl (blkAs_cells (.sm rfl (.sm rfl (.sm rfl (.sm rfl .nil))))) (.box (by decide) rfl (blkAs_cells (.sm rfl .nil)) .nil))) (Z52 h)
   ·refine Sv.skip ?_
    exact Sv.weak (wcn [0, 1] rfl (.cr rfl rfl rfl (.cr rfl rfl rfl .nil)) (.box (by decide) rfl (blkAs_cells (.sm rfl (.sm rfl (.sm rfl (.sm rfl .nil))))) (.box (by decide) rfl (blkAs_cells (.sm rfl .nil)) .nil))) (Z52 h)
  ·refine Sv.skip <| Sv.seq <| ssr <| un1 (v := (S s_)) rfl ?_
   obtain ⟨c_, hx3, h⟩ := bnd h
   refine un1 (v := (.c (.val (.int .u8 (c_.toNat : Int))))) (s_idxS rfl rfl hx3) <| un1 rfl <| dnil <| Sv.block <| ssr <| un1 rfl <| un1 (v := (B (decide ((c_.toNat : Int) = 39)))) rfl <| un1 rfl ?_
   refine gjoin 3 (d := 50) (v := (B ((decide ((c_.toNat : Int) = 39)) || (decide ((c_.toNat : Int) = 34))))) (fun X hX => ?_) ?_
   ·refine split2 (fun hc4 => ?_) (fun hc4 => ?_)
    ·refine gs rfl rfl <| gs rfl rfl <| un1 (v := (B true)) rfl <| dnil ?_
     exact hX _ (.putEq (by rw [hc4]; rfl) (.skp (.skp (.putEq (by rw [hc4]) (.refl _)) rfl) rfl))
    ·refine gt rfl <| a1 rfl <| gt rfl <| a1 (v := (B (decide ((c_.toNat : Int) = 34)))) rfl <| un1 (v := (B (decide ((c_.toNat : Int) = 34)))) rfl <| dnil ?_
     exact hX _ (.putEq (by rw [hc4]; rfl) (.skp (.skp (.putEq (by rw [hc4]) (.refl _)) rfl) rfl))
   refine un1 rfl <| dnil ?_
   refine Sv.cnd rfl h (fun h => ?_) fun h => ?_
   ·refine ssr <| un1 (v := (S s_)) rfl ?_
    obtain ⟨r_5, hr4, h⟩ := bnd h
    refine un <| ac_pure (Z6v hr4) rfl rfl rfl <| un <| a2n (h' := upd _ 1 (some (.cells 4 [(e_TSToken r_5)]))) (n' := 2) rfl rfl hcs <| dnil <| Sv.ret ?_
    exact rt0 h rfl rfl ⟨rfl, rfl, rfl⟩
   ·refine ssr <| un1 rfl <| un1 (v := (B (decide ((c_.toNat : Int) = 35)))) rfl <| un1 rfl ?_
    refine gjoin 4 (d := 60) (v := (B ((decide ((c_.toNat : Int) = 35)) && (decide (1 < (s_.length : Int)))))) (fun X hX => ?_) ?_
    ·refine split2 (fun hc19 => ?_) (fun hc19 => ?_)
     ·refine gt rfl <| a1 (v := (S s_)) rfl <| gt rfl <| a1 (v := (I (s_.length : Int))) rfl <| gt rfl <| a1 (v := (B (decide (1 < (s_.length : Int))))) rfl <| un1 (v := (B (decide (1 < (s_.length : Int))))) rfl <| dnil ?_
      exact hX _ (.putEq (by rw [hc19]; rfl) (.skp (.skp (.skp (.putEq (by rw [hc19]) (.refl _)) rfl) rfl) rfl))
     ·refine gs rfl rfl <| gs rfl rfl <| gs rfl rfl <| un1 (v := (B false)) rfl <| dnil ?_
      exact hX _ (.putEq (by rw [hc19]; rfl) (.skp (.skp (.skp (.putEq (by rw [hc19]) (.refl _)) rfl) rfl) rfl))
    refine un1 rfl ?_
    refine spl h (fun h => ?_) fun h => ?_
    ·refine gt rfl <| a1 (v := (S s_)) rfl ?_
     obtain ⟨c_2, hx8, h⟩ := bnd h
     refine gt rfl <| a1 (v := (.c (.val (.int .u8 (c_2.toNat : Int))))) (s_idxS rfl rfl hx8) <| gt rfl <| ac_pure (Z4g (mL := mL) (c_2.toNat : Int)) rfl rfl rfl <| gt rfl <| a1 rfl ?_
     refine spl h (fun h => ?_) fun h => ?_
     ·refine gs rfl rfl <| gs rfl rfl <| gs rfl rfl <| gt rfl <| a1 (v := (B true)) rfl <| un1 (v := (B true)) rfl <| un1 rfl <| dnil ?_
      exact Sv.weak (wcn [0, 1] rfl (.cf rfl rfl (.cf rfl rfl (.cons rfl (.c (fn_as .nil (.cons (.ref rfl (by decide)) .nil))) (.cr rfl rfl rfl (.cr rfl rfl rfl .nil))))) (.box (by decide) rfl (blkAs_cells (.sm rfl (.sm rfl (.sm rfl (.sm rfl .nil))))) (.box (by decide) rfl (blkAs_cells (.sm rfl .nil)) .nil))) (Z3t h)
     ·refine gt rfl <| a1 (v := (S s_)) rfl ?_
      obtain ⟨r_21, hx9, h⟩ := bnd h
      refine gt rfl <| a1 (v := (S r_21)) (s_slStr rfl rfl rfl hx9) ?_
      obtain ⟨r_22, hr17, h⟩ := bnd h
      refine gt rfl <| ac_pure (Z30 hr17) rfl rfl rfl <| gt rfl <| a1 (v := (B r_22)) rfl <| un1 (v := (B r_22)) rfl <| un1 rfl <| dnil ?_
      exact Sv.weak (wcn [0, 1] rfl (.cf rfl rfl (.cf rfl rfl (.cons rfl (.c (fn_as .nil (.cons (.ref rfl (by decide)) .nil))) (.cr rfl rfl rfl (.cr rfl rfl rfl .nil))))) (.box (by decide) rfl (blkAs_cells (.sm rfl (.sm rfl (.sm rfl (.sm rfl .nil))))) (.box (by decide) rfl (blkAs_cells (.sm rfl .nil)) .nil))) (Z3t h)
    ·repeat (first | refine gu rfl ?_ | refine gs rfl rfl ?_)
     refine un1 (v := (B false)) rfl <| un1 rfl <| dnil ?_
     exact Sv.weak (wcn [0, 1] rfl (.cf rfl rfl (.cf rfl rfl (.cons rfl (.c (fn_as .nil (.cons (.ref rfl (by decide)) .nil))) (.cr rfl rfl rfl (.cr rfl rfl rfl .nil))))) (.box (by decide) rfl (blkAs_cells (.sm rfl (.sm rfl (.sm rfl (.sm rfl .nil))))) (.box (by decide) rfl (blkAs_cells (.sm rfl .nil)) .nil))) (Z3t h)
def a16_c0 : ACode := (.seq (sr [(mV 5 0), (oP 6 (.bin .neq (.tmp 5) (.const (.c (.str [])))))]
 (.cond (.tmp 6) .skip (.exit 0)))
 (.block 1 (sr [(mV 7 0), (oP 8 (.call 21 [(.tmp 7)])), (oP 4 (.box (.const (.agg [(.val (.int .i64 0)), (.str []), (.str []), (.val (.int .i64 0))])))), (oN (.store 4 (.tmp 4) (.tmp 8)))]
 (sr [(mV 9 3), (oP 10 (.load true 4 (.tmp 4))), (oP 11 (.bslice 4 [(.val (.int .i64 0)), (.str []), (.str []), (.val (.int .i64 0))] 1 [(0, (.tmp 10))])), (oP 12 (.app 4 48 (.tmp 9) (.tmp 11))), (mV 3 12)]
 (.region [(mV 13 0), (oP 14 (.faddr 1 (.tmp 4))), (oP 15 (.load false 1 (.tmp 14))), (oP 16 (.lenS (.tmp 15))), (oP 17 (.slStr (.tmp 13) (some (.tmp 16)) none)), (mV 0 17)])))))
def a16 : AFunc := ⟨1, [(.tmp 2)], (sr [(oP 2 (.mov (.const (.c (.ro true 4 [])))))]
 (sr [(oP 3 (.mov (.const (.c (.ro true 4 [])))))]
 (.seq (.block 0 (.loop a16_c0))
 (sr [(mV 18 3), (mV 2 18)]
 .ret))))⟩
theorem c16 : compFunc Tryz.prog 16 = some a16 := by kernel_rfl
def Z3u (r : (List TSToken)) : AV → Heap → Nat → Prop := fun v h' n' => ∃ z0 : Bool, (z0 = true → r = []) ∧ v = (lstV z0 0 4 r.length) ∧ (h' = (upd e0 0 (lstB z0 4 (r.map e_TSToken)))) ∧ n' = 1
abbrev Z7m (F_ : (List TSToken) → Option (List TSToken)) (o : (List TSToken)) (R_ : St → Prop) : Prop := ∀ (out1 : (List TSToken)) (zout1 : Bool) (_ : zout1 = true → out1 = []), F_ out1 = some o → ∀ s, Weak 0 s ⟨(upd e0 3 (some (lstV zout1 0 4 out1.length))), (upd e0 0 (lstB zout1 4 (out1.map e_TSToken))), 1⟩ → R_ s
abbrev Z56 (F_ : Nat → Tx → (List TSToken) → Option (List TSToken)) (o : (List TSToken)) : Nat → St → Prop := fun k s => ∃ (s_1 : Tx), ∃ (out : (List TSToken)), ∃ (zout : Bool), (zout = true → out = []) ∧ F_ k s_1 out = some o ∧ s = ⟨(ue [(3, (lstV zout 0 4 out.length)), (0, (S s_1))]), (upd e0 0 (lstB zout 4 (out.map e_TSToken))), 1⟩
abbrev Z7n (F_ : Tx → (List TSToken) → Option (List TSToken)) (o : (List TSToken)) (R_ : St → Prop) : Prop := ∀ (s_1 : Tx) (out : (List TSToken)) (zout : Bool) (_ : zout = true → out = []), F_ s_1 out = some o → ∀ s, Weak 0 s ⟨(ue [(3, (lstV zout 0 4 out.length)), (0, (S s_1))]), (upd e0 0 (lstB zout 4 (out.map e_TSToken))), 1⟩ → R_ s
noncomputable def Zu (K0_ : (List TSToken) → Option (List TSToken)) : Nat → Tx → (List TSToken) → Option (List TSToken)
 | 0, _, _ => none
 | k + 1, s_1, out =>
  if (!decide (s_1 = [])) then
   (Z2j s_1).bind fun r_ =>
   (app? 48 out [r_]).bind fun r_1 =>
   (sub? s_1 (r_.Raw.length : Int) (s_1.length : Int)).bind fun r_2 =>
   (Zu K0_ k) r_2 r_1
  else
   K0_ out
theorem Z7o {mL : Int} {Q : AExit → St → Prop} {K0_ : (List TSToken) → Option (List TSToken)} {k : Nat} {s_1 : Tx} {out : (List TSToken)} {zout : Bool} (hzout : zout = true → out = []) {o : (List TSToken)} (h : Zu K0_ k s_1 out = some o)
  (hK0 : Z7m K0_ o (Q (.exit 0)))
  (hr : ∀ s, Ends a16.results 0 (Z3u o) .ret s → Q .ret s) :
  Sv Tryz.prog (GG mL) 0 (.loop a16_c0) Q ⟨(ue [(3, (lstV zout 0 4 out.length)), (0, (S s_1))]), (upd e0 0 (lstB zout 4 (out.map e_TSToken))), 1⟩ := by
 refine Sv.loop (I := Z56 (Zu K0_) o) (fun k s hI => ?_) ⟨s_1, out, zout, hzout, h, rfl⟩
 clear h
 clear hzout zout out s_1
 obtain ⟨s_1, out, zout, hzout, h, rfl⟩ := hI
 cases k with
 | zero => cases h
 | succ k =>
 rw [Zu] at h
 have hself : Z7n (Zu K0_ k) o (rnd 0 (Z56 (Zu K0_) o) k Q) := fun s_1 out zout hzout h s hw => ⟨_, k, hw, Nat.lt_succ_self k, s_1, out, zout, hzout, h, rfl⟩
 refine Sv.seq <| ssr <| un1 rfl <| un1 (v := (B (!decide (s_1 = [])))) rfl <| dnil ?_
 refine Sv.cnd rfl h (fun h => ?_) fun h => ?_
 ·refine Sv.skip <| Sv.block <| ssr <| un1 rfl ?_
  obtain ⟨r_, hr1, h⟩ := bnd h
  refine un <| ac_pure (Z7l hr1) rfl rfl rfl <| un <| a2v (v := (.c (.ref 1 4 0 0))) (h' := upd _ 1 (some (.cells 4 [[cI 0, .str [], .str [], cI 0]]))) (n' := 2) rfl rfl hcs <| un <| a2n (h' := upd _ 1 (some (.cells 4 [(e_TSToken r_)]))) (n' := 2) rfl rfl hcs <| dnil <| ssr <| un1 rfl <| un1 (v := (.agg (e_TSToken r_))) rfl <| un <| a2v (v := (lstV false 2 4 [r_].length)) (h' := upd _ 2 (lstB false 4 ([r_].map e_TSToken))) (n' := 3) rfl rfl hcs ?_
  obtain ⟨r_1, hr2, h⟩ := bnd h
  have hz1 : (zout && [r_].isEmpty) = true → r_1 = [] := app_nil (z := zout) (ys := [r_]) hzout hr2
  refine un <| a2v rfl (s_app (xs := out) (ys := [r_]) (e := e_TSToken) (z := zout) (b := 0) rfl rfl hzout rfl rfl (slc_lst rfl (List.length_map _).symm (map_nil_of hcs)) hr2) hcs <| un1 rfl <| dnil <| srg <| un1 rfl <| un1 (v := (.c (.ref 1 4 0 1))) rfl <| un1 (v := (S r_.Raw)) rfl <| un1 (v := (I (r_.Raw.length : Int))) rfl ?_
  obtain ⟨r_2, hx1, h⟩ := bnd h
  refine un1 (v := (S r_2)) (s_slStr rfl rfl rfl hx1) <| un1 rfl <| dnil ?_
  exact hself r_2 r_1 (zout && [r_].isEmpty) hz1 h _ (wcn [3] rfl (.cons rfl (.c (lsr rfl rfl)) (.cf rfl rfl .nil)) (.row (by decide) rfl (fr_map fun _ => rfl) .nil))
 ·refine Sv.exit ?_
  exact hK0 out zout hzout h _ (wcn [0] rfl (.cons rfl (.c (lsr rfl rfl)) .nil) (.row (by decide) rfl (fr_map fun _ => rfl) .nil))
/-- clerestory/csstok.Cut -/
noncomputable def Z2k (s_ : Tx) : Option (List TSToken) :=
 limF fun kk => Zu (fun (out1 : (List TSToken)) => 
   some out1) kk s_ ([] : List TSToken)
theorem Z7p {mL : Int} {s_ : Tx} {r : (List TSToken)} (h : Z2k s_ = some r) : ACalls Tryz.prog (GG mL) 16 [(S s_)] e0 0 (Z3u r) := by
 refine acalls_of_sv hmix c16 (R := Z3u r) ?_
 unfold Z2k at h
 refine ssr <| un1 rfl <| dnil <| ssr <| un1 rfl <| dnil <| Sv.seq <| Sv.block ?_
 obtain ⟨kk, h⟩ := limF_some h
 refine Sv.weak (wcn [1000] rfl (.cons rfl (.c (.same rfl)) (.cf rfl rfl .nil)) (.non (by decide) .nil)) (Z7o (fun _ => rfl) h ?_ (fun s hs => hs))
 ·intro out1 zout1 hzout1 h _ hw1
  refine Sv.weak hw1 <| ssr <| un1 rfl <| un1 rfl <| dnil <| Sv.ret ?_
  replace h := Option.some.inj h
  subst h
  exact ⟨_, .refl _, _, rfl, ⟨upd e0 0 (some (lstV zout1 0 4 out1.length)), (upd e0 0 (lstB zout1 4 (out1.map e_TSToken))), 1⟩, (lstV zout1 0 4 out1.length), weak_canon2 [0] [0] (by decide) (by decide) nlz (.cons (by decide) .nil) (.cons rfl (.c (lsr rfl rfl)) .nil) (.row (by decide) rfl (fr_map fun _ => rfl) .nil), rfl, zout1, hzout1, rfl, rfl, rfl⟩
def a15_c0 : ACode := (.region [(oP 24 (.bin .add (.tmp 8) (kI 1))), (mV 8 24)])
def a15_c1 : ACode := (sr [(oP 9 (.bin .lss (.tmp 8) (.tmp 7)))]
 (.seq (.cond (.tmp 9) .skip (.exit 0))
 (.seq (.block 1 (sr [(oP 10 (.iaddr 4 (.tmp 6) (.tmp 8))), (oP 11 (.load true 4 (.tmp 10))), (oP 5 (.box (.const (.agg [(.val (.int .i64 0)), (.str []), (.str []), (.val (.int .i64 0))])))), (oN (.store 4 (.tmp 5) (.tmp 11)))]
 (sr [(oP 12 (.faddr 0 (.tmp 5))), (oP 13 (.load false 1 (.tmp 12))), (oP 14 (.bin .neq (.tmp 13) (kI 8))), (mV 15 14), ⟨(some 16), (.faddr 0 (.tmp 5)), (some (15, true))⟩, ⟨(some 17), (.load false 1 (.tmp 16)), (some (15, true))⟩, ⟨(some 18), (.bin .neq (.tmp 17) (kI 9)), (some (15, true))⟩, (oP 19 (.pick (.tmp 15) (.tmp 18) kF))]
 (.cond (.tmp 19) (.region [(mV 20 3), (oP 21 (.load true 4 (.tmp 5))), (oP 22 (.bslice 4 [(.val (.int .i64 0)), (.str []), (.str []), (.val (.int .i64 0))] 1 [(0, (.tmp 21))])), (oP 23 (.app 4 48 (.tmp 20) (.tmp 22))), (mV 3 23)]) .skip))))
 a15_c0)))
def a15 : AFunc := ⟨1, [(.tmp 2)], (sr [(oP 2 (.mov (.const (.c (.ro true 4 [])))))]
 (sr [(oP 3 (.mov (.const (.c (.ro true 4 [])))))]
 (.seq (sr [(mV 6 0), (oP 7 (.len (.tmp 6))), (oP 8 (.mov (kI 0)))]
 (.block 0 (.loop a15_c1)))
 (sr [(mV 25 3), (mV 2 25)]
 .ret))))⟩
theorem c15 : compFunc Tryz.prog 15 = some a15 := by kernel_rfl
def Z33 (r : (List TSToken)) : AV → Heap → Nat → Prop := fun v h' n' => ∃ z0 : Bool, (z0 = true → r = []) ∧ v = (lstV z0 0 4 r.length) ∧ (h' = (upd e0 0 (lstB z0 4 (r.map e_TSToken)))) ∧ n' = 1
abbrev Z57 (l_ : (List TSToken)) (F_ : (List TSToken) → Int → Option (List TSToken)) (o : (List TSToken)) (R_ : St → Prop) : Prop := ∀ (out : (List TSToken)) (v8 : Int) (zout : Bool) (_ : zout = true → out = []), F_ out v8 = some o → ∀ s, Weak 0 s ⟨(ue [(8, (I v8)), (7, (I (l_.length : Int))), (6, (.c (.ro false 4 (l_.map e_TSToken)))), (3, (lstV zout 0 4 out.length))]), (upd e0 0 (lstB zout 4 (out.map e_TSToken))), 1⟩ → R_ s
abbrev Z58 (F_ : (List TSToken) → Option (List TSToken)) (o : (List TSToken)) (R_ : St → Prop) : Prop := ∀ (out1 : (List TSToken)) (zout1 : Bool) (_ : zout1 = true → out1 = []), F_ out1 = some o → ∀ s, Weak 0 s ⟨(upd e0 3 (some (lstV zout1 0 4 out1.length))), (upd e0 0 (lstB zout1 4 (out1.map e_TSToken))), 1⟩ → R_ s
noncomputable def Z2l (v8 : Int) (l_ : (List TSToken)) (self : (List TSToken) → Int → Option (List TSToken)) (K0_ : (List TSToken) → Option (List TSToken)) (out2 : (List TSToken)) : Option (List TSToken) :=
 self out2 (wi (v8 + 1))
theorem Z59 {mL : Int} {Q : AExit → St → Prop} {v8 : Int} {l_ : (List TSToken)} {self : (List TSToken) → Int → Option (List TSToken)} {K0_ : (List TSToken) → Option (List TSToken)} {out2 : (List TSToken)} {zout2 : Bool} (hzout2 : zout2 = true → out2 = []) {o : (List TSToken)} (h : Z2l v8 l_ self K0_ out2 = some o)
  (hself : Z57 l_ self o (Q .normal))
  (hK0 : Z58 K0_ o (Q (.exit 0)))
  (hr : ∀ s, Ends a15.results 0 (Z33 o) .ret s → Q .ret s) :
  Sv Tryz.prog (GG mL) 0 a15_c0 Q ⟨(ue [(8, (I v8)), (7, (I (l_.length : Int))), (6, (.c (.ro false 4 (l_.map e_TSToken)))), (3, (lstV zout2 0 4 out2.length))]), (upd e0 0 (lstB zout2 4 (out2.map e_TSToken))), 1⟩ := by
 unfold Z2l at h
 refine srg <| un1 (v := (I (wi (v8 + 1)))) rfl <| un1 rfl <| dnil ?_
 exact hself out2 (wi (v8 + 1)) zout2 hzout2 h _ (wcn [0] rfl (.cf rfl rfl (.cf rfl rfl (.cf rfl rfl (.cons rfl (.c (lsr rfl rfl)) .nil)))) (.row (by decide) rfl (fr_map fun _ => rfl) .nil))
abbrev Z5a (l_ : (List TSToken)) (F_ : Nat → (List TSToken) → Int → Option (List TSToken)) (o : (List TSToken)) : Nat → St → Prop := fun k s => ∃ (out : (List TSToken)), ∃ (v8 : Int), ∃ (zout : Bool), (zout = true → out = []) ∧ F_ k out v8 = some o ∧ s = ⟨(ue [(8, (I v8)), (7, (I (l_.length : Int))), (6, (.c (.ro false 4 (l_.map e_TSToken)))), (3, (lstV zout 0 4 out.length))]), (upd e0 0 (lstB zout 4 (out.map e_TSToken))), 1⟩
noncomputable def Zq (l_ : (List TSToken)) (K0_ : (List TSToken) → Option (List TSToken)) : Nat → (List TSToken) → Int → Option (List TSToken)
 | 0, _, _ => none
 | k + 1, out, v8 =>
  if decide (v8 < (l_.length : Int)) then
   (at? l_ v8).bind fun x_ =>
   if ((!decide (x_.Kind = 8)) && (!decide (x_.Kind = 9))) then
    (app? 48 out [x_]).bind fun r_ =>
    Z2l v8 l_ (Zq l_ K0_ k) K0_ r_
   else
    Z2l v8 l_ (Zq l_ K0_ k) K0_ out
  else
   K0_ out
theorem Z7q {mL : Int} {Q : AExit → St → Prop} {l_ : (List TSToken)} {K0_ : (List TSToken) → Option (List TSToken)} {k : Nat} {out : (List TSToken)} {v8 : Int} {zout : Bool} (hzout : zout = true → out = []) {o : (List TSToken)} (h : Zq l_ K0_ k out v8 = some o)
  (hK0 : Z58 K0_ o (Q (.exit 0)))
  (hr : ∀ s, Ends a15.results 0 (Z33 o) .ret s → Q .ret s) :
  Sv Tryz.prog (GG mL) 0 (.loop a15_c1) Q ⟨(ue [(8, (I v8)), (7, (I (l_.length : Int))), (6, (.c (.ro false 4 (l_.map e_TSToken)))), (3, (lstV zout 0 4 out.length))]), (upd e0 0 (lstB zout 4 (out.map e_TSToken))), 1⟩ := by
 refine Sv.loop (I := Z5a l_ (Zq l_ K0_) o) (fun k s hI => ?_) ⟨out, v8, zout, hzout, h, rfl⟩
 clear h
 clear hzout zout v8 out
 obtain ⟨out, v8, zout, hzout, h, rfl⟩ := hI
 cases k with
 | zero => cases h
 | succ k =>
 rw [Zq] at h
 have hself : Z57 l_ (Zq l_ K0_ k) o (rnd 0 (Z5a l_ (Zq l_ K0_) o) k Q) := fun out v8 zout hzout h s hw => ⟨_, k, hw, Nat.lt_succ_self k, out, v8, zout, hzout, h, rfl⟩
 refine ssr <| un1 (v := (B (decide (v8 < (l_.length : Int))))) rfl <| dnil <| Sv.seq ?_
 refine Sv.cnd rfl h (fun h => ?_) fun h => ?_
 ·refine Sv.skip <| Sv.seq <| Sv.block <| ssr ?_
  obtain ⟨x_, hx1, h⟩ := bnd h
  refine un1 (v := (.c (.rop (e_TSToken x_)))) (s_iaddr (e := e_TSToken) (xs := l_) rfl rfl hx1) <| un1 (v := (.agg (e_TSToken x_))) rfl <| un <| a2v (v := (.c (.ref 1 4 0 0))) (h' := upd _ 1 (some (.cells 4 [[cI 0, .str [], .str [], cI 0]]))) (n' := 2) rfl rfl hcs <| un <| a2n (h' := upd _ 1 (some (.cells 4 [(e_TSToken x_)]))) (n' := 2) rfl rfl hcs <| dnil <| ssr <| un1 (v := (.c (.ref 1 4 0 0))) rfl <| un1 (v := (I x_.Kind)) rfl <| un1 (v := (B (!decide (x_.Kind = 8)))) rfl <| un1 rfl ?_
  refine gjoin 4 (d := 19) (v := (B ((!decide (x_.Kind = 8)) && (!decide (x_.Kind = 9))))) (fun X hX => ?_) ?_
  ·refine split2 (fun hc2 => ?_) (fun hc2 => ?_)
   ·refine gt rfl <| a1 (v := (.c (.ref 1 4 0 0))) rfl <| gt rfl <| a1 (v := (I x_.Kind)) rfl <| gt rfl <| a1 (v := (B (!decide (x_.Kind = 9)))) rfl <| un1 (v := (B (!decide (x_.Kind = 9)))) rfl <| dnil ?_
    exact hX _ (.putEq (by rw [hc2]; rfl) (.skp (.skp (.skp (.putEq (by rw [hc2]) (.refl _)) rfl) rfl) rfl))
   ·refine gs rfl rfl <| gs rfl rfl <| gs rfl rfl <| un1 (v := (B false)) rfl <| dnil ?_
    exact hX _ (.putEq (by rw [hc2]; rfl) (.skp (.skp (.skp (.putEq (by rw [hc2]) (.refl _)) rfl) rfl) rfl))
  refine dnil ?_
  refine Sv.cnd rfl h (fun h => ?_) fun h => ?_
  ·refine srg <| un1 rfl <| un1 (v := (.agg (e_TSToken x_))) rfl <| un <| a2v (v := (lstV false 2 4 [x_].length)) (h' := upd _ 2 (lstB false 4 ([x_].map e_TSToken))) (n' := 3) rfl rfl hcs ?_
   obtain ⟨r_, hr1, h⟩ := bnd h
   have hz1 : (zout && [x_].isEmpty) = true → r_ = [] := app_nil (z := zout) (ys := [x_]) hzout hr1
   refine un <| a2v rfl (s_app (xs := out) (ys := [x_]) (e := e_TSToken) (z := zout) (b := 0) rfl rfl hzout rfl rfl (slc_lst rfl (List.length_map _).symm (map_nil_of hcs)) hr1) hcs <| un1 rfl <| dnil ?_
   exact Sv.weak (wcn [3] rfl (.cf rfl rfl (.cf rfl rfl (.cf rfl rfl (.cons rfl (.c (lsr rfl rfl)) .nil)))) (.row (by decide) rfl (fr_map fun _ => rfl) .nil)) (Z59 hz1 h hself hK0 hr)
  ·refine Sv.skip ?_
   exact Sv.weak (wcn [0] rfl (.cf rfl rfl (.cf rfl rfl (.cf rfl rfl (.cons rfl (.c (lsr rfl rfl)) .nil)))) (.row (by decide) rfl (fr_map fun _ => rfl) .nil)) (Z59 hzout h hself hK0 hr)
 ·refine Sv.exit ?_
  exact hK0 out zout hzout h _ (wcn [0] rfl (.cons rfl (.c (lsr rfl rfl)) .nil) (.row (by decide) rfl (fr_map fun _ => rfl) .nil))
/-- clerestory/media.solid -/
noncomputable def Z2m (l_ : (List TSToken)) : Option (List TSToken) :=
 limF fun kk => Zq l_ (fun (out1 : (List TSToken)) => 
   some out1) kk ([] : List TSToken) 0
theorem Z7r {mL : Int} {l_ : (List TSToken)} {r : (List TSToken)} (h : Z2m l_ = some r) : ACalls Tryz.prog (GG mL) 15 [(.c (.ro false 4 (l_.map e_TSToken)))] e0 0 (Z33 r) := by
 refine acalls_of_sv hmix c15 (R := Z33 r) ?_
 unfold Z2m at h
 refine ssr <| un1 rfl <| dnil <| ssr <| un1 rfl <| dnil <| Sv.seq <| ssr <| un1 rfl <| un1 (v := (I (l_.length : Int))) (s_len (e := e_TSToken) (xs := l_) rfl) <| un1 rfl <| dnil <| Sv.block ?_
 obtain ⟨kk, h⟩ := limF_some h
 refine Sv.weak (wcn [1000] rfl (.cf rfl rfl (.cf rfl rfl (.cf rfl rfl (.cons rfl (.c (.same rfl)) .nil)))) (.non (by decide) .nil)) (Z7q (fun _ => rfl) h ?_ (fun s hs => hs))
 ·intro out1 zout1 hzout1 h _ hw1
  refine Sv.weak hw1 <| ssr <| un1 rfl <| un1 rfl <| dnil <| Sv.ret ?_
  replace h := Option.some.inj h
  subst h
  exact ⟨_, .refl _, _, rfl, ⟨upd e0 0 (some (lstV zout1 0 4 out1.length)), (upd e0 0 (lstB zout1 4 (out1.map e_TSToken))), 1⟩, (lstV zout1 0 4 out1.length), weak_canon2 [0] [0] (by decide) (by decide) nlz (.cons (by decide) .nil) (.cons rfl (.c (lsr rfl rfl)) .nil) (.row (by decide) rfl (fr_map fun _ => rfl) .nil), rfl, zout1, hzout1, rfl, rfl, rfl⟩
end Go.Proofs.YtkimpaokepfonaaGreatDoorBv
