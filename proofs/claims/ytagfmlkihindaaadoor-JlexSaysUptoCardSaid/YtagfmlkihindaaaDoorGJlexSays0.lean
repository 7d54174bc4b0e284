/- Printed by a program of mine (bgen.py): plain functions, and the walks that show that the code comes to what they answer. -/
import Derived.Test.YtagfmlkihindaaaDoorRows
import Derived.Test.YtagfmlkihindaaaDoorBv22
import Derived.Test.YtagfmlkihindaaaDoorBv30
import Derived.Test.YtagfmlkihindaaaDoorShelf
import Derived.Test.YtagfmlkihindaaaDoorBld
import Derived.Test.YtagfmlkihindaaaDoorBv34
import Derived.Test.YtagfmlkihindaaaDoorBv37
namespace Go.Proofs.YtagfmlkihindaaaDoorBv
open Go
set_option linter.unusedVariables false
set_option maxRecDepth 100000
theorem hmix : Tryd.prog.follows .mixedOrders = true := by kernel_rfl
structure TJTok where
  Kind : Int
  From : Int
  To : Int
  Text : (List UInt8)
  Num : Int
def e_TJTok (x : TJTok) : List Cel := [cI x.Kind, cI x.From, cI x.To, .str x.Text, cI x.Num]
structure Treader where
  f_s : (List UInt8)
  f_at : Int
  f_out : (List TJTok)
def e_Treader (x : Treader) : List Cel := [.str x.f_s, cI x.f_at, .ro false 5 (x.f_out.map e_TJTok)]
def g3_c : List Cel := [.val (.int .u8 0), .val (.int .u8 0), .val (.int .u8 0), .val (.int .u8 0), .val (.int .u8 0), .val (.int .u8 0), .val (.int .u8 0), .val (.int .u8 0), .val (.int .u8 0), .val (.int .u8 1), .val (.int .u8 1), .val (.int .u8 1), .val (.int .u8 1), .val (.int .u8 1), .val (.int .u8 0), .val (.int .u8 0), .val (.int .u8 0), .val (.int .u8 0), .val (.int .u8 0), .val (.int .u8 0), .val (.int .u8 0), .val (.int .u8 0), .val (.int .u8 0), .val (.int .u8 0), .val (.int .u8 0), .val (.int .u8 0), .val (.int .u8 0), .val (.int .u8 0), .val (.int .u8 0), .val (.int .u8 0), .val (.int .u8 0), .val (.int .u8 0), .val (.int .u8 1), .val (.int .u8 0), .val (.int .u8 0), .val (.int .u8 0), .val (.int .u8 0), .val (.int .u8 0), .val (.int .u8 0), .val (.int .u8 0), .val (.int .u8 0), .val (.int .u8 0), .val (.int .u8 0), .val (.int .u8 0), .val (.int .u8 0), .val (.int .u8 0), .val (.int .u8 0), .val (.int .u8 0), .val (.int .u8 0), .val (.int .u8 0), .val (.int .u8 0), .val (.int .u8 0), .val (.int .u8 0), .val (.int .u8 0), .val (.int .u8 0), .val (.int .u8 0), .val (.int .u8 0), .val (.int .u8 0), .val (.int .u8 0), .val (.int .u8 0), .val (.int .u8 0), .val (.int .u8 0), .val (.int .u8 0), .val (.int .u8 0), .val (.int .u8 0), .val (.int .u8 0), .val (.int .u8 0), .val (.int .u8 0), .val (.int .u8 0), .val (.int .u8 0), .val (.int .u8 0), .val (.int .u8 0), .val (.int .u8 0), .val (.int .u8 0), .val (.int .u8 0), .val (.int .u8 0), .val (.int .u8 0), .val (.int .u8 0), .val (.int .u8 0), .val (.int .u8 0), .val (.int .u8 0), .val (.int .u8 0), .val (.int .u8 0), .val (.int .u8 0), .val (.int .u8 0), .val (.int .u8 0), .val (.int .u8 0), .val (.int .u8 0), .val (.int .u8 0), .val (.int .u8 0), .val (.int .u8 0), .val (.int .u8 0), .val (.int .u8 0), .val (.int .u8 0), .val (.int .u8 0), .val (.int .u8 0), .val (.int .u8 0), .val (.int .u8 0), .val (.int .u8 0), .val (.int .u8 0), .val (.int .u8 0), .val (.int .u8 0), .val (.int .u8 0), .val (.int .u8 0), .val (.int .u8 0), .val (.int .u8 0), .val (.int .u8 0), .val (.int .u8 0), .val (.int .u8 0), .val (.int .u8 0), .val (.int .u8 0), .val (.int .u8 0), .val (.int .u8 0), .val (.int .u8 0), .val (.int .u8 0), .val (.int .u8 0), .val (.int .u8 0), .val (.int .u8 0), .val (.int .u8 0), .val (.int .u8 0), .val (.int .u8 0), .val (.int .u8 0), .val (.int .u8 0), .val (.int .u8 0), .val (.int .u8 0), .val (.int .u8 0), .val (.int .u8 0), .val (.int .u8 0), .val (.int .u8 0), .val (.int .u8 0), .val (.int .u8 0), .val (.int .u8 0), .val (.int .u8 0), .val (.int .u8 0), .val (.int .u8 0), .val (.int .u8 0), .val (.int .u8 0), .val (.int .u8 0), .val (.int .u8 0), .val (.int .u8 0), .val (.int .u8 0), .val (.int .u8 0), .val (.int .u8 0), .val (.int .u8 0), .val (.int .u8 0), .val (.int .u8 0), .val (.int .u8 0), .val (.int .u8 0), .val (.int .u8 0), .val (.int .u8 0), .val (.int .u8 0), .val (.int .u8 0), .val (.int .u8 0), .val (.int .u8 0), .val (.int .u8 0), .val (.int .u8 0), .val (.int .u8 0), .val (.int .u8 0), .val (.int .u8 0), .val (.int .u8 0), .val (.int .u8 0), .val (.int .u8 0), .val (.int .u8 0), .val (.int .u8 0), .val (.int .u8 0), .val (.int .u8 0), .val (.int .u8 0), .val (.int .u8 0), .val (.int .u8 0), .val (.int .u8 0), .val (.int .u8 0), .val (.int .u8 0), .val (.int .u8 0), .val (.int .u8 0), .val (.int .u8 0), .val (.int .u8 0), .val (.int .u8 0), .val (.int .u8 0), .val (.int .u8 0), .val (.int .u8 0), .val (.int .u8 0), .val (.int .u8 0), .val (.int .u8 0), .val (.int .u8 0), .val (.int .u8 0), .val (.int .u8 0), .val (.int .u8 0), .val (.int .u8 0), .val (.int .u8 0), .val (.int .u8 0), .val (.int .u8 0), .val (.int .u8 0), .val (.int .u8 0), .val (.int .u8 0), .val (.int .u8 0), .val (.int .u8 0), .val (.int .u8 0), .val (.int .u8 0), .val (.int .u8 0), .val (.int .u8 0), .val (.int .u8 0), .val (.int .u8 0), .val (.int .u8 0), .val (.int .u8 0), .val (.int .u8 0), .val (.int .u8 0), .val (.int .u8 0), .val (.int .u8 0), .val (.int .u8 0), .val (.int .u8 0), .val (.int .u8 0), .val (.int .u8 0), .val (.int .u8 0), .val (.int .u8 0), .val (.int .u8 0), .val (.int .u8 0), .val (.int .u8 0), .val (.int .u8 0), .val (.int .u8 0), .val (.int .u8 0), .val (.int .u8 0), .val (.int .u8 0), .val (.int .u8 0), .val (.int .u8 0), .val (.int .u8 0), .val (.int .u8 0), .val (.int .u8 0), .val (.int .u8 0), .val (.int .u8 0), .val (.int .u8 0), .val (.int .u8 0), .val (.int .u8 0), .val (.int .u8 0), .val (.int .u8 0), .val (.int .u8 0), .val (.int .u8 0), .val (.int .u8 0), .val (.int .u8 0), .val (.int .u8 0), .val (.int .u8 0), .val (.int .u8 0), .val (.int .u8 0), .val (.int .u8 0), .val (.int .u8 0), .val (.int .u8 0), .val (.int .u8 0), .val (.int .u8 0), .val (.int .u8 0), .val (.int .u8 0), .val (.int .u8 0), .val (.int .u8 0), .val (.int .u8 0), .val (.int .u8 0), .val (.int .u8 0), .val (.int .u8 0), .val (.int .u8 0)]
/-- what the listed package variables hold -/
def GG (mL : Int) : Glob := fun g => if g = 2 then [.val (.int .i64 mL)] else if g = 3 then g3_c else []
def a99 : AFunc := ⟨2, [(.tmp 4)], (.seq (.region [⟨(some 4), (.mov (.const (.c (.val (.int .u8 0))))), none⟩])
 (.seq (.seq (.drawn (.fin [(⟨(some 5), (.mov (.tmp 0)), none⟩, (0, 0)), (⟨(some 6), (.nilc (.tmp 5)), none⟩, (0, 1)), (⟨(some 7), (.faddr 1 (.tmp 6)), none⟩, (0, 2)), (⟨(some 8), (.load false 1 (.tmp 7)), none⟩, (0, 3)), (⟨(some 9), (.mov (.tmp 1)), none⟩, (0, 4)), (⟨(some 10), (.bin .add (.tmp 8) (.tmp 9)), none⟩, (0, 5)), (⟨(some 11), (.mov (.tmp 0)), none⟩, (0, 6)), (⟨(some 12), (.nilc (.tmp 11)), none⟩, (0, 7)), (⟨(some 13), (.faddr 0 (.tmp 12)), none⟩, (0, 8)), (⟨(some 14), (.load false 1 (.tmp 13)), none⟩, (0, 9)), (⟨(some 15), (.lenS (.tmp 14)), none⟩, (0, 10)), (⟨(some 16), (.bin .lss (.tmp 10) (.tmp 15)), none⟩, (0, 11))]))
 (.cond (.tmp 16) (.seq (.drawn (.fin [(⟨(some 17), (.mov (.tmp 0)), none⟩, (0, 0)), (⟨(some 18), (.nilc (.tmp 17)), none⟩, (0, 1)), (⟨(some 19), (.faddr 0 (.tmp 18)), none⟩, (0, 2)), (⟨(some 20), (.load false 1 (.tmp 19)), none⟩, (0, 3)), (⟨(some 21), (.mov (.tmp 0)), none⟩, (0, 4)), (⟨(some 22), (.nilc (.tmp 21)), none⟩, (0, 5)), (⟨(some 23), (.faddr 1 (.tmp 22)), none⟩, (0, 6)), (⟨(some 24), (.load false 1 (.tmp 23)), none⟩, (0, 7)), (⟨(some 25), (.mov (.tmp 1)), none⟩, (0, 8)), (⟨(some 26), (.bin .add (.tmp 24) (.tmp 25)), none⟩, (0, 9)), (⟨(some 27), (.idxS (.tmp 20) (.tmp 26)), none⟩, (0, 10)), (⟨(some 4), (.mov (.tmp 27)), none⟩, (0, 11))]))
 .ret) .skip))
 (.seq (.region [⟨(some 4), (.mov (.const (.c (.val (.int .u8 0))))), none⟩])
 .ret)))⟩
set_option maxRecDepth 100000 in
theorem c99 : compFunc Tryd.prog 99 = some a99 := by kernel_rfl
def clerestory_jlex_reader_peek_post (r : Int) : AV → Heap → Nat → Prop := fun v h' n' => v = (.c (.val (.int .u8 r))) ∧ (h' = (fun _ => none)) ∧ n' = 0
/-- (*clerestory/jlex.reader).peek -/
noncomputable def clerestory_jlex_reader_peek (r_ : Treader) (n_ : Int) : Option Int :=
  if decide ((wi (r_.f_at + n_)) < (r_.f_s.length : Int)) then
    (at? r_.f_s (wi (r_.f_at + n_))).bind fun c_ =>
    some (c_.toNat : Int)
  else
    some 0
theorem clerestory_jlex_reader_peek_ok {mL : Int} {r_ : Treader} {n_ : Int} {r : Int} (h : clerestory_jlex_reader_peek r_ n_ = some r) : CPure Tryd.prog (GG mL) 99 [(.c (.rop [.str r_.f_s, cI r_.f_at, .ro false 5 (r_.f_out.map e_TJTok)])), (I n_)] (.c (.val (.int .u8 r))) := by
  refine acalls_of_sv hmix c99 (R := clerestory_jlex_reader_peek_post r) ?_
  unfold clerestory_jlex_reader_peek at h
  refine Sv.seq ?_
  refine Sv.region ?_
  refine un (a1 rfl ?_)
  refine dnil ?_
  refine Sv.seq ?_
  refine Sv.seq ?_
  refine Sv.drawn ?_
  refine un (a1 rfl ?_)
  refine un (a1 (v := (.c (.rop [.str r_.f_s, cI r_.f_at, .ro false 5 (r_.f_out.map e_TJTok)]))) rfl ?_)
  refine un (a1 (v := (.c (.rop [cI r_.f_at, .ro false 5 (r_.f_out.map e_TJTok)]))) rfl ?_)
  refine un (a1 (v := (I r_.f_at)) rfl ?_)
  refine un (a1 rfl ?_)
  refine un (a1 (v := (I (wi (r_.f_at + n_)))) rfl ?_)
  refine un (a1 rfl ?_)
  refine un (a1 (v := (.c (.rop [.str r_.f_s, cI r_.f_at, .ro false 5 (r_.f_out.map e_TJTok)]))) rfl ?_)
  refine un (a1 (v := (.c (.rop [.str r_.f_s, cI r_.f_at, .ro false 5 (r_.f_out.map e_TJTok)]))) rfl ?_)
  refine un (a1 (v := (S r_.f_s)) rfl ?_)
  refine un (a1 (v := (I (r_.f_s.length : Int))) rfl ?_)
  refine un (a1 (v := (B (decide ((wi (r_.f_at + n_)) < (r_.f_s.length : Int))))) rfl ?_)
  refine dnil ?_
  refine Sv.cond (b := decide ((wi (r_.f_at + n_)) < (r_.f_s.length : Int))) rfl (fun hc1 => ?_) (fun hc1 => ?_)
  · replace h := ifT hc1 h
    refine Sv.seq ?_
    refine Sv.drawn ?_
    refine un (a1 rfl ?_)
    refine un (a1 (v := (.c (.rop [.str r_.f_s, cI r_.f_at, .ro false 5 (r_.f_out.map e_TJTok)]))) rfl ?_)
    refine un (a1 (v := (.c (.rop [.str r_.f_s, cI r_.f_at, .ro false 5 (r_.f_out.map e_TJTok)]))) rfl ?_)
    refine un (a1 (v := (S r_.f_s)) rfl ?_)
    refine un (a1 rfl ?_)
    refine un (a1 (v := (.c (.rop [.str r_.f_s, cI r_.f_at, .ro false 5 (r_.f_out.map e_TJTok)]))) rfl ?_)
    refine un (a1 (v := (.c (.rop [cI r_.f_at, .ro false 5 (r_.f_out.map e_TJTok)]))) rfl ?_)
    refine un (a1 (v := (I r_.f_at)) rfl ?_)
    refine un (a1 rfl ?_)
    refine un (a1 (v := (I (wi (r_.f_at + n_)))) rfl ?_)
    obtain ⟨c_, hx1, h⟩ := bnd h
    refine un (a1 (v := (.c (.val (.int .u8 (c_.toNat : Int))))) (s_idxS rfl rfl hx1) ?_)
    refine un (a1 rfl ?_)
    refine dnil ?_
    refine Sv.ret ?_
    replace h := Option.some.inj h
    subst h
    exact ⟨_, .refl _, _, rfl, ⟨upd (fun _ => none) 0 (some (.c (.val (.int .u8 (c_.toNat : Int))))), (fun _ => none), 0⟩, (.c (.val (.int .u8 (c_.toNat : Int)))), weak_canon [] rfl List.nodup_nil (Nat.le_refl _) (fun b h => absurd h (Nat.not_lt_zero _)) (.cons rfl (avAs_free rfl) .nil) .nil, rfl, rfl, rfl, rfl⟩
  · replace h := ifF hc1 h
    refine Sv.skip ?_
    refine Sv.seq ?_
    refine Sv.region ?_
    refine un (a1 rfl ?_)
    refine dnil ?_
    refine Sv.ret ?_
    replace h := Option.some.inj h
    subst h
    exact ⟨_, .refl _, _, rfl, ⟨upd (fun _ => none) 0 (some (.c (.val (.int .u8 0)))), (fun _ => none), 0⟩, (.c (.val (.int .u8 0))), weak_canon [] rfl List.nodup_nil (Nat.le_refl _) (fun b h => absurd h (Nat.not_lt_zero _)) (.cons rfl (avAs_free rfl) .nil) .nil, rfl, rfl, rfl, rfl⟩
noncomputable abbrev strings_IndexByte (s_ : (List UInt8)) (c_ : Int) : Option Int := indexByte? s_ c_
/-- strings.IndexByte, by the contract of the shelf -/
theorem strings_IndexByte_ok {mL : Int} {s_ : (List UInt8)} {c_ : Int} {r : Int} (h : strings_IndexByte s_ c_ = some r) : CPure Tryd.prog (GG mL) 100 [(S s_), (.c (.val (.int .u8 c_)))] (I r) := indexByte_ok Tryd.lays137 h
def a48_c1 : ACode := (.region [⟨(some 75), (.mov (.tmp 0)), none⟩, ⟨(some 76), (.nilc (.tmp 75)), none⟩, ⟨(some 77), (.faddr 1 (.tmp 76)), none⟩, ⟨(some 78), (.load false 1 (.tmp 77)), none⟩, ⟨(some 79), (.mov (.tmp 3)), none⟩, ⟨(some 80), (.bin .add (.tmp 78) (.tmp 79)), none⟩, ⟨(some 81), (.nilc (.tmp 75)), none⟩, ⟨(some 82), (.faddr 1 (.tmp 81)), none⟩, ⟨none, (.store 1 (.tmp 82) (.tmp 80)), none⟩])
def a48_c0 : ACode := (.cond (.tmp 45) (.seq (.drawn (.fin [(⟨(some 53), (.mov (.tmp 0)), none⟩, (0, 0)), (⟨(some 54), (.nilc (.tmp 53)), none⟩, (0, 1)), (⟨(some 55), (.faddr 0 (.tmp 54)), none⟩, (0, 2)), (⟨(some 56), (.load false 1 (.tmp 55)), none⟩, (0, 3)), (⟨(some 57), (.mov (.tmp 0)), none⟩, (0, 4)), (⟨(some 58), (.nilc (.tmp 57)), none⟩, (0, 5)), (⟨(some 59), (.faddr 1 (.tmp 58)), none⟩, (0, 6)), (⟨(some 60), (.load false 1 (.tmp 59)), none⟩, (0, 7)), (⟨(some 61), (.slStr (.tmp 56) (some (.tmp 60)) none), none⟩, (0, 8)), (⟨(some 62), (.call 100 [(.tmp 61), (.const (.c (.val (.int .u8 10))))]), none⟩, (2, 9)), (⟨(some 3), (.mov (.tmp 62)), none⟩, (0, 10))]))
 (.seq (.seq (.region [⟨(some 63), (.mov (.tmp 3)), none⟩, ⟨(some 64), (.bin .lss (.tmp 63) (.const (.c (.val (.int .i64 0))))), none⟩])
 (.cond (.tmp 64) (.drawn (.fin [(⟨(some 65), (.mov (.tmp 0)), none⟩, (0, 0)), (⟨(some 66), (.nilc (.tmp 65)), none⟩, (0, 1)), (⟨(some 67), (.faddr 0 (.tmp 66)), none⟩, (0, 2)), (⟨(some 68), (.load false 1 (.tmp 67)), none⟩, (0, 3)), (⟨(some 69), (.lenS (.tmp 68)), none⟩, (0, 4)), (⟨(some 70), (.mov (.tmp 0)), none⟩, (0, 5)), (⟨(some 71), (.nilc (.tmp 70)), none⟩, (0, 6)), (⟨(some 72), (.faddr 1 (.tmp 71)), none⟩, (0, 7)), (⟨(some 73), (.load false 1 (.tmp 72)), none⟩, (0, 8)), (⟨(some 74), (.bin .sub (.tmp 69) (.tmp 73)), none⟩, (0, 9)), (⟨(some 3), (.mov (.tmp 74)), none⟩, (0, 10))])) .skip))
 a48_c1)) .ret)
def a48_c2 : ACode := (.seq (.seq (.drawn (.fin [(⟨(some 4), (.mov (.tmp 0)), none⟩, (0, 0)), (⟨(some 5), (.nilc (.tmp 4)), none⟩, (0, 1)), (⟨(some 6), (.faddr 1 (.tmp 5)), none⟩, (0, 2)), (⟨(some 7), (.load false 1 (.tmp 6)), none⟩, (0, 3)), (⟨(some 8), (.mov (.tmp 0)), none⟩, (0, 4)), (⟨(some 9), (.nilc (.tmp 8)), none⟩, (0, 5)), (⟨(some 10), (.faddr 0 (.tmp 9)), none⟩, (0, 6)), (⟨(some 11), (.load false 1 (.tmp 10)), none⟩, (0, 7)), (⟨(some 12), (.lenS (.tmp 11)), none⟩, (0, 8)), (⟨(some 13), (.bin .lss (.tmp 7) (.tmp 12)), none⟩, (0, 9))]))
 (.cond (.tmp 13) .skip (.exit 0)))
 (.block 1 (.seq (.drawn (.fin [(⟨(some 14), (.mov (.tmp 0)), none⟩, (0, 0)), (⟨(some 15), (.nilc (.tmp 14)), none⟩, (0, 1)), (⟨(some 16), (.faddr 0 (.tmp 15)), none⟩, (0, 2)), (⟨(some 17), (.load false 1 (.tmp 16)), none⟩, (0, 3)), (⟨(some 18), (.mov (.tmp 0)), none⟩, (0, 4)), (⟨(some 19), (.nilc (.tmp 18)), none⟩, (0, 5)), (⟨(some 20), (.faddr 1 (.tmp 19)), none⟩, (0, 6)), (⟨(some 21), (.load false 1 (.tmp 20)), none⟩, (0, 7)), (⟨(some 22), (.idxS (.tmp 17) (.tmp 21)), none⟩, (0, 8)), (⟨(some 2), (.mov (.tmp 22)), none⟩, (0, 9))]))
 (.block 2 (.seq (.region [⟨(some 24), (.mov (.tmp 2)), none⟩, ⟨(some 25), (.bin .eql (.tmp 24) (.const (.c (.val (.int .u8 32))))), none⟩, ⟨(some 26), (.mov (.tmp 25)), none⟩, ⟨(some 27), (.mov (.tmp 2)), (some (26, false))⟩, ⟨(some 28), (.bin .eql (.tmp 27) (.const (.c (.val (.int .u8 9))))), (some (26, false))⟩, ⟨(some 29), (.pick (.tmp 26) (.const (.c (.val (.bool true)))) (.tmp 28)), none⟩, ⟨(some 30), (.mov (.tmp 29)), none⟩, ⟨(some 31), (.mov (.tmp 2)), (some (30, false))⟩, ⟨(some 32), (.bin .eql (.tmp 31) (.const (.c (.val (.int .u8 10))))), (some (30, false))⟩, ⟨(some 33), (.pick (.tmp 30) (.const (.c (.val (.bool true)))) (.tmp 32)), none⟩, ⟨(some 34), (.mov (.tmp 33)), none⟩, ⟨(some 35), (.mov (.tmp 2)), (some (34, false))⟩, ⟨(some 36), (.bin .eql (.tmp 35) (.const (.c (.val (.int .u8 13))))), (some (34, false))⟩, ⟨(some 37), (.pick (.tmp 34) (.const (.c (.val (.bool true)))) (.tmp 36)), none⟩, ⟨(some 23), (.mov (.tmp 37)), none⟩])
 (.cond (.tmp 23) (.region [⟨(some 38), (.mov (.tmp 0)), none⟩, ⟨(some 39), (.nilc (.tmp 38)), none⟩, ⟨(some 40), (.faddr 1 (.tmp 39)), none⟩, ⟨(some 41), (.load false 1 (.tmp 40)), none⟩, ⟨(some 42), (.bin .add (.tmp 41) (.const (.c (.val (.int .i64 1))))), none⟩, ⟨(some 43), (.nilc (.tmp 38)), none⟩, ⟨(some 44), (.faddr 1 (.tmp 43)), none⟩, ⟨none, (.store 1 (.tmp 44) (.tmp 42)), none⟩]) (.seq (.region [⟨(some 46), (.mov (.tmp 2)), none⟩, ⟨(some 47), (.bin .eql (.tmp 46) (.const (.c (.val (.int .u8 47))))), none⟩, ⟨(some 48), (.mov (.tmp 47)), none⟩, ⟨(some 49), (.mov (.tmp 0)), (some (48, true))⟩, ⟨(some 50), (.call 99 [(.tmp 49), (.const (.c (.val (.int .i64 1))))]), (some (48, true))⟩, ⟨(some 51), (.bin .eql (.tmp 50) (.const (.c (.val (.int .u8 47))))), (some (48, true))⟩, ⟨(some 52), (.pick (.tmp 48) (.tmp 51) (.const (.c (.val (.bool false))))), none⟩, ⟨(some 45), (.mov (.tmp 52)), none⟩])
 a48_c0)))))))
def a48 : AFunc := ⟨1, [], (.block 0 (.loop a48_c2))⟩
set_option maxRecDepth 100000 in
theorem c48 : compFunc Tryd.prog 48 = some a48 := by kernel_rfl
def clerestory_jlex_reader_skip_post (r : Treader) : AV → Heap → Nat → Prop := fun v h' n' => v = (.tup []) ∧ (h' = (upd (fun _ => none) 0 (some (.cells 3 [[.str r.f_s, cI r.f_at, .ro false 5 (r.f_out.map e_TJTok)]])))) ∧ n' = 1
abbrev clerestory_jlex_reader_skip_q0 (mL : Int) (Q : AExit → St → Prop) : AExit → St → Prop := ABlock 1 Q
abbrev clerestory_jlex_reader_skip_q1 (mL : Int) (Q : AExit → St → Prop) : AExit → St → Prop := ABlock 2 (clerestory_jlex_reader_skip_q0 mL Q)
noncomputable def clerestory_jlex_reader_skip_j6 (r1 : Int) (r_ : Treader) (self : Int → Option Treader) (K0_ : Int → Option Treader) (n_ : Int) : Option Treader :=
  self (wi (r1 + n_))
theorem clerestory_jlex_reader_skip_j6_ok {mL : Int} {Q : AExit → St → Prop} {r1 : Int} {r_ : Treader} {self : Int → Option Treader} {K0_ : Int → Option Treader} {n_ : Int} {o : Treader} (h : clerestory_jlex_reader_skip_j6 r1 r_ self K0_ n_ = some o)
    (hself : ∀ (r1 : Int), self r1 = some o → ∀ s, Weak 1 s ⟨(upd (fun _ => none) 0 (some (.c (.ref 0 3 0 0)))), (upd (fun _ => none) 0 (some (.cells 3 [[.str r_.f_s, cI r1, .ro false 5 (r_.f_out.map e_TJTok)]]))), 1⟩ → (Q) .normal s)
    (hK0 : ∀ (r11 : Int), K0_ r11 = some o → ∀ s, Weak 1 s ⟨(upd (fun _ => none) 0 (some (.c (.ref 0 3 0 0)))), (upd (fun _ => none) 0 (some (.cells 3 [[.str r_.f_s, cI r11, .ro false 5 (r_.f_out.map e_TJTok)]]))), 1⟩ → Q (.exit 0) s)
    (hr : ∀ s, Ends a48.results 1 (clerestory_jlex_reader_skip_post o) .ret s → Q .ret s) :
    Sv Tryd.prog (GG mL) 1 a48_c1 (clerestory_jlex_reader_skip_q1 mL Q) ⟨(upd (upd (fun _ => none) 0 (some (.c (.ref 0 3 0 0)))) 3 (some (I n_))), (upd (fun _ => none) 0 (some (.cells 3 [[.str r_.f_s, cI r1, .ro false 5 (r_.f_out.map e_TJTok)]]))), 1⟩ := by
  unfold clerestory_jlex_reader_skip_j6 at h
  refine Sv.region ?_
  refine un (a1 rfl ?_)
  refine un (a1 (v := (.c (.ref 0 3 0 0))) rfl ?_)
  refine un (a1 (v := (.c (.ref 0 3 0 1))) rfl ?_)
  refine un (a1 (v := (I r1)) rfl ?_)
  refine un (a1 rfl ?_)
  refine un (a1 (v := (I (wi (r1 + n_)))) rfl ?_)
  refine un (a1 (v := (.c (.ref 0 3 0 0))) rfl ?_)
  refine un (a1 (v := (.c (.ref 0 3 0 1))) rfl ?_)
  refine un (a2n (h' := upd _ 0 (some (.cells 3 [[.str r_.f_s, cI (wi (r1 + n_)), .ro false 5 (r_.f_out.map e_TJTok)]]))) (n' := 1) rfl rfl (fun h => by cases h) ?_)
  refine dnil ?_
  exact hself (wi (r1 + n_)) h _ (weak_canon [0] rfl (by decide) (by decide) (by decide) (.cons rfl (.c (.ref rfl (by decide))) .nil) (.box (by decide) rfl (blkAs_cells (.cons (.same rfl) (.cons (.same rfl) (.cons (.same rfl) .nil)))) .nil))
noncomputable def clerestory_jlex_reader_skip_j5 (r_ : Treader) (r1 : Int) (self : Int → Option Treader) (K0_ : Int → Option Treader) (v45 : Bool) : Option Treader :=
  if v45 then
    (sub? r_.f_s r1 (r_.f_s.length : Int)).bind fun r_1 =>
    (strings_IndexByte r_1 10).bind fun r_2 =>
    if decide (r_2 < 0) then
      clerestory_jlex_reader_skip_j6 r1 r_ self K0_ (wi ((r_.f_s.length : Int) - r1))
    else
      clerestory_jlex_reader_skip_j6 r1 r_ self K0_ r_2
  else
    some (⟨r_.f_s, r1, r_.f_out⟩ : Treader)
theorem clerestory_jlex_reader_skip_j5_ok {mL : Int} {Q : AExit → St → Prop} {r_ : Treader} {r1 : Int} {self : Int → Option Treader} {K0_ : Int → Option Treader} {v45 : Bool} {o : Treader} (h : clerestory_jlex_reader_skip_j5 r_ r1 self K0_ v45 = some o)
    (hself : ∀ (r1 : Int), self r1 = some o → ∀ s, Weak 1 s ⟨(upd (fun _ => none) 0 (some (.c (.ref 0 3 0 0)))), (upd (fun _ => none) 0 (some (.cells 3 [[.str r_.f_s, cI r1, .ro false 5 (r_.f_out.map e_TJTok)]]))), 1⟩ → (Q) .normal s)
    (hK0 : ∀ (r11 : Int), K0_ r11 = some o → ∀ s, Weak 1 s ⟨(upd (fun _ => none) 0 (some (.c (.ref 0 3 0 0)))), (upd (fun _ => none) 0 (some (.cells 3 [[.str r_.f_s, cI r11, .ro false 5 (r_.f_out.map e_TJTok)]]))), 1⟩ → Q (.exit 0) s)
    (hr : ∀ s, Ends a48.results 1 (clerestory_jlex_reader_skip_post o) .ret s → Q .ret s) :
    Sv Tryd.prog (GG mL) 1 a48_c0 (clerestory_jlex_reader_skip_q1 mL Q) ⟨(upd (upd (fun _ => none) 0 (some (.c (.ref 0 3 0 0)))) 45 (some (B v45))), (upd (fun _ => none) 0 (some (.cells 3 [[.str r_.f_s, cI r1, .ro false 5 (r_.f_out.map e_TJTok)]]))), 1⟩ := by
  unfold clerestory_jlex_reader_skip_j5 at h
  refine Sv.cond (b := v45) rfl (fun hc6 => ?_) (fun hc6 => ?_)
  · replace h := ifT hc6 h
    refine Sv.seq ?_
    refine Sv.drawn ?_
    refine un (a1 rfl ?_)
    refine un (a1 (v := (.c (.ref 0 3 0 0))) rfl ?_)
    refine un (a1 (v := (.c (.ref 0 3 0 0))) rfl ?_)
    refine un (a1 (v := (S r_.f_s)) rfl ?_)
    refine un (a1 rfl ?_)
    refine un (a1 (v := (.c (.ref 0 3 0 0))) rfl ?_)
    refine un (a1 (v := (.c (.ref 0 3 0 1))) rfl ?_)
    refine un (a1 (v := (I r1)) rfl ?_)
    obtain ⟨r_1, hx2, h⟩ := bnd h
    refine un (a1 (v := (S r_1)) (s_slStr rfl rfl rfl hx2) ?_)
    obtain ⟨r_2, hr1, h⟩ := bnd h
    refine un (ac_pure (strings_IndexByte_ok hr1) rfl rfl rfl ?_)
    refine un (a1 rfl ?_)
    refine dnil ?_
    refine Sv.seq ?_
    refine Sv.seq ?_
    refine Sv.region ?_
    refine un (a1 rfl ?_)
    refine un (a1 (v := (B (decide (r_2 < 0)))) rfl ?_)
    refine dnil ?_
    refine Sv.cond (b := decide (r_2 < 0)) rfl (fun hc7 => ?_) (fun hc7 => ?_)
    · replace h := ifT hc7 h
      refine Sv.drawn ?_
      refine un (a1 rfl ?_)
      refine un (a1 (v := (.c (.ref 0 3 0 0))) rfl ?_)
      refine un (a1 (v := (.c (.ref 0 3 0 0))) rfl ?_)
      refine un (a1 (v := (S r_.f_s)) rfl ?_)
      refine un (a1 (v := (I (r_.f_s.length : Int))) rfl ?_)
      refine un (a1 rfl ?_)
      refine un (a1 (v := (.c (.ref 0 3 0 0))) rfl ?_)
      refine un (a1 (v := (.c (.ref 0 3 0 1))) rfl ?_)
      refine un (a1 (v := (I r1)) rfl ?_)
      refine un (a1 (v := (I (wi ((r_.f_s.length : Int) - r1)))) rfl ?_)
      refine un (a1 rfl ?_)
      refine dnil ?_
      exact Sv.weak (weak_canon [0] rfl (by decide) (by decide) (by decide) (.cons rfl (avAs_free rfl) (.cons rfl (.c (.ref rfl (by decide))) .nil)) (.box (by decide) rfl (blkAs_cells (.cons (.same rfl) (.cons (.same rfl) (.cons (.same rfl) .nil)))) .nil)) (clerestory_jlex_reader_skip_j6_ok h hself hK0 hr)
    · replace h := ifF hc7 h
      refine Sv.skip ?_
      exact Sv.weak (weak_canon [0] rfl (by decide) (by decide) (by decide) (.cons rfl (avAs_free rfl) (.cons rfl (.c (.ref rfl (by decide))) .nil)) (.box (by decide) rfl (blkAs_cells (.cons (.same rfl) (.cons (.same rfl) (.cons (.same rfl) .nil)))) .nil)) (clerestory_jlex_reader_skip_j6_ok h hself hK0 hr)
  · replace h := ifF hc6 h
    refine Sv.ret ?_
    replace h := Option.some.inj h
    subst h
    exact hr _ ⟨_, .refl _, _, rfl, ⟨upd (fun _ => none) 0 (some (.tup [])), (upd (fun _ => none) 0 (some (.cells 3 [[.str r_.f_s, cI r1, .ro false 5 (r_.f_out.map e_TJTok)]]))), 1⟩, (.tup []), weak_canon2 [0] [0] (by decide) (by decide) (by decide) (.cons (by decide) .nil) (.cons rfl (avAs_tup .nil) .nil) (.box (by decide) rfl (blkAs_cells (.cons (.same rfl) (.cons (.same rfl) (.cons (.same rfl) .nil)))) .nil), rfl, rfl, rfl, rfl⟩
noncomputable def clerestory_jlex_reader_skip_l0 (r_ : Treader) (K0_ : Int → Option Treader) : Nat → Int → Option Treader
  | 0, _ => none
  | k + 1, r1 =>
    if decide (r1 < (r_.f_s.length : Int)) then
      (at? r_.f_s r1).bind fun c_ =>
      if ((((decide ((c_.toNat : Int) = 32)) || (decide ((c_.toNat : Int) = 9))) || (decide ((c_.toNat : Int) = 10))) || (decide ((c_.toNat : Int) = 13))) then
        (clerestory_jlex_reader_skip_l0 r_ K0_ k) (wi (r1 + 1))
      else
        if decide ((c_.toNat : Int) = 47) then
          (clerestory_jlex_reader_peek (⟨r_.f_s, r1, r_.f_out⟩ : Treader) 1).bind fun r_3 =>
          clerestory_jlex_reader_skip_j5 r_ r1 (clerestory_jlex_reader_skip_l0 r_ K0_ k) K0_ (decide (r_3 = 47))
        else
          clerestory_jlex_reader_skip_j5 r_ r1 (clerestory_jlex_reader_skip_l0 r_ K0_ k) K0_ false
    else
      K0_ r1
theorem clerestory_jlex_reader_skip_l0_ok {mL : Int} {Q : AExit → St → Prop} {r_ : Treader} {K0_ : Int → Option Treader} {k : Nat} {r1 : Int} {o : Treader} (h : clerestory_jlex_reader_skip_l0 r_ K0_ k r1 = some o)
    (hK0 : ∀ (r11 : Int), K0_ r11 = some o → ∀ s, Weak 1 s ⟨(upd (fun _ => none) 0 (some (.c (.ref 0 3 0 0)))), (upd (fun _ => none) 0 (some (.cells 3 [[.str r_.f_s, cI r11, .ro false 5 (r_.f_out.map e_TJTok)]]))), 1⟩ → Q (.exit 0) s)
    (hr : ∀ s, Ends a48.results 1 (clerestory_jlex_reader_skip_post o) .ret s → Q .ret s) :
    Sv Tryd.prog (GG mL) 1 (.loop a48_c2) Q ⟨(upd (fun _ => none) 0 (some (.c (.ref 0 3 0 0)))), (upd (fun _ => none) 0 (some (.cells 3 [[.str r_.f_s, cI r1, .ro false 5 (r_.f_out.map e_TJTok)]]))), 1⟩ := by
  refine Sv.loop (I := fun k s => ∃ (r1 : Int), clerestory_jlex_reader_skip_l0 r_ K0_ k r1 = some o ∧ s = ⟨(upd (fun _ => none) 0 (some (.c (.ref 0 3 0 0)))), (upd (fun _ => none) 0 (some (.cells 3 [[.str r_.f_s, cI r1, .ro false 5 (r_.f_out.map e_TJTok)]]))), 1⟩) (fun k s hI => ?_) ⟨r1, h, rfl⟩
  clear h
  clear r1
  obtain ⟨r1, h, rfl⟩ := hI
  cases k with
  | zero => cases h
  | succ k =>
  rw [clerestory_jlex_reader_skip_l0] at h
  have hself : ∀ (r1 : Int), (clerestory_jlex_reader_skip_l0 r_ K0_ k) r1 = some o → ∀ s, Weak 1 s ⟨(upd (fun _ => none) 0 (some (.c (.ref 0 3 0 0)))), (upd (fun _ => none) 0 (some (.cells 3 [[.str r_.f_s, cI r1, .ro false 5 (r_.f_out.map e_TJTok)]]))), 1⟩ → (AThen (fun s' => ∃ s'' k', Weak 1 s' s'' ∧ k' < k + 1 ∧ (fun k s => ∃ (r1 : Int), clerestory_jlex_reader_skip_l0 r_ K0_ k r1 = some o ∧ s = ⟨(upd (fun _ => none) 0 (some (.c (.ref 0 3 0 0)))), (upd (fun _ => none) 0 (some (.cells 3 [[.str r_.f_s, cI r1, .ro false 5 (r_.f_out.map e_TJTok)]]))), 1⟩) k' s'') Q) .normal s := fun r1 h s hw => ⟨_, k, hw, Nat.lt_succ_self k, r1, h, rfl⟩
  refine Sv.seq ?_
  refine Sv.seq ?_
  refine Sv.drawn ?_
  refine un (a1 rfl ?_)
  refine un (a1 (v := (.c (.ref 0 3 0 0))) rfl ?_)
  refine un (a1 (v := (.c (.ref 0 3 0 1))) rfl ?_)
  refine un (a1 (v := (I r1)) rfl ?_)
  refine un (a1 rfl ?_)
  refine un (a1 (v := (.c (.ref 0 3 0 0))) rfl ?_)
  refine un (a1 (v := (.c (.ref 0 3 0 0))) rfl ?_)
  refine un (a1 (v := (S r_.f_s)) rfl ?_)
  refine un (a1 (v := (I (r_.f_s.length : Int))) rfl ?_)
  refine un (a1 (v := (B (decide (r1 < (r_.f_s.length : Int))))) rfl ?_)
  refine dnil ?_
  refine Sv.cond (b := decide (r1 < (r_.f_s.length : Int))) rfl (fun hc1 => ?_) (fun hc1 => ?_)
  · replace h := ifT hc1 h
    refine Sv.skip ?_
    refine Sv.block ?_
    refine Sv.seq ?_
    refine Sv.drawn ?_
    refine un (a1 rfl ?_)
    refine un (a1 (v := (.c (.ref 0 3 0 0))) rfl ?_)
    refine un (a1 (v := (.c (.ref 0 3 0 0))) rfl ?_)
    refine un (a1 (v := (S r_.f_s)) rfl ?_)
    refine un (a1 rfl ?_)
    refine un (a1 (v := (.c (.ref 0 3 0 0))) rfl ?_)
    refine un (a1 (v := (.c (.ref 0 3 0 1))) rfl ?_)
    refine un (a1 (v := (I r1)) rfl ?_)
    obtain ⟨c_, hx1, h⟩ := bnd h
    refine un (a1 (v := (.c (.val (.int .u8 (c_.toNat : Int))))) (s_idxS rfl rfl hx1) ?_)
    refine un (a1 rfl ?_)
    refine dnil ?_
    refine Sv.block ?_
    refine Sv.seq ?_
    refine Sv.region ?_
    refine un (a1 rfl ?_)
    refine un (a1 (v := (B (decide ((c_.toNat : Int) = 32)))) rfl ?_)
    refine un (a1 rfl ?_)
    refine gjoin 3 (d := 29) (v := (B ((decide ((c_.toNat : Int) = 32)) || (decide ((c_.toNat : Int) = 9))))) (fun X hX => ?_) ?_
    · refine split2 (fun hc2 => ?_) (fun hc2 => ?_)
      · refine gs rfl rfl ?_
        refine gs rfl rfl ?_
        refine un (a1 (v := (B true)) rfl ?_)
        refine dnil ?_
        exact hX _ (.putEq (by rw [hc2]; rfl) (.skip _ _ (.skip _ _ (.putEq (by rw [hc2]) (.refl _)) rfl) rfl))
      · refine gt rfl (a1 rfl ?_)
        refine gt rfl (a1 (v := (B (decide ((c_.toNat : Int) = 9)))) rfl ?_)
        refine un (a1 (v := (B (decide ((c_.toNat : Int) = 9)))) rfl ?_)
        refine dnil ?_
        exact hX _ (.putEq (by rw [hc2]; rfl) (.skip _ _ (.skip _ _ (.putEq (by rw [hc2]) (.refl _)) rfl) rfl))
    refine un (a1 rfl ?_)
    refine gjoin 3 (d := 33) (v := (B (((decide ((c_.toNat : Int) = 32)) || (decide ((c_.toNat : Int) = 9))) || (decide ((c_.toNat : Int) = 10))))) (fun X hX => ?_) ?_
    · refine split2 (fun hc3 => ?_) (fun hc3 => ?_)
      · refine gs rfl rfl ?_
        refine gs rfl rfl ?_
        refine un (a1 (v := (B true)) rfl ?_)
        refine dnil ?_
        exact hX _ (.putEq (by rw [hc3]; rfl) (.skip _ _ (.skip _ _ (.putEq (by rw [hc3]) (.refl _)) rfl) rfl))
      · refine gt rfl (a1 rfl ?_)
        refine gt rfl (a1 (v := (B (decide ((c_.toNat : Int) = 10)))) rfl ?_)
        refine un (a1 (v := (B (decide ((c_.toNat : Int) = 10)))) rfl ?_)
        refine dnil ?_
        exact hX _ (.putEq (by rw [hc3]; rfl) (.skip _ _ (.skip _ _ (.putEq (by rw [hc3]) (.refl _)) rfl) rfl))
    refine un (a1 rfl ?_)
    refine gjoin 3 (d := 37) (v := (B ((((decide ((c_.toNat : Int) = 32)) || (decide ((c_.toNat : Int) = 9))) || (decide ((c_.toNat : Int) = 10))) || (decide ((c_.toNat : Int) = 13))))) (fun X hX => ?_) ?_
    · refine split2 (fun hc4 => ?_) (fun hc4 => ?_)
      · refine gs rfl rfl ?_
        refine gs rfl rfl ?_
        refine un (a1 (v := (B true)) rfl ?_)
        refine dnil ?_
        exact hX _ (.putEq (by rw [hc4]; rfl) (.skip _ _ (.skip _ _ (.putEq (by rw [hc4]) (.refl _)) rfl) rfl))
      · refine gt rfl (a1 rfl ?_)
        refine gt rfl (a1 (v := (B (decide ((c_.toNat : Int) = 13)))) rfl ?_)
        refine un (a1 (v := (B (decide ((c_.toNat : Int) = 13)))) rfl ?_)
        refine dnil ?_
        exact hX _ (.putEq (by rw [hc4]; rfl) (.skip _ _ (.skip _ _ (.putEq (by rw [hc4]) (.refl _)) rfl) rfl))
    refine un (a1 rfl ?_)
    refine dnil ?_
    refine Sv.cond (b := ((((decide ((c_.toNat : Int) = 32)) || (decide ((c_.toNat : Int) = 9))) || (decide ((c_.toNat : Int) = 10))) || (decide ((c_.toNat : Int) = 13)))) rfl (fun hc5 => ?_) (fun hc5 => ?_)
    · replace h := ifT hc5 h
      refine Sv.region ?_
      refine un (a1 rfl ?_)
      refine un (a1 (v := (.c (.ref 0 3 0 0))) rfl ?_)
      refine un (a1 (v := (.c (.ref 0 3 0 1))) rfl ?_)
      refine un (a1 (v := (I r1)) rfl ?_)
      refine un (a1 (v := (I (wi (r1 + 1)))) rfl ?_)
      refine un (a1 (v := (.c (.ref 0 3 0 0))) rfl ?_)
      refine un (a1 (v := (.c (.ref 0 3 0 1))) rfl ?_)
      refine un (a2n (h' := upd _ 0 (some (.cells 3 [[.str r_.f_s, cI (wi (r1 + 1)), .ro false 5 (r_.f_out.map e_TJTok)]]))) (n' := 1) rfl rfl (fun h => by cases h) ?_)
      refine dnil ?_
      exact hself (wi (r1 + 1)) h _ (weak_canon [0] rfl (by decide) (by decide) (by decide) (.cons rfl (.c (.ref rfl (by decide))) .nil) (.box (by decide) rfl (blkAs_cells (.cons (.same rfl) (.cons (.same rfl) (.cons (.same rfl) .nil)))) .nil))
    · replace h := ifF hc5 h
      refine Sv.seq ?_
      refine Sv.region ?_
      refine un (a1 rfl ?_)
      refine un (a1 (v := (B (decide ((c_.toNat : Int) = 47)))) rfl ?_)
      refine un (a1 rfl ?_)
      refine split2 (fun hc8 => ?_) (fun hc8 => ?_)
      · replace h := ifT hc8 h
        refine gt rfl (a1 rfl ?_)
        obtain ⟨r_3, hr2, h⟩ := bnd h
        refine gt rfl (ac_lend (h2 := (upd _ 0 none)) (clerestory_jlex_reader_peek_ok hr2) rfl (.cons (.c (ref_ro rfl (gone rfl) (.cons (.same rfl) (.cons (.same rfl) (.cons (.same rfl) .nil))) rfl)) (.cons (avAs_free rfl) .nil)) (hsub_none (hsub_refl _)) rfl rfl (.inr rfl) ?_)
        refine gt rfl (a1 (v := (B (decide (r_3 = 47)))) rfl ?_)
        refine un (a1 (v := (B (decide (r_3 = 47)))) rfl ?_)
        refine un (a1 rfl ?_)
        refine dnil ?_
        exact Sv.weak (weak_canon [0] rfl (by decide) (by decide) (by decide) (.cons rfl (avAs_free rfl) (.cons rfl (.c (.ref rfl (by decide))) .nil)) (.box (by decide) rfl (blkAs_cells (.cons (.same rfl) (.cons (.same rfl) (.cons (.same rfl) .nil)))) .nil)) (clerestory_jlex_reader_skip_j5_ok h hself hK0 hr)
      · replace h := ifF hc8 h
        refine gs rfl rfl ?_
        refine gs rfl rfl ?_
        refine gs rfl rfl ?_
        refine un (a1 (v := (B false)) rfl ?_)
        refine un (a1 rfl ?_)
        refine dnil ?_
        exact Sv.weak (weak_canon [0] rfl (by decide) (by decide) (by decide) (.cons rfl (avAs_free rfl) (.cons rfl (.c (.ref rfl (by decide))) .nil)) (.box (by decide) rfl (blkAs_cells (.cons (.same rfl) (.cons (.same rfl) (.cons (.same rfl) .nil)))) .nil)) (clerestory_jlex_reader_skip_j5_ok h hself hK0 hr)
  · replace h := ifF hc1 h
    refine Sv.exit ?_
    exact hK0 r1 h _ (weak_canon [0] rfl (by decide) (by decide) (by decide) (.cons rfl (.c (.ref rfl (by decide))) .nil) (.box (by decide) rfl (blkAs_cells (.cons (.same rfl) (.cons (.same rfl) (.cons (.same rfl) .nil)))) .nil))
/-- (*clerestory/jlex.reader).skip -/
noncomputable def clerestory_jlex_reader_skip (r_ : Treader) : Option Treader :=
  lim fun kk => clerestory_jlex_reader_skip_l0 r_ (fun (r11 : Int) => 
      some (⟨r_.f_s, r11, r_.f_out⟩ : Treader)) kk r_.f_at
theorem clerestory_jlex_reader_skip_ok {mL : Int} {r_ : Treader} {r : Treader} (h : clerestory_jlex_reader_skip r_ = some r) : ACalls Tryd.prog (GG mL) 48 [(.c (.ref 0 3 0 0))] (upd (fun _ => none) 0 (some (.cells 3 [[.str r_.f_s, cI r_.f_at, .ro false 5 (r_.f_out.map e_TJTok)]]))) 1 (clerestory_jlex_reader_skip_post r) := by
  refine acalls_of_sv hmix c48 (R := clerestory_jlex_reader_skip_post r) ?_
  unfold clerestory_jlex_reader_skip at h
  refine Sv.block ?_
  obtain ⟨kk, h⟩ := lim_some h
  refine Sv.weak (weak_canon [0] rfl (by decide) (by decide) (by decide) (.cons rfl (.c (.ref rfl (by decide))) .nil) (.box (by decide) rfl (blkAs_cells (.cons (.same rfl) (.cons (.same rfl) (.cons (.same rfl) .nil)))) .nil)) (clerestory_jlex_reader_skip_l0_ok h ?_ (fun s hs => hs))
  · intro r11 h _ hw1
    replace h := Option.some.inj h
    subst h
    exact ⟨_, hw1, _, rfl, ⟨upd (fun _ => none) 0 (some (.tup [])), (upd (fun _ => none) 0 (some (.cells 3 [[.str r_.f_s, cI r11, .ro false 5 (r_.f_out.map e_TJTok)]]))), 1⟩, (.tup []), weak_canon2 [0] [0] (by decide) (by decide) (by decide) (.cons (by decide) .nil) (.cons rfl (avAs_tup .nil) .nil) (.box (by decide) rfl (blkAs_cells (.cons (.same rfl) (.cons (.same rfl) (.cons (.same rfl) .nil)))) .nil), rfl, rfl, rfl, rfl⟩
def a48_clerestory_jlex_reader_skip1_c1 : ACode := (.region [⟨(some 75), (.mov (.tmp 0)), none⟩, ⟨(some 76), (.nilc (.tmp 75)), none⟩, ⟨(some 77), (.faddr 1 (.tmp 76)), none⟩, ⟨(some 78), (.load false 1 (.tmp 77)), none⟩, ⟨(some 79), (.mov (.tmp 3)), none⟩, ⟨(some 80), (.bin .add (.tmp 78) (.tmp 79)), none⟩, ⟨(some 81), (.nilc (.tmp 75)), none⟩, ⟨(some 82), (.faddr 1 (.tmp 81)), none⟩, ⟨none, (.store 1 (.tmp 82) (.tmp 80)), none⟩])
def a48_clerestory_jlex_reader_skip1_c0 : ACode := (.cond (.tmp 45) (.seq (.drawn (.fin [(⟨(some 53), (.mov (.tmp 0)), none⟩, (0, 0)), (⟨(some 54), (.nilc (.tmp 53)), none⟩, (0, 1)), (⟨(some 55), (.faddr 0 (.tmp 54)), none⟩, (0, 2)), (⟨(some 56), (.load false 1 (.tmp 55)), none⟩, (0, 3)), (⟨(some 57), (.mov (.tmp 0)), none⟩, (0, 4)), (⟨(some 58), (.nilc (.tmp 57)), none⟩, (0, 5)), (⟨(some 59), (.faddr 1 (.tmp 58)), none⟩, (0, 6)), (⟨(some 60), (.load false 1 (.tmp 59)), none⟩, (0, 7)), (⟨(some 61), (.slStr (.tmp 56) (some (.tmp 60)) none), none⟩, (0, 8)), (⟨(some 62), (.call 100 [(.tmp 61), (.const (.c (.val (.int .u8 10))))]), none⟩, (2, 9)), (⟨(some 3), (.mov (.tmp 62)), none⟩, (0, 10))]))
 (.seq (.seq (.region [⟨(some 63), (.mov (.tmp 3)), none⟩, ⟨(some 64), (.bin .lss (.tmp 63) (.const (.c (.val (.int .i64 0))))), none⟩])
 (.cond (.tmp 64) (.drawn (.fin [(⟨(some 65), (.mov (.tmp 0)), none⟩, (0, 0)), (⟨(some 66), (.nilc (.tmp 65)), none⟩, (0, 1)), (⟨(some 67), (.faddr 0 (.tmp 66)), none⟩, (0, 2)), (⟨(some 68), (.load false 1 (.tmp 67)), none⟩, (0, 3)), (⟨(some 69), (.lenS (.tmp 68)), none⟩, (0, 4)), (⟨(some 70), (.mov (.tmp 0)), none⟩, (0, 5)), (⟨(some 71), (.nilc (.tmp 70)), none⟩, (0, 6)), (⟨(some 72), (.faddr 1 (.tmp 71)), none⟩, (0, 7)), (⟨(some 73), (.load false 1 (.tmp 72)), none⟩, (0, 8)), (⟨(some 74), (.bin .sub (.tmp 69) (.tmp 73)), none⟩, (0, 9)), (⟨(some 3), (.mov (.tmp 74)), none⟩, (0, 10))])) .skip))
 a48_clerestory_jlex_reader_skip1_c1)) .ret)
def a48_clerestory_jlex_reader_skip1_c2 : ACode := (.seq (.seq (.drawn (.fin [(⟨(some 4), (.mov (.tmp 0)), none⟩, (0, 0)), (⟨(some 5), (.nilc (.tmp 4)), none⟩, (0, 1)), (⟨(some 6), (.faddr 1 (.tmp 5)), none⟩, (0, 2)), (⟨(some 7), (.load false 1 (.tmp 6)), none⟩, (0, 3)), (⟨(some 8), (.mov (.tmp 0)), none⟩, (0, 4)), (⟨(some 9), (.nilc (.tmp 8)), none⟩, (0, 5)), (⟨(some 10), (.faddr 0 (.tmp 9)), none⟩, (0, 6)), (⟨(some 11), (.load false 1 (.tmp 10)), none⟩, (0, 7)), (⟨(some 12), (.lenS (.tmp 11)), none⟩, (0, 8)), (⟨(some 13), (.bin .lss (.tmp 7) (.tmp 12)), none⟩, (0, 9))]))
 (.cond (.tmp 13) .skip (.exit 0)))
 (.block 1 (.seq (.drawn (.fin [(⟨(some 14), (.mov (.tmp 0)), none⟩, (0, 0)), (⟨(some 15), (.nilc (.tmp 14)), none⟩, (0, 1)), (⟨(some 16), (.faddr 0 (.tmp 15)), none⟩, (0, 2)), (⟨(some 17), (.load false 1 (.tmp 16)), none⟩, (0, 3)), (⟨(some 18), (.mov (.tmp 0)), none⟩, (0, 4)), (⟨(some 19), (.nilc (.tmp 18)), none⟩, (0, 5)), (⟨(some 20), (.faddr 1 (.tmp 19)), none⟩, (0, 6)), (⟨(some 21), (.load false 1 (.tmp 20)), none⟩, (0, 7)), (⟨(some 22), (.idxS (.tmp 17) (.tmp 21)), none⟩, (0, 8)), (⟨(some 2), (.mov (.tmp 22)), none⟩, (0, 9))]))
 (.block 2 (.seq (.region [⟨(some 24), (.mov (.tmp 2)), none⟩, ⟨(some 25), (.bin .eql (.tmp 24) (.const (.c (.val (.int .u8 32))))), none⟩, ⟨(some 26), (.mov (.tmp 25)), none⟩, ⟨(some 27), (.mov (.tmp 2)), (some (26, false))⟩, ⟨(some 28), (.bin .eql (.tmp 27) (.const (.c (.val (.int .u8 9))))), (some (26, false))⟩, ⟨(some 29), (.pick (.tmp 26) (.const (.c (.val (.bool true)))) (.tmp 28)), none⟩, ⟨(some 30), (.mov (.tmp 29)), none⟩, ⟨(some 31), (.mov (.tmp 2)), (some (30, false))⟩, ⟨(some 32), (.bin .eql (.tmp 31) (.const (.c (.val (.int .u8 10))))), (some (30, false))⟩, ⟨(some 33), (.pick (.tmp 30) (.const (.c (.val (.bool true)))) (.tmp 32)), none⟩, ⟨(some 34), (.mov (.tmp 33)), none⟩, ⟨(some 35), (.mov (.tmp 2)), (some (34, false))⟩, ⟨(some 36), (.bin .eql (.tmp 35) (.const (.c (.val (.int .u8 13))))), (some (34, false))⟩, ⟨(some 37), (.pick (.tmp 34) (.const (.c (.val (.bool true)))) (.tmp 36)), none⟩, ⟨(some 23), (.mov (.tmp 37)), none⟩])
 (.cond (.tmp 23) (.region [⟨(some 38), (.mov (.tmp 0)), none⟩, ⟨(some 39), (.nilc (.tmp 38)), none⟩, ⟨(some 40), (.faddr 1 (.tmp 39)), none⟩, ⟨(some 41), (.load false 1 (.tmp 40)), none⟩, ⟨(some 42), (.bin .add (.tmp 41) (.const (.c (.val (.int .i64 1))))), none⟩, ⟨(some 43), (.nilc (.tmp 38)), none⟩, ⟨(some 44), (.faddr 1 (.tmp 43)), none⟩, ⟨none, (.store 1 (.tmp 44) (.tmp 42)), none⟩]) (.seq (.region [⟨(some 46), (.mov (.tmp 2)), none⟩, ⟨(some 47), (.bin .eql (.tmp 46) (.const (.c (.val (.int .u8 47))))), none⟩, ⟨(some 48), (.mov (.tmp 47)), none⟩, ⟨(some 49), (.mov (.tmp 0)), (some (48, true))⟩, ⟨(some 50), (.call 99 [(.tmp 49), (.const (.c (.val (.int .i64 1))))]), (some (48, true))⟩, ⟨(some 51), (.bin .eql (.tmp 50) (.const (.c (.val (.int .u8 47))))), (some (48, true))⟩, ⟨(some 52), (.pick (.tmp 48) (.tmp 51) (.const (.c (.val (.bool false))))), none⟩, ⟨(some 45), (.mov (.tmp 52)), none⟩])
 a48_clerestory_jlex_reader_skip1_c0)))))))
def clerestory_jlex_reader_skip1_post (r : Treader) : AV → Heap → Nat → Prop := fun v h' n' => ∃ z0 : Bool, (z0 = true → r.f_out = []) ∧ v = (.tup []) ∧ (h' = (upd (upd (fun _ => none) 0 (some (.cells 3 [[.str r.f_s, cI r.f_at, lstC z0 2 5 r.f_out.length]]))) 2 (lstB z0 5 (r.f_out.map e_TJTok)))) ∧ n' = 3
abbrev clerestory_jlex_reader_skip1_q0 (mL : Int) (Q : AExit → St → Prop) : AExit → St → Prop := ABlock 1 Q
abbrev clerestory_jlex_reader_skip1_q1 (mL : Int) (Q : AExit → St → Prop) : AExit → St → Prop := ABlock 2 (clerestory_jlex_reader_skip1_q0 mL Q)
noncomputable def clerestory_jlex_reader_skip1_j6 (r1 : Int) (r_ : Treader) (self : Int → (List TJTok) → Option Treader) (K0_ : Int → (List TJTok) → Option Treader) (r23 : (List TJTok)) (n_ : Int) : Option Treader :=
  self (wi (r1 + n_)) r23
theorem clerestory_jlex_reader_skip1_j6_ok {mL : Int} {Q : AExit → St → Prop} {r1 : Int} {r_ : Treader} {self : Int → (List TJTok) → Option Treader} {K0_ : Int → (List TJTok) → Option Treader} {r23 : (List TJTok)} {n_ : Int} {zr23 : Bool} (hzr23 : zr23 = true → r23 = []) {o : Treader} (h : clerestory_jlex_reader_skip1_j6 r1 r_ self K0_ r23 n_ = some o)
    (hself : ∀ (r1 : Int) (r2 : (List TJTok)) (zr2 : Bool) (_ : zr2 = true → r2 = []), self r1 r2 = some o → ∀ s, Weak 2 s ⟨(upd (fun _ => none) 0 (some (.c (.ref 0 3 0 0)))), (upd (upd (fun _ => none) 0 (some (.cells 3 [[.str r_.f_s, cI r1, lstC zr2 1 5 r2.length]]))) 1 (lstB zr2 5 (r2.map e_TJTok))), 2⟩ → (Q) .normal s)
    (hK0 : ∀ (r11 : Int) (r21 : (List TJTok)) (zr21 : Bool) (_ : zr21 = true → r21 = []), K0_ r11 r21 = some o → ∀ s, Weak 2 s ⟨(upd (fun _ => none) 0 (some (.c (.ref 0 3 0 0)))), (upd (upd (fun _ => none) 0 (some (.cells 3 [[.str r_.f_s, cI r11, lstC zr21 1 5 r21.length]]))) 1 (lstB zr21 5 (r21.map e_TJTok))), 2⟩ → Q (.exit 0) s)
    (hr : ∀ s, Ends a48.results 2 (clerestory_jlex_reader_skip1_post o) .ret s → Q .ret s) :
    Sv Tryd.prog (GG mL) 2 a48_clerestory_jlex_reader_skip1_c1 (clerestory_jlex_reader_skip1_q1 mL Q) ⟨(upd (upd (fun _ => none) 0 (some (.c (.ref 0 3 0 0)))) 3 (some (I n_))), (upd (upd (fun _ => none) 0 (some (.cells 3 [[.str r_.f_s, cI r1, lstC zr23 1 5 r23.length]]))) 1 (lstB zr23 5 (r23.map e_TJTok))), 2⟩ := by
  unfold clerestory_jlex_reader_skip1_j6 at h
  refine Sv.region ?_
  refine un (a1 rfl ?_)
  refine un (a1 (v := (.c (.ref 0 3 0 0))) rfl ?_)
  refine un (a1 (v := (.c (.ref 0 3 0 1))) rfl ?_)
  refine un (a1 (v := (I r1)) rfl ?_)
  refine un (a1 rfl ?_)
  refine un (a1 (v := (I (wi (r1 + n_)))) rfl ?_)
  refine un (a1 (v := (.c (.ref 0 3 0 0))) rfl ?_)
  refine un (a1 (v := (.c (.ref 0 3 0 1))) rfl ?_)
  refine un (a2n (h' := upd _ 0 (some (.cells 3 [[.str r_.f_s, cI (wi (r1 + n_)), lstC zr23 1 5 r23.length]]))) (n' := 2) rfl rfl (fun h => by cases h) ?_)
  refine dnil ?_
  exact hself (wi (r1 + n_)) r23 zr23 hzr23 h _ (weak_canon [0, 1] rfl (by decide) (by decide) (by decide) (.cons rfl (.c (.ref rfl (by decide))) .nil) (.row (by decide) rfl (fr_map fun _ => rfl) (.box (by decide) rfl (blkAs_cells (.cons (.same rfl) (.cons (.same rfl) (.cons (lstC_ren rfl (by decide)) .nil)))) .nil)))
noncomputable def clerestory_jlex_reader_skip1_j5 (r_ : Treader) (r1 : Int) (self : Int → (List TJTok) → Option Treader) (K0_ : Int → (List TJTok) → Option Treader) (r22 : (List TJTok)) (v45 : Bool) : Option Treader :=
  if v45 then
    (sub? r_.f_s r1 (r_.f_s.length : Int)).bind fun r_1 =>
    (strings_IndexByte r_1 10).bind fun r_2 =>
    if decide (r_2 < 0) then
      clerestory_jlex_reader_skip1_j6 r1 r_ self K0_ r22 (wi ((r_.f_s.length : Int) - r1))
    else
      clerestory_jlex_reader_skip1_j6 r1 r_ self K0_ r22 r_2
  else
    some (⟨r_.f_s, r1, r22⟩ : Treader)
theorem clerestory_jlex_reader_skip1_j5_ok {mL : Int} {Q : AExit → St → Prop} {r_ : Treader} {r1 : Int} {self : Int → (List TJTok) → Option Treader} {K0_ : Int → (List TJTok) → Option Treader} {r22 : (List TJTok)} {v45 : Bool} {zr22 : Bool} (hzr22 : zr22 = true → r22 = []) {o : Treader} (h : clerestory_jlex_reader_skip1_j5 r_ r1 self K0_ r22 v45 = some o)
    (hself : ∀ (r1 : Int) (r2 : (List TJTok)) (zr2 : Bool) (_ : zr2 = true → r2 = []), self r1 r2 = some o → ∀ s, Weak 2 s ⟨(upd (fun _ => none) 0 (some (.c (.ref 0 3 0 0)))), (upd (upd (fun _ => none) 0 (some (.cells 3 [[.str r_.f_s, cI r1, lstC zr2 1 5 r2.length]]))) 1 (lstB zr2 5 (r2.map e_TJTok))), 2⟩ → (Q) .normal s)
    (hK0 : ∀ (r11 : Int) (r21 : (List TJTok)) (zr21 : Bool) (_ : zr21 = true → r21 = []), K0_ r11 r21 = some o → ∀ s, Weak 2 s ⟨(upd (fun _ => none) 0 (some (.c (.ref 0 3 0 0)))), (upd (upd (fun _ => none) 0 (some (.cells 3 [[.str r_.f_s, cI r11, lstC zr21 1 5 r21.length]]))) 1 (lstB zr21 5 (r21.map e_TJTok))), 2⟩ → Q (.exit 0) s)
    (hr : ∀ s, Ends a48.results 2 (clerestory_jlex_reader_skip1_post o) .ret s → Q .ret s) :
    Sv Tryd.prog (GG mL) 2 a48_clerestory_jlex_reader_skip1_c0 (clerestory_jlex_reader_skip1_q1 mL Q) ⟨(upd (upd (fun _ => none) 0 (some (.c (.ref 0 3 0 0)))) 45 (some (B v45))), (upd (upd (fun _ => none) 0 (some (.cells 3 [[.str r_.f_s, cI r1, lstC zr22 1 5 r22.length]]))) 1 (lstB zr22 5 (r22.map e_TJTok))), 2⟩ := by
  unfold clerestory_jlex_reader_skip1_j5 at h
  refine Sv.cond (b := v45) rfl (fun hc6 => ?_) (fun hc6 => ?_)
  · replace h := ifT hc6 h
    refine Sv.seq ?_
    refine Sv.drawn ?_
    refine un (a1 rfl ?_)
    refine un (a1 (v := (.c (.ref 0 3 0 0))) rfl ?_)
    refine un (a1 (v := (.c (.ref 0 3 0 0))) rfl ?_)
    refine un (a1 (v := (S r_.f_s)) rfl ?_)
    refine un (a1 rfl ?_)
    refine un (a1 (v := (.c (.ref 0 3 0 0))) rfl ?_)
    refine un (a1 (v := (.c (.ref 0 3 0 1))) rfl ?_)
    refine un (a1 (v := (I r1)) rfl ?_)
    obtain ⟨r_1, hx2, h⟩ := bnd h
    refine un (a1 (v := (S r_1)) (s_slStr rfl rfl rfl hx2) ?_)
    obtain ⟨r_2, hr1, h⟩ := bnd h
    refine un (ac_pure (strings_IndexByte_ok hr1) rfl rfl rfl ?_)
    refine un (a1 rfl ?_)
    refine dnil ?_
    refine Sv.seq ?_
    refine Sv.seq ?_
    refine Sv.region ?_
    refine un (a1 rfl ?_)
    refine un (a1 (v := (B (decide (r_2 < 0)))) rfl ?_)
    refine dnil ?_
    refine Sv.cond (b := decide (r_2 < 0)) rfl (fun hc7 => ?_) (fun hc7 => ?_)
    · replace h := ifT hc7 h
      refine Sv.drawn ?_
      refine un (a1 rfl ?_)
      refine un (a1 (v := (.c (.ref 0 3 0 0))) rfl ?_)
      refine un (a1 (v := (.c (.ref 0 3 0 0))) rfl ?_)
      refine un (a1 (v := (S r_.f_s)) rfl ?_)
      refine un (a1 (v := (I (r_.f_s.length : Int))) rfl ?_)
      refine un (a1 rfl ?_)
      refine un (a1 (v := (.c (.ref 0 3 0 0))) rfl ?_)
      refine un (a1 (v := (.c (.ref 0 3 0 1))) rfl ?_)
      refine un (a1 (v := (I r1)) rfl ?_)
      refine un (a1 (v := (I (wi ((r_.f_s.length : Int) - r1)))) rfl ?_)
      refine un (a1 rfl ?_)
      refine dnil ?_
      exact Sv.weak (weak_canon [0, 1] rfl (by decide) (by decide) (by decide) (.cons rfl (avAs_free rfl) (.cons rfl (.c (.ref rfl (by decide))) .nil)) (.row (by decide) rfl (fr_map fun _ => rfl) (.box (by decide) rfl (blkAs_cells (.cons (.same rfl) (.cons (.same rfl) (.cons (lstC_ren rfl (by decide)) .nil)))) .nil))) (clerestory_jlex_reader_skip1_j6_ok hzr22 h hself hK0 hr)
    · replace h := ifF hc7 h
      refine Sv.skip ?_
      exact Sv.weak (weak_canon [0, 1] rfl (by decide) (by decide) (by decide) (.cons rfl (avAs_free rfl) (.cons rfl (.c (.ref rfl (by decide))) .nil)) (.row (by decide) rfl (fr_map fun _ => rfl) (.box (by decide) rfl (blkAs_cells (.cons (.same rfl) (.cons (.same rfl) (.cons (lstC_ren rfl (by decide)) .nil)))) .nil))) (clerestory_jlex_reader_skip1_j6_ok hzr22 h hself hK0 hr)
  · replace h := ifF hc6 h
    refine Sv.ret ?_
    replace h := Option.some.inj h
    subst h
    exact hr _ ⟨_, .refl _, _, rfl, ⟨upd (fun _ => none) 0 (some (.tup [])), (upd (upd (fun _ => none) 0 (some (.cells 3 [[.str r_.f_s, cI r1, lstC zr22 2 5 r22.length]]))) 2 (lstB zr22 5 (r22.map e_TJTok))), 3⟩, (.tup []), weak_canon2 [0, 1, 1] [0, 2] (by decide) (by decide) (by decide) (.cons (by decide) (.cons (by decide) .nil)) (.cons rfl (avAs_tup .nil) .nil) (.row (by decide) rfl (fr_map fun _ => rfl) (.box (by decide) rfl (blkAs_cells (.cons (.same rfl) (.cons (.same rfl) (.cons (lstC_ren rfl (by decide)) .nil)))) .nil)), rfl, zr22, hzr22, rfl, rfl, rfl⟩
noncomputable def clerestory_jlex_reader_skip1_l0 (r_ : Treader) (K0_ : Int → (List TJTok) → Option Treader) : Nat → Int → (List TJTok) → Option Treader
  | 0, _, _ => none
  | k + 1, r1, r2 =>
    if decide (r1 < (r_.f_s.length : Int)) then
      (at? r_.f_s r1).bind fun c_ =>
      if ((((decide ((c_.toNat : Int) = 32)) || (decide ((c_.toNat : Int) = 9))) || (decide ((c_.toNat : Int) = 10))) || (decide ((c_.toNat : Int) = 13))) then
        (clerestory_jlex_reader_skip1_l0 r_ K0_ k) (wi (r1 + 1)) r2
      else
        if decide ((c_.toNat : Int) = 47) then
          (clerestory_jlex_reader_peek (⟨r_.f_s, r1, r2⟩ : Treader) 1).bind fun r_3 =>
          clerestory_jlex_reader_skip1_j5 r_ r1 (clerestory_jlex_reader_skip1_l0 r_ K0_ k) K0_ r2 (decide (r_3 = 47))
        else
          clerestory_jlex_reader_skip1_j5 r_ r1 (clerestory_jlex_reader_skip1_l0 r_ K0_ k) K0_ r2 false
    else
      K0_ r1 r2
theorem clerestory_jlex_reader_skip1_l0_ok {mL : Int} {Q : AExit → St → Prop} {r_ : Treader} {K0_ : Int → (List TJTok) → Option Treader} {k : Nat} {r1 : Int} {r2 : (List TJTok)} {zr2 : Bool} (hzr2 : zr2 = true → r2 = []) {o : Treader} (h : clerestory_jlex_reader_skip1_l0 r_ K0_ k r1 r2 = some o)
    (hK0 : ∀ (r11 : Int) (r21 : (List TJTok)) (zr21 : Bool) (_ : zr21 = true → r21 = []), K0_ r11 r21 = some o → ∀ s, Weak 2 s ⟨(upd (fun _ => none) 0 (some (.c (.ref 0 3 0 0)))), (upd (upd (fun _ => none) 0 (some (.cells 3 [[.str r_.f_s, cI r11, lstC zr21 1 5 r21.length]]))) 1 (lstB zr21 5 (r21.map e_TJTok))), 2⟩ → Q (.exit 0) s)
    (hr : ∀ s, Ends a48.results 2 (clerestory_jlex_reader_skip1_post o) .ret s → Q .ret s) :
    Sv Tryd.prog (GG mL) 2 (.loop a48_clerestory_jlex_reader_skip1_c2) Q ⟨(upd (fun _ => none) 0 (some (.c (.ref 0 3 0 0)))), (upd (upd (fun _ => none) 0 (some (.cells 3 [[.str r_.f_s, cI r1, lstC zr2 1 5 r2.length]]))) 1 (lstB zr2 5 (r2.map e_TJTok))), 2⟩ := by
  refine Sv.loop (I := fun k s => ∃ (r1 : Int), ∃ (r2 : (List TJTok)), ∃ (zr2 : Bool), (zr2 = true → r2 = []) ∧ clerestory_jlex_reader_skip1_l0 r_ K0_ k r1 r2 = some o ∧ s = ⟨(upd (fun _ => none) 0 (some (.c (.ref 0 3 0 0)))), (upd (upd (fun _ => none) 0 (some (.cells 3 [[.str r_.f_s, cI r1, lstC zr2 1 5 r2.length]]))) 1 (lstB zr2 5 (r2.map e_TJTok))), 2⟩) (fun k s hI => ?_) ⟨r1, r2, zr2, hzr2, h, rfl⟩
  clear h
  clear hzr2 zr2 r2 r1
  obtain ⟨r1, r2, zr2, hzr2, h, rfl⟩ := hI
  cases k with
  | zero => cases h
  | succ k =>
  rw [clerestory_jlex_reader_skip1_l0] at h
  have hself : ∀ (r1 : Int) (r2 : (List TJTok)) (zr2 : Bool) (_ : zr2 = true → r2 = []), (clerestory_jlex_reader_skip1_l0 r_ K0_ k) r1 r2 = some o → ∀ s, Weak 2 s ⟨(upd (fun _ => none) 0 (some (.c (.ref 0 3 0 0)))), (upd (upd (fun _ => none) 0 (some (.cells 3 [[.str r_.f_s, cI r1, lstC zr2 1 5 r2.length]]))) 1 (lstB zr2 5 (r2.map e_TJTok))), 2⟩ → (AThen (fun s' => ∃ s'' k', Weak 2 s' s'' ∧ k' < k + 1 ∧ (fun k s => ∃ (r1 : Int), ∃ (r2 : (List TJTok)), ∃ (zr2 : Bool), (zr2 = true → r2 = []) ∧ clerestory_jlex_reader_skip1_l0 r_ K0_ k r1 r2 = some o ∧ s = ⟨(upd (fun _ => none) 0 (some (.c (.ref 0 3 0 0)))), (upd (upd (fun _ => none) 0 (some (.cells 3 [[.str r_.f_s, cI r1, lstC zr2 1 5 r2.length]]))) 1 (lstB zr2 5 (r2.map e_TJTok))), 2⟩) k' s'') Q) .normal s := fun r1 r2 zr2 hzr2 h s hw => ⟨_, k, hw, Nat.lt_succ_self k, r1, r2, zr2, hzr2, h, rfl⟩
  refine Sv.seq ?_
  refine Sv.seq ?_
  refine Sv.drawn ?_
  refine un (a1 rfl ?_)
  refine un (a1 (v := (.c (.ref 0 3 0 0))) rfl ?_)
  refine un (a1 (v := (.c (.ref 0 3 0 1))) rfl ?_)
  refine un (a1 (v := (I r1)) rfl ?_)
  refine un (a1 rfl ?_)
  refine un (a1 (v := (.c (.ref 0 3 0 0))) rfl ?_)
  refine un (a1 (v := (.c (.ref 0 3 0 0))) rfl ?_)
  refine un (a1 (v := (S r_.f_s)) rfl ?_)
  refine un (a1 (v := (I (r_.f_s.length : Int))) rfl ?_)
  refine un (a1 (v := (B (decide (r1 < (r_.f_s.length : Int))))) rfl ?_)
  refine dnil ?_
  refine Sv.cond (b := decide (r1 < (r_.f_s.length : Int))) rfl (fun hc1 => ?_) (fun hc1 => ?_)
  · replace h := ifT hc1 h
    refine Sv.skip ?_
    refine Sv.block ?_
    refine Sv.seq ?_
    refine Sv.drawn ?_
    refine un (a1 rfl ?_)
    refine un (a1 (v := (.c (.ref 0 3 0 0))) rfl ?_)
    refine un (a1 (v := (.c (.ref 0 3 0 0))) rfl ?_)
    refine un (a1 (v := (S r_.f_s)) rfl ?_)
    refine un (a1 rfl ?_)
    refine un (a1 (v := (.c (.ref 0 3 0 0))) rfl ?_)
    refine un (a1 (v := (.c (.ref 0 3 0 1))) rfl ?_)
    refine un (a1 (v := (I r1)) rfl ?_)
    obtain ⟨c_, hx1, h⟩ := bnd h
    refine un (a1 (v := (.c (.val (.int .u8 (c_.toNat : Int))))) (s_idxS rfl rfl hx1) ?_)
    refine un (a1 rfl ?_)
    refine dnil ?_
    refine Sv.block ?_
    refine Sv.seq ?_
    refine Sv.region ?_
    refine un (a1 rfl ?_)
    refine un (a1 (v := (B (decide ((c_.toNat : Int) = 32)))) rfl ?_)
    refine un (a1 rfl ?_)
    refine gjoin 3 (d := 29) (v := (B ((decide ((c_.toNat : Int) = 32)) || (decide ((c_.toNat : Int) = 9))))) (fun X hX => ?_) ?_
    · refine split2 (fun hc2 => ?_) (fun hc2 => ?_)
      · refine gs rfl rfl ?_
        refine gs rfl rfl ?_
        refine un (a1 (v := (B true)) rfl ?_)
        refine dnil ?_
        exact hX _ (.putEq (by rw [hc2]; rfl) (.skip _ _ (.skip _ _ (.putEq (by rw [hc2]) (.refl _)) rfl) rfl))
      · refine gt rfl (a1 rfl ?_)
        refine gt rfl (a1 (v := (B (decide ((c_.toNat : Int) = 9)))) rfl ?_)
        refine un (a1 (v := (B (decide ((c_.toNat : Int) = 9)))) rfl ?_)
        refine dnil ?_
        exact hX _ (.putEq (by rw [hc2]; rfl) (.skip _ _ (.skip _ _ (.putEq (by rw [hc2]) (.refl _)) rfl) rfl))
    refine un (a1 rfl ?_)
    refine gjoin 3 (d := 33) (v := (B (((decide ((c_.toNat : Int) = 32)) || (decide ((c_.toNat : Int) = 9))) || (decide ((c_.toNat : Int) = 10))))) (fun X hX => ?_) ?_
    · refine split2 (fun hc3 => ?_) (fun hc3 => ?_)
      · refine gs rfl rfl ?_
        refine gs rfl rfl ?_
        refine un (a1 (v := (B true)) rfl ?_)
        refine dnil ?_
        exact hX _ (.putEq (by rw [hc3]; rfl) (.skip _ _ (.skip _ _ (.putEq (by rw [hc3]) (.refl _)) rfl) rfl))
      · refine gt rfl (a1 rfl ?_)
        refine gt rfl (a1 (v := (B (decide ((c_.toNat : Int) = 10)))) rfl ?_)
        refine un (a1 (v := (B (decide ((c_.toNat : Int) = 10)))) rfl ?_)
        refine dnil ?_
        exact hX _ (.putEq (by rw [hc3]; rfl) (.skip _ _ (.skip _ _ (.putEq (by rw [hc3]) (.refl _)) rfl) rfl))
    refine un (a1 rfl ?_)
    refine gjoin 3 (d := 37) (v := (B ((((decide ((c_.toNat : Int) = 32)) || (decide ((c_.toNat : Int) = 9))) || (decide ((c_.toNat : Int) = 10))) || (decide ((c_.toNat : Int) = 13))))) (fun X hX => ?_) ?_
    · refine split2 (fun hc4 => ?_) (fun hc4 => ?_)
      · refine gs rfl rfl ?_
        refine gs rfl rfl ?_
        refine un (a1 (v := (B true)) rfl ?_)
        refine dnil ?_
        exact hX _ (.putEq (by rw [hc4]; rfl) (.skip _ _ (.skip _ _ (.putEq (by rw [hc4]) (.refl _)) rfl) rfl))
      · refine gt rfl (a1 rfl ?_)
        refine gt rfl (a1 (v := (B (decide ((c_.toNat : Int) = 13)))) rfl ?_)
        refine un (a1 (v := (B (decide ((c_.toNat : Int) = 13)))) rfl ?_)
        refine dnil ?_
        exact hX _ (.putEq (by rw [hc4]; rfl) (.skip _ _ (.skip _ _ (.putEq (by rw [hc4]) (.refl _)) rfl) rfl))
    refine un (a1 rfl ?_)
    refine dnil ?_
    refine Sv.cond (b := ((((decide ((c_.toNat : Int) = 32)) || (decide ((c_.toNat : Int) = 9))) || (decide ((c_.toNat : Int) = 10))) || (decide ((c_.toNat : Int) = 13)))) rfl (fun hc5 => ?_) (fun hc5 => ?_)
    · replace h := ifT hc5 h
      refine Sv.region ?_
      refine un (a1 rfl ?_)
      refine un (a1 (v := (.c (.ref 0 3 0 0))) rfl ?_)
      refine un (a1 (v := (.c (.ref 0 3 0 1))) rfl ?_)
      refine un (a1 (v := (I r1)) rfl ?_)
      refine un (a1 (v := (I (wi (r1 + 1)))) rfl ?_)
      refine un (a1 (v := (.c (.ref 0 3 0 0))) rfl ?_)
      refine un (a1 (v := (.c (.ref 0 3 0 1))) rfl ?_)
      refine un (a2n (h' := upd _ 0 (some (.cells 3 [[.str r_.f_s, cI (wi (r1 + 1)), lstC zr2 1 5 r2.length]]))) (n' := 2) rfl rfl (fun h => by cases h) ?_)
      refine dnil ?_
      exact hself (wi (r1 + 1)) r2 zr2 hzr2 h _ (weak_canon [0, 1] rfl (by decide) (by decide) (by decide) (.cons rfl (.c (.ref rfl (by decide))) .nil) (.row (by decide) rfl (fr_map fun _ => rfl) (.box (by decide) rfl (blkAs_cells (.cons (.same rfl) (.cons (.same rfl) (.cons (lstC_ren rfl (by decide)) .nil)))) .nil)))
    · replace h := ifF hc5 h
      refine Sv.seq ?_
      refine Sv.region ?_
      refine un (a1 rfl ?_)
      refine un (a1 (v := (B (decide ((c_.toNat : Int) = 47)))) rfl ?_)
      refine un (a1 rfl ?_)
      refine split2 (fun hc8 => ?_) (fun hc8 => ?_)
      · replace h := ifT hc8 h
        refine gt rfl (a1 rfl ?_)
        obtain ⟨r_3, hr2, h⟩ := bnd h
        refine gt rfl (ac_lend (h2 := (upd (upd _ 0 none) 1 none)) (clerestory_jlex_reader_peek_ok hr2) rfl (.cons (.c (ref_ro rfl (gone rfl) (.cons (.same rfl) (.cons (.same rfl) (.cons (lstC_ro (es := List.map e_TJTok r2) rfl (List.length_map e_TJTok).symm (map_nil_of hzr2) (gone rfl) (fr_map fun _ => rfl)) .nil))) rfl)) (.cons (avAs_free rfl) .nil)) (hsub_none (hsub_none (hsub_refl _))) rfl rfl (.inr rfl) ?_)
        refine gt rfl (a1 (v := (B (decide (r_3 = 47)))) rfl ?_)
        refine un (a1 (v := (B (decide (r_3 = 47)))) rfl ?_)
        refine un (a1 rfl ?_)
        refine dnil ?_
        exact Sv.weak (weak_canon [0, 1] rfl (by decide) (by decide) (by decide) (.cons rfl (avAs_free rfl) (.cons rfl (.c (.ref rfl (by decide))) .nil)) (.row (by decide) rfl (fr_map fun _ => rfl) (.box (by decide) rfl (blkAs_cells (.cons (.same rfl) (.cons (.same rfl) (.cons (lstC_ren rfl (by decide)) .nil)))) .nil))) (clerestory_jlex_reader_skip1_j5_ok hzr2 h hself hK0 hr)
      · replace h := ifF hc8 h
        refine gs rfl rfl ?_
        refine gs rfl rfl ?_
        refine gs rfl rfl ?_
        refine un (a1 (v := (B false)) rfl ?_)
        refine un (a1 rfl ?_)
        refine dnil ?_
        exact Sv.weak (weak_canon [0, 1] rfl (by decide) (by decide) (by decide) (.cons rfl (avAs_free rfl) (.cons rfl (.c (.ref rfl (by decide))) .nil)) (.row (by decide) rfl (fr_map fun _ => rfl) (.box (by decide) rfl (blkAs_cells (.cons (.same rfl) (.cons (.same rfl) (.cons (lstC_ren rfl (by decide)) .nil)))) .nil))) (clerestory_jlex_reader_skip1_j5_ok hzr2 h hself hK0 hr)
  · replace h := ifF hc1 h
    refine Sv.exit ?_
    exact hK0 r1 r2 zr2 hzr2 h _ (weak_canon [0, 1] rfl (by decide) (by decide) (by decide) (.cons rfl (.c (.ref rfl (by decide))) .nil) (.row (by decide) rfl (fr_map fun _ => rfl) (.box (by decide) rfl (blkAs_cells (.cons (.same rfl) (.cons (.same rfl) (.cons (lstC_ren rfl (by decide)) .nil)))) .nil)))
/-- (*clerestory/jlex.reader).skip -/
noncomputable def clerestory_jlex_reader_skip1 (r_ : Treader) : Option Treader :=
  lim fun kk => clerestory_jlex_reader_skip1_l0 r_ (fun (r11 : Int) (r21 : (List TJTok)) => 
      some (⟨r_.f_s, r11, r21⟩ : Treader)) kk r_.f_at r_.f_out
theorem clerestory_jlex_reader_skip1_ok {mL : Int} {r_ : Treader} {zr : Bool} (hzr : zr = true → r_.f_out = []) {r : Treader} (h : clerestory_jlex_reader_skip1 r_ = some r) : ACalls Tryd.prog (GG mL) 48 [(.c (.ref 0 3 0 0))] (upd (upd (fun _ => none) 0 (some (.cells 3 [[.str r_.f_s, cI r_.f_at, lstC zr 1 5 r_.f_out.length]]))) 1 (lstB zr 5 (r_.f_out.map e_TJTok))) 2 (clerestory_jlex_reader_skip1_post r) := by
  refine acalls_of_sv hmix c48 (R := clerestory_jlex_reader_skip1_post r) ?_
  unfold clerestory_jlex_reader_skip1 at h
  refine Sv.block ?_
  obtain ⟨kk, h⟩ := lim_some h
  refine Sv.weak (weak_canon [0, 1] rfl (by decide) (by decide) (by decide) (.cons rfl (.c (.ref rfl (by decide))) .nil) (.row (by decide) rfl (fr_map fun _ => rfl) (.box (by decide) rfl (blkAs_cells (.cons (.same rfl) (.cons (.same rfl) (.cons (lstC_ren rfl (by decide)) .nil)))) .nil))) (clerestory_jlex_reader_skip1_l0_ok hzr h ?_ (fun s hs => hs))
  · intro r11 r21 zr21 hzr21 h _ hw1
    replace h := Option.some.inj h
    subst h
    exact ⟨_, hw1, _, rfl, ⟨upd (fun _ => none) 0 (some (.tup [])), (upd (upd (fun _ => none) 0 (some (.cells 3 [[.str r_.f_s, cI r11, lstC zr21 2 5 r21.length]]))) 2 (lstB zr21 5 (r21.map e_TJTok))), 3⟩, (.tup []), weak_canon2 [0, 1, 1] [0, 2] (by decide) (by decide) (by decide) (.cons (by decide) (.cons (by decide) .nil)) (.cons rfl (avAs_tup .nil) .nil) (.row (by decide) rfl (fr_map fun _ => rfl) (.box (by decide) rfl (blkAs_cells (.cons (.same rfl) (.cons (.same rfl) (.cons (lstC_ren rfl (by decide)) .nil)))) .nil)), rfl, zr21, hzr21, rfl, rfl, rfl⟩
def a101 : AFunc := ⟨1, [(.tmp 2)], (.seq (.region [⟨(some 2), (.mov (.const (.c (.val (.bool false))))), none⟩])
 (.seq (.region [⟨(some 3), (.mov (.tmp 0)), none⟩, ⟨(some 4), (.bin .geq (.tmp 3) (.const (.c (.val (.int .u8 97))))), none⟩, ⟨(some 5), (.mov (.tmp 4)), none⟩, ⟨(some 6), (.mov (.tmp 0)), (some (5, true))⟩, ⟨(some 7), (.bin .leq (.tmp 6) (.const (.c (.val (.int .u8 122))))), (some (5, true))⟩, ⟨(some 8), (.pick (.tmp 5) (.tmp 7) (.const (.c (.val (.bool false))))), none⟩, ⟨(some 9), (.mov (.tmp 8)), none⟩, ⟨(some 10), (.mov (.tmp 0)), (some (9, false))⟩, ⟨(some 11), (.bin .geq (.tmp 10) (.const (.c (.val (.int .u8 65))))), (some (9, false))⟩, ⟨(some 12), (.mov (.tmp 11)), (some (9, false))⟩, ⟨(some 13), (.mov (.tmp 0)), (some (12, true))⟩, ⟨(some 14), (.bin .leq (.tmp 13) (.const (.c (.val (.int .u8 90))))), (some (12, true))⟩, ⟨(some 15), (.pick (.tmp 12) (.tmp 14) (.const (.c (.val (.bool false))))), (some (9, false))⟩, ⟨(some 16), (.pick (.tmp 9) (.const (.c (.val (.bool true)))) (.tmp 15)), none⟩, ⟨(some 17), (.mov (.tmp 16)), none⟩, ⟨(some 18), (.mov (.tmp 0)), (some (17, false))⟩, ⟨(some 19), (.bin .eql (.tmp 18) (.const (.c (.val (.int .u8 95))))), (some (17, false))⟩, ⟨(some 20), (.pick (.tmp 17) (.const (.c (.val (.bool true)))) (.tmp 19)), none⟩, ⟨(some 2), (.mov (.tmp 20)), none⟩])
 .ret))⟩
set_option maxRecDepth 100000 in
theorem c101 : compFunc Tryd.prog 101 = some a101 := by kernel_rfl
def jlex_letter_post (r : Bool) : AV → Heap → Nat → Prop := fun v h' n' => v = (B r) ∧ (h' = (fun _ => none)) ∧ n' = 0
/-- clerestory/jlex.letter -/
def jlex_letter (c_ : Int) : Bool :=
  ((((decide (97 ≤ c_)) && (decide (c_ ≤ 122))) || ((decide (65 ≤ c_)) && (decide (c_ ≤ 90)))) || (decide (c_ = 95)))
theorem jlex_letter_ok {mL : Int} (c_ : Int) : CPure Tryd.prog (GG mL) 101 [(.c (.val (.int .u8 c_)))] (B (jlex_letter c_)) := by
  generalize h : jlex_letter c_ = o
  refine acalls_of_sv hmix c101 (R := jlex_letter_post o) ?_
  unfold jlex_letter at h
  refine Sv.seq ?_
  refine Sv.region ?_
  refine un (a1 rfl ?_)
  refine dnil ?_
  refine Sv.seq ?_
  refine Sv.region ?_
  refine un (a1 rfl ?_)
  refine un (a1 (v := (B (decide (97 ≤ c_)))) rfl ?_)
  refine un (a1 rfl ?_)
  refine gjoin 3 (d := 8) (v := (B ((decide (97 ≤ c_)) && (decide (c_ ≤ 122))))) (fun X hX => ?_) ?_
  · refine split2 (fun hc1 => ?_) (fun hc1 => ?_)
    · refine gt rfl (a1 rfl ?_)
      refine gt rfl (a1 (v := (B (decide (c_ ≤ 122)))) rfl ?_)
      refine un (a1 (v := (B (decide (c_ ≤ 122)))) rfl ?_)
      refine dnil ?_
      exact hX _ (.putEq (by rw [hc1]; rfl) (.skip _ _ (.skip _ _ (.putEq (by rw [hc1]) (.refl _)) rfl) rfl))
    · refine gs rfl rfl ?_
      refine gs rfl rfl ?_
      refine un (a1 (v := (B false)) rfl ?_)
      refine dnil ?_
      exact hX _ (.putEq (by rw [hc1]; rfl) (.skip _ _ (.skip _ _ (.putEq (by rw [hc1]) (.refl _)) rfl) rfl))
  refine un (a1 rfl ?_)
  refine gjoin 7 (d := 16) (v := (B (((decide (97 ≤ c_)) && (decide (c_ ≤ 122))) || ((decide (65 ≤ c_)) && (decide (c_ ≤ 90)))))) (fun X hX => ?_) ?_
  · refine split2 (fun hc3 => ?_) (fun hc3 => ?_)
    · refine gs rfl rfl ?_
      refine gs rfl rfl ?_
      refine gs rfl rfl ?_
      refine gu rfl ?_
      refine gu rfl ?_
      refine gs rfl rfl ?_
      refine un (a1 (v := (B true)) rfl ?_)
      refine dnil ?_
      exact hX _ (.putEq (by rw [hc3]; rfl) (.skip _ _ (.skip _ _ (.skip _ _ (.skip _ _ (.skip _ _ (.skip _ _ (.putEq (by rw [hc3]) (.refl _)) rfl) rfl) rfl) rfl) rfl) rfl))
    · refine gt rfl (a1 rfl ?_)
      refine gt rfl (a1 (v := (B (decide (65 ≤ c_)))) rfl ?_)
      refine gt rfl (a1 rfl ?_)
      refine gjoin 3 (d := 15) (v := (B ((decide (65 ≤ c_)) && (decide (c_ ≤ 90))))) (fun X hX => ?_) ?_
      · refine split2 (fun hc2 => ?_) (fun hc2 => ?_)
        · refine gt rfl (a1 rfl ?_)
          refine gt rfl (a1 (v := (B (decide (c_ ≤ 90)))) rfl ?_)
          refine gt rfl (a1 (v := (B (decide (c_ ≤ 90)))) rfl ?_)
          refine dnil ?_
          exact hX _ (.putEq (by rw [hc2]; rfl) (.skip _ _ (.skip _ _ (.putEq (by rw [hc2]) (.refl _)) rfl) rfl))
        · refine gs rfl rfl ?_
          refine gs rfl rfl ?_
          refine gt rfl (a1 (v := (B false)) rfl ?_)
          refine dnil ?_
          exact hX _ (.putEq (by rw [hc2]; rfl) (.skip _ _ (.skip _ _ (.putEq (by rw [hc2]) (.refl _)) rfl) rfl))
      refine un (a1 (v := (B ((decide (65 ≤ c_)) && (decide (c_ ≤ 90))))) rfl ?_)
      refine dnil ?_
      exact hX _ (.putEq (by rw [hc3]; rfl) (.skip _ _ (.skip _ _ (.skip _ _ (.skip _ _ (.putEq (by rw [hc3]) (.refl _)) rfl) rfl) rfl) rfl))
  refine un (a1 rfl ?_)
  refine gjoin 3 (d := 20) (v := (B ((((decide (97 ≤ c_)) && (decide (c_ ≤ 122))) || ((decide (65 ≤ c_)) && (decide (c_ ≤ 90)))) || (decide (c_ = 95))))) (fun X hX => ?_) ?_
  · refine split2 (fun hc4 => ?_) (fun hc4 => ?_)
    · refine gs rfl rfl ?_
      refine gs rfl rfl ?_
      refine un (a1 (v := (B true)) rfl ?_)
      refine dnil ?_
      exact hX _ (.putEq (by rw [hc4]; rfl) (.skip _ _ (.skip _ _ (.putEq (by rw [hc4]) (.refl _)) rfl) rfl))
    · refine gt rfl (a1 rfl ?_)
      refine gt rfl (a1 (v := (B (decide (c_ = 95)))) rfl ?_)
      refine un (a1 (v := (B (decide (c_ = 95)))) rfl ?_)
      refine dnil ?_
      exact hX _ (.putEq (by rw [hc4]; rfl) (.skip _ _ (.skip _ _ (.putEq (by rw [hc4]) (.refl _)) rfl) rfl))
  refine un (a1 rfl ?_)
  refine dnil ?_
  refine Sv.ret ?_
  subst h
  exact ⟨_, .refl _, _, rfl, ⟨upd (fun _ => none) 0 (some (B ((((decide (97 ≤ c_)) && (decide (c_ ≤ 122))) || ((decide (65 ≤ c_)) && (decide (c_ ≤ 90)))) || (decide (c_ = 95))))), (fun _ => none), 0⟩, (B ((((decide (97 ≤ c_)) && (decide (c_ ≤ 122))) || ((decide (65 ≤ c_)) && (decide (c_ ≤ 90)))) || (decide (c_ = 95)))), weak_canon [] rfl List.nodup_nil (Nat.le_refl _) (fun b h => absurd h (Nat.not_lt_zero _)) (.cons rfl (avAs_free rfl) .nil) .nil, rfl, rfl, rfl, rfl⟩
def a103 : AFunc := ⟨1, [(.tmp 2)], (.seq (.region [⟨(some 2), (.mov (.const (.c (.val (.bool false))))), none⟩])
 (.seq (.region [⟨(some 3), (.mov (.tmp 0)), none⟩, ⟨(some 4), (.bin .geq (.tmp 3) (.const (.c (.val (.int .u8 48))))), none⟩, ⟨(some 5), (.mov (.tmp 4)), none⟩, ⟨(some 6), (.mov (.tmp 0)), (some (5, true))⟩, ⟨(some 7), (.bin .leq (.tmp 6) (.const (.c (.val (.int .u8 57))))), (some (5, true))⟩, ⟨(some 8), (.pick (.tmp 5) (.tmp 7) (.const (.c (.val (.bool false))))), none⟩, ⟨(some 2), (.mov (.tmp 8)), none⟩])
 .ret))⟩
set_option maxRecDepth 100000 in
theorem c103 : compFunc Tryd.prog 103 = some a103 := by kernel_rfl
def jlex_digit_post (r : Bool) : AV → Heap → Nat → Prop := fun v h' n' => v = (B r) ∧ (h' = (fun _ => none)) ∧ n' = 0
/-- clerestory/jlex.digit -/
def jlex_digit (c_ : Int) : Bool :=
  ((decide (48 ≤ c_)) && (decide (c_ ≤ 57)))
theorem jlex_digit_ok {mL : Int} (c_ : Int) : CPure Tryd.prog (GG mL) 103 [(.c (.val (.int .u8 c_)))] (B (jlex_digit c_)) := by
  generalize h : jlex_digit c_ = o
  refine acalls_of_sv hmix c103 (R := jlex_digit_post o) ?_
  unfold jlex_digit at h
  refine Sv.seq ?_
  refine Sv.region ?_
  refine un (a1 rfl ?_)
  refine dnil ?_
  refine Sv.seq ?_
  refine Sv.region ?_
  refine un (a1 rfl ?_)
  refine un (a1 (v := (B (decide (48 ≤ c_)))) rfl ?_)
  refine un (a1 rfl ?_)
  refine gjoin 3 (d := 8) (v := (B ((decide (48 ≤ c_)) && (decide (c_ ≤ 57))))) (fun X hX => ?_) ?_
  · refine split2 (fun hc1 => ?_) (fun hc1 => ?_)
    · refine gt rfl (a1 rfl ?_)
      refine gt rfl (a1 (v := (B (decide (c_ ≤ 57)))) rfl ?_)
      refine un (a1 (v := (B (decide (c_ ≤ 57)))) rfl ?_)
      refine dnil ?_
      exact hX _ (.putEq (by rw [hc1]; rfl) (.skip _ _ (.skip _ _ (.putEq (by rw [hc1]) (.refl _)) rfl) rfl))
    · refine gs rfl rfl ?_
      refine gs rfl rfl ?_
      refine un (a1 (v := (B false)) rfl ?_)
      refine dnil ?_
      exact hX _ (.putEq (by rw [hc1]; rfl) (.skip _ _ (.skip _ _ (.putEq (by rw [hc1]) (.refl _)) rfl) rfl))
  refine un (a1 rfl ?_)
  refine dnil ?_
  refine Sv.ret ?_
  subst h
  exact ⟨_, .refl _, _, rfl, ⟨upd (fun _ => none) 0 (some (B ((decide (48 ≤ c_)) && (decide (c_ ≤ 57))))), (fun _ => none), 0⟩, (B ((decide (48 ≤ c_)) && (decide (c_ ≤ 57)))), weak_canon [] rfl List.nodup_nil (Nat.le_refl _) (fun b h => absurd h (Nat.not_lt_zero _)) (.cons rfl (avAs_free rfl) .nil) .nil, rfl, rfl, rfl, rfl⟩
def a138 : AFunc := ⟨1, [(.tmp 2)], (.seq (.region [⟨(some 2), (.mov (.const (.c (.val (.bool false))))), none⟩])
 (.seq (.region [⟨(some 3), (.mov (.tmp 0)), none⟩, ⟨(some 4), (.call 101 [(.tmp 3)]), none⟩, ⟨(some 5), (.mov (.tmp 4)), none⟩, ⟨(some 6), (.mov (.tmp 0)), (some (5, false))⟩, ⟨(some 7), (.call 103 [(.tmp 6)]), (some (5, false))⟩, ⟨(some 8), (.pick (.tmp 5) (.const (.c (.val (.bool true)))) (.tmp 7)), none⟩, ⟨(some 2), (.mov (.tmp 8)), none⟩])
 .ret))⟩
set_option maxRecDepth 100000 in
theorem c138 : compFunc Tryd.prog 138 = some a138 := by kernel_rfl
def clerestory_jlex_reader_name_fn1_post (r : Bool) : AV → Heap → Nat → Prop := fun v h' n' => v = (B r) ∧ (h' = (fun _ => none)) ∧ n' = 0
/-- (*clerestory/jlex.reader).name$1 -/
def clerestory_jlex_reader_name_fn1 (c_ : Int) : Bool :=
  ((jlex_letter c_) || (jlex_digit c_))
theorem clerestory_jlex_reader_name_fn1_ok {mL : Int} (c_ : Int) : CPure Tryd.prog (GG mL) 138 [(.c (.val (.int .u8 c_)))] (B (clerestory_jlex_reader_name_fn1 c_)) := by
  generalize h : clerestory_jlex_reader_name_fn1 c_ = o
  refine acalls_of_sv hmix c138 (R := clerestory_jlex_reader_name_fn1_post o) ?_
  unfold clerestory_jlex_reader_name_fn1 at h
  refine Sv.seq ?_
  refine Sv.region ?_
  refine un (a1 rfl ?_)
  refine dnil ?_
  refine Sv.seq ?_
  refine Sv.region ?_
  refine un (a1 rfl ?_)
  refine un (ac_pure (jlex_letter_ok (mL := mL) c_) rfl rfl rfl ?_)
  refine un (a1 rfl ?_)
  refine gjoin 3 (d := 8) (v := (B ((jlex_letter c_) || (jlex_digit c_)))) (fun X hX => ?_) ?_
  · refine split2 (fun hc1 => ?_) (fun hc1 => ?_)
    · refine gs rfl rfl ?_
      refine gs rfl rfl ?_
      refine un (a1 (v := (B true)) rfl ?_)
      refine dnil ?_
      exact hX _ (.putEq (by rw [hc1]; rfl) (.skip _ _ (.skip _ _ (.putEq (by rw [hc1]) (.refl _)) rfl) rfl))
    · refine gt rfl (a1 rfl ?_)
      refine gt rfl (ac_pure (jlex_digit_ok (mL := mL) c_) rfl rfl rfl ?_)
      refine un (a1 (v := (B (jlex_digit c_))) rfl ?_)
      refine dnil ?_
      exact hX _ (.putEq (by rw [hc1]; rfl) (.skip _ _ (.skip _ _ (.putEq (by rw [hc1]) (.refl _)) rfl) rfl))
  refine un (a1 rfl ?_)
  refine dnil ?_
  refine Sv.ret ?_
  subst h
  exact ⟨_, .refl _, _, rfl, ⟨upd (fun _ => none) 0 (some (B ((jlex_letter c_) || (jlex_digit c_)))), (fun _ => none), 0⟩, (B ((jlex_letter c_) || (jlex_digit c_))), weak_canon [] rfl List.nodup_nil (Nat.le_refl _) (fun b h => absurd h (Nat.not_lt_zero _)) (.cons rfl (avAs_free rfl) .nil) .nil, rfl, rfl, rfl, rfl⟩
def a137_c0 : ACode := (.cond (.tmp 32) .skip (.exit 0))
def a137_c1 : ACode := (.block 1 (.region [⟨(some 33), (.mov (.tmp 0)), none⟩, ⟨(some 34), (.nilc (.tmp 33)), none⟩, ⟨(some 35), (.faddr 1 (.tmp 34)), none⟩, ⟨(some 36), (.load false 1 (.tmp 35)), none⟩, ⟨(some 37), (.bin .add (.tmp 36) (.const (.c (.val (.int .i64 1))))), none⟩, ⟨(some 38), (.nilc (.tmp 33)), none⟩, ⟨(some 39), (.faddr 1 (.tmp 38)), none⟩, ⟨none, (.store 1 (.tmp 39) (.tmp 37)), none⟩]))
def a137_c2 : ACode := (.seq (.seq (.drawn (.fin [(⟨(some 10), (.mov (.tmp 0)), none⟩, (0, 0)), (⟨(some 11), (.nilc (.tmp 10)), none⟩, (0, 1)), (⟨(some 12), (.faddr 1 (.tmp 11)), none⟩, (0, 2)), (⟨(some 13), (.load false 1 (.tmp 12)), none⟩, (0, 3)), (⟨(some 14), (.mov (.tmp 0)), none⟩, (0, 4)), (⟨(some 15), (.nilc (.tmp 14)), none⟩, (0, 5)), (⟨(some 16), (.faddr 0 (.tmp 15)), none⟩, (0, 6)), (⟨(some 17), (.load false 1 (.tmp 16)), none⟩, (0, 7)), (⟨(some 18), (.lenS (.tmp 17)), none⟩, (0, 8)), (⟨(some 19), (.bin .lss (.tmp 13) (.tmp 18)), none⟩, (0, 9)), (⟨(some 20), (.mov (.tmp 19)), none⟩, (0, 10)), (⟨(some 21), (.mov (.tmp 1)), (some (20, true))⟩, (0, 11)), (⟨(some 22), (.mov (.tmp 0)), (some (20, true))⟩, (0, 12)), (⟨(some 23), (.nilc (.tmp 22)), (some (20, true))⟩, (0, 13)), (⟨(some 24), (.faddr 0 (.tmp 23)), (some (20, true))⟩, (0, 14)), (⟨(some 25), (.load false 1 (.tmp 24)), (some (20, true))⟩, (0, 15)), (⟨(some 26), (.mov (.tmp 0)), (some (20, true))⟩, (0, 16)), (⟨(some 27), (.nilc (.tmp 26)), (some (20, true))⟩, (0, 17)), (⟨(some 28), (.faddr 1 (.tmp 27)), (some (20, true))⟩, (0, 18)), (⟨(some 29), (.load false 1 (.tmp 28)), (some (20, true))⟩, (0, 19)), (⟨(some 30), (.idxS (.tmp 25) (.tmp 29)), (some (20, true))⟩, (0, 20)), (⟨(some 31), (.callv (.tmp 21) [(.tmp 30)]), (some (20, true))⟩, (2, 21)), (⟨(some 32), (.pick (.tmp 20) (.tmp 31) (.const (.c (.val (.bool false))))), none⟩, (0, 22))]))
 a137_c0)
 a137_c1)
def a137 : AFunc := ⟨2, [(.tmp 4)], (.seq (.region [⟨(some 4), (.mov (.const (.c (.str [])))), none⟩])
 (.seq (.region [⟨(some 6), (.mov (.tmp 0)), none⟩, ⟨(some 7), (.nilc (.tmp 6)), none⟩, ⟨(some 8), (.faddr 1 (.tmp 7)), none⟩, ⟨(some 9), (.load false 1 (.tmp 8)), none⟩, ⟨(some 5), (.mov (.tmp 9)), none⟩])
 (.seq (.block 0 (.loop a137_c2))
 (.seq (.drawn (.fin [(⟨(some 40), (.mov (.tmp 0)), none⟩, (0, 0)), (⟨(some 41), (.nilc (.tmp 40)), none⟩, (0, 1)), (⟨(some 42), (.faddr 0 (.tmp 41)), none⟩, (0, 2)), (⟨(some 43), (.load false 1 (.tmp 42)), none⟩, (0, 3)), (⟨(some 44), (.mov (.tmp 5)), none⟩, (0, 4)), (⟨(some 45), (.mov (.tmp 0)), none⟩, (0, 5)), (⟨(some 46), (.nilc (.tmp 45)), none⟩, (0, 6)), (⟨(some 47), (.faddr 1 (.tmp 46)), none⟩, (0, 7)), (⟨(some 48), (.load false 1 (.tmp 47)), none⟩, (0, 8)), (⟨(some 49), (.slStr (.tmp 43) (some (.tmp 44)) (some (.tmp 48))), none⟩, (0, 9)), (⟨(some 4), (.mov (.tmp 49)), none⟩, (0, 10))]))
 .ret))))⟩
set_option maxRecDepth 100000 in
theorem c137 : compFunc Tryd.prog 137 = some a137 := by kernel_rfl
def clerestory_jlex_reader_run_post (r : ((List UInt8) × Treader)) : AV → Heap → Nat → Prop := fun v h' n' => v = (S r.1) ∧ (h' = (upd (fun _ => none) 0 (some (.cells 3 [[.str r.2.f_s, cI r.2.f_at, .ro false 5 (r.2.f_out.map e_TJTok)]])))) ∧ n' = 1
abbrev clerestory_jlex_reader_run_q0 (mL : Int) (Q : AExit → St → Prop) : AExit → St → Prop := AThen (Sv Tryd.prog (GG mL) 1 a137_c1 Q) Q
noncomputable def clerestory_jlex_reader_run_j3 (r1 : Int) (r_ : Treader) (self : Int → Option ((List UInt8) × Treader)) (K0_ : Int → Option ((List UInt8) × Treader)) (v32 : Bool) : Option ((List UInt8) × Treader) :=
  if v32 then
    self (wi (r1 + 1))
  else
    K0_ r1
theorem clerestory_jlex_reader_run_j3_ok {mL : Int} {Q : AExit → St → Prop} {r1 : Int} {r_ : Treader} {self : Int → Option ((List UInt8) × Treader)} {K0_ : Int → Option ((List UInt8) × Treader)} {v32 : Bool} {o : ((List UInt8) × Treader)} (h : clerestory_jlex_reader_run_j3 r1 r_ self K0_ v32 = some o)
    (hself : ∀ (r1 : Int), self r1 = some o → ∀ s, Weak 1 s ⟨(upd (upd (upd (fun _ => none) 0 (some (.c (.ref 0 3 0 0)))) 1 (some (.c (.fn (.func 138) [] [])))) 5 (some (I r_.f_at))), (upd (fun _ => none) 0 (some (.cells 3 [[.str r_.f_s, cI r1, .ro false 5 (r_.f_out.map e_TJTok)]]))), 1⟩ → (Q) .normal s)
    (hK0 : ∀ (r11 : Int), K0_ r11 = some o → ∀ s, Weak 1 s ⟨(upd (upd (fun _ => none) 0 (some (.c (.ref 0 3 0 0)))) 5 (some (I r_.f_at))), (upd (fun _ => none) 0 (some (.cells 3 [[.str r_.f_s, cI r11, .ro false 5 (r_.f_out.map e_TJTok)]]))), 1⟩ → Q (.exit 0) s)
    (hr : ∀ s, Ends a137.results 1 (clerestory_jlex_reader_run_post o) .ret s → Q .ret s) :
    Sv Tryd.prog (GG mL) 1 a137_c0 (clerestory_jlex_reader_run_q0 mL Q) ⟨(upd (upd (upd (upd (fun _ => none) 0 (some (.c (.ref 0 3 0 0)))) 1 (some (.c (.fn (.func 138) [] [])))) 5 (some (I r_.f_at))) 32 (some (B v32))), (upd (fun _ => none) 0 (some (.cells 3 [[.str r_.f_s, cI r1, .ro false 5 (r_.f_out.map e_TJTok)]]))), 1⟩ := by
  unfold clerestory_jlex_reader_run_j3 at h
  refine Sv.cond (b := v32) rfl (fun hc1 => ?_) (fun hc1 => ?_)
  · replace h := ifT hc1 h
    refine Sv.skip ?_
    refine Sv.block ?_
    refine Sv.region ?_
    refine un (a1 rfl ?_)
    refine un (a1 (v := (.c (.ref 0 3 0 0))) rfl ?_)
    refine un (a1 (v := (.c (.ref 0 3 0 1))) rfl ?_)
    refine un (a1 (v := (I r1)) rfl ?_)
    refine un (a1 (v := (I (wi (r1 + 1)))) rfl ?_)
    refine un (a1 (v := (.c (.ref 0 3 0 0))) rfl ?_)
    refine un (a1 (v := (.c (.ref 0 3 0 1))) rfl ?_)
    refine un (a2n (h' := upd _ 0 (some (.cells 3 [[.str r_.f_s, cI (wi (r1 + 1)), .ro false 5 (r_.f_out.map e_TJTok)]]))) (n' := 1) rfl rfl (fun h => by cases h) ?_)
    refine dnil ?_
    exact hself (wi (r1 + 1)) h _ (weak_canon [0] rfl (by decide) (by decide) (by decide) (.cons rfl (avAs_free rfl) (.cons rfl (avAs_free rfl) (.cons rfl (.c (.ref rfl (by decide))) .nil))) (.box (by decide) rfl (blkAs_cells (.cons (.same rfl) (.cons (.same rfl) (.cons (.same rfl) .nil)))) .nil))
  · replace h := ifF hc1 h
    refine Sv.exit ?_
    exact hK0 r1 h _ (weak_canon [0] rfl (by decide) (by decide) (by decide) (.cons rfl (avAs_free rfl) (.cons rfl (.c (.ref rfl (by decide))) .nil)) (.box (by decide) rfl (blkAs_cells (.cons (.same rfl) (.cons (.same rfl) (.cons (.same rfl) .nil)))) .nil))
noncomputable def clerestory_jlex_reader_run_l0 (r_ : Treader) (K0_ : Int → Option ((List UInt8) × Treader)) : Nat → Int → Option ((List UInt8) × Treader)
  | 0, _ => none
  | k + 1, r1 =>
    if decide (r1 < (r_.f_s.length : Int)) then
      (at? r_.f_s r1).bind fun c_ =>
      clerestory_jlex_reader_run_j3 r1 r_ (clerestory_jlex_reader_run_l0 r_ K0_ k) K0_ (clerestory_jlex_reader_name_fn1 (c_.toNat : Int))
    else
      clerestory_jlex_reader_run_j3 r1 r_ (clerestory_jlex_reader_run_l0 r_ K0_ k) K0_ false
theorem clerestory_jlex_reader_run_l0_ok {mL : Int} {Q : AExit → St → Prop} {r_ : Treader} {K0_ : Int → Option ((List UInt8) × Treader)} {k : Nat} {r1 : Int} {o : ((List UInt8) × Treader)} (h : clerestory_jlex_reader_run_l0 r_ K0_ k r1 = some o)
    (hK0 : ∀ (r11 : Int), K0_ r11 = some o → ∀ s, Weak 1 s ⟨(upd (upd (fun _ => none) 0 (some (.c (.ref 0 3 0 0)))) 5 (some (I r_.f_at))), (upd (fun _ => none) 0 (some (.cells 3 [[.str r_.f_s, cI r11, .ro false 5 (r_.f_out.map e_TJTok)]]))), 1⟩ → Q (.exit 0) s)
    (hr : ∀ s, Ends a137.results 1 (clerestory_jlex_reader_run_post o) .ret s → Q .ret s) :
    Sv Tryd.prog (GG mL) 1 (.loop a137_c2) Q ⟨(upd (upd (upd (fun _ => none) 0 (some (.c (.ref 0 3 0 0)))) 1 (some (.c (.fn (.func 138) [] [])))) 5 (some (I r_.f_at))), (upd (fun _ => none) 0 (some (.cells 3 [[.str r_.f_s, cI r1, .ro false 5 (r_.f_out.map e_TJTok)]]))), 1⟩ := by
  refine Sv.loop (I := fun k s => ∃ (r1 : Int), clerestory_jlex_reader_run_l0 r_ K0_ k r1 = some o ∧ s = ⟨(upd (upd (upd (fun _ => none) 0 (some (.c (.ref 0 3 0 0)))) 1 (some (.c (.fn (.func 138) [] [])))) 5 (some (I r_.f_at))), (upd (fun _ => none) 0 (some (.cells 3 [[.str r_.f_s, cI r1, .ro false 5 (r_.f_out.map e_TJTok)]]))), 1⟩) (fun k s hI => ?_) ⟨r1, h, rfl⟩
  clear h
  clear r1
  obtain ⟨r1, h, rfl⟩ := hI
  cases k with
  | zero => cases h
  | succ k =>
  rw [clerestory_jlex_reader_run_l0] at h
  have hself : ∀ (r1 : Int), (clerestory_jlex_reader_run_l0 r_ K0_ k) r1 = some o → ∀ s, Weak 1 s ⟨(upd (upd (upd (fun _ => none) 0 (some (.c (.ref 0 3 0 0)))) 1 (some (.c (.fn (.func 138) [] [])))) 5 (some (I r_.f_at))), (upd (fun _ => none) 0 (some (.cells 3 [[.str r_.f_s, cI r1, .ro false 5 (r_.f_out.map e_TJTok)]]))), 1⟩ → (AThen (fun s' => ∃ s'' k', Weak 1 s' s'' ∧ k' < k + 1 ∧ (fun k s => ∃ (r1 : Int), clerestory_jlex_reader_run_l0 r_ K0_ k r1 = some o ∧ s = ⟨(upd (upd (upd (fun _ => none) 0 (some (.c (.ref 0 3 0 0)))) 1 (some (.c (.fn (.func 138) [] [])))) 5 (some (I r_.f_at))), (upd (fun _ => none) 0 (some (.cells 3 [[.str r_.f_s, cI r1, .ro false 5 (r_.f_out.map e_TJTok)]]))), 1⟩) k' s'') Q) .normal s := fun r1 h s hw => ⟨_, k, hw, Nat.lt_succ_self k, r1, h, rfl⟩
  refine Sv.seq ?_
  refine Sv.seq ?_
  refine Sv.drawn ?_
  refine un (a1 rfl ?_)
  refine un (a1 (v := (.c (.ref 0 3 0 0))) rfl ?_)
  refine un (a1 (v := (.c (.ref 0 3 0 1))) rfl ?_)
  refine un (a1 (v := (I r1)) rfl ?_)
  refine un (a1 rfl ?_)
  refine un (a1 (v := (.c (.ref 0 3 0 0))) rfl ?_)
  refine un (a1 (v := (.c (.ref 0 3 0 0))) rfl ?_)
  refine un (a1 (v := (S r_.f_s)) rfl ?_)
  refine un (a1 (v := (I (r_.f_s.length : Int))) rfl ?_)
  refine un (a1 (v := (B (decide (r1 < (r_.f_s.length : Int))))) rfl ?_)
  refine un (a1 rfl ?_)
  refine split2 (fun hc2 => ?_) (fun hc2 => ?_)
  · replace h := ifT hc2 h
    refine gt rfl (a1 rfl ?_)
    refine gt rfl (a1 rfl ?_)
    refine gt rfl (a1 (v := (.c (.ref 0 3 0 0))) rfl ?_)
    refine gt rfl (a1 (v := (.c (.ref 0 3 0 0))) rfl ?_)
    refine gt rfl (a1 (v := (S r_.f_s)) rfl ?_)
    refine gt rfl (a1 rfl ?_)
    refine gt rfl (a1 (v := (.c (.ref 0 3 0 0))) rfl ?_)
    refine gt rfl (a1 (v := (.c (.ref 0 3 0 1))) rfl ?_)
    refine gt rfl (a1 (v := (I r1)) rfl ?_)
    obtain ⟨c_, hx1, h⟩ := bnd h
    refine gt rfl (a1 (v := (.c (.val (.int .u8 (c_.toNat : Int))))) (s_idxS rfl rfl hx1) ?_)
    refine gt rfl (acv_gen (bs := []) («as» := [(.c (.val (.int .u8 (c_.toNat : Int))))]) (h2 := _) (h1 := (fun _ => none)) rfl (by kernel_rfl) (clerestory_jlex_reader_name_fn1_ok (mL := mL) (c_.toNat : Int)) rfl (.cons (avAs_free rfl) .nil) (hsub_refl _) (.nil _) (fun _ => rfl) (by decide) (by decide) (.cons (avAs_free rfl) .nil) .nil ?_)
    rintro _ _ _ hn ⟨rfl, rfl, rfl⟩
    refine ⟨.inl rfl, (rem [] _), fun hbd => (m3_rem (in_nil _) (.nil) hbd), (B (clerestory_jlex_reader_name_fn1 (c_.toNat : Int))), 1, rfl, rfl, ?_⟩
    refine un (a1 (v := (B (clerestory_jlex_reader_name_fn1 (c_.toNat : Int)))) rfl ?_)
    refine dnil ?_
    exact Sv.weak (weak_canon [0] rfl (by decide) (by decide) (by decide) (.cons rfl (avAs_free rfl) (.cons rfl (avAs_free rfl) (.cons rfl (avAs_free rfl) (.cons rfl (.c (.ref rfl (by decide))) .nil)))) (.box (by decide) rfl (blkAs_cells (.cons (.same rfl) (.cons (.same rfl) (.cons (.same rfl) .nil)))) .nil)) (clerestory_jlex_reader_run_j3_ok h hself hK0 hr)
  · replace h := ifF hc2 h
    refine gs rfl rfl ?_
    refine gs rfl rfl ?_
    refine gs rfl rfl ?_
    refine gs rfl rfl ?_
    refine gs rfl rfl ?_
    refine gs rfl rfl ?_
    refine gs rfl rfl ?_
    refine gs rfl rfl ?_
    refine gs rfl rfl ?_
    refine gs rfl rfl ?_
    refine gs rfl rfl ?_
    refine un (a1 (v := (B false)) rfl ?_)
    refine dnil ?_
    exact Sv.weak (weak_canon [0] rfl (by decide) (by decide) (by decide) (.cons rfl (avAs_free rfl) (.cons rfl (avAs_free rfl) (.cons rfl (avAs_free rfl) (.cons rfl (.c (.ref rfl (by decide))) .nil)))) (.box (by decide) rfl (blkAs_cells (.cons (.same rfl) (.cons (.same rfl) (.cons (.same rfl) .nil)))) .nil)) (clerestory_jlex_reader_run_j3_ok h hself hK0 hr)
/-- (*clerestory/jlex.reader).run -/
noncomputable def clerestory_jlex_reader_run (r_ : Treader) : Option ((List UInt8) × Treader) :=
  lim fun kk => clerestory_jlex_reader_run_l0 r_ (fun (r11 : Int) => 
      (sub? r_.f_s r_.f_at r11).bind fun r_1 =>
      some (r_1, (⟨r_.f_s, r11, r_.f_out⟩ : Treader))) kk r_.f_at
theorem clerestory_jlex_reader_run_ok {mL : Int} {r_ : Treader} {r : ((List UInt8) × Treader)} (h : clerestory_jlex_reader_run r_ = some r) : ACalls Tryd.prog (GG mL) 137 [(.c (.ref 0 3 0 0)), (.c (.fn (.func 138) [] []))] (upd (fun _ => none) 0 (some (.cells 3 [[.str r_.f_s, cI r_.f_at, .ro false 5 (r_.f_out.map e_TJTok)]]))) 1 (clerestory_jlex_reader_run_post r) := by
  refine acalls_of_sv hmix c137 (R := clerestory_jlex_reader_run_post r) ?_
  unfold clerestory_jlex_reader_run at h
  refine Sv.seq ?_
  refine Sv.region ?_
  refine un (a1 rfl ?_)
  refine dnil ?_
  refine Sv.seq ?_
  refine Sv.region ?_
  refine un (a1 rfl ?_)
  refine un (a1 (v := (.c (.ref 0 3 0 0))) rfl ?_)
  refine un (a1 (v := (.c (.ref 0 3 0 1))) rfl ?_)
  refine un (a1 (v := (I r_.f_at)) rfl ?_)
  refine un (a1 rfl ?_)
  refine dnil ?_
  refine Sv.seq ?_
  refine Sv.block ?_
  obtain ⟨kk, h⟩ := lim_some h
  refine Sv.weak (weak_canon [0] rfl (by decide) (by decide) (by decide) (.cons rfl (avAs_free rfl) (.cons rfl (avAs_free rfl) (.cons rfl (.c (.ref rfl (by decide))) .nil))) (.box (by decide) rfl (blkAs_cells (.cons (.same rfl) (.cons (.same rfl) (.cons (.same rfl) .nil)))) .nil)) (clerestory_jlex_reader_run_l0_ok h ?_ (fun s hs => hs))
  · intro r11 h _ hw1
    refine Sv.weak hw1 ?_
    refine Sv.seq ?_
    refine Sv.drawn ?_
    refine un (a1 rfl ?_)
    refine un (a1 (v := (.c (.ref 0 3 0 0))) rfl ?_)
    refine un (a1 (v := (.c (.ref 0 3 0 0))) rfl ?_)
    refine un (a1 (v := (S r_.f_s)) rfl ?_)
    refine un (a1 rfl ?_)
    refine un (a1 rfl ?_)
    refine un (a1 (v := (.c (.ref 0 3 0 0))) rfl ?_)
    refine un (a1 (v := (.c (.ref 0 3 0 1))) rfl ?_)
    refine un (a1 (v := (I r11)) rfl ?_)
    obtain ⟨r_1, hx2, h⟩ := bnd h
    refine un (a1 (v := (S r_1)) (s_slStr rfl rfl rfl hx2) ?_)
    refine un (a1 rfl ?_)
    refine dnil ?_
    refine Sv.ret ?_
    replace h := Option.some.inj h
    subst h
    exact ⟨_, .refl _, _, rfl, ⟨upd (fun _ => none) 0 (some (S r_1)), (upd (fun _ => none) 0 (some (.cells 3 [[.str r_.f_s, cI r11, .ro false 5 (r_.f_out.map e_TJTok)]]))), 1⟩, (S r_1), weak_canon2 [0] [0] (by decide) (by decide) (by decide) (.cons (by decide) .nil) (.cons rfl (avAs_free rfl) .nil) (.box (by decide) rfl (blkAs_cells (.cons (.same rfl) (.cons (.same rfl) (.cons (.same rfl) .nil)))) .nil), rfl, rfl, rfl, rfl⟩
noncomputable abbrev strings_Fields (s_ : (List UInt8)) : Option (List (List UInt8)) := fields? s_
/-- strings.Fields, by the contract of the shelf -/
theorem strings_Fields_ok {mL : Int} {s_ : (List UInt8)} {r : (List (List UInt8))} (h : strings_Fields s_ = some r) : ACalls Tryd.prog (GG mL) 139 [(S s_)] (fun _ => none) 0 (fun v h' n' => ∃ z : Bool, (z = true → r = []) ∧ v = lstV z 0 1 r.length ∧ (h' = (upd (fun _ => none) 0 (lstB z 1 (r.map eStr)))) ∧ n' = 1) := fields_ok Tryd.lays157 (by kernel_rfl) (by kernel_rfl) (by kernel_rfl) h
def a142_c0 : ACode := (.seq (.region [⟨(some 9), (.bin .lss (.tmp 8) (.tmp 7)), none⟩])
 (.seq (.cond (.tmp 9) .skip (.exit 0))
 (.seq (.block 1 (.seq (.region [⟨(some 10), (.mov (.tmp 8)), none⟩, ⟨(some 5), (.mov (.tmp 10)), none⟩])
 (.seq (.region [⟨(some 11), (.mov (.tmp 1)), none⟩, ⟨(some 12), (.mov (.tmp 0)), none⟩, ⟨(some 13), (.mov (.tmp 5)), none⟩, ⟨(some 14), (.iaddr 1 (.tmp 12) (.tmp 13)), none⟩, ⟨(some 15), (.load false 1 (.tmp 14)), none⟩, ⟨(some 16), (.bin .eql (.tmp 11) (.tmp 15)), none⟩])
 (.cond (.tmp 16) (.seq (.region [⟨(some 17), (.mov (.tmp 5)), none⟩, ⟨(some 4), (.mov (.tmp 17)), none⟩])
 .ret) .skip))))
 (.region [⟨(some 18), (.bin .add (.tmp 8) (.const (.c (.val (.int .i64 1))))), none⟩, ⟨(some 8), (.mov (.tmp 18)), none⟩]))))
def a142 : AFunc := ⟨2, [(.tmp 4)], (.seq (.region [⟨(some 4), (.mov (.const (.c (.val (.int .i64 0))))), none⟩])
 (.seq (.seq (.region [⟨(some 6), (.mov (.tmp 0)), none⟩, ⟨(some 7), (.len (.tmp 6)), none⟩, ⟨(some 8), (.mov (.const (.c (.val (.int .i64 0))))), none⟩])
 (.block 0 (.loop a142_c0)))
 (.seq (.region [⟨(some 4), (.mov (.const (.c (.val (.int .i64 (-1)))))), none⟩])
 .ret)))⟩
set_option maxRecDepth 100000 in
theorem c142 : compFunc Tryd.prog 142 = some a142 := by kernel_rfl
def slices_Index_string_post (r : Int) : AV → Heap → Nat → Prop := fun v h' n' => v = (I r) ∧ (h' = (fun _ => none)) ∧ n' = 0
noncomputable def slices_Index_string_l0 (s_ : (List (List UInt8))) (v_ : (List UInt8)) (K0_ : Unit → Option Int) : Nat → Int → Option Int
  | 0, _ => none
  | k + 1, v8 =>
    if decide (v8 < (s_.length : Int)) then
      (at? s_ v8).bind fun x_ =>
      if decide (v_ = x_) then
        some v8
      else
        (slices_Index_string_l0 s_ v_ K0_ k) (wi (v8 + 1))
    else
      K0_ ()
theorem slices_Index_string_l0_ok {mL : Int} {Q : AExit → St → Prop} {s_ : (List (List UInt8))} {v_ : (List UInt8)} {K0_ : Unit → Option Int} {k : Nat} {v8 : Int} {o : Int} (h : slices_Index_string_l0 s_ v_ K0_ k v8 = some o)
    (hK0 : ∀ (_ : Unit), K0_ () = some o → ∀ s, Weak 0 s ⟨(fun _ => none), (fun _ => none), 0⟩ → Q (.exit 0) s)
    (hr : ∀ s, Ends a142.results 0 (slices_Index_string_post o) .ret s → Q .ret s) :
    Sv Tryd.prog (GG mL) 0 (.loop a142_c0) Q ⟨(upd (upd (upd (upd (fun _ => none) 0 (some (.c (.ro false 1 (s_.map eStr))))) 1 (some (S v_))) 7 (some (I (s_.length : Int)))) 8 (some (I v8))), (fun _ => none), 0⟩ := by
  refine Sv.loop (I := fun k s => ∃ (v8 : Int), slices_Index_string_l0 s_ v_ K0_ k v8 = some o ∧ s = ⟨(upd (upd (upd (upd (fun _ => none) 0 (some (.c (.ro false 1 (s_.map eStr))))) 1 (some (S v_))) 7 (some (I (s_.length : Int)))) 8 (some (I v8))), (fun _ => none), 0⟩) (fun k s hI => ?_) ⟨v8, h, rfl⟩
  clear h
  clear v8
  obtain ⟨v8, h, rfl⟩ := hI
  cases k with
  | zero => cases h
  | succ k =>
  rw [slices_Index_string_l0] at h
  have hself : ∀ (v8 : Int), (slices_Index_string_l0 s_ v_ K0_ k) v8 = some o → ∀ s, Weak 0 s ⟨(upd (upd (upd (upd (fun _ => none) 0 (some (.c (.ro false 1 (s_.map eStr))))) 1 (some (S v_))) 7 (some (I (s_.length : Int)))) 8 (some (I v8))), (fun _ => none), 0⟩ → (AThen (fun s' => ∃ s'' k', Weak 0 s' s'' ∧ k' < k + 1 ∧ (fun k s => ∃ (v8 : Int), slices_Index_string_l0 s_ v_ K0_ k v8 = some o ∧ s = ⟨(upd (upd (upd (upd (fun _ => none) 0 (some (.c (.ro false 1 (s_.map eStr))))) 1 (some (S v_))) 7 (some (I (s_.length : Int)))) 8 (some (I v8))), (fun _ => none), 0⟩) k' s'') Q) .normal s := fun v8 h s hw => ⟨_, k, hw, Nat.lt_succ_self k, v8, h, rfl⟩
  refine Sv.seq ?_
  refine Sv.region ?_
  refine un (a1 (v := (B (decide (v8 < (s_.length : Int))))) rfl ?_)
  refine dnil ?_
  refine Sv.seq ?_
  refine Sv.cond (b := decide (v8 < (s_.length : Int))) rfl (fun hc1 => ?_) (fun hc1 => ?_)
  · replace h := ifT hc1 h
    refine Sv.skip ?_
    refine Sv.seq ?_
    refine Sv.block ?_
    refine Sv.seq ?_
    refine Sv.region ?_
    refine un (a1 rfl ?_)
    refine un (a1 rfl ?_)
    refine dnil ?_
    refine Sv.seq ?_
    refine Sv.region ?_
    refine un (a1 rfl ?_)
    refine un (a1 rfl ?_)
    refine un (a1 rfl ?_)
    obtain ⟨x_, hx1, h⟩ := bnd h
    refine un (a1 (v := (.c (.rop [.str x_]))) (s_iaddr (e := eStr) (xs := s_) rfl rfl hx1) ?_)
    refine un (a1 (v := (S x_)) rfl ?_)
    refine un (a1 (v := (B (decide (v_ = x_)))) rfl ?_)
    refine dnil ?_
    refine Sv.cond (b := decide (v_ = x_)) rfl (fun hc2 => ?_) (fun hc2 => ?_)
    · replace h := ifT hc2 h
      refine Sv.seq ?_
      refine Sv.region ?_
      refine un (a1 rfl ?_)
      refine un (a1 rfl ?_)
      refine dnil ?_
      refine Sv.ret ?_
      replace h := Option.some.inj h
      subst h
      exact hr _ ⟨_, .refl _, _, rfl, ⟨upd (fun _ => none) 0 (some (I v8)), (fun _ => none), 0⟩, (I v8), weak_canon [] rfl List.nodup_nil (Nat.le_refl _) (fun b h => absurd h (Nat.not_lt_zero _)) (.cons rfl (avAs_free rfl) .nil) .nil, rfl, rfl, rfl, rfl⟩
    · replace h := ifF hc2 h
      refine Sv.skip ?_
      refine Sv.region ?_
      refine un (a1 (v := (I (wi (v8 + 1)))) rfl ?_)
      refine un (a1 rfl ?_)
      refine dnil ?_
      exact hself (wi (v8 + 1)) h _ (weak_canon [] rfl (by decide) (by decide) (fun b h => absurd h (Nat.not_lt_zero _)) (.cons rfl (avAs_free rfl) (.cons rfl (avAs_free rfl) (.cons rfl (avAs_free rfl) (.cons rfl (avAs_free rfl) .nil)))) .nil)
  · replace h := ifF hc1 h
    refine Sv.exit ?_
    exact hK0 () h _ (weak_canon [] rfl (by decide) (by decide) (fun b h => absurd h (Nat.not_lt_zero _)) .nil .nil)
/-- slices.Index(()string,string) -/
noncomputable def slices_Index_string (s_ : (List (List UInt8))) (v_ : (List UInt8)) : Option Int :=
  lim fun kk => slices_Index_string_l0 s_ v_ (fun (_ : Unit) => 
      some (-1)) kk 0
theorem slices_Index_string_ok {mL : Int} {s_ : (List (List UInt8))} {v_ : (List UInt8)} {r : Int} (h : slices_Index_string s_ v_ = some r) : CPure Tryd.prog (GG mL) 142 [(.c (.ro false 1 (s_.map eStr))), (S v_)] (I r) := by
  refine acalls_of_sv hmix c142 (R := slices_Index_string_post r) ?_
  unfold slices_Index_string at h
  refine Sv.seq ?_
  refine Sv.region ?_
  refine un (a1 rfl ?_)
  refine dnil ?_
  refine Sv.seq ?_
  refine Sv.seq ?_
  refine Sv.region ?_
  refine un (a1 rfl ?_)
  refine un (a1 (v := (I (s_.length : Int))) (s_len (e := eStr) (xs := s_) rfl) ?_)
  refine un (a1 rfl ?_)
  refine dnil ?_
  refine Sv.block ?_
  obtain ⟨kk, h⟩ := lim_some h
  refine Sv.weak (weak_canon [] rfl (by decide) (by decide) (fun b h => absurd h (Nat.not_lt_zero _)) (.cons rfl (avAs_free rfl) (.cons rfl (avAs_free rfl) (.cons rfl (avAs_free rfl) (.cons rfl (avAs_free rfl) .nil)))) .nil) (slices_Index_string_l0_ok h ?_ (fun s hs => hs))
  · intro _ h _ hw1
    refine Sv.weak hw1 ?_
    refine Sv.seq ?_
    refine Sv.region ?_
    refine un (a1 rfl ?_)
    refine dnil ?_
    refine Sv.ret ?_
    replace h := Option.some.inj h
    subst h
    exact ⟨_, .refl _, _, rfl, ⟨upd (fun _ => none) 0 (some (I (-1))), (fun _ => none), 0⟩, (I (-1)), weak_canon [] rfl List.nodup_nil (Nat.le_refl _) (fun b h => absurd h (Nat.not_lt_zero _)) (.cons rfl (avAs_free rfl) .nil) .nil, rfl, rfl, rfl, rfl⟩
def a113 : AFunc := ⟨2, [(.tmp 4)], (.seq (.region [⟨(some 4), (.mov (.const (.c (.val (.bool false))))), none⟩])
 (.seq (.region [⟨(some 5), (.mov (.tmp 0)), none⟩, ⟨(some 6), (.mov (.tmp 1)), none⟩, ⟨(some 7), (.call 142 [(.tmp 5), (.tmp 6)]), none⟩, ⟨(some 8), (.bin .geq (.tmp 7) (.const (.c (.val (.int .i64 0))))), none⟩, ⟨(some 4), (.mov (.tmp 8)), none⟩])
 .ret))⟩
set_option maxRecDepth 100000 in
theorem c113 : compFunc Tryd.prog 113 = some a113 := by kernel_rfl
def slices_Contains_string_post (r : Bool) : AV → Heap → Nat → Prop := fun v h' n' => v = (B r) ∧ (h' = (fun _ => none)) ∧ n' = 0
/-- slices.Contains(()string,string) -/
noncomputable def slices_Contains_string (s_ : (List (List UInt8))) (v_ : (List UInt8)) : Option Bool :=
  (slices_Index_string s_ v_).bind fun r_ =>
  some (decide (0 ≤ r_))
theorem slices_Contains_string_ok {mL : Int} {s_ : (List (List UInt8))} {v_ : (List UInt8)} {r : Bool} (h : slices_Contains_string s_ v_ = some r) : CPure Tryd.prog (GG mL) 113 [(.c (.ro false 1 (s_.map eStr))), (S v_)] (B r) := by
  refine acalls_of_sv hmix c113 (R := slices_Contains_string_post r) ?_
  unfold slices_Contains_string at h
  refine Sv.seq ?_
  refine Sv.region ?_
  refine un (a1 rfl ?_)
  refine dnil ?_
  refine Sv.seq ?_
  refine Sv.region ?_
  refine un (a1 rfl ?_)
  refine un (a1 rfl ?_)
  obtain ⟨r_, hr1, h⟩ := bnd h
  refine un (ac_pure (slices_Index_string_ok hr1) rfl rfl rfl ?_)
  refine un (a1 (v := (B (decide (0 ≤ r_)))) rfl ?_)
  refine un (a1 rfl ?_)
  refine dnil ?_
  refine Sv.ret ?_
  replace h := Option.some.inj h
  subst h
  exact ⟨_, .refl _, _, rfl, ⟨upd (fun _ => none) 0 (some (B (decide (0 ≤ r_)))), (fun _ => none), 0⟩, (B (decide (0 ≤ r_))), weak_canon [] rfl List.nodup_nil (Nat.le_refl _) (fun b h => absurd h (Nat.not_lt_zero _)) (.cons rfl (avAs_free rfl) .nil) .nil, rfl, rfl, rfl, rfl⟩
def a102_c0 : ACode := (.seq (.region [⟨(some 10), (.mov (.tmp 4)), none⟩, ⟨(some 11), (.mov (.tmp 3)), none⟩, ⟨(some 12), (.build [(.val (.int .i64 0)), (.val (.int .i64 0)), (.val (.int .i64 0)), (.str []), (.val (.int .i64 0))] [(0, (1, (.tmp 10))), (3, (1, (.tmp 11)))]), none⟩, ⟨none, (.store 5 (.tmp 2) (.tmp 12)), none⟩])
 .ret)
def a102 : AFunc := ⟨1, [(.cell true 5 2)], (.seq (.region [⟨(some 2), (.box (.const (.agg [(.val (.int .i64 0)), (.val (.int .i64 0)), (.val (.int .i64 0)), (.str []), (.val (.int .i64 0))]))), none⟩])
 (.seq (.region [⟨(some 5), (.mov (.tmp 0)), none⟩, ⟨(some 6), (.call 137 [(.tmp 5), (.const (.c (.fn (.func 138) [] [])))]), none⟩, ⟨(some 3), (.mov (.tmp 6)), none⟩])
 (.seq (.region [⟨(some 4), (.mov (.const (.c (.val (.int .i64 1))))), none⟩])
 (.seq (.seq (.region [⟨(some 7), (.call 139 [(.const (.c (.str [108, 101, 116, 32, 102, 110, 32, 105, 102, 32, 101, 108, 115, 101, 32, 119, 104, 105, 108, 101, 32, 102, 111, 114, 32, 111, 102, 32, 114, 101, 116, 117, 114, 110, 32, 98, 114, 101, 97, 107, 32, 99, 111, 110, 116, 105, 110, 117, 101, 32, 116, 104, 114, 111, 119, 32, 116, 114, 121, 32, 99, 97, 116, 99, 104, 32, 102, 105, 110, 97, 108, 108, 121, 32, 116, 114, 117, 101, 32, 102, 97, 108, 115, 101, 32, 110, 117, 108, 108])))]), none⟩, ⟨(some 8), (.mov (.tmp 3)), none⟩, ⟨(some 9), (.call 113 [(.tmp 7), (.tmp 8)]), none⟩])
 (.cond (.tmp 9) (.region [⟨(some 4), (.mov (.const (.c (.val (.int .i64 5))))), none⟩]) .skip))
 a102_c0))))⟩
set_option maxRecDepth 100000 in
theorem c102 : compFunc Tryd.prog 102 = some a102 := by kernel_rfl
def clerestory_jlex_reader_name_post (r : (TJTok × Treader)) : AV → Heap → Nat → Prop := fun v h' n' => v = (.agg [cI r.1.Kind, cI r.1.From, cI r.1.To, .str r.1.Text, cI r.1.Num]) ∧ (h' = (upd (fun _ => none) 0 (some (.cells 3 [[.str r.2.f_s, cI r.2.f_at, .ro false 5 (r.2.f_out.map e_TJTok)]])))) ∧ n' = 1
noncomputable def clerestory_jlex_reader_name_j1 (r_1 : ((List UInt8) × Treader)) (kind : Int) : Option (TJTok × Treader) :=
  some ((⟨kind, 0, 0, r_1.1, 0⟩ : TJTok), r_1.2)
theorem clerestory_jlex_reader_name_j1_ok {mL : Int} {r_1 : ((List UInt8) × Treader)} {kind : Int} {o : (TJTok × Treader)} (h : clerestory_jlex_reader_name_j1 r_1 kind = some o) :
    Sv Tryd.prog (GG mL) 1 a102_c0 (Ends a102.results 1 (clerestory_jlex_reader_name_post o)) ⟨(upd (upd (upd (upd (fun _ => none) 0 (some (.c (.ref 0 3 0 0)))) 2 (some (.c (.ref 1 5 0 0)))) 3 (some (S r_1.1))) 4 (some (I kind))), (upd (upd (fun _ => none) 0 (some (.cells 3 [[.str r_1.2.f_s, cI r_1.2.f_at, .ro false 5 (r_1.2.f_out.map e_TJTok)]]))) 1 (some (.cells 5 [[cI 0, cI 0, cI 0, .str [], cI 0]]))), 2⟩ := by
  unfold clerestory_jlex_reader_name_j1 at h
  refine Sv.seq ?_
  refine Sv.region ?_
  refine un (a1 rfl ?_)
  refine un (a1 rfl ?_)
  refine un (a1 (v := (.agg [cI kind, cI 0, cI 0, .str r_1.1, cI 0])) rfl ?_)
  refine un (a2n (h' := upd _ 1 (some (.cells 5 [[cI kind, cI 0, cI 0, .str r_1.1, cI 0]]))) (n' := 2) rfl rfl (fun h => by cases h) ?_)
  refine dnil ?_
  refine Sv.ret ?_
  replace h := Option.some.inj h
  subst h
  exact ⟨_, .refl _, _, rfl, ⟨upd (fun _ => none) 0 (some (.agg [cI kind, cI 0, cI 0, .str r_1.1, cI 0])), (upd (fun _ => none) 0 (some (.cells 3 [[.str r_1.2.f_s, cI r_1.2.f_at, .ro false 5 (r_1.2.f_out.map e_TJTok)]]))), 1⟩, (.agg [cI kind, cI 0, cI 0, .str r_1.1, cI 0]), weak_canon2 [0] [0] (by decide) (by decide) (by decide) (.cons (by decide) .nil) (.cons rfl (avAs_free rfl) .nil) (.box (by decide) rfl (blkAs_cells (.cons (.same rfl) (.cons (.same rfl) (.cons (.same rfl) .nil)))) .nil), rfl, rfl, rfl, rfl⟩
/-- (*clerestory/jlex.reader).name -/
noncomputable def clerestory_jlex_reader_name (r_ : Treader) : Option (TJTok × Treader) :=
  (clerestory_jlex_reader_run r_).bind fun r_1 =>
  (strings_Fields [108, 101, 116, 32, 102, 110, 32, 105, 102, 32, 101, 108, 115, 101, 32, 119, 104, 105, 108, 101, 32, 102, 111, 114, 32, 111, 102, 32, 114, 101, 116, 117, 114, 110, 32, 98, 114, 101, 97, 107, 32, 99, 111, 110, 116, 105, 110, 117, 101, 32, 116, 104, 114, 111, 119, 32, 116, 114, 121, 32, 99, 97, 116, 99, 104, 32, 102, 105, 110, 97, 108, 108, 121, 32, 116, 114, 117, 101, 32, 102, 97, 108, 115, 101, 32, 110, 117, 108, 108]).bind fun r_2 =>
  (slices_Contains_string r_2 r_1.1).bind fun r_3 =>
  if r_3 then
    clerestory_jlex_reader_name_j1 r_1 5
  else
    clerestory_jlex_reader_name_j1 r_1 1
theorem clerestory_jlex_reader_name_ok {mL : Int} {r_ : Treader} {r : (TJTok × Treader)} (h : clerestory_jlex_reader_name r_ = some r) : ACalls Tryd.prog (GG mL) 102 [(.c (.ref 0 3 0 0))] (upd (fun _ => none) 0 (some (.cells 3 [[.str r_.f_s, cI r_.f_at, .ro false 5 (r_.f_out.map e_TJTok)]]))) 1 (clerestory_jlex_reader_name_post r) := by
  refine acalls_of_sv hmix c102 (R := clerestory_jlex_reader_name_post r) ?_
  unfold clerestory_jlex_reader_name at h
  refine Sv.seq ?_
  refine Sv.region ?_
  refine un (a2v (v := (.c (.ref 1 5 0 0))) (h' := upd _ 1 (some (.cells 5 [[cI 0, cI 0, cI 0, .str [], cI 0]]))) (n' := 2) rfl rfl (fun h => by cases h) ?_)
  refine dnil ?_
  refine Sv.seq ?_
  refine Sv.region ?_
  refine un (a1 rfl ?_)
  obtain ⟨r_1, hr1, h⟩ := bnd h
  refine un (ac_gen (bs := [0]) («as» := [(.c (.ref 0 3 0 0)), (.c (.fn (.func 138) [] []))]) (h2 := _) (h1 := (upd (fun _ => none) 0 (some (.cells 3 [[.str r_.f_s, cI r_.f_at, .ro false 5 (r_.f_out.map e_TJTok)]])))) (clerestory_jlex_reader_run_ok hr1) rfl (.cons (.c (.ref rfl (by decide))) (.cons (avAs_free rfl) .nil)) (hsub_refl _) (.cons rfl (.nil _)) (fun h => by cases h) (by decide) (by decide) (.cons (.c (.ref rfl (by decide))) (.cons (avAs_free rfl) .nil)) (.box (by decide) rfl (blkAs_cells (.cons (.same rfl) (.cons (.same rfl) (.cons (.same rfl) .nil)))) .nil) ?_)
  rintro _ _ _ hn ⟨rfl, rfl, rfl⟩
  refine ⟨.inl rfl, (upd (rem [0] _) 0 (some (.cells 3 [[.str r_1.2.f_s, cI r_1.2.f_at, .ro false 5 (r_1.2.f_out.map e_TJTok)]]))), fun hbd => (m3_cons (m3_box rfl rfl) (m3_rem (in_cons (by decide) (in_nil _)) (.cons (by decide) .nil) hbd)), (S r_1.1), 2, rfl, rfl, ?_⟩
  refine un (a1 rfl ?_)
  refine dnil ?_
  refine Sv.seq ?_
  refine Sv.region ?_
  refine un (a1 rfl ?_)
  refine dnil ?_
  refine Sv.seq ?_
  refine Sv.seq ?_
  refine Sv.region ?_
  obtain ⟨r_2, hr2, h⟩ := bnd h
  refine un (ac_gen (bs := []) («as» := [(S [108, 101, 116, 32, 102, 110, 32, 105, 102, 32, 101, 108, 115, 101, 32, 119, 104, 105, 108, 101, 32, 102, 111, 114, 32, 111, 102, 32, 114, 101, 116, 117, 114, 110, 32, 98, 114, 101, 97, 107, 32, 99, 111, 110, 116, 105, 110, 117, 101, 32, 116, 104, 114, 111, 119, 32, 116, 114, 121, 32, 99, 97, 116, 99, 104, 32, 102, 105, 110, 97, 108, 108, 121, 32, 116, 114, 117, 101, 32, 102, 97, 108, 115, 101, 32, 110, 117, 108, 108])]) (h2 := _) (h1 := (fun _ => none)) (strings_Fields_ok hr2) rfl (.cons (avAs_free rfl) .nil) (hsub_refl _) (.nil _) (fun _ => rfl) (by decide) (by decide) (.cons (avAs_free rfl) .nil) .nil ?_)
  rintro _ _ _ hn ⟨z_, hz_, rfl, rfl, rfl⟩
  refine ⟨.inl rfl, (upd (rem [] _) 2 (lstB z_ 1 (r_2.map eStr))), fun hbd => (m3_cons (m3_row rfl (fr_map fun _ => rfl)) (m3_rem (in_nil _) (.cons (by decide) .nil) hbd)), (lstV z_ 2 1 r_2.length), 3, (by cases z_ <;> rfl), rfl, ?_⟩
  refine un (a1 rfl ?_)
  obtain ⟨r_3, hr3, h⟩ := bnd h
  refine un (ac_lend (h2 := (upd _ 2 none)) (slices_Contains_string_ok hr3) rfl (.cons (.c (lstC_ro (es := List.map eStr r_2) rfl (List.length_map eStr).symm (map_nil_of hz_) (gone rfl) (fr_map fun _ => rfl))) (.cons (avAs_free rfl) .nil)) (hsub_none (hsub_refl _)) rfl rfl (.inr rfl) ?_)
  refine dnil ?_
  refine Sv.cond (b := r_3) rfl (fun hc1 => ?_) (fun hc1 => ?_)
  · replace h := ifT hc1 h
    refine Sv.region ?_
    refine un (a1 rfl ?_)
    refine dnil ?_
    exact Sv.weak (weak_canon [0, 1] rfl (by decide) (by decide) (by decide) (.cons rfl (avAs_free rfl) (.cons rfl (avAs_free rfl) (.cons rfl (.c (.ref rfl (by decide))) (.cons rfl (.c (.ref rfl (by decide))) .nil)))) (.box (by decide) rfl (blkAs_cells (.cons (.same rfl) (.cons (.same rfl) (.cons (.same rfl) (.cons (.same rfl) (.cons (.same rfl) .nil)))))) (.box (by decide) rfl (blkAs_cells (.cons (.same rfl) (.cons (.same rfl) (.cons (.same rfl) .nil)))) .nil))) (clerestory_jlex_reader_name_j1_ok h)
  · replace h := ifF hc1 h
    refine Sv.skip ?_
    exact Sv.weak (weak_canon [0, 1] rfl (by decide) (by decide) (by decide) (.cons rfl (avAs_free rfl) (.cons rfl (avAs_free rfl) (.cons rfl (.c (.ref rfl (by decide))) (.cons rfl (.c (.ref rfl (by decide))) .nil)))) (.box (by decide) rfl (blkAs_cells (.cons (.same rfl) (.cons (.same rfl) (.cons (.same rfl) (.cons (.same rfl) (.cons (.same rfl) .nil)))))) (.box (by decide) rfl (blkAs_cells (.cons (.same rfl) (.cons (.same rfl) (.cons (.same rfl) .nil)))) .nil))) (clerestory_jlex_reader_name_j1_ok h)
def a137_clerestory_jlex_reader_run1_c0 : ACode := (.cond (.tmp 32) .skip (.exit 0))
def a137_clerestory_jlex_reader_run1_c1 : ACode := (.block 1 (.region [⟨(some 33), (.mov (.tmp 0)), none⟩, ⟨(some 34), (.nilc (.tmp 33)), none⟩, ⟨(some 35), (.faddr 1 (.tmp 34)), none⟩, ⟨(some 36), (.load false 1 (.tmp 35)), none⟩, ⟨(some 37), (.bin .add (.tmp 36) (.const (.c (.val (.int .i64 1))))), none⟩, ⟨(some 38), (.nilc (.tmp 33)), none⟩, ⟨(some 39), (.faddr 1 (.tmp 38)), none⟩, ⟨none, (.store 1 (.tmp 39) (.tmp 37)), none⟩]))
def a137_clerestory_jlex_reader_run1_c2 : ACode := (.seq (.seq (.drawn (.fin [(⟨(some 10), (.mov (.tmp 0)), none⟩, (0, 0)), (⟨(some 11), (.nilc (.tmp 10)), none⟩, (0, 1)), (⟨(some 12), (.faddr 1 (.tmp 11)), none⟩, (0, 2)), (⟨(some 13), (.load false 1 (.tmp 12)), none⟩, (0, 3)), (⟨(some 14), (.mov (.tmp 0)), none⟩, (0, 4)), (⟨(some 15), (.nilc (.tmp 14)), none⟩, (0, 5)), (⟨(some 16), (.faddr 0 (.tmp 15)), none⟩, (0, 6)), (⟨(some 17), (.load false 1 (.tmp 16)), none⟩, (0, 7)), (⟨(some 18), (.lenS (.tmp 17)), none⟩, (0, 8)), (⟨(some 19), (.bin .lss (.tmp 13) (.tmp 18)), none⟩, (0, 9)), (⟨(some 20), (.mov (.tmp 19)), none⟩, (0, 10)), (⟨(some 21), (.mov (.tmp 1)), (some (20, true))⟩, (0, 11)), (⟨(some 22), (.mov (.tmp 0)), (some (20, true))⟩, (0, 12)), (⟨(some 23), (.nilc (.tmp 22)), (some (20, true))⟩, (0, 13)), (⟨(some 24), (.faddr 0 (.tmp 23)), (some (20, true))⟩, (0, 14)), (⟨(some 25), (.load false 1 (.tmp 24)), (some (20, true))⟩, (0, 15)), (⟨(some 26), (.mov (.tmp 0)), (some (20, true))⟩, (0, 16)), (⟨(some 27), (.nilc (.tmp 26)), (some (20, true))⟩, (0, 17)), (⟨(some 28), (.faddr 1 (.tmp 27)), (some (20, true))⟩, (0, 18)), (⟨(some 29), (.load false 1 (.tmp 28)), (some (20, true))⟩, (0, 19)), (⟨(some 30), (.idxS (.tmp 25) (.tmp 29)), (some (20, true))⟩, (0, 20)), (⟨(some 31), (.callv (.tmp 21) [(.tmp 30)]), (some (20, true))⟩, (2, 21)), (⟨(some 32), (.pick (.tmp 20) (.tmp 31) (.const (.c (.val (.bool false))))), none⟩, (0, 22))]))
 a137_clerestory_jlex_reader_run1_c0)
 a137_clerestory_jlex_reader_run1_c1)
def clerestory_jlex_reader_run1_post (r : ((List UInt8) × Treader)) : AV → Heap → Nat → Prop := fun v h' n' => v = (S r.1) ∧ (h' = (upd (fun _ => none) 0 (some (.cells 3 [[.str r.2.f_s, cI r.2.f_at, .ro false 5 (r.2.f_out.map e_TJTok)]])))) ∧ n' = 1
abbrev clerestory_jlex_reader_run1_q0 (mL : Int) (Q : AExit → St → Prop) : AExit → St → Prop := AThen (Sv Tryd.prog (GG mL) 1 a137_clerestory_jlex_reader_run1_c1 Q) Q
noncomputable def clerestory_jlex_reader_run1_j3 (r1 : Int) (r_ : Treader) (self : Int → Option ((List UInt8) × Treader)) (K0_ : Int → Option ((List UInt8) × Treader)) (v32 : Bool) : Option ((List UInt8) × Treader) :=
  if v32 then
    self (wi (r1 + 1))
  else
    K0_ r1
theorem clerestory_jlex_reader_run1_j3_ok {mL : Int} {Q : AExit → St → Prop} {r1 : Int} {r_ : Treader} {self : Int → Option ((List UInt8) × Treader)} {K0_ : Int → Option ((List UInt8) × Treader)} {v32 : Bool} {o : ((List UInt8) × Treader)} (h : clerestory_jlex_reader_run1_j3 r1 r_ self K0_ v32 = some o)
    (hself : ∀ (r1 : Int), self r1 = some o → ∀ s, Weak 1 s ⟨(upd (upd (upd (fun _ => none) 0 (some (.c (.ref 0 3 0 0)))) 1 (some (.c (.fn (.func 103) [] [])))) 5 (some (I r_.f_at))), (upd (fun _ => none) 0 (some (.cells 3 [[.str r_.f_s, cI r1, .ro false 5 (r_.f_out.map e_TJTok)]]))), 1⟩ → (Q) .normal s)
    (hK0 : ∀ (r11 : Int), K0_ r11 = some o → ∀ s, Weak 1 s ⟨(upd (upd (fun _ => none) 0 (some (.c (.ref 0 3 0 0)))) 5 (some (I r_.f_at))), (upd (fun _ => none) 0 (some (.cells 3 [[.str r_.f_s, cI r11, .ro false 5 (r_.f_out.map e_TJTok)]]))), 1⟩ → Q (.exit 0) s)
    (hr : ∀ s, Ends a137.results 1 (clerestory_jlex_reader_run1_post o) .ret s → Q .ret s) :
    Sv Tryd.prog (GG mL) 1 a137_clerestory_jlex_reader_run1_c0 (clerestory_jlex_reader_run1_q0 mL Q) ⟨(upd (upd (upd (upd (fun _ => none) 0 (some (.c (.ref 0 3 0 0)))) 1 (some (.c (.fn (.func 103) [] [])))) 5 (some (I r_.f_at))) 32 (some (B v32))), (upd (fun _ => none) 0 (some (.cells 3 [[.str r_.f_s, cI r1, .ro false 5 (r_.f_out.map e_TJTok)]]))), 1⟩ := by
  unfold clerestory_jlex_reader_run1_j3 at h
  refine Sv.cond (b := v32) rfl (fun hc1 => ?_) (fun hc1 => ?_)
  · replace h := ifT hc1 h
    refine Sv.skip ?_
    refine Sv.block ?_
    refine Sv.region ?_
    refine un (a1 rfl ?_)
    refine un (a1 (v := (.c (.ref 0 3 0 0))) rfl ?_)
    refine un (a1 (v := (.c (.ref 0 3 0 1))) rfl ?_)
    refine un (a1 (v := (I r1)) rfl ?_)
    refine un (a1 (v := (I (wi (r1 + 1)))) rfl ?_)
    refine un (a1 (v := (.c (.ref 0 3 0 0))) rfl ?_)
    refine un (a1 (v := (.c (.ref 0 3 0 1))) rfl ?_)
    refine un (a2n (h' := upd _ 0 (some (.cells 3 [[.str r_.f_s, cI (wi (r1 + 1)), .ro false 5 (r_.f_out.map e_TJTok)]]))) (n' := 1) rfl rfl (fun h => by cases h) ?_)
    refine dnil ?_
    exact hself (wi (r1 + 1)) h _ (weak_canon [0] rfl (by decide) (by decide) (by decide) (.cons rfl (avAs_free rfl) (.cons rfl (avAs_free rfl) (.cons rfl (.c (.ref rfl (by decide))) .nil))) (.box (by decide) rfl (blkAs_cells (.cons (.same rfl) (.cons (.same rfl) (.cons (.same rfl) .nil)))) .nil))
  · replace h := ifF hc1 h
    refine Sv.exit ?_
    exact hK0 r1 h _ (weak_canon [0] rfl (by decide) (by decide) (by decide) (.cons rfl (avAs_free rfl) (.cons rfl (.c (.ref rfl (by decide))) .nil)) (.box (by decide) rfl (blkAs_cells (.cons (.same rfl) (.cons (.same rfl) (.cons (.same rfl) .nil)))) .nil))
noncomputable def clerestory_jlex_reader_run1_l0 (r_ : Treader) (K0_ : Int → Option ((List UInt8) × Treader)) : Nat → Int → Option ((List UInt8) × Treader)
  | 0, _ => none
  | k + 1, r1 =>
    if decide (r1 < (r_.f_s.length : Int)) then
      (at? r_.f_s r1).bind fun c_ =>
      clerestory_jlex_reader_run1_j3 r1 r_ (clerestory_jlex_reader_run1_l0 r_ K0_ k) K0_ (jlex_digit (c_.toNat : Int))
    else
      clerestory_jlex_reader_run1_j3 r1 r_ (clerestory_jlex_reader_run1_l0 r_ K0_ k) K0_ false
theorem clerestory_jlex_reader_run1_l0_ok {mL : Int} {Q : AExit → St → Prop} {r_ : Treader} {K0_ : Int → Option ((List UInt8) × Treader)} {k : Nat} {r1 : Int} {o : ((List UInt8) × Treader)} (h : clerestory_jlex_reader_run1_l0 r_ K0_ k r1 = some o)
    (hK0 : ∀ (r11 : Int), K0_ r11 = some o → ∀ s, Weak 1 s ⟨(upd (upd (fun _ => none) 0 (some (.c (.ref 0 3 0 0)))) 5 (some (I r_.f_at))), (upd (fun _ => none) 0 (some (.cells 3 [[.str r_.f_s, cI r11, .ro false 5 (r_.f_out.map e_TJTok)]]))), 1⟩ → Q (.exit 0) s)
    (hr : ∀ s, Ends a137.results 1 (clerestory_jlex_reader_run1_post o) .ret s → Q .ret s) :
    Sv Tryd.prog (GG mL) 1 (.loop a137_clerestory_jlex_reader_run1_c2) Q ⟨(upd (upd (upd (fun _ => none) 0 (some (.c (.ref 0 3 0 0)))) 1 (some (.c (.fn (.func 103) [] [])))) 5 (some (I r_.f_at))), (upd (fun _ => none) 0 (some (.cells 3 [[.str r_.f_s, cI r1, .ro false 5 (r_.f_out.map e_TJTok)]]))), 1⟩ := by
  refine Sv.loop (I := fun k s => ∃ (r1 : Int), clerestory_jlex_reader_run1_l0 r_ K0_ k r1 = some o ∧ s = ⟨(upd (upd (upd (fun _ => none) 0 (some (.c (.ref 0 3 0 0)))) 1 (some (.c (.fn (.func 103) [] [])))) 5 (some (I r_.f_at))), (upd (fun _ => none) 0 (some (.cells 3 [[.str r_.f_s, cI r1, .ro false 5 (r_.f_out.map e_TJTok)]]))), 1⟩) (fun k s hI => ?_) ⟨r1, h, rfl⟩
  clear h
  clear r1
  obtain ⟨r1, h, rfl⟩ := hI
  cases k with
  | zero => cases h
  | succ k =>
  rw [clerestory_jlex_reader_run1_l0] at h
  have hself : ∀ (r1 : Int), (clerestory_jlex_reader_run1_l0 r_ K0_ k) r1 = some o → ∀ s, Weak 1 s ⟨(upd (upd (upd (fun _ => none) 0 (some (.c (.ref 0 3 0 0)))) 1 (some (.c (.fn (.func 103) [] [])))) 5 (some (I r_.f_at))), (upd (fun _ => none) 0 (some (.cells 3 [[.str r_.f_s, cI r1, .ro false 5 (r_.f_out.map e_TJTok)]]))), 1⟩ → (AThen (fun s' => ∃ s'' k', Weak 1 s' s'' ∧ k' < k + 1 ∧ (fun k s => ∃ (r1 : Int), clerestory_jlex_reader_run1_l0 r_ K0_ k r1 = some o ∧ s = ⟨(upd (upd (upd (fun _ => none) 0 (some (.c (.ref 0 3 0 0)))) 1 (some (.c (.fn (.func 103) [] [])))) 5 (some (I r_.f_at))), (upd (fun _ => none) 0 (some (.cells 3 [[.str r_.f_s, cI r1, .ro false 5 (r_.f_out.map e_TJTok)]]))), 1⟩) k' s'') Q) .normal s := fun r1 h s hw => ⟨_, k, hw, Nat.lt_succ_self k, r1, h, rfl⟩
  refine Sv.seq ?_
  refine Sv.seq ?_
  refine Sv.drawn ?_
  refine un (a1 rfl ?_)
  refine un (a1 (v := (.c (.ref 0 3 0 0))) rfl ?_)
  refine un (a1 (v := (.c (.ref 0 3 0 1))) rfl ?_)
  refine un (a1 (v := (I r1)) rfl ?_)
  refine un (a1 rfl ?_)
  refine un (a1 (v := (.c (.ref 0 3 0 0))) rfl ?_)
  refine un (a1 (v := (.c (.ref 0 3 0 0))) rfl ?_)
  refine un (a1 (v := (S r_.f_s)) rfl ?_)
  refine un (a1 (v := (I (r_.f_s.length : Int))) rfl ?_)
  refine un (a1 (v := (B (decide (r1 < (r_.f_s.length : Int))))) rfl ?_)
  refine un (a1 rfl ?_)
  refine split2 (fun hc2 => ?_) (fun hc2 => ?_)
  · replace h := ifT hc2 h
    refine gt rfl (a1 rfl ?_)
    refine gt rfl (a1 rfl ?_)
    refine gt rfl (a1 (v := (.c (.ref 0 3 0 0))) rfl ?_)
    refine gt rfl (a1 (v := (.c (.ref 0 3 0 0))) rfl ?_)
    refine gt rfl (a1 (v := (S r_.f_s)) rfl ?_)
    refine gt rfl (a1 rfl ?_)
    refine gt rfl (a1 (v := (.c (.ref 0 3 0 0))) rfl ?_)
    refine gt rfl (a1 (v := (.c (.ref 0 3 0 1))) rfl ?_)
    refine gt rfl (a1 (v := (I r1)) rfl ?_)
    obtain ⟨c_, hx1, h⟩ := bnd h
    refine gt rfl (a1 (v := (.c (.val (.int .u8 (c_.toNat : Int))))) (s_idxS rfl rfl hx1) ?_)
    refine gt rfl (acv_gen (bs := []) («as» := [(.c (.val (.int .u8 (c_.toNat : Int))))]) (h2 := _) (h1 := (fun _ => none)) rfl (by kernel_rfl) (jlex_digit_ok (mL := mL) (c_.toNat : Int)) rfl (.cons (avAs_free rfl) .nil) (hsub_refl _) (.nil _) (fun _ => rfl) (by decide) (by decide) (.cons (avAs_free rfl) .nil) .nil ?_)
    rintro _ _ _ hn ⟨rfl, rfl, rfl⟩
    refine ⟨.inl rfl, (rem [] _), fun hbd => (m3_rem (in_nil _) (.nil) hbd), (B (jlex_digit (c_.toNat : Int))), 1, rfl, rfl, ?_⟩
    refine un (a1 (v := (B (jlex_digit (c_.toNat : Int)))) rfl ?_)
    refine dnil ?_
    exact Sv.weak (weak_canon [0] rfl (by decide) (by decide) (by decide) (.cons rfl (avAs_free rfl) (.cons rfl (avAs_free rfl) (.cons rfl (avAs_free rfl) (.cons rfl (.c (.ref rfl (by decide))) .nil)))) (.box (by decide) rfl (blkAs_cells (.cons (.same rfl) (.cons (.same rfl) (.cons (.same rfl) .nil)))) .nil)) (clerestory_jlex_reader_run1_j3_ok h hself hK0 hr)
  · replace h := ifF hc2 h
    refine gs rfl rfl ?_
    refine gs rfl rfl ?_
    refine gs rfl rfl ?_
    refine gs rfl rfl ?_
    refine gs rfl rfl ?_
    refine gs rfl rfl ?_
    refine gs rfl rfl ?_
    refine gs rfl rfl ?_
    refine gs rfl rfl ?_
    refine gs rfl rfl ?_
    refine gs rfl rfl ?_
    refine un (a1 (v := (B false)) rfl ?_)
    refine dnil ?_
    exact Sv.weak (weak_canon [0] rfl (by decide) (by decide) (by decide) (.cons rfl (avAs_free rfl) (.cons rfl (avAs_free rfl) (.cons rfl (avAs_free rfl) (.cons rfl (.c (.ref rfl (by decide))) .nil)))) (.box (by decide) rfl (blkAs_cells (.cons (.same rfl) (.cons (.same rfl) (.cons (.same rfl) .nil)))) .nil)) (clerestory_jlex_reader_run1_j3_ok h hself hK0 hr)
/-- (*clerestory/jlex.reader).run -/
noncomputable def clerestory_jlex_reader_run1 (r_ : Treader) : Option ((List UInt8) × Treader) :=
  lim fun kk => clerestory_jlex_reader_run1_l0 r_ (fun (r11 : Int) => 
      (sub? r_.f_s r_.f_at r11).bind fun r_1 =>
      some (r_1, (⟨r_.f_s, r11, r_.f_out⟩ : Treader))) kk r_.f_at
theorem clerestory_jlex_reader_run1_ok {mL : Int} {r_ : Treader} {r : ((List UInt8) × Treader)} (h : clerestory_jlex_reader_run1 r_ = some r) : ACalls Tryd.prog (GG mL) 137 [(.c (.ref 0 3 0 0)), (.c (.fn (.func 103) [] []))] (upd (fun _ => none) 0 (some (.cells 3 [[.str r_.f_s, cI r_.f_at, .ro false 5 (r_.f_out.map e_TJTok)]]))) 1 (clerestory_jlex_reader_run1_post r) := by
  refine acalls_of_sv hmix c137 (R := clerestory_jlex_reader_run1_post r) ?_
  unfold clerestory_jlex_reader_run1 at h
  refine Sv.seq ?_
  refine Sv.region ?_
  refine un (a1 rfl ?_)
  refine dnil ?_
  refine Sv.seq ?_
  refine Sv.region ?_
  refine un (a1 rfl ?_)
  refine un (a1 (v := (.c (.ref 0 3 0 0))) rfl ?_)
  refine un (a1 (v := (.c (.ref 0 3 0 1))) rfl ?_)
  refine un (a1 (v := (I r_.f_at)) rfl ?_)
  refine un (a1 rfl ?_)
  refine dnil ?_
  refine Sv.seq ?_
  refine Sv.block ?_
  obtain ⟨kk, h⟩ := lim_some h
  refine Sv.weak (weak_canon [0] rfl (by decide) (by decide) (by decide) (.cons rfl (avAs_free rfl) (.cons rfl (avAs_free rfl) (.cons rfl (.c (.ref rfl (by decide))) .nil))) (.box (by decide) rfl (blkAs_cells (.cons (.same rfl) (.cons (.same rfl) (.cons (.same rfl) .nil)))) .nil)) (clerestory_jlex_reader_run1_l0_ok h ?_ (fun s hs => hs))
  · intro r11 h _ hw1
    refine Sv.weak hw1 ?_
    refine Sv.seq ?_
    refine Sv.drawn ?_
    refine un (a1 rfl ?_)
    refine un (a1 (v := (.c (.ref 0 3 0 0))) rfl ?_)
    refine un (a1 (v := (.c (.ref 0 3 0 0))) rfl ?_)
    refine un (a1 (v := (S r_.f_s)) rfl ?_)
    refine un (a1 rfl ?_)
    refine un (a1 rfl ?_)
    refine un (a1 (v := (.c (.ref 0 3 0 0))) rfl ?_)
    refine un (a1 (v := (.c (.ref 0 3 0 1))) rfl ?_)
    refine un (a1 (v := (I r11)) rfl ?_)
    obtain ⟨r_1, hx2, h⟩ := bnd h
    refine un (a1 (v := (S r_1)) (s_slStr rfl rfl rfl hx2) ?_)
    refine un (a1 rfl ?_)
    refine dnil ?_
    refine Sv.ret ?_
    replace h := Option.some.inj h
    subst h
    exact ⟨_, .refl _, _, rfl, ⟨upd (fun _ => none) 0 (some (S r_1)), (upd (fun _ => none) 0 (some (.cells 3 [[.str r_.f_s, cI r11, .ro false 5 (r_.f_out.map e_TJTok)]]))), 1⟩, (S r_1), weak_canon2 [0] [0] (by decide) (by decide) (by decide) (.cons (by decide) .nil) (.cons rfl (avAs_free rfl) .nil) (.box (by decide) rfl (blkAs_cells (.cons (.same rfl) (.cons (.same rfl) (.cons (.same rfl) .nil)))) .nil), rfl, rfl, rfl, rfl⟩
def a104_c0 : ACode := (.seq (.region [⟨(some 12), (.bin .lss (.tmp 11) (.tmp 10)), none⟩])
 (.seq (.cond (.tmp 12) .skip (.exit 0))
 (.seq (.block 1 (.seq (.region [⟨(some 13), (.iaddr 1 (.tmp 9) (.tmp 11)), none⟩, ⟨(some 14), (.load false 1 (.tmp 13)), none⟩, ⟨(some 6), (.mov (.tmp 14)), none⟩])
 (.seq (.region [⟨(some 15), (.mov (.tmp 4)), none⟩, ⟨(some 16), (.bin .mul (.const (.c (.val (.int .i64 10)))) (.tmp 15)), none⟩, ⟨(some 17), (.mov (.tmp 6)), none⟩, ⟨(some 18), (.bin .sub (.tmp 17) (.const (.c (.val (.int .u8 48))))), none⟩, ⟨(some 19), (.conv .i64 (.tmp 18)), none⟩, ⟨(some 20), (.bin .add (.tmp 16) (.tmp 19)), none⟩, ⟨(some 4), (.mov (.tmp 20)), none⟩])
 (.seq (.region [⟨(some 21), (.mov (.tmp 4)), none⟩, ⟨(some 22), (.bin .gtr (.tmp 21) (.const (.c (.val (.int .i64 9007199254740992))))), none⟩])
 (.cond (.tmp 22) (.seq (.region [⟨(some 23), (.build [(.val (.int .i64 0)), (.val (.int .i64 0)), (.val (.int .i64 0)), (.str []), (.val (.int .i64 0))] []), none⟩, ⟨none, (.store 5 (.tmp 2) (.tmp 23)), none⟩, ⟨(some 3), (.mov (.const (.c (.val (.int .i64 2))))), none⟩])
 .ret) .skip)))))
 (.region [⟨(some 24), (.bin .add (.tmp 11) (.const (.c (.val (.int .i64 1))))), none⟩, ⟨(some 11), (.mov (.tmp 24)), none⟩]))))
def a104 : AFunc := ⟨1, [(.cell true 5 2), (.tmp 3)], (.seq (.region [⟨(some 2), (.box (.const (.agg [(.val (.int .i64 0)), (.val (.int .i64 0)), (.val (.int .i64 0)), (.str []), (.val (.int .i64 0))]))), none⟩, ⟨(some 3), (.mov (.const (.c (.val (.int .i64 0))))), none⟩])
 (.seq (.region [⟨(some 4), (.mov (.const (.c (.val (.int .i64 0))))), none⟩])
 (.seq (.seq (.region [⟨(some 7), (.mov (.tmp 0)), none⟩, ⟨(some 8), (.call 137 [(.tmp 7), (.const (.c (.fn (.func 103) [] [])))]), none⟩, ⟨(some 9), (.toBytes (.tmp 8)), none⟩, ⟨(some 10), (.len (.tmp 9)), none⟩, ⟨(some 11), (.mov (.const (.c (.val (.int .i64 0))))), none⟩])
 (.block 0 (.loop a104_c0)))
 (.seq (.seq (.region [⟨(some 25), (.mov (.tmp 0)), none⟩, ⟨(some 26), (.call 99 [(.tmp 25), (.const (.c (.val (.int .i64 0))))]), none⟩, ⟨(some 27), (.call 101 [(.tmp 26)]), none⟩])
 (.cond (.tmp 27) (.seq (.region [⟨(some 28), (.build [(.val (.int .i64 0)), (.val (.int .i64 0)), (.val (.int .i64 0)), (.str []), (.val (.int .i64 0))] []), none⟩, ⟨none, (.store 5 (.tmp 2) (.tmp 28)), none⟩, ⟨(some 3), (.mov (.const (.c (.val (.int .i64 4))))), none⟩])
 .ret) .skip))
 (.seq (.region [⟨(some 29), (.mov (.tmp 4)), none⟩, ⟨(some 30), (.build [(.val (.int .i64 0)), (.val (.int .i64 0)), (.val (.int .i64 0)), (.str []), (.val (.int .i64 0))] [(0, (1, (.const (.c (.val (.int .i64 2)))))), (4, (1, (.tmp 29)))]), none⟩, ⟨none, (.store 5 (.tmp 2) (.tmp 30)), none⟩, ⟨(some 3), (.mov (.const (.c (.val (.int .i64 0))))), none⟩])
 .ret)))))⟩
set_option maxRecDepth 100000 in
theorem c104 : compFunc Tryd.prog 104 = some a104 := by kernel_rfl
def clerestory_jlex_reader_number_post (r : (TJTok × Int × Treader)) : AV → Heap → Nat → Prop := fun v h' n' => v = (.tup [(.agg [cI r.1.Kind, cI r.1.From, cI r.1.To, .str r.1.Text, cI r.1.Num]), (I r.2.1)]) ∧ (h' = (upd (fun _ => none) 0 (some (.cells 3 [[.str r.2.2.f_s, cI r.2.2.f_at, .ro false 5 (r.2.2.f_out.map e_TJTok)]])))) ∧ n' = 1
noncomputable def clerestory_jlex_reader_number_l0 (r_1 : ((List UInt8) × Treader)) (K0_ : Int → Option (TJTok × Int × Treader)) : Nat → Int → Int → Option (TJTok × Int × Treader)
  | 0, _, _ => none
  | k + 1, n_, v11 =>
    if decide (v11 < ((ints r_1.1).length : Int)) then
      (at? (ints r_1.1) v11).bind fun x_ =>
      letIn (decide (9007199254740992 < (wi ((wi (10 * n_)) + (wr .i64 (wr .u8 (x_ - 48))))))) fun v22 : Bool =>
      if v22 then
        some ((⟨0, 0, 0, [], 0⟩ : TJTok), 2, r_1.2)
      else
        (clerestory_jlex_reader_number_l0 r_1 K0_ k) (wi ((wi (10 * n_)) + (wr .i64 (wr .u8 (x_ - 48))))) (wi (v11 + 1))
    else
      K0_ n_
theorem clerestory_jlex_reader_number_l0_ok {mL : Int} {Q : AExit → St → Prop} {r_1 : ((List UInt8) × Treader)} {K0_ : Int → Option (TJTok × Int × Treader)} {k : Nat} {n_ : Int} {v11 : Int} {o : (TJTok × Int × Treader)} (h : clerestory_jlex_reader_number_l0 r_1 K0_ k n_ v11 = some o)
    (hK0 : ∀ (n_1 : Int), K0_ n_1 = some o → ∀ s, Weak 1 s ⟨(upd (upd (upd (fun _ => none) 0 (some (.c (.ref 0 3 0 0)))) 2 (some (.c (.ref 1 5 0 0)))) 4 (some (I n_1))), (upd (upd (fun _ => none) 0 (some (.cells 3 [[.str r_1.2.f_s, cI r_1.2.f_at, .ro false 5 (r_1.2.f_out.map e_TJTok)]]))) 1 (some (.cells 5 [[cI 0, cI 0, cI 0, .str [], cI 0]]))), 2⟩ → Q (.exit 0) s)
    (hr : ∀ s, Ends a104.results 1 (clerestory_jlex_reader_number_post o) .ret s → Q .ret s) :
    Sv Tryd.prog (GG mL) 1 (.loop a104_c0) Q ⟨(upd (upd (upd (upd (upd (upd (fun _ => none) 0 (some (.c (.ref 0 3 0 0)))) 2 (some (.c (.ref 1 5 0 0)))) 4 (some (I n_))) 9 (some (lstV false 2 1 (ints r_1.1).length))) 10 (some (I ((ints r_1.1).length : Int)))) 11 (some (I v11))), (upd (upd (upd (fun _ => none) 0 (some (.cells 3 [[.str r_1.2.f_s, cI r_1.2.f_at, .ro false 5 (r_1.2.f_out.map e_TJTok)]]))) 1 (some (.cells 5 [[cI 0, cI 0, cI 0, .str [], cI 0]]))) 2 (lstB false 1 ((ints r_1.1).map (eK .u8)))), 3⟩ := by
  refine Sv.loop (I := fun k s => ∃ (n_ : Int), ∃ (v11 : Int), clerestory_jlex_reader_number_l0 r_1 K0_ k n_ v11 = some o ∧ s = ⟨(upd (upd (upd (upd (upd (upd (fun _ => none) 0 (some (.c (.ref 0 3 0 0)))) 2 (some (.c (.ref 1 5 0 0)))) 4 (some (I n_))) 9 (some (lstV false 2 1 (ints r_1.1).length))) 10 (some (I ((ints r_1.1).length : Int)))) 11 (some (I v11))), (upd (upd (upd (fun _ => none) 0 (some (.cells 3 [[.str r_1.2.f_s, cI r_1.2.f_at, .ro false 5 (r_1.2.f_out.map e_TJTok)]]))) 1 (some (.cells 5 [[cI 0, cI 0, cI 0, .str [], cI 0]]))) 2 (lstB false 1 ((ints r_1.1).map (eK .u8)))), 3⟩) (fun k s hI => ?_) ⟨n_, v11, h, rfl⟩
  clear h
  clear v11 n_
  obtain ⟨n_, v11, h, rfl⟩ := hI
  cases k with
  | zero => cases h
  | succ k =>
  rw [clerestory_jlex_reader_number_l0] at h
  have hself : ∀ (n_ : Int) (v11 : Int), (clerestory_jlex_reader_number_l0 r_1 K0_ k) n_ v11 = some o → ∀ s, Weak 1 s ⟨(upd (upd (upd (upd (upd (upd (fun _ => none) 0 (some (.c (.ref 0 3 0 0)))) 2 (some (.c (.ref 1 5 0 0)))) 4 (some (I n_))) 9 (some (lstV false 2 1 (ints r_1.1).length))) 10 (some (I ((ints r_1.1).length : Int)))) 11 (some (I v11))), (upd (upd (upd (fun _ => none) 0 (some (.cells 3 [[.str r_1.2.f_s, cI r_1.2.f_at, .ro false 5 (r_1.2.f_out.map e_TJTok)]]))) 1 (some (.cells 5 [[cI 0, cI 0, cI 0, .str [], cI 0]]))) 2 (lstB false 1 ((ints r_1.1).map (eK .u8)))), 3⟩ → (AThen (fun s' => ∃ s'' k', Weak 1 s' s'' ∧ k' < k + 1 ∧ (fun k s => ∃ (n_ : Int), ∃ (v11 : Int), clerestory_jlex_reader_number_l0 r_1 K0_ k n_ v11 = some o ∧ s = ⟨(upd (upd (upd (upd (upd (upd (fun _ => none) 0 (some (.c (.ref 0 3 0 0)))) 2 (some (.c (.ref 1 5 0 0)))) 4 (some (I n_))) 9 (some (lstV false 2 1 (ints r_1.1).length))) 10 (some (I ((ints r_1.1).length : Int)))) 11 (some (I v11))), (upd (upd (upd (fun _ => none) 0 (some (.cells 3 [[.str r_1.2.f_s, cI r_1.2.f_at, .ro false 5 (r_1.2.f_out.map e_TJTok)]]))) 1 (some (.cells 5 [[cI 0, cI 0, cI 0, .str [], cI 0]]))) 2 (lstB false 1 ((ints r_1.1).map (eK .u8)))), 3⟩) k' s'') Q) .normal s := fun n_ v11 h s hw => ⟨_, k, hw, Nat.lt_succ_self k, n_, v11, h, rfl⟩
  refine Sv.seq ?_
  refine Sv.region ?_
  refine un (a1 (v := (B (decide (v11 < ((ints r_1.1).length : Int))))) rfl ?_)
  refine dnil ?_
  refine Sv.seq ?_
  refine Sv.cond (b := decide (v11 < ((ints r_1.1).length : Int))) rfl (fun hc1 => ?_) (fun hc1 => ?_)
  · replace h := ifT hc1 h
    refine Sv.skip ?_
    refine Sv.seq ?_
    refine Sv.block ?_
    refine Sv.seq ?_
    refine Sv.region ?_
    obtain ⟨x_, hx1, h⟩ := bnd h
    refine un (a1 (v := (.c (.ref 2 1 v11.toNat 0))) (s_iaddrL rfl rfl (fun h => by cases h) hx1) ?_)
    refine un (a1 (v := (.c (.val (.int .u8 x_)))) (s_loadL (z := false) (e := (eK .u8)) rfl rfl (fun h => by cases h) hx1 rfl rfl) ?_)
    refine un (a1 rfl ?_)
    refine dnil ?_
    refine Sv.seq ?_
    refine Sv.region ?_
    refine un (a1 rfl ?_)
    refine un (a1 (v := (I (wi (10 * n_)))) rfl ?_)
    refine un (a1 rfl ?_)
    refine un (a1 (v := (.c (.val (.int .u8 (wr .u8 (x_ - 48)))))) rfl ?_)
    refine un (a1 (v := (I (wr .i64 (wr .u8 (x_ - 48))))) rfl ?_)
    refine un (a1 (v := (I (wi ((wi (10 * n_)) + (wr .i64 (wr .u8 (x_ - 48))))))) rfl ?_)
    refine un (a1 rfl ?_)
    refine dnil ?_
    refine Sv.seq ?_
    refine Sv.region ?_
    refine un (a1 rfl ?_)
    obtain ⟨v22, hv22⟩ : ∃ v22 : Bool, v22 = decide (9007199254740992 < (wi ((wi (10 * n_)) + (wr .i64 (wr .u8 (x_ - 48)))))) := ⟨_, rfl⟩
    replace h := letAt hv22 h
    refine un (a1 (v := (B v22)) (by rw [hv22]; rfl) ?_)
    clear hv22
    refine dnil ?_
    refine Sv.cond (b := v22) rfl (fun hc2 => ?_) (fun hc2 => ?_)
    · replace h := ifT hc2 h
      refine Sv.seq ?_
      refine Sv.region ?_
      refine un (a1 (v := (.agg [cI 0, cI 0, cI 0, .str [], cI 0])) rfl ?_)
      refine un (a2n (h' := upd _ 1 (some (.cells 5 [[cI 0, cI 0, cI 0, .str [], cI 0]]))) (n' := 3) rfl rfl (fun h => by cases h) ?_)
      refine un (a1 rfl ?_)
      refine dnil ?_
      refine Sv.ret ?_
      replace h := Option.some.inj h
      subst h
      exact hr _ ⟨_, .refl _, _, rfl, ⟨upd (fun _ => none) 0 (some (.tup [(.agg [cI 0, cI 0, cI 0, .str [], cI 0]), (I 2)])), (upd (fun _ => none) 0 (some (.cells 3 [[.str r_1.2.f_s, cI r_1.2.f_at, .ro false 5 (r_1.2.f_out.map e_TJTok)]]))), 1⟩, (.tup [(.agg [cI 0, cI 0, cI 0, .str [], cI 0]), (I 2)]), weak_canon2 [0] [0] (by decide) (by decide) (by decide) (.cons (by decide) .nil) (.cons rfl (avAs_tup (.cons (avAs_free rfl) (.cons (avAs_free rfl) .nil))) .nil) (.box (by decide) rfl (blkAs_cells (.cons (.same rfl) (.cons (.same rfl) (.cons (.same rfl) .nil)))) .nil), rfl, rfl, rfl, rfl⟩
    · replace h := ifF hc2 h
      refine Sv.skip ?_
      refine Sv.region ?_
      refine un (a1 (v := (I (wi (v11 + 1)))) rfl ?_)
      refine un (a1 rfl ?_)
      refine dnil ?_
      exact hself (wi ((wi (10 * n_)) + (wr .i64 (wr .u8 (x_ - 48))))) (wi (v11 + 1)) h _ (weak_canon [0, 1, 2] rfl (by decide) (by decide) (by decide) (.cons rfl (avAs_free rfl) (.cons rfl (avAs_free rfl) (.cons rfl (.c (lstC_ren rfl (by decide))) (.cons rfl (avAs_free rfl) (.cons rfl (.c (.ref rfl (by decide))) (.cons rfl (.c (.ref rfl (by decide))) .nil)))))) (.row (by decide) rfl (fr_map fun _ => rfl) (.box (by decide) rfl (blkAs_cells (.cons (.same rfl) (.cons (.same rfl) (.cons (.same rfl) (.cons (.same rfl) (.cons (.same rfl) .nil)))))) (.box (by decide) rfl (blkAs_cells (.cons (.same rfl) (.cons (.same rfl) (.cons (.same rfl) .nil)))) .nil))))
  · replace h := ifF hc1 h
    refine Sv.exit ?_
    exact hK0 n_ h _ (weak_canon [0, 1] rfl (by decide) (by decide) (by decide) (.cons rfl (avAs_free rfl) (.cons rfl (.c (.ref rfl (by decide))) (.cons rfl (.c (.ref rfl (by decide))) .nil))) (.box (by decide) rfl (blkAs_cells (.cons (.same rfl) (.cons (.same rfl) (.cons (.same rfl) (.cons (.same rfl) (.cons (.same rfl) .nil)))))) (.box (by decide) rfl (blkAs_cells (.cons (.same rfl) (.cons (.same rfl) (.cons (.same rfl) .nil)))) .nil)))
/-- (*clerestory/jlex.reader).number -/
noncomputable def clerestory_jlex_reader_number (r_ : Treader) : Option (TJTok × Int × Treader) :=
  (clerestory_jlex_reader_run1 r_).bind fun r_1 =>
  lim fun kk => clerestory_jlex_reader_number_l0 r_1 (fun (n_1 : Int) => 
      (clerestory_jlex_reader_peek r_1.2 0).bind fun r_2 =>
      if (jlex_letter r_2) then
        some ((⟨0, 0, 0, [], 0⟩ : TJTok), 4, r_1.2)
      else
        some ((⟨2, 0, 0, [], n_1⟩ : TJTok), 0, r_1.2)) kk 0 0
theorem clerestory_jlex_reader_number_ok {mL : Int} {r_ : Treader} {r : (TJTok × Int × Treader)} (h : clerestory_jlex_reader_number r_ = some r) : ACalls Tryd.prog (GG mL) 104 [(.c (.ref 0 3 0 0))] (upd (fun _ => none) 0 (some (.cells 3 [[.str r_.f_s, cI r_.f_at, .ro false 5 (r_.f_out.map e_TJTok)]]))) 1 (clerestory_jlex_reader_number_post r) := by
  refine acalls_of_sv hmix c104 (R := clerestory_jlex_reader_number_post r) ?_
  unfold clerestory_jlex_reader_number at h
  refine Sv.seq ?_
  refine Sv.region ?_
  refine un (a2v (v := (.c (.ref 1 5 0 0))) (h' := upd _ 1 (some (.cells 5 [[cI 0, cI 0, cI 0, .str [], cI 0]]))) (n' := 2) rfl rfl (fun h => by cases h) ?_)
  refine un (a1 rfl ?_)
  refine dnil ?_
  refine Sv.seq ?_
  refine Sv.region ?_
  refine un (a1 rfl ?_)
  refine dnil ?_
  refine Sv.seq ?_
  refine Sv.seq ?_
  refine Sv.region ?_
  refine un (a1 rfl ?_)
  obtain ⟨r_1, hr1, h⟩ := bnd h
  refine un (ac_gen (bs := [0]) («as» := [(.c (.ref 0 3 0 0)), (.c (.fn (.func 103) [] []))]) (h2 := _) (h1 := (upd (fun _ => none) 0 (some (.cells 3 [[.str r_.f_s, cI r_.f_at, .ro false 5 (r_.f_out.map e_TJTok)]])))) (clerestory_jlex_reader_run1_ok hr1) rfl (.cons (.c (.ref rfl (by decide))) (.cons (avAs_free rfl) .nil)) (hsub_refl _) (.cons rfl (.nil _)) (fun h => by cases h) (by decide) (by decide) (.cons (.c (.ref rfl (by decide))) (.cons (avAs_free rfl) .nil)) (.box (by decide) rfl (blkAs_cells (.cons (.same rfl) (.cons (.same rfl) (.cons (.same rfl) .nil)))) .nil) ?_)
  rintro _ _ _ hn ⟨rfl, rfl, rfl⟩
  refine ⟨.inl rfl, (upd (rem [0] _) 0 (some (.cells 3 [[.str r_1.2.f_s, cI r_1.2.f_at, .ro false 5 (r_1.2.f_out.map e_TJTok)]]))), fun hbd => (m3_cons (m3_box rfl rfl) (m3_rem (in_cons (by decide) (in_nil _)) (.cons (by decide) .nil) hbd)), (S r_1.1), 2, rfl, rfl, ?_⟩
  refine un (a2v (v := (lstV false 2 1 (ints r_1.1).length)) (h' := upd _ 2 (lstB false 1 ((ints r_1.1).map (eK .u8)))) (n' := 3) rfl (s_toBytes rfl) (fun h => by cases h) ?_)
  refine un (a1 (v := (I ((ints r_1.1).length : Int))) (s_lenL rfl (len_nil_of (fun h => by cases h))) ?_)
  refine un (a1 rfl ?_)
  refine dnil ?_
  refine Sv.block ?_
  obtain ⟨kk, h⟩ := lim_some h
  refine Sv.weak (weak_canon [0, 1, 2] rfl (by decide) (by decide) (by decide) (.cons rfl (avAs_free rfl) (.cons rfl (avAs_free rfl) (.cons rfl (.c (lstC_ren rfl (by decide))) (.cons rfl (avAs_free rfl) (.cons rfl (.c (.ref rfl (by decide))) (.cons rfl (.c (.ref rfl (by decide))) .nil)))))) (.row (by decide) rfl (fr_map fun _ => rfl) (.box (by decide) rfl (blkAs_cells (.cons (.same rfl) (.cons (.same rfl) (.cons (.same rfl) (.cons (.same rfl) (.cons (.same rfl) .nil)))))) (.box (by decide) rfl (blkAs_cells (.cons (.same rfl) (.cons (.same rfl) (.cons (.same rfl) .nil)))) .nil)))) (clerestory_jlex_reader_number_l0_ok h ?_ (fun s hs => hs))
  · intro n_1 h _ hw1
    refine Sv.weak hw1 ?_
    refine Sv.seq ?_
    refine Sv.seq ?_
    refine Sv.region ?_
    refine un (a1 rfl ?_)
    obtain ⟨r_2, hr2, h⟩ := bnd h
    refine un (ac_lend (h2 := (upd _ 0 none)) (clerestory_jlex_reader_peek_ok hr2) rfl (.cons (.c (ref_ro rfl (gone rfl) (.cons (.same rfl) (.cons (.same rfl) (.cons (.same rfl) .nil))) rfl)) (.cons (avAs_free rfl) .nil)) (hsub_none (hsub_refl _)) rfl rfl (.inr rfl) ?_)
    refine un (ac_pure (jlex_letter_ok (mL := mL) r_2) rfl rfl rfl ?_)
    refine dnil ?_
    refine Sv.cond (b := (jlex_letter r_2)) rfl (fun hc3 => ?_) (fun hc3 => ?_)
    · replace h := ifT hc3 h
      refine Sv.seq ?_
      refine Sv.region ?_
      refine un (a1 (v := (.agg [cI 0, cI 0, cI 0, .str [], cI 0])) rfl ?_)
      refine un (a2n (h' := upd _ 1 (some (.cells 5 [[cI 0, cI 0, cI 0, .str [], cI 0]]))) (n' := 2) rfl rfl (fun h => by cases h) ?_)
      refine un (a1 rfl ?_)
      refine dnil ?_
      refine Sv.ret ?_
      replace h := Option.some.inj h
      subst h
      exact ⟨_, .refl _, _, rfl, ⟨upd (fun _ => none) 0 (some (.tup [(.agg [cI 0, cI 0, cI 0, .str [], cI 0]), (I 4)])), (upd (fun _ => none) 0 (some (.cells 3 [[.str r_1.2.f_s, cI r_1.2.f_at, .ro false 5 (r_1.2.f_out.map e_TJTok)]]))), 1⟩, (.tup [(.agg [cI 0, cI 0, cI 0, .str [], cI 0]), (I 4)]), weak_canon2 [0] [0] (by decide) (by decide) (by decide) (.cons (by decide) .nil) (.cons rfl (avAs_tup (.cons (avAs_free rfl) (.cons (avAs_free rfl) .nil))) .nil) (.box (by decide) rfl (blkAs_cells (.cons (.same rfl) (.cons (.same rfl) (.cons (.same rfl) .nil)))) .nil), rfl, rfl, rfl, rfl⟩
    · replace h := ifF hc3 h
      refine Sv.skip ?_
      refine Sv.seq ?_
      refine Sv.region ?_
      refine un (a1 rfl ?_)
      refine un (a1 (v := (.agg [cI 2, cI 0, cI 0, .str [], cI n_1])) rfl ?_)
      refine un (a2n (h' := upd _ 1 (some (.cells 5 [[cI 2, cI 0, cI 0, .str [], cI n_1]]))) (n' := 2) rfl rfl (fun h => by cases h) ?_)
      refine un (a1 rfl ?_)
      refine dnil ?_
      refine Sv.ret ?_
      replace h := Option.some.inj h
      subst h
      exact ⟨_, .refl _, _, rfl, ⟨upd (fun _ => none) 0 (some (.tup [(.agg [cI 2, cI 0, cI 0, .str [], cI n_1]), (I 0)])), (upd (fun _ => none) 0 (some (.cells 3 [[.str r_1.2.f_s, cI r_1.2.f_at, .ro false 5 (r_1.2.f_out.map e_TJTok)]]))), 1⟩, (.tup [(.agg [cI 2, cI 0, cI 0, .str [], cI n_1]), (I 0)]), weak_canon2 [0] [0] (by decide) (by decide) (by decide) (.cons (by decide) .nil) (.cons rfl (avAs_tup (.cons (avAs_free rfl) (.cons (avAs_free rfl) .nil))) .nil) (.box (by decide) rfl (blkAs_cells (.cons (.same rfl) (.cons (.same rfl) (.cons (.same rfl) .nil)))) .nil), rfl, rfl, rfl, rfl⟩
def a168 : AFunc := ⟨1, [(.tmp 2)], (.seq (.region [⟨(some 2), (.mov (.const (.c (.val (.int .i64 0))))), none⟩])
 (.seq (.region [⟨(some 3), (.mov (.tmp 0)), none⟩, ⟨(some 4), (.call 100 [(.const (.c (.str [48, 49, 50, 51, 52, 53, 54, 55, 56, 57, 97, 98, 99, 100, 101, 102]))), (.tmp 3)]), none⟩, ⟨(some 2), (.mov (.tmp 4)), none⟩])
 .ret))⟩
set_option maxRecDepth 100000 in
theorem c168 : compFunc Tryd.prog 168 = some a168 := by kernel_rfl
def jlex_hex_post (r : Int) : AV → Heap → Nat → Prop := fun v h' n' => v = (I r) ∧ (h' = (fun _ => none)) ∧ n' = 0
/-- clerestory/jlex.hex -/
noncomputable def jlex_hex (c_ : Int) : Option Int :=
  (strings_IndexByte [48, 49, 50, 51, 52, 53, 54, 55, 56, 57, 97, 98, 99, 100, 101, 102] c_).bind fun r_ =>
  some r_
theorem jlex_hex_ok {mL : Int} {c_ : Int} {r : Int} (h : jlex_hex c_ = some r) : CPure Tryd.prog (GG mL) 168 [(.c (.val (.int .u8 c_)))] (I r) := by
  refine acalls_of_sv hmix c168 (R := jlex_hex_post r) ?_
  unfold jlex_hex at h
  refine Sv.seq ?_
  refine Sv.region ?_
  refine un (a1 rfl ?_)
  refine dnil ?_
  refine Sv.seq ?_
  refine Sv.region ?_
  refine un (a1 rfl ?_)
  obtain ⟨r_, hr1, h⟩ := bnd h
  refine un (ac_pure (strings_IndexByte_ok hr1) rfl rfl rfl ?_)
  refine un (a1 rfl ?_)
  refine dnil ?_
  refine Sv.ret ?_
  replace h := Option.some.inj h
  subst h
  exact ⟨_, .refl _, _, rfl, ⟨upd (fun _ => none) 0 (some (I r_)), (fun _ => none), 0⟩, (I r_), weak_canon [] rfl List.nodup_nil (Nat.le_refl _) (fun b h => absurd h (Nat.not_lt_zero _)) (.cons rfl (avAs_free rfl) .nil) .nil, rfl, rfl, rfl, rfl⟩
def a140_c0 : ACode := (.cond (.tmp 10) (.seq (.region [⟨(some 13), (.mov (.tmp 4)), none⟩, ⟨(some 2), (.mov (.tmp 13)), none⟩, ⟨(some 3), (.mov (.const (.c (.val (.int .i64 1))))), none⟩])
 .ret) (.seq (.region [⟨(some 15), (.bin .eql (.tmp 9) (.const (.c (.val (.int .u8 110))))), none⟩, ⟨(some 14), (.mov (.tmp 15)), none⟩])
 (.cond (.tmp 14) (.seq (.region [⟨(some 2), (.mov (.const (.c (.val (.int .u8 10))))), none⟩, ⟨(some 3), (.mov (.const (.c (.val (.int .i64 1))))), none⟩])
 .ret) (.seq (.region [⟨(some 17), (.bin .eql (.tmp 9) (.const (.c (.val (.int .u8 116))))), none⟩, ⟨(some 16), (.mov (.tmp 17)), none⟩])
 (.cond (.tmp 16) (.seq (.region [⟨(some 2), (.mov (.const (.c (.val (.int .u8 9))))), none⟩, ⟨(some 3), (.mov (.const (.c (.val (.int .i64 1))))), none⟩])
 .ret) (.seq (.region [⟨(some 19), (.bin .eql (.tmp 9) (.const (.c (.val (.int .u8 120))))), none⟩, ⟨(some 18), (.mov (.tmp 19)), none⟩])
 (.cond (.tmp 18) (.seq (.region [⟨(some 20), (.mov (.tmp 0)), none⟩, ⟨(some 21), (.call 99 [(.tmp 20), (.const (.c (.val (.int .i64 1))))]), none⟩, ⟨(some 22), (.call 168 [(.tmp 21)]), none⟩, ⟨(some 23), (.mov (.tmp 0)), none⟩, ⟨(some 24), (.call 99 [(.tmp 23), (.const (.c (.val (.int .i64 2))))]), none⟩, ⟨(some 25), (.call 168 [(.tmp 24)]), none⟩, ⟨(some 5), (.mov (.tmp 22)), none⟩, ⟨(some 6), (.mov (.tmp 25)), none⟩])
 (.seq (.region [⟨(some 26), (.mov (.tmp 5)), none⟩, ⟨(some 27), (.bin .geq (.tmp 26) (.const (.c (.val (.int .i64 0))))), none⟩, ⟨(some 28), (.mov (.tmp 27)), none⟩, ⟨(some 29), (.mov (.tmp 6)), (some (28, true))⟩, ⟨(some 30), (.bin .geq (.tmp 29) (.const (.c (.val (.int .i64 0))))), (some (28, true))⟩, ⟨(some 31), (.pick (.tmp 28) (.tmp 30) (.const (.c (.val (.bool false))))), none⟩])
 (.cond (.tmp 31) (.seq (.region [⟨(some 32), (.mov (.tmp 5)), none⟩, ⟨(some 33), (.bin .shl (.tmp 32) (.const (.c (.val (.int .u64 4))))), none⟩, ⟨(some 34), (.mov (.tmp 6)), none⟩, ⟨(some 35), (.bin .or (.tmp 33) (.tmp 34)), none⟩, ⟨(some 36), (.conv .u8 (.tmp 35)), none⟩, ⟨(some 2), (.mov (.tmp 36)), none⟩, ⟨(some 3), (.mov (.const (.c (.val (.int .i64 3))))), none⟩])
 .ret) .skip))) .skip)))))))
def a140_c1 : ACode := (.seq (.region [⟨(some 2), (.mov (.const (.c (.val (.int .u8 0))))), none⟩, ⟨(some 3), (.mov (.const (.c (.val (.int .i64 0))))), none⟩])
 .ret)
def a140 : AFunc := ⟨1, [(.tmp 2), (.tmp 3)], (.seq (.region [⟨(some 2), (.mov (.const (.c (.val (.int .u8 0))))), none⟩, ⟨(some 3), (.mov (.const (.c (.val (.int .i64 0))))), none⟩])
 (.seq (.seq (.region [⟨(some 7), (.mov (.tmp 0)), none⟩, ⟨(some 8), (.call 99 [(.tmp 7), (.const (.c (.val (.int .i64 0))))]), none⟩, ⟨(some 4), (.mov (.tmp 8)), none⟩])
 (.seq (.region [⟨(some 9), (.mov (.tmp 4)), none⟩])
 (.block 0 (.seq (.seq (.region [⟨(some 11), (.bin .eql (.tmp 9) (.const (.c (.val (.int .u8 34))))), none⟩, ⟨(some 10), (.mov (.tmp 11)), none⟩])
 (.cond (.tmp 10) .skip (.region [⟨(some 12), (.bin .eql (.tmp 9) (.const (.c (.val (.int .u8 92))))), none⟩, ⟨(some 10), (.mov (.tmp 12)), none⟩])))
 a140_c0))))
 a140_c1))⟩
set_option maxRecDepth 100000 in
theorem c140 : compFunc Tryd.prog 140 = some a140 := by kernel_rfl
def clerestory_jlex_reader_escape_post (r : (Int × Int)) : AV → Heap → Nat → Prop := fun v h' n' => v = (.tup [(.c (.val (.int .u8 r.1))), (I r.2)]) ∧ (h' = (fun _ => none)) ∧ n' = 0
noncomputable def clerestory_jlex_reader_escape_j3 : Option (Int × Int) :=
  some (0, 0)
theorem clerestory_jlex_reader_escape_j3_ok {mL : Int} {o : (Int × Int)} (h : clerestory_jlex_reader_escape_j3 = some o) :
    Sv Tryd.prog (GG mL) 0 a140_c1 (Ends a140.results 0 (clerestory_jlex_reader_escape_post o)) ⟨(fun _ => none), (fun _ => none), 0⟩ := by
  unfold clerestory_jlex_reader_escape_j3 at h
  refine Sv.seq ?_
  refine Sv.region ?_
  refine un (a1 rfl ?_)
  refine un (a1 rfl ?_)
  refine dnil ?_
  refine Sv.ret ?_
  replace h := Option.some.inj h
  subst h
  exact ⟨_, .refl _, _, rfl, ⟨upd (fun _ => none) 0 (some (.tup [(.c (.val (.int .u8 0))), (I 0)])), (fun _ => none), 0⟩, (.tup [(.c (.val (.int .u8 0))), (I 0)]), weak_canon [] rfl List.nodup_nil (Nat.le_refl _) (fun b h => absurd h (Nat.not_lt_zero _)) (.cons rfl (avAs_tup (.cons (avAs_free rfl) (.cons (avAs_free rfl) .nil))) .nil) .nil, rfl, rfl, rfl, rfl⟩
abbrev clerestory_jlex_reader_escape_q0 (mL : Int) (o : (Int × Int)) : AExit → St → Prop := AThen (Sv Tryd.prog (GG mL) 0 a140_c1 (Ends a140.results 0 (clerestory_jlex_reader_escape_post o))) (Ends a140.results 0 (clerestory_jlex_reader_escape_post o))
abbrev clerestory_jlex_reader_escape_q1 (mL : Int) (o : (Int × Int)) : AExit → St → Prop := ABlock 0 (clerestory_jlex_reader_escape_q0 mL o)
noncomputable def clerestory_jlex_reader_escape_j4 (r_1 : Int) (r_ : Treader) (v10 : Bool) : Option (Int × Int) :=
  if v10 then
    some (r_1, 1)
  else
    if decide (r_1 = 110) then
      some (10, 1)
    else
      if decide (r_1 = 116) then
        some (9, 1)
      else
        if decide (r_1 = 120) then
          (clerestory_jlex_reader_peek r_ 1).bind fun r_2 =>
          (jlex_hex r_2).bind fun r_3 =>
          (clerestory_jlex_reader_peek r_ 2).bind fun r_4 =>
          (jlex_hex r_4).bind fun r_5 =>
          if ((decide (0 ≤ r_3)) && (decide (0 ≤ r_5))) then
            some ((wr .u8 (bitsV .or .i64 (shl .i64 r_3 4) r_5)), 3)
          else
            clerestory_jlex_reader_escape_j3
        else
          clerestory_jlex_reader_escape_j3
theorem clerestory_jlex_reader_escape_j4_ok {mL : Int} {r_1 : Int} {r_ : Treader} {v10 : Bool} {o : (Int × Int)} (h : clerestory_jlex_reader_escape_j4 r_1 r_ v10 = some o) :
    Sv Tryd.prog (GG mL) 0 a140_c0 (clerestory_jlex_reader_escape_q1 mL o) ⟨(upd (upd (upd (upd (fun _ => none) 0 (some (.c (.rop [.str r_.f_s, cI r_.f_at, .ro false 5 (r_.f_out.map e_TJTok)])))) 4 (some (.c (.val (.int .u8 r_1))))) 9 (some (.c (.val (.int .u8 r_1))))) 10 (some (B v10))), (fun _ => none), 0⟩ := by
  unfold clerestory_jlex_reader_escape_j4 at h
  refine Sv.cond (b := v10) rfl (fun hc1 => ?_) (fun hc1 => ?_)
  · replace h := ifT hc1 h
    refine Sv.seq ?_
    refine Sv.region ?_
    refine un (a1 rfl ?_)
    refine un (a1 rfl ?_)
    refine un (a1 rfl ?_)
    refine dnil ?_
    refine Sv.ret ?_
    replace h := Option.some.inj h
    subst h
    exact ⟨_, .refl _, _, rfl, ⟨upd (fun _ => none) 0 (some (.tup [(.c (.val (.int .u8 r_1))), (I 1)])), (fun _ => none), 0⟩, (.tup [(.c (.val (.int .u8 r_1))), (I 1)]), weak_canon [] rfl List.nodup_nil (Nat.le_refl _) (fun b h => absurd h (Nat.not_lt_zero _)) (.cons rfl (avAs_tup (.cons (avAs_free rfl) (.cons (avAs_free rfl) .nil))) .nil) .nil, rfl, rfl, rfl, rfl⟩
  · replace h := ifF hc1 h
    refine Sv.seq ?_
    refine Sv.region ?_
    refine un (a1 (v := (B (decide (r_1 = 110)))) rfl ?_)
    refine un (a1 rfl ?_)
    refine dnil ?_
    refine Sv.cond (b := decide (r_1 = 110)) rfl (fun hc2 => ?_) (fun hc2 => ?_)
    · replace h := ifT hc2 h
      refine Sv.seq ?_
      refine Sv.region ?_
      refine un (a1 rfl ?_)
      refine un (a1 rfl ?_)
      refine dnil ?_
      refine Sv.ret ?_
      replace h := Option.some.inj h
      subst h
      exact ⟨_, .refl _, _, rfl, ⟨upd (fun _ => none) 0 (some (.tup [(.c (.val (.int .u8 10))), (I 1)])), (fun _ => none), 0⟩, (.tup [(.c (.val (.int .u8 10))), (I 1)]), weak_canon [] rfl List.nodup_nil (Nat.le_refl _) (fun b h => absurd h (Nat.not_lt_zero _)) (.cons rfl (avAs_tup (.cons (avAs_free rfl) (.cons (avAs_free rfl) .nil))) .nil) .nil, rfl, rfl, rfl, rfl⟩
    · replace h := ifF hc2 h
      refine Sv.seq ?_
      refine Sv.region ?_
      refine un (a1 (v := (B (decide (r_1 = 116)))) rfl ?_)
      refine un (a1 rfl ?_)
      refine dnil ?_
      refine Sv.cond (b := decide (r_1 = 116)) rfl (fun hc3 => ?_) (fun hc3 => ?_)
      · replace h := ifT hc3 h
        refine Sv.seq ?_
        refine Sv.region ?_
        refine un (a1 rfl ?_)
        refine un (a1 rfl ?_)
        refine dnil ?_
        refine Sv.ret ?_
        replace h := Option.some.inj h
        subst h
        exact ⟨_, .refl _, _, rfl, ⟨upd (fun _ => none) 0 (some (.tup [(.c (.val (.int .u8 9))), (I 1)])), (fun _ => none), 0⟩, (.tup [(.c (.val (.int .u8 9))), (I 1)]), weak_canon [] rfl List.nodup_nil (Nat.le_refl _) (fun b h => absurd h (Nat.not_lt_zero _)) (.cons rfl (avAs_tup (.cons (avAs_free rfl) (.cons (avAs_free rfl) .nil))) .nil) .nil, rfl, rfl, rfl, rfl⟩
      · replace h := ifF hc3 h
        refine Sv.seq ?_
        refine Sv.region ?_
        refine un (a1 (v := (B (decide (r_1 = 120)))) rfl ?_)
        refine un (a1 rfl ?_)
        refine dnil ?_
        refine Sv.cond (b := decide (r_1 = 120)) rfl (fun hc4 => ?_) (fun hc4 => ?_)
        · replace h := ifT hc4 h
          refine Sv.seq ?_
          refine Sv.region ?_
          refine un (a1 rfl ?_)
          obtain ⟨r_2, hr2, h⟩ := bnd h
          refine un (ac_pure (clerestory_jlex_reader_peek_ok hr2) rfl rfl rfl ?_)
          obtain ⟨r_3, hr3, h⟩ := bnd h
          refine un (ac_pure (jlex_hex_ok hr3) rfl rfl rfl ?_)
          refine un (a1 rfl ?_)
          obtain ⟨r_4, hr4, h⟩ := bnd h
          refine un (ac_pure (clerestory_jlex_reader_peek_ok hr4) rfl rfl rfl ?_)
          obtain ⟨r_5, hr5, h⟩ := bnd h
          refine un (ac_pure (jlex_hex_ok hr5) rfl rfl rfl ?_)
          refine un (a1 rfl ?_)
          refine un (a1 rfl ?_)
          refine dnil ?_
          refine Sv.seq ?_
          refine Sv.region ?_
          refine un (a1 rfl ?_)
          refine un (a1 (v := (B (decide (0 ≤ r_3)))) rfl ?_)
          refine un (a1 rfl ?_)
          refine gjoin 3 (d := 31) (v := (B ((decide (0 ≤ r_3)) && (decide (0 ≤ r_5))))) (fun X hX => ?_) ?_
          · refine split2 (fun hc5 => ?_) (fun hc5 => ?_)
            · refine gt rfl (a1 rfl ?_)
              refine gt rfl (a1 (v := (B (decide (0 ≤ r_5)))) rfl ?_)
              refine un (a1 (v := (B (decide (0 ≤ r_5)))) rfl ?_)
              refine dnil ?_
              exact hX _ (.putEq (by rw [hc5]; rfl) (.skip _ _ (.skip _ _ (.putEq (by rw [hc5]) (.refl _)) rfl) rfl))
            · refine gs rfl rfl ?_
              refine gs rfl rfl ?_
              refine un (a1 (v := (B false)) rfl ?_)
              refine dnil ?_
              exact hX _ (.putEq (by rw [hc5]; rfl) (.skip _ _ (.skip _ _ (.putEq (by rw [hc5]) (.refl _)) rfl) rfl))
          refine dnil ?_
          refine Sv.cond (b := ((decide (0 ≤ r_3)) && (decide (0 ≤ r_5)))) rfl (fun hc6 => ?_) (fun hc6 => ?_)
          · replace h := ifT hc6 h
            refine Sv.seq ?_
            refine Sv.region ?_
            refine un (a1 rfl ?_)
            refine un (a1 (v := (I (shl .i64 r_3 4))) rfl ?_)
            refine un (a1 rfl ?_)
            refine un (a1 (v := (I (bitsV .or .i64 (shl .i64 r_3 4) r_5))) rfl ?_)
            refine un (a1 (v := (.c (.val (.int .u8 (wr .u8 (bitsV .or .i64 (shl .i64 r_3 4) r_5)))))) rfl ?_)
            refine un (a1 rfl ?_)
            refine un (a1 rfl ?_)
            refine dnil ?_
            refine Sv.ret ?_
            replace h := Option.some.inj h
            subst h
            exact ⟨_, .refl _, _, rfl, ⟨upd (fun _ => none) 0 (some (.tup [(.c (.val (.int .u8 (wr .u8 (bitsV .or .i64 (shl .i64 r_3 4) r_5))))), (I 3)])), (fun _ => none), 0⟩, (.tup [(.c (.val (.int .u8 (wr .u8 (bitsV .or .i64 (shl .i64 r_3 4) r_5))))), (I 3)]), weak_canon [] rfl List.nodup_nil (Nat.le_refl _) (fun b h => absurd h (Nat.not_lt_zero _)) (.cons rfl (avAs_tup (.cons (avAs_free rfl) (.cons (avAs_free rfl) .nil))) .nil) .nil, rfl, rfl, rfl, rfl⟩
          · replace h := ifF hc6 h
            refine Sv.skip ?_
            exact Sv.weak (weak_canon [] rfl (by decide) (by decide) (fun b h => absurd h (Nat.not_lt_zero _)) .nil .nil) (clerestory_jlex_reader_escape_j3_ok h)
        · replace h := ifF hc4 h
          refine Sv.skip ?_
          exact Sv.weak (weak_canon [] rfl (by decide) (by decide) (fun b h => absurd h (Nat.not_lt_zero _)) .nil .nil) (clerestory_jlex_reader_escape_j3_ok h)
/-- (*clerestory/jlex.reader).escape -/
noncomputable def clerestory_jlex_reader_escape (r_ : Treader) : Option (Int × Int) :=
  (clerestory_jlex_reader_peek r_ 0).bind fun r_1 =>
  if decide (r_1 = 34) then
    clerestory_jlex_reader_escape_j4 r_1 r_ (decide (r_1 = 34))
  else
    clerestory_jlex_reader_escape_j4 r_1 r_ (decide (r_1 = 92))
theorem clerestory_jlex_reader_escape_ok {mL : Int} {r_ : Treader} {r : (Int × Int)} (h : clerestory_jlex_reader_escape r_ = some r) : CPure Tryd.prog (GG mL) 140 [(.c (.rop [.str r_.f_s, cI r_.f_at, .ro false 5 (r_.f_out.map e_TJTok)]))] (.tup [(.c (.val (.int .u8 r.1))), (I r.2)]) := by
  refine acalls_of_sv hmix c140 (R := clerestory_jlex_reader_escape_post r) ?_
  unfold clerestory_jlex_reader_escape at h
  refine Sv.seq ?_
  refine Sv.region ?_
  refine un (a1 rfl ?_)
  refine un (a1 rfl ?_)
  refine dnil ?_
  refine Sv.seq ?_
  refine Sv.seq ?_
  refine Sv.region ?_
  refine un (a1 rfl ?_)
  obtain ⟨r_1, hr1, h⟩ := bnd h
  refine un (ac_pure (clerestory_jlex_reader_peek_ok hr1) rfl rfl rfl ?_)
  refine un (a1 rfl ?_)
  refine dnil ?_
  refine Sv.seq ?_
  refine Sv.region ?_
  refine un (a1 rfl ?_)
  refine dnil ?_
  refine Sv.block ?_
  refine Sv.seq ?_
  refine Sv.seq ?_
  refine Sv.region ?_
  refine un (a1 (v := (B (decide (r_1 = 34)))) rfl ?_)
  refine un (a1 rfl ?_)
  refine dnil ?_
  refine Sv.cond (b := decide (r_1 = 34)) rfl (fun hc7 => ?_) (fun hc7 => ?_)
  · replace h := ifT hc7 h
    refine Sv.skip ?_
    exact Sv.weak (weak_canon [] rfl (by decide) (by decide) (fun b h => absurd h (Nat.not_lt_zero _)) (.cons rfl (avAs_free rfl) (.cons rfl (avAs_free rfl) (.cons rfl (avAs_free rfl) (.cons rfl (avAs_free rfl) .nil)))) .nil) (clerestory_jlex_reader_escape_j4_ok h)
  · replace h := ifF hc7 h
    refine Sv.region ?_
    refine un (a1 (v := (B (decide (r_1 = 92)))) rfl ?_)
    refine un (a1 rfl ?_)
    refine dnil ?_
    exact Sv.weak (weak_canon [] rfl (by decide) (by decide) (fun b h => absurd h (Nat.not_lt_zero _)) (.cons rfl (avAs_free rfl) (.cons rfl (avAs_free rfl) (.cons rfl (avAs_free rfl) (.cons rfl (avAs_free rfl) .nil)))) .nil) (clerestory_jlex_reader_escape_j4_ok h)
def a105_c0 : ACode := (.region [⟨(some 71), (.mov (.tmp 4)), none⟩, ⟨(some 72), (.mov (.tmp 5)), none⟩, ⟨(some 73), (.bslice 1 [(.val (.int .u8 0))] 1 [(0, (.tmp 72))]), none⟩, ⟨(some 74), (.app 1 1 (.tmp 71) (.tmp 73)), none⟩, ⟨(some 4), (.mov (.tmp 74)), none⟩])
def a105_c1 : ACode := (.seq (.seq (.drawn (.fin [(⟨(some 15), (.mov (.tmp 0)), none⟩, (0, 0)), (⟨(some 16), (.nilc (.tmp 15)), none⟩, (0, 1)), (⟨(some 17), (.faddr 1 (.tmp 16)), none⟩, (0, 2)), (⟨(some 18), (.load false 1 (.tmp 17)), none⟩, (0, 3)), (⟨(some 19), (.mov (.tmp 0)), none⟩, (0, 4)), (⟨(some 20), (.nilc (.tmp 19)), none⟩, (0, 5)), (⟨(some 21), (.faddr 0 (.tmp 20)), none⟩, (0, 6)), (⟨(some 22), (.load false 1 (.tmp 21)), none⟩, (0, 7)), (⟨(some 23), (.lenS (.tmp 22)), none⟩, (0, 8)), (⟨(some 24), (.bin .lss (.tmp 18) (.tmp 23)), none⟩, (0, 9))]))
 (.cond (.tmp 24) .skip (.exit 0)))
 (.block 1 (.seq (.drawn (.fin [(⟨(some 25), (.mov (.tmp 0)), none⟩, (0, 0)), (⟨(some 26), (.nilc (.tmp 25)), none⟩, (0, 1)), (⟨(some 27), (.faddr 0 (.tmp 26)), none⟩, (0, 2)), (⟨(some 28), (.load false 1 (.tmp 27)), none⟩, (0, 3)), (⟨(some 29), (.mov (.tmp 0)), none⟩, (0, 4)), (⟨(some 30), (.nilc (.tmp 29)), none⟩, (0, 5)), (⟨(some 31), (.faddr 1 (.tmp 30)), none⟩, (0, 6)), (⟨(some 32), (.load false 1 (.tmp 31)), none⟩, (0, 7)), (⟨(some 33), (.idxS (.tmp 28) (.tmp 32)), none⟩, (0, 8)), (⟨(some 5), (.mov (.tmp 33)), none⟩, (0, 9))]))
 (.seq (.region [⟨(some 34), (.mov (.tmp 0)), none⟩, ⟨(some 35), (.nilc (.tmp 34)), none⟩, ⟨(some 36), (.faddr 1 (.tmp 35)), none⟩, ⟨(some 37), (.load false 1 (.tmp 36)), none⟩, ⟨(some 38), (.bin .add (.tmp 37) (.const (.c (.val (.int .i64 1))))), none⟩, ⟨(some 39), (.nilc (.tmp 34)), none⟩, ⟨(some 40), (.faddr 1 (.tmp 39)), none⟩, ⟨none, (.store 1 (.tmp 40) (.tmp 38)), none⟩])
 (.seq (.block 2 (.seq (.region [⟨(some 42), (.mov (.tmp 5)), none⟩, ⟨(some 43), (.bin .eql (.tmp 42) (.const (.c (.val (.int .u8 34))))), none⟩, ⟨(some 41), (.mov (.tmp 43)), none⟩])
 (.cond (.tmp 41) (.seq (.region [⟨(some 44), (.mov (.tmp 4)), none⟩, ⟨(some 45), (.ofBytes (.tmp 44)), none⟩, ⟨(some 46), (.build [(.val (.int .i64 0)), (.val (.int .i64 0)), (.val (.int .i64 0)), (.str []), (.val (.int .i64 0))] [(0, (1, (.const (.c (.val (.int .i64 3)))))), (3, (1, (.tmp 45)))]), none⟩, ⟨none, (.store 5 (.tmp 2) (.tmp 46)), none⟩, ⟨(some 3), (.mov (.const (.c (.val (.int .i64 0))))), none⟩])
 .ret) (.seq (.region [⟨(some 48), (.mov (.tmp 5)), none⟩, ⟨(some 49), (.bin .lss (.tmp 48) (.const (.c (.val (.int .u8 32))))), none⟩, ⟨(some 47), (.mov (.tmp 49)), none⟩])
 (.cond (.tmp 47) (.seq (.region [⟨(some 50), (.build [(.val (.int .i64 0)), (.val (.int .i64 0)), (.val (.int .i64 0)), (.str []), (.val (.int .i64 0))] []), none⟩, ⟨none, (.store 5 (.tmp 2) (.tmp 50)), none⟩, ⟨(some 3), (.mov (.const (.c (.val (.int .i64 4))))), none⟩])
 .ret) (.seq (.region [⟨(some 52), (.mov (.tmp 5)), none⟩, ⟨(some 53), (.bin .eql (.tmp 52) (.const (.c (.val (.int .u8 92))))), none⟩, ⟨(some 51), (.mov (.tmp 53)), none⟩])
 (.cond (.tmp 51) (.seq (.region [⟨(some 55), (.mov (.tmp 0)), none⟩, ⟨(some 56), (.call 140 [(.tmp 55)]), none⟩, ⟨(some 54), (.mov (.tmp 56)), none⟩, ⟨(some 57), (.ext (.tmp 54) 0), none⟩, ⟨(some 58), (.ext (.tmp 54) 1), none⟩, ⟨(some 6), (.mov (.tmp 57)), none⟩, ⟨(some 7), (.mov (.tmp 58)), none⟩])
 (.seq (.seq (.region [⟨(some 59), (.mov (.tmp 7)), none⟩, ⟨(some 60), (.bin .eql (.tmp 59) (.const (.c (.val (.int .i64 0))))), none⟩])
 (.cond (.tmp 60) (.seq (.region [⟨(some 61), (.build [(.val (.int .i64 0)), (.val (.int .i64 0)), (.val (.int .i64 0)), (.str []), (.val (.int .i64 0))] []), none⟩, ⟨none, (.store 5 (.tmp 2) (.tmp 61)), none⟩, ⟨(some 3), (.mov (.const (.c (.val (.int .i64 4))))), none⟩])
 .ret) .skip))
 (.seq (.region [⟨(some 62), (.mov (.tmp 6)), none⟩, ⟨(some 5), (.mov (.tmp 62)), none⟩])
 (.region [⟨(some 63), (.mov (.tmp 0)), none⟩, ⟨(some 64), (.nilc (.tmp 63)), none⟩, ⟨(some 65), (.faddr 1 (.tmp 64)), none⟩, ⟨(some 66), (.load false 1 (.tmp 65)), none⟩, ⟨(some 67), (.mov (.tmp 7)), none⟩, ⟨(some 68), (.bin .add (.tmp 66) (.tmp 67)), none⟩, ⟨(some 69), (.nilc (.tmp 63)), none⟩, ⟨(some 70), (.faddr 1 (.tmp 69)), none⟩, ⟨none, (.store 1 (.tmp 70) (.tmp 68)), none⟩])))) .skip)))))))
 a105_c0)))))
def a105 : AFunc := ⟨1, [(.cell true 5 2), (.tmp 3)], (.seq (.region [⟨(some 2), (.box (.const (.agg [(.val (.int .i64 0)), (.val (.int .i64 0)), (.val (.int .i64 0)), (.str []), (.val (.int .i64 0))]))), none⟩, ⟨(some 3), (.mov (.const (.c (.val (.int .i64 0))))), none⟩])
 (.seq (.region [⟨(some 4), (.mov (.const (.c (.ro true 1 [])))), none⟩])
 (.seq (.seq (.region [⟨(some 8), (.mov (.tmp 0)), none⟩, ⟨(some 9), (.nilc (.tmp 8)), none⟩, ⟨(some 10), (.faddr 1 (.tmp 9)), none⟩, ⟨(some 11), (.load false 1 (.tmp 10)), none⟩, ⟨(some 12), (.bin .add (.tmp 11) (.const (.c (.val (.int .i64 1))))), none⟩, ⟨(some 13), (.nilc (.tmp 8)), none⟩, ⟨(some 14), (.faddr 1 (.tmp 13)), none⟩, ⟨none, (.store 1 (.tmp 14) (.tmp 12)), none⟩])
 (.block 0 (.loop a105_c1)))
 (.seq (.region [⟨(some 75), (.build [(.val (.int .i64 0)), (.val (.int .i64 0)), (.val (.int .i64 0)), (.str []), (.val (.int .i64 0))] []), none⟩, ⟨none, (.store 5 (.tmp 2) (.tmp 75)), none⟩, ⟨(some 3), (.mov (.const (.c (.val (.int .i64 4))))), none⟩])
 .ret))))⟩
set_option maxRecDepth 100000 in
theorem c105 : compFunc Tryd.prog 105 = some a105 := by kernel_rfl
def clerestory_jlex_reader_text_post (r : (TJTok × Int × Treader)) : AV → Heap → Nat → Prop := fun v h' n' => v = (.tup [(.agg [cI r.1.Kind, cI r.1.From, cI r.1.To, .str r.1.Text, cI r.1.Num]), (I r.2.1)]) ∧ (h' = (upd (fun _ => none) 0 (some (.cells 3 [[.str r.2.2.f_s, cI r.2.2.f_at, .ro false 5 (r.2.2.f_out.map e_TJTok)]])))) ∧ n' = 1
abbrev clerestory_jlex_reader_text_q0 (mL : Int) (Q : AExit → St → Prop) : AExit → St → Prop := ABlock 1 Q
noncomputable def clerestory_jlex_reader_text_j3 (r_ : Treader) (self : Int → (List Int) → Option (TJTok × Int × Treader)) (K0_ : Int → Option (TJTok × Int × Treader)) (r12 : Int) (out1 : (List Int)) (c_1 : Int) : Option (TJTok × Int × Treader) :=
  (app? 1 out1 [c_1]).bind fun r_1 =>
  self r12 r_1
theorem clerestory_jlex_reader_text_j3_ok {mL : Int} {Q : AExit → St → Prop} {r_ : Treader} {self : Int → (List Int) → Option (TJTok × Int × Treader)} {K0_ : Int → Option (TJTok × Int × Treader)} {r12 : Int} {out1 : (List Int)} {c_1 : Int} {zout1 : Bool} (hzout1 : zout1 = true → out1 = []) {o : (TJTok × Int × Treader)} (h : clerestory_jlex_reader_text_j3 r_ self K0_ r12 out1 c_1 = some o)
    (hself : ∀ (r1 : Int) (out : (List Int)) (zout : Bool) (_ : zout = true → out = []), self r1 out = some o → ∀ s, Weak 1 s ⟨(upd (upd (upd (fun _ => none) 0 (some (.c (.ref 0 3 0 0)))) 2 (some (.c (.ref 1 5 0 0)))) 4 (some (lstV zout 2 1 out.length))), (upd (upd (upd (fun _ => none) 0 (some (.cells 3 [[.str r_.f_s, cI r1, .ro false 5 (r_.f_out.map e_TJTok)]]))) 1 (some (.cells 5 [[cI 0, cI 0, cI 0, .str [], cI 0]]))) 2 (lstB zout 1 (out.map (eK .u8)))), 3⟩ → (Q) .normal s)
    (hK0 : ∀ (r11 : Int), K0_ r11 = some o → ∀ s, Weak 1 s ⟨(upd (upd (fun _ => none) 0 (some (.c (.ref 0 3 0 0)))) 2 (some (.c (.ref 1 5 0 0)))), (upd (upd (fun _ => none) 0 (some (.cells 3 [[.str r_.f_s, cI r11, .ro false 5 (r_.f_out.map e_TJTok)]]))) 1 (some (.cells 5 [[cI 0, cI 0, cI 0, .str [], cI 0]]))), 2⟩ → Q (.exit 0) s)
    (hr : ∀ s, Ends a105.results 1 (clerestory_jlex_reader_text_post o) .ret s → Q .ret s) :
    Sv Tryd.prog (GG mL) 1 a105_c0 (clerestory_jlex_reader_text_q0 mL Q) ⟨(upd (upd (upd (upd (fun _ => none) 0 (some (.c (.ref 0 3 0 0)))) 2 (some (.c (.ref 1 5 0 0)))) 4 (some (lstV zout1 2 1 out1.length))) 5 (some (.c (.val (.int .u8 c_1))))), (upd (upd (upd (fun _ => none) 0 (some (.cells 3 [[.str r_.f_s, cI r12, .ro false 5 (r_.f_out.map e_TJTok)]]))) 1 (some (.cells 5 [[cI 0, cI 0, cI 0, .str [], cI 0]]))) 2 (lstB zout1 1 (out1.map (eK .u8)))), 3⟩ := by
  unfold clerestory_jlex_reader_text_j3 at h
  refine Sv.region ?_
  refine un (a1 rfl ?_)
  refine un (a1 rfl ?_)
  refine un (a2v (v := (lstV false 3 1 [c_1].length)) (h' := upd _ 3 (lstB false 1 ([c_1].map (eK .u8)))) (n' := 4) rfl rfl (fun h => by cases h) ?_)
  obtain ⟨r_1, hr1, h⟩ := bnd h
  have hz1 : (zout1 && [c_1].isEmpty) = true → r_1 = [] := app_nil (z := zout1) (ys := [c_1]) hzout1 hr1
  refine un (a2v rfl (s_app (xs := out1) (ys := [c_1]) (e := (eK .u8)) (z := zout1) (b := 2) rfl rfl hzout1 rfl rfl (slc_lst rfl (List.length_map _).symm (map_nil_of (fun h => by cases h))) hr1) (fun h => by cases h) ?_)
  refine un (a1 rfl ?_)
  refine dnil ?_
  exact hself r12 r_1 (zout1 && [c_1].isEmpty) hz1 h _ (weak_canon [0, 1, 4] rfl (by decide) (by decide) (by decide) (.cons rfl (.c (lstC_ren rfl (by decide))) (.cons rfl (.c (.ref rfl (by decide))) (.cons rfl (.c (.ref rfl (by decide))) .nil))) (.row (by decide) rfl (fr_map fun _ => rfl) (.box (by decide) rfl (blkAs_cells (.cons (.same rfl) (.cons (.same rfl) (.cons (.same rfl) (.cons (.same rfl) (.cons (.same rfl) .nil)))))) (.box (by decide) rfl (blkAs_cells (.cons (.same rfl) (.cons (.same rfl) (.cons (.same rfl) .nil)))) .nil))))
noncomputable def clerestory_jlex_reader_text_l0 (r_ : Treader) (K0_ : Int → Option (TJTok × Int × Treader)) : Nat → Int → (List Int) → Option (TJTok × Int × Treader)
  | 0, _, _ => none
  | k + 1, r1, out =>
    if decide (r1 < (r_.f_s.length : Int)) then
      (at? r_.f_s r1).bind fun c_ =>
      if decide ((c_.toNat : Int) = 34) then
        some ((⟨3, 0, 0, (byts out), 0⟩ : TJTok), 0, (⟨r_.f_s, (wi (r1 + 1)), r_.f_out⟩ : Treader))
      else
        if decide ((c_.toNat : Int) < 32) then
          some ((⟨0, 0, 0, [], 0⟩ : TJTok), 4, (⟨r_.f_s, (wi (r1 + 1)), r_.f_out⟩ : Treader))
        else
          if decide ((c_.toNat : Int) = 92) then
            (clerestory_jlex_reader_escape (⟨r_.f_s, (wi (r1 + 1)), r_.f_out⟩ : Treader)).bind fun r_2 =>
            if decide (r_2.2 = 0) then
              some ((⟨0, 0, 0, [], 0⟩ : TJTok), 4, (⟨r_.f_s, (wi (r1 + 1)), r_.f_out⟩ : Treader))
            else
              clerestory_jlex_reader_text_j3 r_ (clerestory_jlex_reader_text_l0 r_ K0_ k) K0_ (wi ((wi (r1 + 1)) + r_2.2)) out r_2.1
          else
            clerestory_jlex_reader_text_j3 r_ (clerestory_jlex_reader_text_l0 r_ K0_ k) K0_ (wi (r1 + 1)) out (c_.toNat : Int)
    else
      K0_ r1
theorem clerestory_jlex_reader_text_l0_ok {mL : Int} {Q : AExit → St → Prop} {r_ : Treader} {K0_ : Int → Option (TJTok × Int × Treader)} {k : Nat} {r1 : Int} {out : (List Int)} {zout : Bool} (hzout : zout = true → out = []) {o : (TJTok × Int × Treader)} (h : clerestory_jlex_reader_text_l0 r_ K0_ k r1 out = some o)
    (hK0 : ∀ (r11 : Int), K0_ r11 = some o → ∀ s, Weak 1 s ⟨(upd (upd (fun _ => none) 0 (some (.c (.ref 0 3 0 0)))) 2 (some (.c (.ref 1 5 0 0)))), (upd (upd (fun _ => none) 0 (some (.cells 3 [[.str r_.f_s, cI r11, .ro false 5 (r_.f_out.map e_TJTok)]]))) 1 (some (.cells 5 [[cI 0, cI 0, cI 0, .str [], cI 0]]))), 2⟩ → Q (.exit 0) s)
    (hr : ∀ s, Ends a105.results 1 (clerestory_jlex_reader_text_post o) .ret s → Q .ret s) :
    Sv Tryd.prog (GG mL) 1 (.loop a105_c1) Q ⟨(upd (upd (upd (fun _ => none) 0 (some (.c (.ref 0 3 0 0)))) 2 (some (.c (.ref 1 5 0 0)))) 4 (some (lstV zout 2 1 out.length))), (upd (upd (upd (fun _ => none) 0 (some (.cells 3 [[.str r_.f_s, cI r1, .ro false 5 (r_.f_out.map e_TJTok)]]))) 1 (some (.cells 5 [[cI 0, cI 0, cI 0, .str [], cI 0]]))) 2 (lstB zout 1 (out.map (eK .u8)))), 3⟩ := by
  refine Sv.loop (I := fun k s => ∃ (r1 : Int), ∃ (out : (List Int)), ∃ (zout : Bool), (zout = true → out = []) ∧ clerestory_jlex_reader_text_l0 r_ K0_ k r1 out = some o ∧ s = ⟨(upd (upd (upd (fun _ => none) 0 (some (.c (.ref 0 3 0 0)))) 2 (some (.c (.ref 1 5 0 0)))) 4 (some (lstV zout 2 1 out.length))), (upd (upd (upd (fun _ => none) 0 (some (.cells 3 [[.str r_.f_s, cI r1, .ro false 5 (r_.f_out.map e_TJTok)]]))) 1 (some (.cells 5 [[cI 0, cI 0, cI 0, .str [], cI 0]]))) 2 (lstB zout 1 (out.map (eK .u8)))), 3⟩) (fun k s hI => ?_) ⟨r1, out, zout, hzout, h, rfl⟩
  clear h
  clear hzout zout out r1
  obtain ⟨r1, out, zout, hzout, h, rfl⟩ := hI
  cases k with
  | zero => cases h
  | succ k =>
  rw [clerestory_jlex_reader_text_l0] at h
  have hself : ∀ (r1 : Int) (out : (List Int)) (zout : Bool) (_ : zout = true → out = []), (clerestory_jlex_reader_text_l0 r_ K0_ k) r1 out = some o → ∀ s, Weak 1 s ⟨(upd (upd (upd (fun _ => none) 0 (some (.c (.ref 0 3 0 0)))) 2 (some (.c (.ref 1 5 0 0)))) 4 (some (lstV zout 2 1 out.length))), (upd (upd (upd (fun _ => none) 0 (some (.cells 3 [[.str r_.f_s, cI r1, .ro false 5 (r_.f_out.map e_TJTok)]]))) 1 (some (.cells 5 [[cI 0, cI 0, cI 0, .str [], cI 0]]))) 2 (lstB zout 1 (out.map (eK .u8)))), 3⟩ → (AThen (fun s' => ∃ s'' k', Weak 1 s' s'' ∧ k' < k + 1 ∧ (fun k s => ∃ (r1 : Int), ∃ (out : (List Int)), ∃ (zout : Bool), (zout = true → out = []) ∧ clerestory_jlex_reader_text_l0 r_ K0_ k r1 out = some o ∧ s = ⟨(upd (upd (upd (fun _ => none) 0 (some (.c (.ref 0 3 0 0)))) 2 (some (.c (.ref 1 5 0 0)))) 4 (some (lstV zout 2 1 out.length))), (upd (upd (upd (fun _ => none) 0 (some (.cells 3 [[.str r_.f_s, cI r1, .ro false 5 (r_.f_out.map e_TJTok)]]))) 1 (some (.cells 5 [[cI 0, cI 0, cI 0, .str [], cI 0]]))) 2 (lstB zout 1 (out.map (eK .u8)))), 3⟩) k' s'') Q) .normal s := fun r1 out zout hzout h s hw => ⟨_, k, hw, Nat.lt_succ_self k, r1, out, zout, hzout, h, rfl⟩
  refine Sv.seq ?_
  refine Sv.seq ?_
  refine Sv.drawn ?_
  refine un (a1 rfl ?_)
  refine un (a1 (v := (.c (.ref 0 3 0 0))) rfl ?_)
  refine un (a1 (v := (.c (.ref 0 3 0 1))) rfl ?_)
  refine un (a1 (v := (I r1)) rfl ?_)
  refine un (a1 rfl ?_)
  refine un (a1 (v := (.c (.ref 0 3 0 0))) rfl ?_)
  refine un (a1 (v := (.c (.ref 0 3 0 0))) rfl ?_)
  refine un (a1 (v := (S r_.f_s)) rfl ?_)
  refine un (a1 (v := (I (r_.f_s.length : Int))) rfl ?_)
  refine un (a1 (v := (B (decide (r1 < (r_.f_s.length : Int))))) rfl ?_)
  refine dnil ?_
  refine Sv.cond (b := decide (r1 < (r_.f_s.length : Int))) rfl (fun hc1 => ?_) (fun hc1 => ?_)
  · replace h := ifT hc1 h
    refine Sv.skip ?_
    refine Sv.block ?_
    refine Sv.seq ?_
    refine Sv.drawn ?_
    refine un (a1 rfl ?_)
    refine un (a1 (v := (.c (.ref 0 3 0 0))) rfl ?_)
    refine un (a1 (v := (.c (.ref 0 3 0 0))) rfl ?_)
    refine un (a1 (v := (S r_.f_s)) rfl ?_)
    refine un (a1 rfl ?_)
    refine un (a1 (v := (.c (.ref 0 3 0 0))) rfl ?_)
    refine un (a1 (v := (.c (.ref 0 3 0 1))) rfl ?_)
    refine un (a1 (v := (I r1)) rfl ?_)
    obtain ⟨c_, hx1, h⟩ := bnd h
    refine un (a1 (v := (.c (.val (.int .u8 (c_.toNat : Int))))) (s_idxS rfl rfl hx1) ?_)
    refine un (a1 rfl ?_)
    refine dnil ?_
    refine Sv.seq ?_
    refine Sv.region ?_
    refine un (a1 rfl ?_)
    refine un (a1 (v := (.c (.ref 0 3 0 0))) rfl ?_)
    refine un (a1 (v := (.c (.ref 0 3 0 1))) rfl ?_)
    refine un (a1 (v := (I r1)) rfl ?_)
    refine un (a1 (v := (I (wi (r1 + 1)))) rfl ?_)
    refine un (a1 (v := (.c (.ref 0 3 0 0))) rfl ?_)
    refine un (a1 (v := (.c (.ref 0 3 0 1))) rfl ?_)
    refine un (a2n (h' := upd _ 0 (some (.cells 3 [[.str r_.f_s, cI (wi (r1 + 1)), .ro false 5 (r_.f_out.map e_TJTok)]]))) (n' := 3) rfl rfl (fun h => by cases h) ?_)
    refine dnil ?_
    refine Sv.seq ?_
    refine Sv.block ?_
    refine Sv.seq ?_
    refine Sv.region ?_
    refine un (a1 rfl ?_)
    refine un (a1 (v := (B (decide ((c_.toNat : Int) = 34)))) rfl ?_)
    refine un (a1 rfl ?_)
    refine dnil ?_
    refine Sv.cond (b := decide ((c_.toNat : Int) = 34)) rfl (fun hc2 => ?_) (fun hc2 => ?_)
    · replace h := ifT hc2 h
      refine Sv.seq ?_
      refine Sv.region ?_
      refine un (a1 rfl ?_)
      refine un (a1 (v := (S (byts out))) (s_ofBytes (xs := out) rfl (slc_lst rfl (List.length_map _).symm (map_nil_of hzout))) ?_)
      refine un (a1 (v := (.agg [cI 3, cI 0, cI 0, .str (byts out), cI 0])) rfl ?_)
      refine un (a2n (h' := upd _ 1 (some (.cells 5 [[cI 3, cI 0, cI 0, .str (byts out), cI 0]]))) (n' := 3) rfl rfl (fun h => by cases h) ?_)
      refine un (a1 rfl ?_)
      refine dnil ?_
      refine Sv.ret ?_
      replace h := Option.some.inj h
      subst h
      exact hr _ ⟨_, .refl _, _, rfl, ⟨upd (fun _ => none) 0 (some (.tup [(.agg [cI 3, cI 0, cI 0, .str (byts out), cI 0]), (I 0)])), (upd (fun _ => none) 0 (some (.cells 3 [[.str r_.f_s, cI (wi (r1 + 1)), .ro false 5 (r_.f_out.map e_TJTok)]]))), 1⟩, (.tup [(.agg [cI 3, cI 0, cI 0, .str (byts out), cI 0]), (I 0)]), weak_canon2 [0] [0] (by decide) (by decide) (by decide) (.cons (by decide) .nil) (.cons rfl (avAs_tup (.cons (avAs_free rfl) (.cons (avAs_free rfl) .nil))) .nil) (.box (by decide) rfl (blkAs_cells (.cons (.same rfl) (.cons (.same rfl) (.cons (.same rfl) .nil)))) .nil), rfl, rfl, rfl, rfl⟩
    · replace h := ifF hc2 h
      refine Sv.seq ?_
      refine Sv.region ?_
      refine un (a1 rfl ?_)
      refine un (a1 (v := (B (decide ((c_.toNat : Int) < 32)))) rfl ?_)
      refine un (a1 rfl ?_)
      refine dnil ?_
      refine Sv.cond (b := decide ((c_.toNat : Int) < 32)) rfl (fun hc3 => ?_) (fun hc3 => ?_)
      · replace h := ifT hc3 h
        refine Sv.seq ?_
        refine Sv.region ?_
        refine un (a1 (v := (.agg [cI 0, cI 0, cI 0, .str [], cI 0])) rfl ?_)
        refine un (a2n (h' := upd _ 1 (some (.cells 5 [[cI 0, cI 0, cI 0, .str [], cI 0]]))) (n' := 3) rfl rfl (fun h => by cases h) ?_)
        refine un (a1 rfl ?_)
        refine dnil ?_
        refine Sv.ret ?_
        replace h := Option.some.inj h
        subst h
        exact hr _ ⟨_, .refl _, _, rfl, ⟨upd (fun _ => none) 0 (some (.tup [(.agg [cI 0, cI 0, cI 0, .str [], cI 0]), (I 4)])), (upd (fun _ => none) 0 (some (.cells 3 [[.str r_.f_s, cI (wi (r1 + 1)), .ro false 5 (r_.f_out.map e_TJTok)]]))), 1⟩, (.tup [(.agg [cI 0, cI 0, cI 0, .str [], cI 0]), (I 4)]), weak_canon2 [0] [0] (by decide) (by decide) (by decide) (.cons (by decide) .nil) (.cons rfl (avAs_tup (.cons (avAs_free rfl) (.cons (avAs_free rfl) .nil))) .nil) (.box (by decide) rfl (blkAs_cells (.cons (.same rfl) (.cons (.same rfl) (.cons (.same rfl) .nil)))) .nil), rfl, rfl, rfl, rfl⟩
      · replace h := ifF hc3 h
        refine Sv.seq ?_
        refine Sv.region ?_
        refine un (a1 rfl ?_)
        refine un (a1 (v := (B (decide ((c_.toNat : Int) = 92)))) rfl ?_)
        refine un (a1 rfl ?_)
        refine dnil ?_
        refine Sv.cond (b := decide ((c_.toNat : Int) = 92)) rfl (fun hc4 => ?_) (fun hc4 => ?_)
        · replace h := ifT hc4 h
          refine Sv.seq ?_
          refine Sv.region ?_
          refine un (a1 rfl ?_)
          obtain ⟨r_2, hr2, h⟩ := bnd h
          refine un (ac_lend (h2 := (upd _ 0 none)) (clerestory_jlex_reader_escape_ok hr2) rfl (.cons (.c (ref_ro rfl (gone rfl) (.cons (.same rfl) (.cons (.same rfl) (.cons (.same rfl) .nil))) rfl)) .nil) (hsub_none (hsub_refl _)) rfl rfl (.inr rfl) ?_)
          refine un (a1 rfl ?_)
          refine un (a1 (v := (.c (.val (.int .u8 r_2.1)))) rfl ?_)
          refine un (a1 (v := (I r_2.2)) rfl ?_)
          refine un (a1 rfl ?_)
          refine un (a1 rfl ?_)
          refine dnil ?_
          refine Sv.seq ?_
          refine Sv.seq ?_
          refine Sv.region ?_
          refine un (a1 rfl ?_)
          refine un (a1 (v := (B (decide (r_2.2 = 0)))) rfl ?_)
          refine dnil ?_
          refine Sv.cond (b := decide (r_2.2 = 0)) rfl (fun hc5 => ?_) (fun hc5 => ?_)
          · replace h := ifT hc5 h
            refine Sv.seq ?_
            refine Sv.region ?_
            refine un (a1 (v := (.agg [cI 0, cI 0, cI 0, .str [], cI 0])) rfl ?_)
            refine un (a2n (h' := upd _ 1 (some (.cells 5 [[cI 0, cI 0, cI 0, .str [], cI 0]]))) (n' := 3) rfl rfl (fun h => by cases h) ?_)
            refine un (a1 rfl ?_)
            refine dnil ?_
            refine Sv.ret ?_
            replace h := Option.some.inj h
            subst h
            exact hr _ ⟨_, .refl _, _, rfl, ⟨upd (fun _ => none) 0 (some (.tup [(.agg [cI 0, cI 0, cI 0, .str [], cI 0]), (I 4)])), (upd (fun _ => none) 0 (some (.cells 3 [[.str r_.f_s, cI (wi (r1 + 1)), .ro false 5 (r_.f_out.map e_TJTok)]]))), 1⟩, (.tup [(.agg [cI 0, cI 0, cI 0, .str [], cI 0]), (I 4)]), weak_canon2 [0] [0] (by decide) (by decide) (by decide) (.cons (by decide) .nil) (.cons rfl (avAs_tup (.cons (avAs_free rfl) (.cons (avAs_free rfl) .nil))) .nil) (.box (by decide) rfl (blkAs_cells (.cons (.same rfl) (.cons (.same rfl) (.cons (.same rfl) .nil)))) .nil), rfl, rfl, rfl, rfl⟩
          · replace h := ifF hc5 h
            refine Sv.skip ?_
            refine Sv.seq ?_
            refine Sv.region ?_
            refine un (a1 rfl ?_)
            refine un (a1 rfl ?_)
            refine dnil ?_
            refine Sv.region ?_
            refine un (a1 rfl ?_)
            refine un (a1 (v := (.c (.ref 0 3 0 0))) rfl ?_)
            refine un (a1 (v := (.c (.ref 0 3 0 1))) rfl ?_)
            refine un (a1 (v := (I (wi (r1 + 1)))) rfl ?_)
            refine un (a1 rfl ?_)
            refine un (a1 (v := (I (wi ((wi (r1 + 1)) + r_2.2)))) rfl ?_)
            refine un (a1 (v := (.c (.ref 0 3 0 0))) rfl ?_)
            refine un (a1 (v := (.c (.ref 0 3 0 1))) rfl ?_)
            refine un (a2n (h' := upd _ 0 (some (.cells 3 [[.str r_.f_s, cI (wi ((wi (r1 + 1)) + r_2.2)), .ro false 5 (r_.f_out.map e_TJTok)]]))) (n' := 3) rfl rfl (fun h => by cases h) ?_)
            refine dnil ?_
            exact Sv.weak (weak_canon [0, 1, 2] rfl (by decide) (by decide) (by decide) (.cons rfl (avAs_free rfl) (.cons rfl (.c (lstC_ren rfl (by decide))) (.cons rfl (.c (.ref rfl (by decide))) (.cons rfl (.c (.ref rfl (by decide))) .nil)))) (.row (by decide) rfl (fr_map fun _ => rfl) (.box (by decide) rfl (blkAs_cells (.cons (.same rfl) (.cons (.same rfl) (.cons (.same rfl) (.cons (.same rfl) (.cons (.same rfl) .nil)))))) (.box (by decide) rfl (blkAs_cells (.cons (.same rfl) (.cons (.same rfl) (.cons (.same rfl) .nil)))) .nil)))) (clerestory_jlex_reader_text_j3_ok hzout h hself hK0 hr)
        · replace h := ifF hc4 h
          refine Sv.skip ?_
          exact Sv.weak (weak_canon [0, 1, 2] rfl (by decide) (by decide) (by decide) (.cons rfl (avAs_free rfl) (.cons rfl (.c (lstC_ren rfl (by decide))) (.cons rfl (.c (.ref rfl (by decide))) (.cons rfl (.c (.ref rfl (by decide))) .nil)))) (.row (by decide) rfl (fr_map fun _ => rfl) (.box (by decide) rfl (blkAs_cells (.cons (.same rfl) (.cons (.same rfl) (.cons (.same rfl) (.cons (.same rfl) (.cons (.same rfl) .nil)))))) (.box (by decide) rfl (blkAs_cells (.cons (.same rfl) (.cons (.same rfl) (.cons (.same rfl) .nil)))) .nil)))) (clerestory_jlex_reader_text_j3_ok hzout h hself hK0 hr)
  · replace h := ifF hc1 h
    refine Sv.exit ?_
    exact hK0 r1 h _ (weak_canon [0, 1] rfl (by decide) (by decide) (by decide) (.cons rfl (.c (.ref rfl (by decide))) (.cons rfl (.c (.ref rfl (by decide))) .nil)) (.box (by decide) rfl (blkAs_cells (.cons (.same rfl) (.cons (.same rfl) (.cons (.same rfl) (.cons (.same rfl) (.cons (.same rfl) .nil)))))) (.box (by decide) rfl (blkAs_cells (.cons (.same rfl) (.cons (.same rfl) (.cons (.same rfl) .nil)))) .nil)))
/-- (*clerestory/jlex.reader).text -/
noncomputable def clerestory_jlex_reader_text (r_ : Treader) : Option (TJTok × Int × Treader) :=
  lim fun kk => clerestory_jlex_reader_text_l0 r_ (fun (r11 : Int) => 
      some ((⟨0, 0, 0, [], 0⟩ : TJTok), 4, (⟨r_.f_s, r11, r_.f_out⟩ : Treader))) kk (wi (r_.f_at + 1)) ([] : List Int)
theorem clerestory_jlex_reader_text_ok {mL : Int} {r_ : Treader} {r : (TJTok × Int × Treader)} (h : clerestory_jlex_reader_text r_ = some r) : ACalls Tryd.prog (GG mL) 105 [(.c (.ref 0 3 0 0))] (upd (fun _ => none) 0 (some (.cells 3 [[.str r_.f_s, cI r_.f_at, .ro false 5 (r_.f_out.map e_TJTok)]]))) 1 (clerestory_jlex_reader_text_post r) := by
  refine acalls_of_sv hmix c105 (R := clerestory_jlex_reader_text_post r) ?_
  unfold clerestory_jlex_reader_text at h
  refine Sv.seq ?_
  refine Sv.region ?_
  refine un (a2v (v := (.c (.ref 1 5 0 0))) (h' := upd _ 1 (some (.cells 5 [[cI 0, cI 0, cI 0, .str [], cI 0]]))) (n' := 2) rfl rfl (fun h => by cases h) ?_)
  refine un (a1 rfl ?_)
  refine dnil ?_
  refine Sv.seq ?_
  refine Sv.region ?_
  refine un (a1 rfl ?_)
  refine dnil ?_
  refine Sv.seq ?_
  refine Sv.seq ?_
  refine Sv.region ?_
  refine un (a1 rfl ?_)
  refine un (a1 (v := (.c (.ref 0 3 0 0))) rfl ?_)
  refine un (a1 (v := (.c (.ref 0 3 0 1))) rfl ?_)
  refine un (a1 (v := (I r_.f_at)) rfl ?_)
  refine un (a1 (v := (I (wi (r_.f_at + 1)))) rfl ?_)
  refine un (a1 (v := (.c (.ref 0 3 0 0))) rfl ?_)
  refine un (a1 (v := (.c (.ref 0 3 0 1))) rfl ?_)
  refine un (a2n (h' := upd _ 0 (some (.cells 3 [[.str r_.f_s, cI (wi (r_.f_at + 1)), .ro false 5 (r_.f_out.map e_TJTok)]]))) (n' := 2) rfl rfl (fun h => by cases h) ?_)
  refine dnil ?_
  refine Sv.block ?_
  obtain ⟨kk, h⟩ := lim_some h
  refine Sv.weak (weak_canon [0, 1, 1000] rfl (by decide) (by decide) (by decide) (.cons rfl (.c (.same rfl)) (.cons rfl (.c (.ref rfl (by decide))) (.cons rfl (.c (.ref rfl (by decide))) .nil))) (.non (by decide) (.box (by decide) rfl (blkAs_cells (.cons (.same rfl) (.cons (.same rfl) (.cons (.same rfl) (.cons (.same rfl) (.cons (.same rfl) .nil)))))) (.box (by decide) rfl (blkAs_cells (.cons (.same rfl) (.cons (.same rfl) (.cons (.same rfl) .nil)))) .nil)))) (clerestory_jlex_reader_text_l0_ok (fun _ => rfl) h ?_ (fun s hs => hs))
  · intro r11 h _ hw1
    refine Sv.weak hw1 ?_
    refine Sv.seq ?_
    refine Sv.region ?_
    refine un (a1 (v := (.agg [cI 0, cI 0, cI 0, .str [], cI 0])) rfl ?_)
    refine un (a2n (h' := upd _ 1 (some (.cells 5 [[cI 0, cI 0, cI 0, .str [], cI 0]]))) (n' := 2) rfl rfl (fun h => by cases h) ?_)
    refine un (a1 rfl ?_)
    refine dnil ?_
    refine Sv.ret ?_
    replace h := Option.some.inj h
    subst h
    exact ⟨_, .refl _, _, rfl, ⟨upd (fun _ => none) 0 (some (.tup [(.agg [cI 0, cI 0, cI 0, .str [], cI 0]), (I 4)])), (upd (fun _ => none) 0 (some (.cells 3 [[.str r_.f_s, cI r11, .ro false 5 (r_.f_out.map e_TJTok)]]))), 1⟩, (.tup [(.agg [cI 0, cI 0, cI 0, .str [], cI 0]), (I 4)]), weak_canon2 [0] [0] (by decide) (by decide) (by decide) (.cons (by decide) .nil) (.cons rfl (avAs_tup (.cons (avAs_free rfl) (.cons (avAs_free rfl) .nil))) .nil) (.box (by decide) rfl (blkAs_cells (.cons (.same rfl) (.cons (.same rfl) (.cons (.same rfl) .nil)))) .nil), rfl, rfl, rfl, rfl⟩
def a106_c0 : ACode := (.region [⟨(some 51), (.bin .add (.tmp 8) (.const (.c (.val (.int .i64 1))))), none⟩, ⟨(some 8), (.mov (.tmp 51)), none⟩])
def a106_c1 : ACode := (.seq (.region [⟨(some 9), (.bin .lss (.tmp 8) (.const (.c (.val (.int .i64 2))))), none⟩])
 (.seq (.cond (.tmp 9) .skip (.exit 0))
 (.seq (.block 1 (.seq (.region [⟨(some 10), (.idxA false 2 1 (.tmp 7) (.tmp 8)), none⟩, ⟨(some 5), (.mov (.tmp 10)), none⟩])
 (.seq (.seq (.drawn (.fin [(⟨(some 11), (.mov (.tmp 0)), none⟩, (0, 0)), (⟨(some 12), (.nilc (.tmp 11)), none⟩, (0, 1)), (⟨(some 13), (.faddr 1 (.tmp 12)), none⟩, (0, 2)), (⟨(some 14), (.load false 1 (.tmp 13)), none⟩, (0, 3)), (⟨(some 15), (.mov (.tmp 5)), none⟩, (0, 4)), (⟨(some 16), (.bin .add (.tmp 14) (.tmp 15)), none⟩, (0, 5)), (⟨(some 17), (.mov (.tmp 0)), none⟩, (0, 6)), (⟨(some 18), (.nilc (.tmp 17)), none⟩, (0, 7)), (⟨(some 19), (.faddr 0 (.tmp 18)), none⟩, (0, 8)), (⟨(some 20), (.load false 1 (.tmp 19)), none⟩, (0, 9)), (⟨(some 21), (.lenS (.tmp 20)), none⟩, (0, 10)), (⟨(some 22), (.bin .gtr (.tmp 16) (.tmp 21)), none⟩, (0, 11))]))
 (.cond (.tmp 22) (.exit 1) .skip))
 (.seq (.drawn (.fin [(⟨(some 23), (.mov (.tmp 0)), none⟩, (0, 0)), (⟨(some 24), (.nilc (.tmp 23)), none⟩, (0, 1)), (⟨(some 25), (.faddr 0 (.tmp 24)), none⟩, (0, 2)), (⟨(some 26), (.load false 1 (.tmp 25)), none⟩, (0, 3)), (⟨(some 27), (.mov (.tmp 0)), none⟩, (0, 4)), (⟨(some 28), (.nilc (.tmp 27)), none⟩, (0, 5)), (⟨(some 29), (.faddr 1 (.tmp 28)), none⟩, (0, 6)), (⟨(some 30), (.load false 1 (.tmp 29)), none⟩, (0, 7)), (⟨(some 31), (.mov (.tmp 0)), none⟩, (0, 8)), (⟨(some 32), (.nilc (.tmp 31)), none⟩, (0, 9)), (⟨(some 33), (.faddr 1 (.tmp 32)), none⟩, (0, 10)), (⟨(some 34), (.load false 1 (.tmp 33)), none⟩, (0, 11)), (⟨(some 35), (.mov (.tmp 5)), none⟩, (0, 12)), (⟨(some 36), (.bin .add (.tmp 34) (.tmp 35)), none⟩, (0, 13)), (⟨(some 37), (.slStr (.tmp 26) (some (.tmp 30)) (some (.tmp 36))), none⟩, (0, 14)), (⟨(some 6), (.mov (.tmp 37)), none⟩, (0, 15))]))
 (.seq (.region [⟨(some 38), (.call 139 [(.const (.c (.str [61, 61, 32, 33, 61, 32, 60, 61, 32, 62, 61, 32, 38, 38, 32, 124, 124, 32, 61, 32, 33, 32, 60, 32, 62, 32, 43, 32, 45, 32, 42, 32, 47, 32, 37, 32, 40, 32, 41, 32, 91, 32, 93, 32, 123, 32, 125, 32, 44, 32, 59, 32, 58, 32, 46, 32, 63])))]), none⟩, ⟨(some 39), (.mov (.tmp 6)), none⟩, ⟨(some 40), (.call 113 [(.tmp 38), (.tmp 39)]), none⟩])
 (.cond (.tmp 40) (.seq (.region [⟨(some 41), (.mov (.tmp 0)), none⟩, ⟨(some 42), (.nilc (.tmp 41)), none⟩, ⟨(some 43), (.faddr 1 (.tmp 42)), none⟩, ⟨(some 44), (.load false 1 (.tmp 43)), none⟩, ⟨(some 45), (.mov (.tmp 5)), none⟩, ⟨(some 46), (.bin .add (.tmp 44) (.tmp 45)), none⟩, ⟨(some 47), (.nilc (.tmp 41)), none⟩, ⟨(some 48), (.faddr 1 (.tmp 47)), none⟩, ⟨none, (.store 1 (.tmp 48) (.tmp 46)), none⟩])
 (.seq (.region [⟨(some 49), (.mov (.tmp 6)), none⟩, ⟨(some 50), (.build [(.val (.int .i64 0)), (.val (.int .i64 0)), (.val (.int .i64 0)), (.str []), (.val (.int .i64 0))] [(0, (1, (.const (.c (.val (.int .i64 4)))))), (3, (1, (.tmp 49)))]), none⟩, ⟨none, (.store 5 (.tmp 2) (.tmp 50)), none⟩, ⟨(some 3), (.mov (.const (.c (.val (.int .i64 0))))), none⟩])
 .ret)) .skip))))))
 a106_c0)))
def a106 : AFunc := ⟨1, [(.cell true 5 2), (.tmp 3)], (.seq (.region [⟨(some 2), (.box (.const (.agg [(.val (.int .i64 0)), (.val (.int .i64 0)), (.val (.int .i64 0)), (.str []), (.val (.int .i64 0))]))), none⟩, ⟨(some 3), (.mov (.const (.c (.val (.int .i64 0))))), none⟩])
 (.seq (.seq (.region [⟨(some 7), (.build [(.val (.int .i64 0)), (.val (.int .i64 0))] [(0, (1, (.const (.c (.val (.int .i64 2)))))), (1, (1, (.const (.c (.val (.int .i64 1))))))]), none⟩, ⟨(some 8), (.mov (.const (.c (.val (.int .i64 0))))), none⟩])
 (.block 0 (.loop a106_c1)))
 (.seq (.region [⟨(some 52), (.build [(.val (.int .i64 0)), (.val (.int .i64 0)), (.val (.int .i64 0)), (.str []), (.val (.int .i64 0))] []), none⟩, ⟨none, (.store 5 (.tmp 2) (.tmp 52)), none⟩, ⟨(some 3), (.mov (.const (.c (.val (.int .i64 4))))), none⟩])
 .ret)))⟩
set_option maxRecDepth 100000 in
theorem c106 : compFunc Tryd.prog 106 = some a106 := by kernel_rfl
def clerestory_jlex_reader_sign_post (r : (TJTok × Int × Treader)) : AV → Heap → Nat → Prop := fun v h' n' => v = (.tup [(.agg [cI r.1.Kind, cI r.1.From, cI r.1.To, .str r.1.Text, cI r.1.Num]), (I r.2.1)]) ∧ (h' = (upd (fun _ => none) 0 (some (.cells 3 [[.str r.2.2.f_s, cI r.2.2.f_at, .ro false 5 (r.2.2.f_out.map e_TJTok)]])))) ∧ n' = 1
noncomputable def clerestory_jlex_reader_sign_j3 (v8 : Int) (r_ : Treader) (self : Int → Option (TJTok × Int × Treader)) (K0_ : Unit → Option (TJTok × Int × Treader)) : Option (TJTok × Int × Treader) :=
  self (wi (v8 + 1))
theorem clerestory_jlex_reader_sign_j3_ok {mL : Int} {Q : AExit → St → Prop} {v8 : Int} {r_ : Treader} {self : Int → Option (TJTok × Int × Treader)} {K0_ : Unit → Option (TJTok × Int × Treader)} {o : (TJTok × Int × Treader)} (h : clerestory_jlex_reader_sign_j3 v8 r_ self K0_ = some o)
    (hself : ∀ (v8 : Int), self v8 = some o → ∀ s, Weak 1 s ⟨(upd (upd (upd (upd (fun _ => none) 0 (some (.c (.ref 0 3 0 0)))) 2 (some (.c (.ref 1 5 0 0)))) 7 (some (.agg [cI 2, cI 1]))) 8 (some (I v8))), (upd (upd (fun _ => none) 0 (some (.cells 3 [[.str r_.f_s, cI r_.f_at, .ro false 5 (r_.f_out.map e_TJTok)]]))) 1 (some (.cells 5 [[cI 0, cI 0, cI 0, .str [], cI 0]]))), 2⟩ → (Q) .normal s)
    (hK0 : ∀ (_ : Unit), K0_ () = some o → ∀ s, Weak 1 s ⟨(upd (upd (fun _ => none) 0 (some (.c (.ref 0 3 0 0)))) 2 (some (.c (.ref 1 5 0 0)))), (upd (upd (fun _ => none) 0 (some (.cells 3 [[.str r_.f_s, cI r_.f_at, .ro false 5 (r_.f_out.map e_TJTok)]]))) 1 (some (.cells 5 [[cI 0, cI 0, cI 0, .str [], cI 0]]))), 2⟩ → Q (.exit 0) s)
    (hr : ∀ s, Ends a106.results 1 (clerestory_jlex_reader_sign_post o) .ret s → Q .ret s) :
    Sv Tryd.prog (GG mL) 1 a106_c0 Q ⟨(upd (upd (upd (upd (fun _ => none) 0 (some (.c (.ref 0 3 0 0)))) 2 (some (.c (.ref 1 5 0 0)))) 7 (some (.agg [cI 2, cI 1]))) 8 (some (I v8))), (upd (upd (fun _ => none) 0 (some (.cells 3 [[.str r_.f_s, cI r_.f_at, .ro false 5 (r_.f_out.map e_TJTok)]]))) 1 (some (.cells 5 [[cI 0, cI 0, cI 0, .str [], cI 0]]))), 2⟩ := by
  unfold clerestory_jlex_reader_sign_j3 at h
  refine Sv.region ?_
  refine un (a1 (v := (I (wi (v8 + 1)))) rfl ?_)
  refine un (a1 rfl ?_)
  refine dnil ?_
  exact hself (wi (v8 + 1)) h _ (weak_canon [0, 1] rfl (by decide) (by decide) (by decide) (.cons rfl (avAs_free rfl) (.cons rfl (avAs_free rfl) (.cons rfl (.c (.ref rfl (by decide))) (.cons rfl (.c (.ref rfl (by decide))) .nil)))) (.box (by decide) rfl (blkAs_cells (.cons (.same rfl) (.cons (.same rfl) (.cons (.same rfl) (.cons (.same rfl) (.cons (.same rfl) .nil)))))) (.box (by decide) rfl (blkAs_cells (.cons (.same rfl) (.cons (.same rfl) (.cons (.same rfl) .nil)))) .nil)))
noncomputable def clerestory_jlex_reader_sign_l0 (r_ : Treader) (K0_ : Unit → Option (TJTok × Int × Treader)) : Nat → Int → Option (TJTok × Int × Treader)
  | 0, _ => none
  | k + 1, v8 =>
    if decide (v8 < 2) then
      (at? [2, 1] v8).bind fun x_ =>
      if decide ((r_.f_s.length : Int) < (wi (r_.f_at + x_))) then
        clerestory_jlex_reader_sign_j3 v8 r_ (clerestory_jlex_reader_sign_l0 r_ K0_ k) K0_
      else
        (sub? r_.f_s r_.f_at (wi (r_.f_at + x_))).bind fun r_1 =>
        (strings_Fields [61, 61, 32, 33, 61, 32, 60, 61, 32, 62, 61, 32, 38, 38, 32, 124, 124, 32, 61, 32, 33, 32, 60, 32, 62, 32, 43, 32, 45, 32, 42, 32, 47, 32, 37, 32, 40, 32, 41, 32, 91, 32, 93, 32, 123, 32, 125, 32, 44, 32, 59, 32, 58, 32, 46, 32, 63]).bind fun r_2 =>
        (slices_Contains_string r_2 r_1).bind fun r_3 =>
        if r_3 then
          some ((⟨4, 0, 0, r_1, 0⟩ : TJTok), 0, (⟨r_.f_s, (wi (r_.f_at + x_)), r_.f_out⟩ : Treader))
        else
          clerestory_jlex_reader_sign_j3 v8 r_ (clerestory_jlex_reader_sign_l0 r_ K0_ k) K0_
    else
      K0_ ()
theorem clerestory_jlex_reader_sign_l0_ok {mL : Int} {Q : AExit → St → Prop} {r_ : Treader} {K0_ : Unit → Option (TJTok × Int × Treader)} {k : Nat} {v8 : Int} {o : (TJTok × Int × Treader)} (h : clerestory_jlex_reader_sign_l0 r_ K0_ k v8 = some o)
    (hK0 : ∀ (_ : Unit), K0_ () = some o → ∀ s, Weak 1 s ⟨(upd (upd (fun _ => none) 0 (some (.c (.ref 0 3 0 0)))) 2 (some (.c (.ref 1 5 0 0)))), (upd (upd (fun _ => none) 0 (some (.cells 3 [[.str r_.f_s, cI r_.f_at, .ro false 5 (r_.f_out.map e_TJTok)]]))) 1 (some (.cells 5 [[cI 0, cI 0, cI 0, .str [], cI 0]]))), 2⟩ → Q (.exit 0) s)
    (hr : ∀ s, Ends a106.results 1 (clerestory_jlex_reader_sign_post o) .ret s → Q .ret s) :
    Sv Tryd.prog (GG mL) 1 (.loop a106_c1) Q ⟨(upd (upd (upd (upd (fun _ => none) 0 (some (.c (.ref 0 3 0 0)))) 2 (some (.c (.ref 1 5 0 0)))) 7 (some (.agg [cI 2, cI 1]))) 8 (some (I v8))), (upd (upd (fun _ => none) 0 (some (.cells 3 [[.str r_.f_s, cI r_.f_at, .ro false 5 (r_.f_out.map e_TJTok)]]))) 1 (some (.cells 5 [[cI 0, cI 0, cI 0, .str [], cI 0]]))), 2⟩ := by
  refine Sv.loop (I := fun k s => ∃ (v8 : Int), clerestory_jlex_reader_sign_l0 r_ K0_ k v8 = some o ∧ s = ⟨(upd (upd (upd (upd (fun _ => none) 0 (some (.c (.ref 0 3 0 0)))) 2 (some (.c (.ref 1 5 0 0)))) 7 (some (.agg [cI 2, cI 1]))) 8 (some (I v8))), (upd (upd (fun _ => none) 0 (some (.cells 3 [[.str r_.f_s, cI r_.f_at, .ro false 5 (r_.f_out.map e_TJTok)]]))) 1 (some (.cells 5 [[cI 0, cI 0, cI 0, .str [], cI 0]]))), 2⟩) (fun k s hI => ?_) ⟨v8, h, rfl⟩
  clear h
  clear v8
  obtain ⟨v8, h, rfl⟩ := hI
  cases k with
  | zero => cases h
  | succ k =>
  rw [clerestory_jlex_reader_sign_l0] at h
  have hself : ∀ (v8 : Int), (clerestory_jlex_reader_sign_l0 r_ K0_ k) v8 = some o → ∀ s, Weak 1 s ⟨(upd (upd (upd (upd (fun _ => none) 0 (some (.c (.ref 0 3 0 0)))) 2 (some (.c (.ref 1 5 0 0)))) 7 (some (.agg [cI 2, cI 1]))) 8 (some (I v8))), (upd (upd (fun _ => none) 0 (some (.cells 3 [[.str r_.f_s, cI r_.f_at, .ro false 5 (r_.f_out.map e_TJTok)]]))) 1 (some (.cells 5 [[cI 0, cI 0, cI 0, .str [], cI 0]]))), 2⟩ → (AThen (fun s' => ∃ s'' k', Weak 1 s' s'' ∧ k' < k + 1 ∧ (fun k s => ∃ (v8 : Int), clerestory_jlex_reader_sign_l0 r_ K0_ k v8 = some o ∧ s = ⟨(upd (upd (upd (upd (fun _ => none) 0 (some (.c (.ref 0 3 0 0)))) 2 (some (.c (.ref 1 5 0 0)))) 7 (some (.agg [cI 2, cI 1]))) 8 (some (I v8))), (upd (upd (fun _ => none) 0 (some (.cells 3 [[.str r_.f_s, cI r_.f_at, .ro false 5 (r_.f_out.map e_TJTok)]]))) 1 (some (.cells 5 [[cI 0, cI 0, cI 0, .str [], cI 0]]))), 2⟩) k' s'') Q) .normal s := fun v8 h s hw => ⟨_, k, hw, Nat.lt_succ_self k, v8, h, rfl⟩
  refine Sv.seq ?_
  refine Sv.region ?_
  refine un (a1 (v := (B (decide (v8 < 2)))) rfl ?_)
  refine dnil ?_
  refine Sv.seq ?_
  refine Sv.cond (b := decide (v8 < 2)) rfl (fun hc1 => ?_) (fun hc1 => ?_)
  · replace h := ifT hc1 h
    refine Sv.skip ?_
    refine Sv.seq ?_
    refine Sv.block ?_
    refine Sv.seq ?_
    refine Sv.region ?_
    obtain ⟨x_, hx1, h⟩ := bnd h
    refine un (a1 (v := (I x_)) (s_idxA (L := [2, 1]) (v := fun q => (I q)) rfl rfl rfl (.cons rfl (.cons rfl .nil)) hx1) ?_)
    refine un (a1 rfl ?_)
    refine dnil ?_
    refine Sv.seq ?_
    refine Sv.seq ?_
    refine Sv.drawn ?_
    refine un (a1 rfl ?_)
    refine un (a1 (v := (.c (.ref 0 3 0 0))) rfl ?_)
    refine un (a1 (v := (.c (.ref 0 3 0 1))) rfl ?_)
    refine un (a1 (v := (I r_.f_at)) rfl ?_)
    refine un (a1 rfl ?_)
    refine un (a1 (v := (I (wi (r_.f_at + x_)))) rfl ?_)
    refine un (a1 rfl ?_)
    refine un (a1 (v := (.c (.ref 0 3 0 0))) rfl ?_)
    refine un (a1 (v := (.c (.ref 0 3 0 0))) rfl ?_)
    refine un (a1 (v := (S r_.f_s)) rfl ?_)
    refine un (a1 (v := (I (r_.f_s.length : Int))) rfl ?_)
    refine un (a1 (v := (B (decide ((r_.f_s.length : Int) < (wi (r_.f_at + x_)))))) rfl ?_)
    refine dnil ?_
    refine Sv.cond (b := decide ((r_.f_s.length : Int) < (wi (r_.f_at + x_)))) rfl (fun hc2 => ?_) (fun hc2 => ?_)
    · replace h := ifT hc2 h
      refine Sv.exit ?_
      exact Sv.weak (weak_canon [0, 1] rfl (by decide) (by decide) (by decide) (.cons rfl (avAs_free rfl) (.cons rfl (avAs_free rfl) (.cons rfl (.c (.ref rfl (by decide))) (.cons rfl (.c (.ref rfl (by decide))) .nil)))) (.box (by decide) rfl (blkAs_cells (.cons (.same rfl) (.cons (.same rfl) (.cons (.same rfl) (.cons (.same rfl) (.cons (.same rfl) .nil)))))) (.box (by decide) rfl (blkAs_cells (.cons (.same rfl) (.cons (.same rfl) (.cons (.same rfl) .nil)))) .nil))) (clerestory_jlex_reader_sign_j3_ok h hself hK0 hr)
    · replace h := ifF hc2 h
      refine Sv.skip ?_
      refine Sv.seq ?_
      refine Sv.drawn ?_
      refine un (a1 rfl ?_)
      refine un (a1 (v := (.c (.ref 0 3 0 0))) rfl ?_)
      refine un (a1 (v := (.c (.ref 0 3 0 0))) rfl ?_)
      refine un (a1 (v := (S r_.f_s)) rfl ?_)
      refine un (a1 rfl ?_)
      refine un (a1 (v := (.c (.ref 0 3 0 0))) rfl ?_)
      refine un (a1 (v := (.c (.ref 0 3 0 1))) rfl ?_)
      refine un (a1 (v := (I r_.f_at)) rfl ?_)
      refine un (a1 rfl ?_)
      refine un (a1 (v := (.c (.ref 0 3 0 0))) rfl ?_)
      refine un (a1 (v := (.c (.ref 0 3 0 1))) rfl ?_)
      refine un (a1 (v := (I r_.f_at)) rfl ?_)
      refine un (a1 rfl ?_)
      refine un (a1 (v := (I (wi (r_.f_at + x_)))) rfl ?_)
      obtain ⟨r_1, hx2, h⟩ := bnd h
      refine un (a1 (v := (S r_1)) (s_slStr rfl rfl rfl hx2) ?_)
      refine un (a1 rfl ?_)
      refine dnil ?_
      refine Sv.seq ?_
      refine Sv.region ?_
      obtain ⟨r_2, hr1, h⟩ := bnd h
      refine un (ac_gen (bs := []) («as» := [(S [61, 61, 32, 33, 61, 32, 60, 61, 32, 62, 61, 32, 38, 38, 32, 124, 124, 32, 61, 32, 33, 32, 60, 32, 62, 32, 43, 32, 45, 32, 42, 32, 47, 32, 37, 32, 40, 32, 41, 32, 91, 32, 93, 32, 123, 32, 125, 32, 44, 32, 59, 32, 58, 32, 46, 32, 63])]) (h2 := _) (h1 := (fun _ => none)) (strings_Fields_ok hr1) rfl (.cons (avAs_free rfl) .nil) (hsub_refl _) (.nil _) (fun _ => rfl) (by decide) (by decide) (.cons (avAs_free rfl) .nil) .nil ?_)
      rintro _ _ _ hn ⟨z_, hz_, rfl, rfl, rfl⟩
      refine ⟨.inl rfl, (upd (rem [] _) 2 (lstB z_ 1 (r_2.map eStr))), fun hbd => (m3_cons (m3_row rfl (fr_map fun _ => rfl)) (m3_rem (in_nil _) (.cons (by decide) .nil) hbd)), (lstV z_ 2 1 r_2.length), 3, (by cases z_ <;> rfl), rfl, ?_⟩
      refine un (a1 rfl ?_)
      obtain ⟨r_3, hr2, h⟩ := bnd h
      refine un (ac_lend (h2 := (upd _ 2 none)) (slices_Contains_string_ok hr2) rfl (.cons (.c (lstC_ro (es := List.map eStr r_2) rfl (List.length_map eStr).symm (map_nil_of hz_) (gone rfl) (fr_map fun _ => rfl))) (.cons (avAs_free rfl) .nil)) (hsub_none (hsub_refl _)) rfl rfl (.inr rfl) ?_)
      refine dnil ?_
      refine Sv.cond (b := r_3) rfl (fun hc3 => ?_) (fun hc3 => ?_)
      · replace h := ifT hc3 h
        refine Sv.seq ?_
        refine Sv.region ?_
        refine un (a1 rfl ?_)
        refine un (a1 (v := (.c (.ref 0 3 0 0))) rfl ?_)
        refine un (a1 (v := (.c (.ref 0 3 0 1))) rfl ?_)
        refine un (a1 (v := (I r_.f_at)) rfl ?_)
        refine un (a1 rfl ?_)
        refine un (a1 (v := (I (wi (r_.f_at + x_)))) rfl ?_)
        refine un (a1 (v := (.c (.ref 0 3 0 0))) rfl ?_)
        refine un (a1 (v := (.c (.ref 0 3 0 1))) rfl ?_)
        refine un (a2n (h' := upd _ 0 (some (.cells 3 [[.str r_.f_s, cI (wi (r_.f_at + x_)), .ro false 5 (r_.f_out.map e_TJTok)]]))) (n' := 3) rfl rfl (fun h => by cases h) ?_)
        refine dnil ?_
        refine Sv.seq ?_
        refine Sv.region ?_
        refine un (a1 rfl ?_)
        refine un (a1 (v := (.agg [cI 4, cI 0, cI 0, .str r_1, cI 0])) rfl ?_)
        refine un (a2n (h' := upd _ 1 (some (.cells 5 [[cI 4, cI 0, cI 0, .str r_1, cI 0]]))) (n' := 3) rfl rfl (fun h => by cases h) ?_)
        refine un (a1 rfl ?_)
        refine dnil ?_
        refine Sv.ret ?_
        replace h := Option.some.inj h
        subst h
        exact hr _ ⟨_, .refl _, _, rfl, ⟨upd (fun _ => none) 0 (some (.tup [(.agg [cI 4, cI 0, cI 0, .str r_1, cI 0]), (I 0)])), (upd (fun _ => none) 0 (some (.cells 3 [[.str r_.f_s, cI (wi (r_.f_at + x_)), .ro false 5 (r_.f_out.map e_TJTok)]]))), 1⟩, (.tup [(.agg [cI 4, cI 0, cI 0, .str r_1, cI 0]), (I 0)]), weak_canon2 [0] [0] (by decide) (by decide) (by decide) (.cons (by decide) .nil) (.cons rfl (avAs_tup (.cons (avAs_free rfl) (.cons (avAs_free rfl) .nil))) .nil) (.box (by decide) rfl (blkAs_cells (.cons (.same rfl) (.cons (.same rfl) (.cons (.same rfl) .nil)))) .nil), rfl, rfl, rfl, rfl⟩
      · replace h := ifF hc3 h
        refine Sv.skip ?_
        exact Sv.weak (weak_canon [0, 1] rfl (by decide) (by decide) (by decide) (.cons rfl (avAs_free rfl) (.cons rfl (avAs_free rfl) (.cons rfl (.c (.ref rfl (by decide))) (.cons rfl (.c (.ref rfl (by decide))) .nil)))) (.box (by decide) rfl (blkAs_cells (.cons (.same rfl) (.cons (.same rfl) (.cons (.same rfl) (.cons (.same rfl) (.cons (.same rfl) .nil)))))) (.box (by decide) rfl (blkAs_cells (.cons (.same rfl) (.cons (.same rfl) (.cons (.same rfl) .nil)))) .nil))) (clerestory_jlex_reader_sign_j3_ok h hself hK0 hr)
  · replace h := ifF hc1 h
    refine Sv.exit ?_
    exact hK0 () h _ (weak_canon [0, 1] rfl (by decide) (by decide) (by decide) (.cons rfl (.c (.ref rfl (by decide))) (.cons rfl (.c (.ref rfl (by decide))) .nil)) (.box (by decide) rfl (blkAs_cells (.cons (.same rfl) (.cons (.same rfl) (.cons (.same rfl) (.cons (.same rfl) (.cons (.same rfl) .nil)))))) (.box (by decide) rfl (blkAs_cells (.cons (.same rfl) (.cons (.same rfl) (.cons (.same rfl) .nil)))) .nil)))
/-- (*clerestory/jlex.reader).sign -/
noncomputable def clerestory_jlex_reader_sign (r_ : Treader) : Option (TJTok × Int × Treader) :=
  lim fun kk => clerestory_jlex_reader_sign_l0 r_ (fun (_ : Unit) => 
      some ((⟨0, 0, 0, [], 0⟩ : TJTok), 4, r_)) kk 0
theorem clerestory_jlex_reader_sign_ok {mL : Int} {r_ : Treader} {r : (TJTok × Int × Treader)} (h : clerestory_jlex_reader_sign r_ = some r) : ACalls Tryd.prog (GG mL) 106 [(.c (.ref 0 3 0 0))] (upd (fun _ => none) 0 (some (.cells 3 [[.str r_.f_s, cI r_.f_at, .ro false 5 (r_.f_out.map e_TJTok)]]))) 1 (clerestory_jlex_reader_sign_post r) := by
  refine acalls_of_sv hmix c106 (R := clerestory_jlex_reader_sign_post r) ?_
  unfold clerestory_jlex_reader_sign at h
  refine Sv.seq ?_
  refine Sv.region ?_
  refine un (a2v (v := (.c (.ref 1 5 0 0))) (h' := upd _ 1 (some (.cells 5 [[cI 0, cI 0, cI 0, .str [], cI 0]]))) (n' := 2) rfl rfl (fun h => by cases h) ?_)
  refine un (a1 rfl ?_)
  refine dnil ?_
  refine Sv.seq ?_
  refine Sv.seq ?_
  refine Sv.region ?_
  refine un (a1 (v := (.agg [cI 2, cI 1])) rfl ?_)
  refine un (a1 rfl ?_)
  refine dnil ?_
  refine Sv.block ?_
  obtain ⟨kk, h⟩ := lim_some h
  refine Sv.weak (weak_canon [0, 1] rfl (by decide) (by decide) (by decide) (.cons rfl (avAs_free rfl) (.cons rfl (avAs_free rfl) (.cons rfl (.c (.ref rfl (by decide))) (.cons rfl (.c (.ref rfl (by decide))) .nil)))) (.box (by decide) rfl (blkAs_cells (.cons (.same rfl) (.cons (.same rfl) (.cons (.same rfl) (.cons (.same rfl) (.cons (.same rfl) .nil)))))) (.box (by decide) rfl (blkAs_cells (.cons (.same rfl) (.cons (.same rfl) (.cons (.same rfl) .nil)))) .nil))) (clerestory_jlex_reader_sign_l0_ok h ?_ (fun s hs => hs))
  · intro _ h _ hw1
    refine Sv.weak hw1 ?_
    refine Sv.seq ?_
    refine Sv.region ?_
    refine un (a1 (v := (.agg [cI 0, cI 0, cI 0, .str [], cI 0])) rfl ?_)
    refine un (a2n (h' := upd _ 1 (some (.cells 5 [[cI 0, cI 0, cI 0, .str [], cI 0]]))) (n' := 2) rfl rfl (fun h => by cases h) ?_)
    refine un (a1 rfl ?_)
    refine dnil ?_
    refine Sv.ret ?_
    replace h := Option.some.inj h
    subst h
    exact ⟨_, .refl _, _, rfl, ⟨upd (fun _ => none) 0 (some (.tup [(.agg [cI 0, cI 0, cI 0, .str [], cI 0]), (I 4)])), (upd (fun _ => none) 0 (some (.cells 3 [[.str r_.f_s, cI r_.f_at, .ro false 5 (r_.f_out.map e_TJTok)]]))), 1⟩, (.tup [(.agg [cI 0, cI 0, cI 0, .str [], cI 0]), (I 4)]), weak_canon2 [0] [0] (by decide) (by decide) (by decide) (.cons (by decide) .nil) (.cons rfl (avAs_tup (.cons (avAs_free rfl) (.cons (avAs_free rfl) .nil))) .nil) (.box (by decide) rfl (blkAs_cells (.cons (.same rfl) (.cons (.same rfl) (.cons (.same rfl) .nil)))) .nil), rfl, rfl, rfl, rfl⟩
def a49 : AFunc := ⟨1, [(.cell true 5 2), (.tmp 3)], (.seq (.region [⟨(some 2), (.box (.const (.agg [(.val (.int .i64 0)), (.val (.int .i64 0)), (.val (.int .i64 0)), (.str []), (.val (.int .i64 0))]))), none⟩, ⟨(some 3), (.mov (.const (.c (.val (.int .i64 0))))), none⟩])
 (.seq (.seq (.region [⟨(some 5), (.mov (.tmp 0)), none⟩, ⟨(some 6), (.call 99 [(.tmp 5), (.const (.c (.val (.int .i64 0))))]), none⟩, ⟨(some 4), (.mov (.tmp 6)), none⟩])
 (.block 0 (.seq (.region [⟨(some 8), (.mov (.tmp 4)), none⟩, ⟨(some 9), (.call 101 [(.tmp 8)]), none⟩, ⟨(some 7), (.mov (.tmp 9)), none⟩])
 (.cond (.tmp 7) (.seq (.region [⟨(some 10), (.mov (.tmp 0)), none⟩, ⟨(some 11), (.call 102 [(.tmp 10)]), none⟩, ⟨none, (.store 5 (.tmp 2) (.tmp 11)), none⟩, ⟨(some 3), (.mov (.const (.c (.val (.int .i64 0))))), none⟩])
 .ret) (.seq (.region [⟨(some 13), (.mov (.tmp 4)), none⟩, ⟨(some 14), (.call 103 [(.tmp 13)]), none⟩, ⟨(some 12), (.mov (.tmp 14)), none⟩])
 (.cond (.tmp 12) (.seq (.region [⟨(some 15), (.mov (.tmp 0)), none⟩, ⟨(some 16), (.call 104 [(.tmp 15)]), none⟩, ⟨(some 17), (.ext (.tmp 16) 0), none⟩, ⟨(some 18), (.ext (.tmp 16) 1), none⟩, ⟨none, (.store 5 (.tmp 2) (.tmp 17)), none⟩, ⟨(some 3), (.mov (.tmp 18)), none⟩])
 .ret) (.seq (.region [⟨(some 20), (.mov (.tmp 4)), none⟩, ⟨(some 21), (.bin .eql (.tmp 20) (.const (.c (.val (.int .u8 34))))), none⟩, ⟨(some 19), (.mov (.tmp 21)), none⟩])
 (.cond (.tmp 19) (.seq (.region [⟨(some 22), (.mov (.tmp 0)), none⟩, ⟨(some 23), (.call 105 [(.tmp 22)]), none⟩, ⟨(some 24), (.ext (.tmp 23) 0), none⟩, ⟨(some 25), (.ext (.tmp 23) 1), none⟩, ⟨none, (.store 5 (.tmp 2) (.tmp 24)), none⟩, ⟨(some 3), (.mov (.tmp 25)), none⟩])
 .ret) .skip))))))))
 (.seq (.region [⟨(some 26), (.mov (.tmp 0)), none⟩, ⟨(some 27), (.call 106 [(.tmp 26)]), none⟩, ⟨(some 28), (.ext (.tmp 27) 0), none⟩, ⟨(some 29), (.ext (.tmp 27) 1), none⟩, ⟨none, (.store 5 (.tmp 2) (.tmp 28)), none⟩, ⟨(some 3), (.mov (.tmp 29)), none⟩])
 .ret)))⟩
set_option maxRecDepth 100000 in
theorem c49 : compFunc Tryd.prog 49 = some a49 := by kernel_rfl
def clerestory_jlex_reader_next_post (r : (TJTok × Int × Treader)) : AV → Heap → Nat → Prop := fun v h' n' => v = (.tup [(.agg [cI r.1.Kind, cI r.1.From, cI r.1.To, .str r.1.Text, cI r.1.Num]), (I r.2.1)]) ∧ (h' = (upd (fun _ => none) 0 (some (.cells 3 [[.str r.2.2.f_s, cI r.2.2.f_at, .ro false 5 (r.2.2.f_out.map e_TJTok)]])))) ∧ n' = 1
/-- (*clerestory/jlex.reader).next -/
noncomputable def clerestory_jlex_reader_next (r_ : Treader) : Option (TJTok × Int × Treader) :=
  (clerestory_jlex_reader_peek r_ 0).bind fun r_1 =>
  if (jlex_letter r_1) then
    (clerestory_jlex_reader_name r_).bind fun r_2 =>
    some (r_2.1, 0, r_2.2)
  else
    if (jlex_digit r_1) then
      (clerestory_jlex_reader_number r_).bind fun r_3 =>
      some (r_3.1, r_3.2.1, r_3.2.2)
    else
      if decide (r_1 = 34) then
        (clerestory_jlex_reader_text r_).bind fun r_4 =>
        some (r_4.1, r_4.2.1, r_4.2.2)
      else
        (clerestory_jlex_reader_sign r_).bind fun r_5 =>
        some (r_5.1, r_5.2.1, r_5.2.2)
theorem clerestory_jlex_reader_next_ok {mL : Int} {r_ : Treader} {r : (TJTok × Int × Treader)} (h : clerestory_jlex_reader_next r_ = some r) : ACalls Tryd.prog (GG mL) 49 [(.c (.ref 0 3 0 0))] (upd (fun _ => none) 0 (some (.cells 3 [[.str r_.f_s, cI r_.f_at, .ro false 5 (r_.f_out.map e_TJTok)]]))) 1 (clerestory_jlex_reader_next_post r) := by
  refine acalls_of_sv hmix c49 (R := clerestory_jlex_reader_next_post r) ?_
  unfold clerestory_jlex_reader_next at h
  refine Sv.seq ?_
  refine Sv.region ?_
  refine un (a2v (v := (.c (.ref 1 5 0 0))) (h' := upd _ 1 (some (.cells 5 [[cI 0, cI 0, cI 0, .str [], cI 0]]))) (n' := 2) rfl rfl (fun h => by cases h) ?_)
  refine un (a1 rfl ?_)
  refine dnil ?_
  refine Sv.seq ?_
  refine Sv.seq ?_
  refine Sv.region ?_
  refine un (a1 rfl ?_)
  obtain ⟨r_1, hr1, h⟩ := bnd h
  refine un (ac_lend (h2 := (upd _ 0 none)) (clerestory_jlex_reader_peek_ok hr1) rfl (.cons (.c (ref_ro rfl (gone rfl) (.cons (.same rfl) (.cons (.same rfl) (.cons (.same rfl) .nil))) rfl)) (.cons (avAs_free rfl) .nil)) (hsub_none (hsub_refl _)) rfl rfl (.inr rfl) ?_)
  refine un (a1 rfl ?_)
  refine dnil ?_
  refine Sv.block ?_
  refine Sv.seq ?_
  refine Sv.region ?_
  refine un (a1 rfl ?_)
  refine un (ac_pure (jlex_letter_ok (mL := mL) r_1) rfl rfl rfl ?_)
  refine un (a1 rfl ?_)
  refine dnil ?_
  refine Sv.cond (b := (jlex_letter r_1)) rfl (fun hc1 => ?_) (fun hc1 => ?_)
  · replace h := ifT hc1 h
    refine Sv.seq ?_
    refine Sv.region ?_
    refine un (a1 rfl ?_)
    obtain ⟨r_2, hr2, h⟩ := bnd h
    refine un (ac_gen (bs := [0]) («as» := [(.c (.ref 0 3 0 0))]) (h2 := _) (h1 := (upd (fun _ => none) 0 (some (.cells 3 [[.str r_.f_s, cI r_.f_at, .ro false 5 (r_.f_out.map e_TJTok)]])))) (clerestory_jlex_reader_name_ok hr2) rfl (.cons (.c (.ref rfl (by decide))) .nil) (hsub_refl _) (.cons rfl (.nil _)) (fun h => by cases h) (by decide) (by decide) (.cons (.c (.ref rfl (by decide))) .nil) (.box (by decide) rfl (blkAs_cells (.cons (.same rfl) (.cons (.same rfl) (.cons (.same rfl) .nil)))) .nil) ?_)
    rintro _ _ _ hn ⟨rfl, rfl, rfl⟩
    refine ⟨.inl rfl, (upd (rem [0] _) 0 (some (.cells 3 [[.str r_2.2.f_s, cI r_2.2.f_at, .ro false 5 (r_2.2.f_out.map e_TJTok)]]))), fun hbd => (m3_cons (m3_box rfl rfl) (m3_rem (in_cons (by decide) (in_nil _)) (.cons (by decide) .nil) hbd)), (.agg [cI r_2.1.Kind, cI r_2.1.From, cI r_2.1.To, .str r_2.1.Text, cI r_2.1.Num]), 2, rfl, rfl, ?_⟩
    refine un (a2n (h' := upd _ 1 (some (.cells 5 [[cI r_2.1.Kind, cI r_2.1.From, cI r_2.1.To, .str r_2.1.Text, cI r_2.1.Num]]))) (n' := 2) rfl rfl (fun h => by cases h) ?_)
    refine un (a1 rfl ?_)
    refine dnil ?_
    refine Sv.ret ?_
    replace h := Option.some.inj h
    subst h
    exact ⟨_, .refl _, _, rfl, ⟨upd (fun _ => none) 0 (some (.tup [(.agg [cI r_2.1.Kind, cI r_2.1.From, cI r_2.1.To, .str r_2.1.Text, cI r_2.1.Num]), (I 0)])), (upd (fun _ => none) 0 (some (.cells 3 [[.str r_2.2.f_s, cI r_2.2.f_at, .ro false 5 (r_2.2.f_out.map e_TJTok)]]))), 1⟩, (.tup [(.agg [cI r_2.1.Kind, cI r_2.1.From, cI r_2.1.To, .str r_2.1.Text, cI r_2.1.Num]), (I 0)]), weak_canon2 [0] [0] (by decide) (by decide) (by decide) (.cons (by decide) .nil) (.cons rfl (avAs_tup (.cons (avAs_free rfl) (.cons (avAs_free rfl) .nil))) .nil) (.box (by decide) rfl (blkAs_cells (.cons (.same rfl) (.cons (.same rfl) (.cons (.same rfl) .nil)))) .nil), rfl, rfl, rfl, rfl⟩
  · replace h := ifF hc1 h
    refine Sv.seq ?_
    refine Sv.region ?_
    refine un (a1 rfl ?_)
    refine un (ac_pure (jlex_digit_ok (mL := mL) r_1) rfl rfl rfl ?_)
    refine un (a1 rfl ?_)
    refine dnil ?_
    refine Sv.cond (b := (jlex_digit r_1)) rfl (fun hc2 => ?_) (fun hc2 => ?_)
    · replace h := ifT hc2 h
      refine Sv.seq ?_
      refine Sv.region ?_
      refine un (a1 rfl ?_)
      obtain ⟨r_3, hr3, h⟩ := bnd h
      refine un (ac_gen (bs := [0]) («as» := [(.c (.ref 0 3 0 0))]) (h2 := _) (h1 := (upd (fun _ => none) 0 (some (.cells 3 [[.str r_.f_s, cI r_.f_at, .ro false 5 (r_.f_out.map e_TJTok)]])))) (clerestory_jlex_reader_number_ok hr3) rfl (.cons (.c (.ref rfl (by decide))) .nil) (hsub_refl _) (.cons rfl (.nil _)) (fun h => by cases h) (by decide) (by decide) (.cons (.c (.ref rfl (by decide))) .nil) (.box (by decide) rfl (blkAs_cells (.cons (.same rfl) (.cons (.same rfl) (.cons (.same rfl) .nil)))) .nil) ?_)
      rintro _ _ _ hn ⟨rfl, rfl, rfl⟩
      refine ⟨.inl rfl, (upd (rem [0] _) 0 (some (.cells 3 [[.str r_3.2.2.f_s, cI r_3.2.2.f_at, .ro false 5 (r_3.2.2.f_out.map e_TJTok)]]))), fun hbd => (m3_cons (m3_box rfl rfl) (m3_rem (in_cons (by decide) (in_nil _)) (.cons (by decide) .nil) hbd)), (.tup [(.agg [cI r_3.1.Kind, cI r_3.1.From, cI r_3.1.To, .str r_3.1.Text, cI r_3.1.Num]), (I r_3.2.1)]), 2, rfl, rfl, ?_⟩
      refine un (a1 (v := (.agg [cI r_3.1.Kind, cI r_3.1.From, cI r_3.1.To, .str r_3.1.Text, cI r_3.1.Num])) rfl ?_)
      refine un (a1 (v := (I r_3.2.1)) rfl ?_)
      refine un (a2n (h' := upd _ 1 (some (.cells 5 [[cI r_3.1.Kind, cI r_3.1.From, cI r_3.1.To, .str r_3.1.Text, cI r_3.1.Num]]))) (n' := 2) rfl rfl (fun h => by cases h) ?_)
      refine un (a1 rfl ?_)
      refine dnil ?_
      refine Sv.ret ?_
      replace h := Option.some.inj h
      subst h
      exact ⟨_, .refl _, _, rfl, ⟨upd (fun _ => none) 0 (some (.tup [(.agg [cI r_3.1.Kind, cI r_3.1.From, cI r_3.1.To, .str r_3.1.Text, cI r_3.1.Num]), (I r_3.2.1)])), (upd (fun _ => none) 0 (some (.cells 3 [[.str r_3.2.2.f_s, cI r_3.2.2.f_at, .ro false 5 (r_3.2.2.f_out.map e_TJTok)]]))), 1⟩, (.tup [(.agg [cI r_3.1.Kind, cI r_3.1.From, cI r_3.1.To, .str r_3.1.Text, cI r_3.1.Num]), (I r_3.2.1)]), weak_canon2 [0] [0] (by decide) (by decide) (by decide) (.cons (by decide) .nil) (.cons rfl (avAs_tup (.cons (avAs_free rfl) (.cons (avAs_free rfl) .nil))) .nil) (.box (by decide) rfl (blkAs_cells (.cons (.same rfl) (.cons (.same rfl) (.cons (.same rfl) .nil)))) .nil), rfl, rfl, rfl, rfl⟩
    · replace h := ifF hc2 h
      refine Sv.seq ?_
      refine Sv.region ?_
      refine un (a1 rfl ?_)
      refine un (a1 (v := (B (decide (r_1 = 34)))) rfl ?_)
      refine un (a1 rfl ?_)
      refine dnil ?_
      refine Sv.cond (b := decide (r_1 = 34)) rfl (fun hc3 => ?_) (fun hc3 => ?_)
      · replace h := ifT hc3 h
        refine Sv.seq ?_
        refine Sv.region ?_
        refine un (a1 rfl ?_)
        obtain ⟨r_4, hr4, h⟩ := bnd h
        refine un (ac_gen (bs := [0]) («as» := [(.c (.ref 0 3 0 0))]) (h2 := _) (h1 := (upd (fun _ => none) 0 (some (.cells 3 [[.str r_.f_s, cI r_.f_at, .ro false 5 (r_.f_out.map e_TJTok)]])))) (clerestory_jlex_reader_text_ok hr4) rfl (.cons (.c (.ref rfl (by decide))) .nil) (hsub_refl _) (.cons rfl (.nil _)) (fun h => by cases h) (by decide) (by decide) (.cons (.c (.ref rfl (by decide))) .nil) (.box (by decide) rfl (blkAs_cells (.cons (.same rfl) (.cons (.same rfl) (.cons (.same rfl) .nil)))) .nil) ?_)
        rintro _ _ _ hn ⟨rfl, rfl, rfl⟩
        refine ⟨.inl rfl, (upd (rem [0] _) 0 (some (.cells 3 [[.str r_4.2.2.f_s, cI r_4.2.2.f_at, .ro false 5 (r_4.2.2.f_out.map e_TJTok)]]))), fun hbd => (m3_cons (m3_box rfl rfl) (m3_rem (in_cons (by decide) (in_nil _)) (.cons (by decide) .nil) hbd)), (.tup [(.agg [cI r_4.1.Kind, cI r_4.1.From, cI r_4.1.To, .str r_4.1.Text, cI r_4.1.Num]), (I r_4.2.1)]), 2, rfl, rfl, ?_⟩
        refine un (a1 (v := (.agg [cI r_4.1.Kind, cI r_4.1.From, cI r_4.1.To, .str r_4.1.Text, cI r_4.1.Num])) rfl ?_)
        refine un (a1 (v := (I r_4.2.1)) rfl ?_)
        refine un (a2n (h' := upd _ 1 (some (.cells 5 [[cI r_4.1.Kind, cI r_4.1.From, cI r_4.1.To, .str r_4.1.Text, cI r_4.1.Num]]))) (n' := 2) rfl rfl (fun h => by cases h) ?_)
        refine un (a1 rfl ?_)
        refine dnil ?_
        refine Sv.ret ?_
        replace h := Option.some.inj h
        subst h
        exact ⟨_, .refl _, _, rfl, ⟨upd (fun _ => none) 0 (some (.tup [(.agg [cI r_4.1.Kind, cI r_4.1.From, cI r_4.1.To, .str r_4.1.Text, cI r_4.1.Num]), (I r_4.2.1)])), (upd (fun _ => none) 0 (some (.cells 3 [[.str r_4.2.2.f_s, cI r_4.2.2.f_at, .ro false 5 (r_4.2.2.f_out.map e_TJTok)]]))), 1⟩, (.tup [(.agg [cI r_4.1.Kind, cI r_4.1.From, cI r_4.1.To, .str r_4.1.Text, cI r_4.1.Num]), (I r_4.2.1)]), weak_canon2 [0] [0] (by decide) (by decide) (by decide) (.cons (by decide) .nil) (.cons rfl (avAs_tup (.cons (avAs_free rfl) (.cons (avAs_free rfl) .nil))) .nil) (.box (by decide) rfl (blkAs_cells (.cons (.same rfl) (.cons (.same rfl) (.cons (.same rfl) .nil)))) .nil), rfl, rfl, rfl, rfl⟩
      · replace h := ifF hc3 h
        refine Sv.skip ?_
        refine Sv.seq ?_
        refine Sv.region ?_
        refine un (a1 rfl ?_)
        obtain ⟨r_5, hr5, h⟩ := bnd h
        refine un (ac_gen (bs := [0]) («as» := [(.c (.ref 0 3 0 0))]) (h2 := _) (h1 := (upd (fun _ => none) 0 (some (.cells 3 [[.str r_.f_s, cI r_.f_at, .ro false 5 (r_.f_out.map e_TJTok)]])))) (clerestory_jlex_reader_sign_ok hr5) rfl (.cons (.c (.ref rfl (by decide))) .nil) (hsub_refl _) (.cons rfl (.nil _)) (fun h => by cases h) (by decide) (by decide) (.cons (.c (.ref rfl (by decide))) .nil) (.box (by decide) rfl (blkAs_cells (.cons (.same rfl) (.cons (.same rfl) (.cons (.same rfl) .nil)))) .nil) ?_)
        rintro _ _ _ hn ⟨rfl, rfl, rfl⟩
        refine ⟨.inl rfl, (upd (rem [0] _) 0 (some (.cells 3 [[.str r_5.2.2.f_s, cI r_5.2.2.f_at, .ro false 5 (r_5.2.2.f_out.map e_TJTok)]]))), fun hbd => (m3_cons (m3_box rfl rfl) (m3_rem (in_cons (by decide) (in_nil _)) (.cons (by decide) .nil) hbd)), (.tup [(.agg [cI r_5.1.Kind, cI r_5.1.From, cI r_5.1.To, .str r_5.1.Text, cI r_5.1.Num]), (I r_5.2.1)]), 2, rfl, rfl, ?_⟩
        refine un (a1 (v := (.agg [cI r_5.1.Kind, cI r_5.1.From, cI r_5.1.To, .str r_5.1.Text, cI r_5.1.Num])) rfl ?_)
        refine un (a1 (v := (I r_5.2.1)) rfl ?_)
        refine un (a2n (h' := upd _ 1 (some (.cells 5 [[cI r_5.1.Kind, cI r_5.1.From, cI r_5.1.To, .str r_5.1.Text, cI r_5.1.Num]]))) (n' := 2) rfl rfl (fun h => by cases h) ?_)
        refine un (a1 rfl ?_)
        refine dnil ?_
        refine Sv.ret ?_
        replace h := Option.some.inj h
        subst h
        exact ⟨_, .refl _, _, rfl, ⟨upd (fun _ => none) 0 (some (.tup [(.agg [cI r_5.1.Kind, cI r_5.1.From, cI r_5.1.To, .str r_5.1.Text, cI r_5.1.Num]), (I r_5.2.1)])), (upd (fun _ => none) 0 (some (.cells 3 [[.str r_5.2.2.f_s, cI r_5.2.2.f_at, .ro false 5 (r_5.2.2.f_out.map e_TJTok)]]))), 1⟩, (.tup [(.agg [cI r_5.1.Kind, cI r_5.1.From, cI r_5.1.To, .str r_5.1.Text, cI r_5.1.Num]), (I r_5.2.1)]), weak_canon2 [0] [0] (by decide) (by decide) (by decide) (.cons (by decide) .nil) (.cons rfl (avAs_tup (.cons (avAs_free rfl) (.cons (avAs_free rfl) .nil))) .nil) (.box (by decide) rfl (blkAs_cells (.cons (.same rfl) (.cons (.same rfl) (.cons (.same rfl) .nil)))) .nil), rfl, rfl, rfl, rfl⟩
def a137_clerestory_jlex_reader_run11_c0 : ACode := (.cond (.tmp 32) .skip (.exit 0))
def a137_clerestory_jlex_reader_run11_c1 : ACode := (.block 1 (.region [⟨(some 33), (.mov (.tmp 0)), none⟩, ⟨(some 34), (.nilc (.tmp 33)), none⟩, ⟨(some 35), (.faddr 1 (.tmp 34)), none⟩, ⟨(some 36), (.load false 1 (.tmp 35)), none⟩, ⟨(some 37), (.bin .add (.tmp 36) (.const (.c (.val (.int .i64 1))))), none⟩, ⟨(some 38), (.nilc (.tmp 33)), none⟩, ⟨(some 39), (.faddr 1 (.tmp 38)), none⟩, ⟨none, (.store 1 (.tmp 39) (.tmp 37)), none⟩]))
def a137_clerestory_jlex_reader_run11_c2 : ACode := (.seq (.seq (.drawn (.fin [(⟨(some 10), (.mov (.tmp 0)), none⟩, (0, 0)), (⟨(some 11), (.nilc (.tmp 10)), none⟩, (0, 1)), (⟨(some 12), (.faddr 1 (.tmp 11)), none⟩, (0, 2)), (⟨(some 13), (.load false 1 (.tmp 12)), none⟩, (0, 3)), (⟨(some 14), (.mov (.tmp 0)), none⟩, (0, 4)), (⟨(some 15), (.nilc (.tmp 14)), none⟩, (0, 5)), (⟨(some 16), (.faddr 0 (.tmp 15)), none⟩, (0, 6)), (⟨(some 17), (.load false 1 (.tmp 16)), none⟩, (0, 7)), (⟨(some 18), (.lenS (.tmp 17)), none⟩, (0, 8)), (⟨(some 19), (.bin .lss (.tmp 13) (.tmp 18)), none⟩, (0, 9)), (⟨(some 20), (.mov (.tmp 19)), none⟩, (0, 10)), (⟨(some 21), (.mov (.tmp 1)), (some (20, true))⟩, (0, 11)), (⟨(some 22), (.mov (.tmp 0)), (some (20, true))⟩, (0, 12)), (⟨(some 23), (.nilc (.tmp 22)), (some (20, true))⟩, (0, 13)), (⟨(some 24), (.faddr 0 (.tmp 23)), (some (20, true))⟩, (0, 14)), (⟨(some 25), (.load false 1 (.tmp 24)), (some (20, true))⟩, (0, 15)), (⟨(some 26), (.mov (.tmp 0)), (some (20, true))⟩, (0, 16)), (⟨(some 27), (.nilc (.tmp 26)), (some (20, true))⟩, (0, 17)), (⟨(some 28), (.faddr 1 (.tmp 27)), (some (20, true))⟩, (0, 18)), (⟨(some 29), (.load false 1 (.tmp 28)), (some (20, true))⟩, (0, 19)), (⟨(some 30), (.idxS (.tmp 25) (.tmp 29)), (some (20, true))⟩, (0, 20)), (⟨(some 31), (.callv (.tmp 21) [(.tmp 30)]), (some (20, true))⟩, (2, 21)), (⟨(some 32), (.pick (.tmp 20) (.tmp 31) (.const (.c (.val (.bool false))))), none⟩, (0, 22))]))
 a137_clerestory_jlex_reader_run11_c0)
 a137_clerestory_jlex_reader_run11_c1)
def clerestory_jlex_reader_run11_post (r : ((List UInt8) × Treader)) : AV → Heap → Nat → Prop := fun v h' n' => ∃ z0 : Bool, (z0 = true → r.2.f_out = []) ∧ v = (S r.1) ∧ (h' = (upd (upd (fun _ => none) 0 (some (.cells 3 [[.str r.2.f_s, cI r.2.f_at, lstC z0 2 5 r.2.f_out.length]]))) 2 (lstB z0 5 (r.2.f_out.map e_TJTok)))) ∧ n' = 3
abbrev clerestory_jlex_reader_run11_q0 (mL : Int) (Q : AExit → St → Prop) : AExit → St → Prop := AThen (Sv Tryd.prog (GG mL) 2 a137_clerestory_jlex_reader_run11_c1 Q) Q
noncomputable def clerestory_jlex_reader_run11_j3 (r1 : Int) (r_ : Treader) (self : Int → (List TJTok) → Option ((List UInt8) × Treader)) (K0_ : Int → (List TJTok) → Option ((List UInt8) × Treader)) (r22 : (List TJTok)) (v32 : Bool) : Option ((List UInt8) × Treader) :=
  if v32 then
    self (wi (r1 + 1)) r22
  else
    K0_ r1 r22
theorem clerestory_jlex_reader_run11_j3_ok {mL : Int} {Q : AExit → St → Prop} {r1 : Int} {r_ : Treader} {self : Int → (List TJTok) → Option ((List UInt8) × Treader)} {K0_ : Int → (List TJTok) → Option ((List UInt8) × Treader)} {r22 : (List TJTok)} {v32 : Bool} {zr22 : Bool} (hzr22 : zr22 = true → r22 = []) {o : ((List UInt8) × Treader)} (h : clerestory_jlex_reader_run11_j3 r1 r_ self K0_ r22 v32 = some o)
    (hself : ∀ (r1 : Int) (r2 : (List TJTok)) (zr2 : Bool) (_ : zr2 = true → r2 = []), self r1 r2 = some o → ∀ s, Weak 2 s ⟨(upd (upd (upd (fun _ => none) 0 (some (.c (.ref 0 3 0 0)))) 1 (some (.c (.fn (.func 138) [] [])))) 5 (some (I r_.f_at))), (upd (upd (fun _ => none) 0 (some (.cells 3 [[.str r_.f_s, cI r1, lstC zr2 1 5 r2.length]]))) 1 (lstB zr2 5 (r2.map e_TJTok))), 2⟩ → (Q) .normal s)
    (hK0 : ∀ (r11 : Int) (r21 : (List TJTok)) (zr21 : Bool) (_ : zr21 = true → r21 = []), K0_ r11 r21 = some o → ∀ s, Weak 2 s ⟨(upd (upd (fun _ => none) 0 (some (.c (.ref 0 3 0 0)))) 5 (some (I r_.f_at))), (upd (upd (fun _ => none) 0 (some (.cells 3 [[.str r_.f_s, cI r11, lstC zr21 1 5 r21.length]]))) 1 (lstB zr21 5 (r21.map e_TJTok))), 2⟩ → Q (.exit 0) s)
    (hr : ∀ s, Ends a137.results 2 (clerestory_jlex_reader_run11_post o) .ret s → Q .ret s) :
    Sv Tryd.prog (GG mL) 2 a137_clerestory_jlex_reader_run11_c0 (clerestory_jlex_reader_run11_q0 mL Q) ⟨(upd (upd (upd (upd (fun _ => none) 0 (some (.c (.ref 0 3 0 0)))) 1 (some (.c (.fn (.func 138) [] [])))) 5 (some (I r_.f_at))) 32 (some (B v32))), (upd (upd (fun _ => none) 0 (some (.cells 3 [[.str r_.f_s, cI r1, lstC zr22 1 5 r22.length]]))) 1 (lstB zr22 5 (r22.map e_TJTok))), 2⟩ := by
  unfold clerestory_jlex_reader_run11_j3 at h
  refine Sv.cond (b := v32) rfl (fun hc1 => ?_) (fun hc1 => ?_)
  · replace h := ifT hc1 h
    refine Sv.skip ?_
    refine Sv.block ?_
    refine Sv.region ?_
    refine un (a1 rfl ?_)
    refine un (a1 (v := (.c (.ref 0 3 0 0))) rfl ?_)
    refine un (a1 (v := (.c (.ref 0 3 0 1))) rfl ?_)
    refine un (a1 (v := (I r1)) rfl ?_)
    refine un (a1 (v := (I (wi (r1 + 1)))) rfl ?_)
    refine un (a1 (v := (.c (.ref 0 3 0 0))) rfl ?_)
    refine un (a1 (v := (.c (.ref 0 3 0 1))) rfl ?_)
    refine un (a2n (h' := upd _ 0 (some (.cells 3 [[.str r_.f_s, cI (wi (r1 + 1)), lstC zr22 1 5 r22.length]]))) (n' := 2) rfl rfl (fun h => by cases h) ?_)
    refine dnil ?_
    exact hself (wi (r1 + 1)) r22 zr22 hzr22 h _ (weak_canon [0, 1] rfl (by decide) (by decide) (by decide) (.cons rfl (avAs_free rfl) (.cons rfl (avAs_free rfl) (.cons rfl (.c (.ref rfl (by decide))) .nil))) (.row (by decide) rfl (fr_map fun _ => rfl) (.box (by decide) rfl (blkAs_cells (.cons (.same rfl) (.cons (.same rfl) (.cons (lstC_ren rfl (by decide)) .nil)))) .nil)))
  · replace h := ifF hc1 h
    refine Sv.exit ?_
    exact hK0 r1 r22 zr22 hzr22 h _ (weak_canon [0, 1] rfl (by decide) (by decide) (by decide) (.cons rfl (avAs_free rfl) (.cons rfl (.c (.ref rfl (by decide))) .nil)) (.row (by decide) rfl (fr_map fun _ => rfl) (.box (by decide) rfl (blkAs_cells (.cons (.same rfl) (.cons (.same rfl) (.cons (lstC_ren rfl (by decide)) .nil)))) .nil)))
noncomputable def clerestory_jlex_reader_run11_l0 (r_ : Treader) (K0_ : Int → (List TJTok) → Option ((List UInt8) × Treader)) : Nat → Int → (List TJTok) → Option ((List UInt8) × Treader)
  | 0, _, _ => none
  | k + 1, r1, r2 =>
    if decide (r1 < (r_.f_s.length : Int)) then
      (at? r_.f_s r1).bind fun c_ =>
      clerestory_jlex_reader_run11_j3 r1 r_ (clerestory_jlex_reader_run11_l0 r_ K0_ k) K0_ r2 (clerestory_jlex_reader_name_fn1 (c_.toNat : Int))
    else
      clerestory_jlex_reader_run11_j3 r1 r_ (clerestory_jlex_reader_run11_l0 r_ K0_ k) K0_ r2 false
theorem clerestory_jlex_reader_run11_l0_ok {mL : Int} {Q : AExit → St → Prop} {r_ : Treader} {K0_ : Int → (List TJTok) → Option ((List UInt8) × Treader)} {k : Nat} {r1 : Int} {r2 : (List TJTok)} {zr2 : Bool} (hzr2 : zr2 = true → r2 = []) {o : ((List UInt8) × Treader)} (h : clerestory_jlex_reader_run11_l0 r_ K0_ k r1 r2 = some o)
    (hK0 : ∀ (r11 : Int) (r21 : (List TJTok)) (zr21 : Bool) (_ : zr21 = true → r21 = []), K0_ r11 r21 = some o → ∀ s, Weak 2 s ⟨(upd (upd (fun _ => none) 0 (some (.c (.ref 0 3 0 0)))) 5 (some (I r_.f_at))), (upd (upd (fun _ => none) 0 (some (.cells 3 [[.str r_.f_s, cI r11, lstC zr21 1 5 r21.length]]))) 1 (lstB zr21 5 (r21.map e_TJTok))), 2⟩ → Q (.exit 0) s)
    (hr : ∀ s, Ends a137.results 2 (clerestory_jlex_reader_run11_post o) .ret s → Q .ret s) :
    Sv Tryd.prog (GG mL) 2 (.loop a137_clerestory_jlex_reader_run11_c2) Q ⟨(upd (upd (upd (fun _ => none) 0 (some (.c (.ref 0 3 0 0)))) 1 (some (.c (.fn (.func 138) [] [])))) 5 (some (I r_.f_at))), (upd (upd (fun _ => none) 0 (some (.cells 3 [[.str r_.f_s, cI r1, lstC zr2 1 5 r2.length]]))) 1 (lstB zr2 5 (r2.map e_TJTok))), 2⟩ := by
  refine Sv.loop (I := fun k s => ∃ (r1 : Int), ∃ (r2 : (List TJTok)), ∃ (zr2 : Bool), (zr2 = true → r2 = []) ∧ clerestory_jlex_reader_run11_l0 r_ K0_ k r1 r2 = some o ∧ s = ⟨(upd (upd (upd (fun _ => none) 0 (some (.c (.ref 0 3 0 0)))) 1 (some (.c (.fn (.func 138) [] [])))) 5 (some (I r_.f_at))), (upd (upd (fun _ => none) 0 (some (.cells 3 [[.str r_.f_s, cI r1, lstC zr2 1 5 r2.length]]))) 1 (lstB zr2 5 (r2.map e_TJTok))), 2⟩) (fun k s hI => ?_) ⟨r1, r2, zr2, hzr2, h, rfl⟩
  clear h
  clear hzr2 zr2 r2 r1
  obtain ⟨r1, r2, zr2, hzr2, h, rfl⟩ := hI
  cases k with
  | zero => cases h
  | succ k =>
  rw [clerestory_jlex_reader_run11_l0] at h
  have hself : ∀ (r1 : Int) (r2 : (List TJTok)) (zr2 : Bool) (_ : zr2 = true → r2 = []), (clerestory_jlex_reader_run11_l0 r_ K0_ k) r1 r2 = some o → ∀ s, Weak 2 s ⟨(upd (upd (upd (fun _ => none) 0 (some (.c (.ref 0 3 0 0)))) 1 (some (.c (.fn (.func 138) [] [])))) 5 (some (I r_.f_at))), (upd (upd (fun _ => none) 0 (some (.cells 3 [[.str r_.f_s, cI r1, lstC zr2 1 5 r2.length]]))) 1 (lstB zr2 5 (r2.map e_TJTok))), 2⟩ → (AThen (fun s' => ∃ s'' k', Weak 2 s' s'' ∧ k' < k + 1 ∧ (fun k s => ∃ (r1 : Int), ∃ (r2 : (List TJTok)), ∃ (zr2 : Bool), (zr2 = true → r2 = []) ∧ clerestory_jlex_reader_run11_l0 r_ K0_ k r1 r2 = some o ∧ s = ⟨(upd (upd (upd (fun _ => none) 0 (some (.c (.ref 0 3 0 0)))) 1 (some (.c (.fn (.func 138) [] [])))) 5 (some (I r_.f_at))), (upd (upd (fun _ => none) 0 (some (.cells 3 [[.str r_.f_s, cI r1, lstC zr2 1 5 r2.length]]))) 1 (lstB zr2 5 (r2.map e_TJTok))), 2⟩) k' s'') Q) .normal s := fun r1 r2 zr2 hzr2 h s hw => ⟨_, k, hw, Nat.lt_succ_self k, r1, r2, zr2, hzr2, h, rfl⟩
  refine Sv.seq ?_
  refine Sv.seq ?_
  refine Sv.drawn ?_
  refine un (a1 rfl ?_)
  refine un (a1 (v := (.c (.ref 0 3 0 0))) rfl ?_)
  refine un (a1 (v := (.c (.ref 0 3 0 1))) rfl ?_)
  refine un (a1 (v := (I r1)) rfl ?_)
  refine un (a1 rfl ?_)
  refine un (a1 (v := (.c (.ref 0 3 0 0))) rfl ?_)
  refine un (a1 (v := (.c (.ref 0 3 0 0))) rfl ?_)
  refine un (a1 (v := (S r_.f_s)) rfl ?_)
  refine un (a1 (v := (I (r_.f_s.length : Int))) rfl ?_)
  refine un (a1 (v := (B (decide (r1 < (r_.f_s.length : Int))))) rfl ?_)
  refine un (a1 rfl ?_)
  refine split2 (fun hc2 => ?_) (fun hc2 => ?_)
  · replace h := ifT hc2 h
    refine gt rfl (a1 rfl ?_)
    refine gt rfl (a1 rfl ?_)
    refine gt rfl (a1 (v := (.c (.ref 0 3 0 0))) rfl ?_)
    refine gt rfl (a1 (v := (.c (.ref 0 3 0 0))) rfl ?_)
    refine gt rfl (a1 (v := (S r_.f_s)) rfl ?_)
    refine gt rfl (a1 rfl ?_)
    refine gt rfl (a1 (v := (.c (.ref 0 3 0 0))) rfl ?_)
    refine gt rfl (a1 (v := (.c (.ref 0 3 0 1))) rfl ?_)
    refine gt rfl (a1 (v := (I r1)) rfl ?_)
    obtain ⟨c_, hx1, h⟩ := bnd h
    refine gt rfl (a1 (v := (.c (.val (.int .u8 (c_.toNat : Int))))) (s_idxS rfl rfl hx1) ?_)
    refine gt rfl (acv_gen (bs := []) («as» := [(.c (.val (.int .u8 (c_.toNat : Int))))]) (h2 := _) (h1 := (fun _ => none)) rfl (by kernel_rfl) (clerestory_jlex_reader_name_fn1_ok (mL := mL) (c_.toNat : Int)) rfl (.cons (avAs_free rfl) .nil) (hsub_refl _) (.nil _) (fun _ => rfl) (by decide) (by decide) (.cons (avAs_free rfl) .nil) .nil ?_)
    rintro _ _ _ hn ⟨rfl, rfl, rfl⟩
    refine ⟨.inl rfl, (rem [] _), fun hbd => (m3_rem (in_nil _) (.nil) hbd), (B (clerestory_jlex_reader_name_fn1 (c_.toNat : Int))), 2, rfl, rfl, ?_⟩
    refine un (a1 (v := (B (clerestory_jlex_reader_name_fn1 (c_.toNat : Int)))) rfl ?_)
    refine dnil ?_
    exact Sv.weak (weak_canon [0, 1] rfl (by decide) (by decide) (by decide) (.cons rfl (avAs_free rfl) (.cons rfl (avAs_free rfl) (.cons rfl (avAs_free rfl) (.cons rfl (.c (.ref rfl (by decide))) .nil)))) (.row (by decide) rfl (fr_map fun _ => rfl) (.box (by decide) rfl (blkAs_cells (.cons (.same rfl) (.cons (.same rfl) (.cons (lstC_ren rfl (by decide)) .nil)))) .nil))) (clerestory_jlex_reader_run11_j3_ok hzr2 h hself hK0 hr)
  · replace h := ifF hc2 h
    refine gs rfl rfl ?_
    refine gs rfl rfl ?_
    refine gs rfl rfl ?_
    refine gs rfl rfl ?_
    refine gs rfl rfl ?_
    refine gs rfl rfl ?_
    refine gs rfl rfl ?_
    refine gs rfl rfl ?_
    refine gs rfl rfl ?_
    refine gs rfl rfl ?_
    refine gs rfl rfl ?_
    refine un (a1 (v := (B false)) rfl ?_)
    refine dnil ?_
    exact Sv.weak (weak_canon [0, 1] rfl (by decide) (by decide) (by decide) (.cons rfl (avAs_free rfl) (.cons rfl (avAs_free rfl) (.cons rfl (avAs_free rfl) (.cons rfl (.c (.ref rfl (by decide))) .nil)))) (.row (by decide) rfl (fr_map fun _ => rfl) (.box (by decide) rfl (blkAs_cells (.cons (.same rfl) (.cons (.same rfl) (.cons (lstC_ren rfl (by decide)) .nil)))) .nil))) (clerestory_jlex_reader_run11_j3_ok hzr2 h hself hK0 hr)
/-- (*clerestory/jlex.reader).run -/
noncomputable def clerestory_jlex_reader_run11 (r_ : Treader) : Option ((List UInt8) × Treader) :=
  lim fun kk => clerestory_jlex_reader_run11_l0 r_ (fun (r11 : Int) (r21 : (List TJTok)) => 
      (sub? r_.f_s r_.f_at r11).bind fun r_1 =>
      some (r_1, (⟨r_.f_s, r11, r21⟩ : Treader))) kk r_.f_at r_.f_out
theorem clerestory_jlex_reader_run11_ok {mL : Int} {r_ : Treader} {zr : Bool} (hzr : zr = true → r_.f_out = []) {r : ((List UInt8) × Treader)} (h : clerestory_jlex_reader_run11 r_ = some r) : ACalls Tryd.prog (GG mL) 137 [(.c (.ref 0 3 0 0)), (.c (.fn (.func 138) [] []))] (upd (upd (fun _ => none) 0 (some (.cells 3 [[.str r_.f_s, cI r_.f_at, lstC zr 1 5 r_.f_out.length]]))) 1 (lstB zr 5 (r_.f_out.map e_TJTok))) 2 (clerestory_jlex_reader_run11_post r) := by
  refine acalls_of_sv hmix c137 (R := clerestory_jlex_reader_run11_post r) ?_
  unfold clerestory_jlex_reader_run11 at h
  refine Sv.seq ?_
  refine Sv.region ?_
  refine un (a1 rfl ?_)
  refine dnil ?_
  refine Sv.seq ?_
  refine Sv.region ?_
  refine un (a1 rfl ?_)
  refine un (a1 (v := (.c (.ref 0 3 0 0))) rfl ?_)
  refine un (a1 (v := (.c (.ref 0 3 0 1))) rfl ?_)
  refine un (a1 (v := (I r_.f_at)) rfl ?_)
  refine un (a1 rfl ?_)
  refine dnil ?_
  refine Sv.seq ?_
  refine Sv.block ?_
  obtain ⟨kk, h⟩ := lim_some h
  refine Sv.weak (weak_canon [0, 1] rfl (by decide) (by decide) (by decide) (.cons rfl (avAs_free rfl) (.cons rfl (avAs_free rfl) (.cons rfl (.c (.ref rfl (by decide))) .nil))) (.row (by decide) rfl (fr_map fun _ => rfl) (.box (by decide) rfl (blkAs_cells (.cons (.same rfl) (.cons (.same rfl) (.cons (lstC_ren rfl (by decide)) .nil)))) .nil))) (clerestory_jlex_reader_run11_l0_ok hzr h ?_ (fun s hs => hs))
  · intro r11 r21 zr21 hzr21 h _ hw1
    refine Sv.weak hw1 ?_
    refine Sv.seq ?_
    refine Sv.drawn ?_
    refine un (a1 rfl ?_)
    refine un (a1 (v := (.c (.ref 0 3 0 0))) rfl ?_)
    refine un (a1 (v := (.c (.ref 0 3 0 0))) rfl ?_)
    refine un (a1 (v := (S r_.f_s)) rfl ?_)
    refine un (a1 rfl ?_)
    refine un (a1 rfl ?_)
    refine un (a1 (v := (.c (.ref 0 3 0 0))) rfl ?_)
    refine un (a1 (v := (.c (.ref 0 3 0 1))) rfl ?_)
    refine un (a1 (v := (I r11)) rfl ?_)
    obtain ⟨r_1, hx2, h⟩ := bnd h
    refine un (a1 (v := (S r_1)) (s_slStr rfl rfl rfl hx2) ?_)
    refine un (a1 rfl ?_)
    refine dnil ?_
    refine Sv.ret ?_
    replace h := Option.some.inj h
    subst h
    exact ⟨_, .refl _, _, rfl, ⟨upd (fun _ => none) 0 (some (S r_1)), (upd (upd (fun _ => none) 0 (some (.cells 3 [[.str r_.f_s, cI r11, lstC zr21 2 5 r21.length]]))) 2 (lstB zr21 5 (r21.map e_TJTok))), 3⟩, (S r_1), weak_canon2 [0, 1, 1] [0, 2] (by decide) (by decide) (by decide) (.cons (by decide) (.cons (by decide) .nil)) (.cons rfl (avAs_free rfl) .nil) (.row (by decide) rfl (fr_map fun _ => rfl) (.box (by decide) rfl (blkAs_cells (.cons (.same rfl) (.cons (.same rfl) (.cons (lstC_ren rfl (by decide)) .nil)))) .nil)), rfl, zr21, hzr21, rfl, rfl, rfl⟩
end Go.Proofs.YtagfmlkihindaaaDoorBv
