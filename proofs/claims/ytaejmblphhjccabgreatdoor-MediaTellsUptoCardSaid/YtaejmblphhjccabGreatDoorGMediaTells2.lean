/- Printed by a program of mine (bgen.py): plain functions, and the walks that show that the code comes to what they answer. -/
import Derived.Test.YtaejmblphhjccabGreatDoorGMediaTells1
namespace Go.Proofs.YtaejmblphhjccabGreatDoorBv
open Go
set_option linter.unusedVariables false
set_option linter.unusedSimpArgs false
set_option maxRecDepth 100000
def a87 : AFunc := ⟨1, [(.tmp 2), (.tmp 3)], (.seq (.region [⟨(some 2), (.mov (.const (.c (.val (.int .i32 0))))), none⟩, ⟨(some 3), (.mov (.const (.c (.val (.int .i64 0))))), none⟩])
 (.seq (.region [⟨(some 13), (.mov (.tmp 0)), none⟩, ⟨(some 14), (.lenS (.tmp 13)), none⟩, ⟨(some 4), (.mov (.tmp 14)), none⟩])
 (.seq (.seq (.region [⟨(some 15), (.mov (.tmp 4)), none⟩, ⟨(some 16), (.bin .lss (.tmp 15) (.const (.c (.val (.int .i64 1))))), none⟩])
 (.cond (.tmp 16) (.seq (.region [⟨(some 2), (.mov (.const (.c (.val (.int .i32 65533))))), none⟩, ⟨(some 3), (.mov (.const (.c (.val (.int .i64 0))))), none⟩])
 .ret) .skip))
 (.seq (.region [⟨(some 17), (.mov (.tmp 0)), none⟩, ⟨(some 18), (.idxS (.tmp 17) (.const (.c (.val (.int .i64 0))))), none⟩, ⟨(some 5), (.mov (.tmp 18)), none⟩])
 (.seq (.region [⟨(some 19), (.mov (.tmp 5)), none⟩, ⟨(some 20), (.iaddrA 256 1 (.glob 2) (.tmp 19)), none⟩, ⟨(some 21), (.load false 1 (.tmp 20)), none⟩, ⟨(some 6), (.mov (.tmp 21)), none⟩])
 (.seq (.seq (.region [⟨(some 22), (.mov (.tmp 6)), none⟩, ⟨(some 23), (.bin .geq (.tmp 22) (.const (.c (.val (.int .u8 240))))), none⟩])
 (.cond (.tmp 23) (.seq (.region [⟨(some 24), (.mov (.tmp 6)), none⟩, ⟨(some 25), (.conv .i32 (.tmp 24)), none⟩, ⟨(some 26), (.bin .shl (.tmp 25) (.const (.c (.val (.int .u64 31))))), none⟩, ⟨(some 27), (.bin .shr (.tmp 26) (.const (.c (.val (.int .u64 31))))), none⟩, ⟨(some 7), (.mov (.tmp 27)), none⟩])
 (.seq (.region [⟨(some 28), (.mov (.tmp 0)), none⟩, ⟨(some 29), (.idxS (.tmp 28) (.const (.c (.val (.int .i64 0))))), none⟩, ⟨(some 30), (.conv .i32 (.tmp 29)), none⟩, ⟨(some 31), (.mov (.tmp 7)), none⟩, ⟨(some 32), (.bin .andNot (.tmp 30) (.tmp 31)), none⟩, ⟨(some 33), (.mov (.tmp 7)), none⟩, ⟨(some 34), (.bin .and (.const (.c (.val (.int .i32 65533)))) (.tmp 33)), none⟩, ⟨(some 35), (.bin .or (.tmp 32) (.tmp 34)), none⟩, ⟨(some 2), (.mov (.tmp 35)), none⟩, ⟨(some 3), (.mov (.const (.c (.val (.int .i64 1))))), none⟩])
 .ret)) .skip))
 (.seq (.region [⟨(some 36), (.mov (.tmp 6)), none⟩, ⟨(some 37), (.bin .and (.tmp 36) (.const (.c (.val (.int .u8 7))))), none⟩, ⟨(some 38), (.conv .i64 (.tmp 37)), none⟩, ⟨(some 8), (.mov (.tmp 38)), none⟩])
 (.seq (.region [⟨(some 39), (.mov (.tmp 6)), none⟩, ⟨(some 40), (.bin .shr (.tmp 39) (.const (.c (.val (.int .u64 4))))), none⟩, ⟨(some 41), (.iaddrA 16 2 (.glob 3) (.tmp 40)), none⟩, ⟨(some 42), (.load true 2 (.tmp 41)), none⟩, ⟨(some 9), (.box (.const (.agg [(.val (.int .u8 0)), (.val (.int .u8 0))]))), none⟩, ⟨none, (.store 2 (.tmp 9) (.tmp 42)), none⟩])
 (.seq (.seq (.region [⟨(some 43), (.mov (.tmp 4)), none⟩, ⟨(some 44), (.mov (.tmp 8)), none⟩, ⟨(some 45), (.bin .lss (.tmp 43) (.tmp 44)), none⟩])
 (.cond (.tmp 45) (.seq (.region [⟨(some 2), (.mov (.const (.c (.val (.int .i32 65533))))), none⟩, ⟨(some 3), (.mov (.const (.c (.val (.int .i64 1))))), none⟩])
 .ret) .skip))
 (.seq (.region [⟨(some 46), (.mov (.tmp 0)), none⟩, ⟨(some 47), (.idxS (.tmp 46) (.const (.c (.val (.int .i64 1))))), none⟩, ⟨(some 10), (.mov (.tmp 47)), none⟩])
 (.seq (.seq (.region [⟨(some 48), (.mov (.tmp 10)), none⟩, ⟨(some 49), (.faddr 0 (.tmp 9)), none⟩, ⟨(some 50), (.load false 1 (.tmp 49)), none⟩, ⟨(some 51), (.bin .lss (.tmp 48) (.tmp 50)), none⟩, ⟨(some 52), (.mov (.tmp 51)), none⟩, ⟨(some 53), (.faddr 1 (.tmp 9)), (some (52, false))⟩, ⟨(some 54), (.load false 1 (.tmp 53)), (some (52, false))⟩, ⟨(some 55), (.mov (.tmp 10)), (some (52, false))⟩, ⟨(some 56), (.bin .lss (.tmp 54) (.tmp 55)), (some (52, false))⟩, ⟨(some 57), (.pick (.tmp 52) (.const (.c (.val (.bool true)))) (.tmp 56)), none⟩])
 (.cond (.tmp 57) (.seq (.region [⟨(some 2), (.mov (.const (.c (.val (.int .i32 65533))))), none⟩, ⟨(some 3), (.mov (.const (.c (.val (.int .i64 1))))), none⟩])
 .ret) .skip))
 (.seq (.seq (.region [⟨(some 58), (.mov (.tmp 8)), none⟩, ⟨(some 59), (.bin .leq (.tmp 58) (.const (.c (.val (.int .i64 2))))), none⟩])
 (.cond (.tmp 59) (.seq (.region [⟨(some 60), (.mov (.tmp 5)), none⟩, ⟨(some 61), (.bin .and (.tmp 60) (.const (.c (.val (.int .u8 31))))), none⟩, ⟨(some 62), (.conv .i32 (.tmp 61)), none⟩, ⟨(some 63), (.bin .shl (.tmp 62) (.const (.c (.val (.int .u64 6))))), none⟩, ⟨(some 64), (.mov (.tmp 10)), none⟩, ⟨(some 65), (.bin .and (.tmp 64) (.const (.c (.val (.int .u8 63))))), none⟩, ⟨(some 66), (.conv .i32 (.tmp 65)), none⟩, ⟨(some 67), (.bin .or (.tmp 63) (.tmp 66)), none⟩, ⟨(some 2), (.mov (.tmp 67)), none⟩, ⟨(some 3), (.mov (.const (.c (.val (.int .i64 2))))), none⟩])
 .ret) .skip))
 (.seq (.region [⟨(some 68), (.mov (.tmp 0)), none⟩, ⟨(some 69), (.idxS (.tmp 68) (.const (.c (.val (.int .i64 2))))), none⟩, ⟨(some 11), (.mov (.tmp 69)), none⟩])
 (.seq (.seq (.region [⟨(some 70), (.mov (.tmp 11)), none⟩, ⟨(some 71), (.bin .lss (.tmp 70) (.const (.c (.val (.int .u8 128))))), none⟩, ⟨(some 72), (.mov (.tmp 71)), none⟩, ⟨(some 73), (.mov (.tmp 11)), (some (72, false))⟩, ⟨(some 74), (.bin .lss (.const (.c (.val (.int .u8 191)))) (.tmp 73)), (some (72, false))⟩, ⟨(some 75), (.pick (.tmp 72) (.const (.c (.val (.bool true)))) (.tmp 74)), none⟩])
 (.cond (.tmp 75) (.seq (.region [⟨(some 2), (.mov (.const (.c (.val (.int .i32 65533))))), none⟩, ⟨(some 3), (.mov (.const (.c (.val (.int .i64 1))))), none⟩])
 .ret) .skip))
 (.seq (.seq (.region [⟨(some 76), (.mov (.tmp 8)), none⟩, ⟨(some 77), (.bin .leq (.tmp 76) (.const (.c (.val (.int .i64 3))))), none⟩])
 (.cond (.tmp 77) (.seq (.region [⟨(some 78), (.mov (.tmp 5)), none⟩, ⟨(some 79), (.bin .and (.tmp 78) (.const (.c (.val (.int .u8 15))))), none⟩, ⟨(some 80), (.conv .i32 (.tmp 79)), none⟩, ⟨(some 81), (.bin .shl (.tmp 80) (.const (.c (.val (.int .u64 12))))), none⟩, ⟨(some 82), (.mov (.tmp 10)), none⟩, ⟨(some 83), (.bin .and (.tmp 82) (.const (.c (.val (.int .u8 63))))), none⟩, ⟨(some 84), (.conv .i32 (.tmp 83)), none⟩, ⟨(some 85), (.bin .shl (.tmp 84) (.const (.c (.val (.int .u64 6))))), none⟩, ⟨(some 86), (.bin .or (.tmp 81) (.tmp 85)), none⟩, ⟨(some 87), (.mov (.tmp 11)), none⟩, ⟨(some 88), (.bin .and (.tmp 87) (.const (.c (.val (.int .u8 63))))), none⟩, ⟨(some 89), (.conv .i32 (.tmp 88)), none⟩, ⟨(some 90), (.bin .or (.tmp 86) (.tmp 89)), none⟩, ⟨(some 2), (.mov (.tmp 90)), none⟩, ⟨(some 3), (.mov (.const (.c (.val (.int .i64 3))))), none⟩])
 .ret) .skip))
 (.seq (.region [⟨(some 91), (.mov (.tmp 0)), none⟩, ⟨(some 92), (.idxS (.tmp 91) (.const (.c (.val (.int .i64 3))))), none⟩, ⟨(some 12), (.mov (.tmp 92)), none⟩])
 (.seq (.seq (.region [⟨(some 93), (.mov (.tmp 12)), none⟩, ⟨(some 94), (.bin .lss (.tmp 93) (.const (.c (.val (.int .u8 128))))), none⟩, ⟨(some 95), (.mov (.tmp 94)), none⟩, ⟨(some 96), (.mov (.tmp 12)), (some (95, false))⟩, ⟨(some 97), (.bin .lss (.const (.c (.val (.int .u8 191)))) (.tmp 96)), (some (95, false))⟩, ⟨(some 98), (.pick (.tmp 95) (.const (.c (.val (.bool true)))) (.tmp 97)), none⟩])
 (.cond (.tmp 98) (.seq (.region [⟨(some 2), (.mov (.const (.c (.val (.int .i32 65533))))), none⟩, ⟨(some 3), (.mov (.const (.c (.val (.int .i64 1))))), none⟩])
 .ret) .skip))
 (.seq (.region [⟨(some 99), (.mov (.tmp 5)), none⟩, ⟨(some 100), (.bin .and (.tmp 99) (.const (.c (.val (.int .u8 7))))), none⟩, ⟨(some 101), (.conv .i32 (.tmp 100)), none⟩, ⟨(some 102), (.bin .shl (.tmp 101) (.const (.c (.val (.int .u64 18))))), none⟩, ⟨(some 103), (.mov (.tmp 10)), none⟩, ⟨(some 104), (.bin .and (.tmp 103) (.const (.c (.val (.int .u8 63))))), none⟩, ⟨(some 105), (.conv .i32 (.tmp 104)), none⟩, ⟨(some 106), (.bin .shl (.tmp 105) (.const (.c (.val (.int .u64 12))))), none⟩, ⟨(some 107), (.bin .or (.tmp 102) (.tmp 106)), none⟩, ⟨(some 108), (.mov (.tmp 11)), none⟩, ⟨(some 109), (.bin .and (.tmp 108) (.const (.c (.val (.int .u8 63))))), none⟩, ⟨(some 110), (.conv .i32 (.tmp 109)), none⟩, ⟨(some 111), (.bin .shl (.tmp 110) (.const (.c (.val (.int .u64 6))))), none⟩, ⟨(some 112), (.bin .or (.tmp 107) (.tmp 111)), none⟩, ⟨(some 113), (.mov (.tmp 12)), none⟩, ⟨(some 114), (.bin .and (.tmp 113) (.const (.c (.val (.int .u8 63))))), none⟩, ⟨(some 115), (.conv .i32 (.tmp 114)), none⟩, ⟨(some 116), (.bin .or (.tmp 112) (.tmp 115)), none⟩, ⟨(some 2), (.mov (.tmp 116)), none⟩, ⟨(some 3), (.mov (.const (.c (.val (.int .i64 4))))), none⟩])
 .ret))))))))))))))))))⟩
set_option maxRecDepth 100000 in
theorem c87 : compFunc Tryz.prog 87 = some a87 := by kernel_rfl
def unicode_utf8_decodeRuneInStringSlow_post (r : (Int × Int)) : AV → Heap → Nat → Prop := fun v h' n' => v = (.tup [(.c (.val (.int .i32 r.1))), (I r.2)]) ∧ (h' = (fun _ => none)) ∧ n' = 0
def unicode_utf8_decodeRuneInStringSlow_t0 : List Int := [240, 240, 240, 240, 240, 240, 240, 240, 240, 240, 240, 240, 240, 240, 240, 240, 240, 240, 240, 240, 240, 240, 240, 240, 240, 240, 240, 240, 240, 240, 240, 240, 240, 240, 240, 240, 240, 240, 240, 240, 240, 240, 240, 240, 240, 240, 240, 240, 240, 240, 240, 240, 240, 240, 240, 240, 240, 240, 240, 240, 240, 240, 240, 240, 240, 240, 240, 240, 240, 240, 240, 240, 240, 240, 240, 240, 240, 240, 240, 240, 240, 240, 240, 240, 240, 240, 240, 240, 240, 240, 240, 240, 240, 240, 240, 240, 240, 240, 240, 240, 240, 240, 240, 240, 240, 240, 240, 240, 240, 240, 240, 240, 240, 240, 240, 240, 240, 240, 240, 240, 240, 240, 240, 240, 240, 240, 240, 240, 241, 241, 241, 241, 241, 241, 241, 241, 241, 241, 241, 241, 241, 241, 241, 241, 241, 241, 241, 241, 241, 241, 241, 241, 241, 241, 241, 241, 241, 241, 241, 241, 241, 241, 241, 241, 241, 241, 241, 241, 241, 241, 241, 241, 241, 241, 241, 241, 241, 241, 241, 241, 241, 241, 241, 241, 241, 241, 241, 241, 241, 241, 241, 241, 241, 241, 2, 2, 2, 2, 2, 2, 2, 2, 2, 2, 2, 2, 2, 2, 2, 2, 2, 2, 2, 2, 2, 2, 2, 2, 2, 2, 2, 2, 2, 2, 19, 3, 3, 3, 3, 3, 3, 3, 3, 3, 3, 3, 3, 35, 3, 3, 52, 4, 4, 4, 68, 241, 241, 241, 241, 241, 241, 241, 241, 241, 241, 241]
def unicode_utf8_decodeRuneInStringSlow_t1 : List TacceptRange := [(⟨128, 191⟩ : TacceptRange), (⟨160, 191⟩ : TacceptRange), (⟨128, 159⟩ : TacceptRange), (⟨144, 191⟩ : TacceptRange), (⟨128, 143⟩ : TacceptRange), (⟨0, 0⟩ : TacceptRange), (⟨0, 0⟩ : TacceptRange), (⟨0, 0⟩ : TacceptRange), (⟨0, 0⟩ : TacceptRange), (⟨0, 0⟩ : TacceptRange), (⟨0, 0⟩ : TacceptRange), (⟨0, 0⟩ : TacceptRange), (⟨0, 0⟩ : TacceptRange), (⟨0, 0⟩ : TacceptRange), (⟨0, 0⟩ : TacceptRange), (⟨0, 0⟩ : TacceptRange)]
/-- unicode/utf8.decodeRuneInStringSlow -/
noncomputable def unicode_utf8_decodeRuneInStringSlow (s_ : (List UInt8)) : Option (Int × Int) :=
  if decide ((s_.length : Int) < 1) then
    some (65533, 0)
  else
    (at? s_ 0).bind fun c_ =>
    (at? unicode_utf8_decodeRuneInStringSlow_t0 (c_.toNat : Int)).bind fun x_ =>
    if decide (240 ≤ x_) then
      (at? s_ 0).bind fun c_1 =>
      letIn (bitsV .andNot .i32 (wr .i32 (c_1.toNat : Int)) (shr .i32 (shl .i32 (wr .i32 x_) 31) 31)) fun v32 : Int =>
      letIn (bitsV .or .i32 v32 (bitsV .and .i32 65533 (shr .i32 (shl .i32 (wr .i32 x_) 31) 31))) fun v35 : Int =>
      some (v35, 1)
    else
      (at? unicode_utf8_decodeRuneInStringSlow_t1 (shr .u8 x_ 4)).bind fun x_1 =>
      if decide ((s_.length : Int) < (wr .i64 (bitsV .and .u8 x_ 7))) then
        some (65533, 1)
      else
        (at? s_ 1).bind fun c_2 =>
        if ((decide ((c_2.toNat : Int) < x_1.f_lo)) || (decide (x_1.f_hi < (c_2.toNat : Int)))) then
          some (65533, 1)
        else
          if decide ((wr .i64 (bitsV .and .u8 x_ 7)) ≤ 2) then
            letIn (bitsV .or .i32 (shl .i32 (wr .i32 (bitsV .and .u8 (c_.toNat : Int) 31)) 6) (wr .i32 (bitsV .and .u8 (c_2.toNat : Int) 63))) fun v67 : Int =>
            some (v67, 2)
          else
            (at? s_ 2).bind fun c_3 =>
            if ((decide ((c_3.toNat : Int) < 128)) || (decide (191 < (c_3.toNat : Int)))) then
              some (65533, 1)
            else
              if decide ((wr .i64 (bitsV .and .u8 x_ 7)) ≤ 3) then
                letIn (bitsV .or .i32 (shl .i32 (wr .i32 (bitsV .and .u8 (c_.toNat : Int) 15)) 12) (shl .i32 (wr .i32 (bitsV .and .u8 (c_2.toNat : Int) 63)) 6)) fun v86 : Int =>
                some ((bitsV .or .i32 v86 (wr .i32 (bitsV .and .u8 (c_3.toNat : Int) 63))), 3)
              else
                (at? s_ 3).bind fun c_4 =>
                if ((decide ((c_4.toNat : Int) < 128)) || (decide (191 < (c_4.toNat : Int)))) then
                  some (65533, 1)
                else
                  letIn (bitsV .or .i32 (shl .i32 (wr .i32 (bitsV .and .u8 (c_.toNat : Int) 7)) 18) (shl .i32 (wr .i32 (bitsV .and .u8 (c_2.toNat : Int) 63)) 12)) fun v107 : Int =>
                  letIn (bitsV .or .i32 v107 (shl .i32 (wr .i32 (bitsV .and .u8 (c_3.toNat : Int) 63)) 6)) fun v112 : Int =>
                  some ((bitsV .or .i32 v112 (wr .i32 (bitsV .and .u8 (c_4.toNat : Int) 63))), 4)
theorem unicode_utf8_decodeRuneInStringSlow_ok {mL : Int} {s_ : (List UInt8)} {r : (Int × Int)} (h : unicode_utf8_decodeRuneInStringSlow s_ = some r) : CPure Tryz.prog (GG mL) 87 [(S s_)] (.tup [(.c (.val (.int .i32 r.1))), (I r.2)]) := by
  refine acalls_of_sv hmix c87 (R := unicode_utf8_decodeRuneInStringSlow_post r) ?_
  unfold unicode_utf8_decodeRuneInStringSlow at h
  refine Sv.seq ?_
  refine Sv.region ?_
  refine un (a1 rfl ?_)
  refine un (a1 rfl ?_)
  refine dnil ?_
  refine Sv.seq ?_
  refine Sv.region ?_
  refine un (a1 rfl ?_)
  refine un (a1 (v := (I (s_.length : Int))) rfl ?_)
  refine un (a1 rfl ?_)
  refine dnil ?_
  refine Sv.seq ?_
  refine Sv.seq ?_
  refine Sv.region ?_
  refine un (a1 rfl ?_)
  refine un (a1 (v := (B (decide ((s_.length : Int) < 1)))) rfl ?_)
  refine dnil ?_
  refine Sv.cond (b := decide ((s_.length : Int) < 1)) rfl (fun hc1 => ?_) (fun hc1 => ?_)
  · replace h := ifT hc1 h
    refine Sv.seq ?_
    refine Sv.region ?_
    refine un (a1 rfl ?_)
    refine un (a1 rfl ?_)
    refine dnil ?_
    refine Sv.ret ?_
    replace h := Option.some.inj h
    subst h
    exact ⟨_, .refl _, _, rfl, ⟨upd (fun _ => none) 0 (some (.tup [(.c (.val (.int .i32 65533))), (I 0)])), (fun _ => none), 0⟩, (.tup [(.c (.val (.int .i32 65533))), (I 0)]), weak_canon [] rfl List.nodup_nil (Nat.le_refl _) (fun b h => absurd h (Nat.not_lt_zero _)) (.cons rfl (avAs_tup (.cons (avAs_free rfl) (.cons (avAs_free rfl) .nil))) .nil) .nil, rfl, rfl, rfl, rfl⟩
  · replace h := ifF hc1 h
    refine Sv.skip ?_
    refine Sv.seq ?_
    refine Sv.region ?_
    refine un (a1 rfl ?_)
    obtain ⟨c_, hx1, h⟩ := bnd h
    refine un (a1 (v := (.c (.val (.int .u8 (c_.toNat : Int))))) (s_idxS rfl rfl hx1) ?_)
    refine un (a1 rfl ?_)
    refine dnil ?_
    refine Sv.seq ?_
    refine Sv.region ?_
    refine un (a1 rfl ?_)
    obtain ⟨x_, hx2, h⟩ := bnd h
    refine un (a1 (v := (.c (.rop (List.drop ((c_.toNat : Int).toNat * 1) g2_c)))) (s_iaddrAr (L := unicode_utf8_decodeRuneInStringSlow_t0) rfl rfl rfl hx2) ?_)
    refine un (a1 (v := (.c (.val (.int .u8 x_)))) (s_loadAr (o2 := 0) (v := fun q => (.c (.val (.int .u8 q)))) rfl (.cons rfl (.cons rfl (.cons rfl (.cons rfl (.cons rfl (.cons rfl (.cons rfl (.cons rfl (.cons rfl (.cons rfl (.cons rfl (.cons rfl (.cons rfl (.cons rfl (.cons rfl (.cons rfl (.cons rfl (.cons rfl (.cons rfl (.cons rfl (.cons rfl (.cons rfl (.cons rfl (.cons rfl (.cons rfl (.cons rfl (.cons rfl (.cons rfl (.cons rfl (.cons rfl (.cons rfl (.cons rfl (.cons rfl (.cons rfl (.cons rfl (.cons rfl (.cons rfl (.cons rfl (.cons rfl (.cons rfl (.cons rfl (.cons rfl (.cons rfl (.cons rfl (.cons rfl (.cons rfl (.cons rfl (.cons rfl (.cons rfl (.cons rfl (.cons rfl (.cons rfl (.cons rfl (.cons rfl (.cons rfl (.cons rfl (.cons rfl (.cons rfl (.cons rfl (.cons rfl (.cons rfl (.cons rfl (.cons rfl (.cons rfl (.cons rfl (.cons rfl (.cons rfl (.cons rfl (.cons rfl (.cons rfl (.cons rfl (.cons rfl (.cons rfl (.cons rfl (.cons rfl (.cons rfl (.cons rfl (.cons rfl (.cons rfl (.cons rfl (.cons rfl (.cons rfl (.cons rfl (.cons rfl (.cons rfl (.cons rfl (.cons rfl (.cons rfl (.cons rfl (.cons rfl (.cons rfl (.cons rfl (.cons rfl (.cons rfl (.cons rfl (.cons rfl (.cons rfl (.cons rfl (.cons rfl (.cons rfl (.cons rfl (.cons rfl (.cons rfl (.cons rfl (.cons rfl (.cons rfl (.cons rfl (.cons rfl (.cons rfl (.cons rfl (.cons rfl (.cons rfl (.cons rfl (.cons rfl (.cons rfl (.cons rfl (.cons rfl (.cons rfl (.cons rfl (.cons rfl (.cons rfl (.cons rfl (.cons rfl (.cons rfl (.cons rfl (.cons rfl (.cons rfl (.cons rfl (.cons rfl (.cons rfl (.cons rfl (.cons rfl (.cons rfl (.cons rfl (.cons rfl (.cons rfl (.cons rfl (.cons rfl (.cons rfl (.cons rfl (.cons rfl (.cons rfl (.cons rfl (.cons rfl (.cons rfl (.cons rfl (.cons rfl (.cons rfl (.cons rfl (.cons rfl (.cons rfl (.cons rfl (.cons rfl (.cons rfl (.cons rfl (.cons rfl (.cons rfl (.cons rfl (.cons rfl (.cons rfl (.cons rfl (.cons rfl (.cons rfl (.cons rfl (.cons rfl (.cons rfl (.cons rfl (.cons rfl (.cons rfl (.cons rfl (.cons rfl (.cons rfl (.cons rfl (.cons rfl (.cons rfl (.cons rfl (.cons rfl (.cons rfl (.cons rfl (.cons rfl (.cons rfl (.cons rfl (.cons rfl (.cons rfl (.cons rfl (.cons rfl (.cons rfl (.cons rfl (.cons rfl (.cons rfl (.cons rfl (.cons rfl (.cons rfl (.cons rfl (.cons rfl (.cons rfl (.cons rfl (.cons rfl (.cons rfl (.cons rfl (.cons rfl (.cons rfl (.cons rfl (.cons rfl (.cons rfl (.cons rfl (.cons rfl (.cons rfl (.cons rfl (.cons rfl (.cons rfl (.cons rfl (.cons rfl (.cons rfl (.cons rfl (.cons rfl (.cons rfl (.cons rfl (.cons rfl (.cons rfl (.cons rfl (.cons rfl (.cons rfl (.cons rfl (.cons rfl (.cons rfl (.cons rfl (.cons rfl (.cons rfl (.cons rfl (.cons rfl (.cons rfl (.cons rfl (.cons rfl (.cons rfl (.cons rfl (.cons rfl (.cons rfl (.cons rfl (.cons rfl (.cons rfl (.cons rfl (.cons rfl (.cons rfl (.cons rfl (.cons rfl (.cons rfl (.cons rfl (.cons rfl (.cons rfl (.cons rfl (.cons rfl (.cons rfl (.cons rfl (.cons rfl (.cons rfl .nil)))))))))))))))))))))))))))))))))))))))))))))))))))))))))))))))))))))))))))))))))))))))))))))))))))))))))))))))))))))))))))))))))))))))))))))))))))))))))))))))))))))))))))))))))))))))))))))))))))))))))))))))))))))))))))))))))))))))))))))))))))))))))))))))) hx2) ?_)
    refine un (a1 rfl ?_)
    refine dnil ?_
    refine Sv.seq ?_
    refine Sv.seq ?_
    refine Sv.region ?_
    refine un (a1 rfl ?_)
    refine un (a1 (v := (B (decide (240 ≤ x_)))) rfl ?_)
    refine dnil ?_
    refine Sv.cond (b := decide (240 ≤ x_)) rfl (fun hc2 => ?_) (fun hc2 => ?_)
    · replace h := ifT hc2 h
      refine Sv.seq ?_
      refine Sv.region ?_
      refine un (a1 rfl ?_)
      refine un (a1 (v := (.c (.val (.int .i32 (wr .i32 x_))))) rfl ?_)
      refine un (a1 (v := (.c (.val (.int .i32 (shl .i32 (wr .i32 x_) 31))))) rfl ?_)
      refine un (a1 (v := (.c (.val (.int .i32 (shr .i32 (shl .i32 (wr .i32 x_) 31) 31))))) rfl ?_)
      refine un (a1 rfl ?_)
      refine dnil ?_
      refine Sv.seq ?_
      refine Sv.region ?_
      refine un (a1 rfl ?_)
      obtain ⟨c_1, hx3, h⟩ := bnd h
      refine un (a1 (v := (.c (.val (.int .u8 (c_1.toNat : Int))))) (s_idxS rfl rfl hx3) ?_)
      refine un (a1 (v := (.c (.val (.int .i32 (wr .i32 (c_1.toNat : Int)))))) rfl ?_)
      refine un (a1 rfl ?_)
      obtain ⟨v32, hv32⟩ : ∃ v32 : Int, v32 = (bitsV .andNot .i32 (wr .i32 (c_1.toNat : Int)) (shr .i32 (shl .i32 (wr .i32 x_) 31) 31)) := ⟨_, rfl⟩
      replace h := letAt hv32 h
      refine un (a1 (v := (.c (.val (.int .i32 v32)))) (by rw [hv32]; rfl) ?_)
      clear hv32
      refine un (a1 rfl ?_)
      refine un (a1 (v := (.c (.val (.int .i32 (bitsV .and .i32 65533 (shr .i32 (shl .i32 (wr .i32 x_) 31) 31)))))) rfl ?_)
      obtain ⟨v35, hv35⟩ : ∃ v35 : Int, v35 = (bitsV .or .i32 v32 (bitsV .and .i32 65533 (shr .i32 (shl .i32 (wr .i32 x_) 31) 31))) := ⟨_, rfl⟩
      replace h := letAt hv35 h
      refine un (a1 (v := (.c (.val (.int .i32 v35)))) (by rw [hv35]; rfl) ?_)
      clear hv35
      refine un (a1 rfl ?_)
      refine un (a1 rfl ?_)
      refine dnil ?_
      refine Sv.ret ?_
      replace h := Option.some.inj h
      subst h
      exact ⟨_, .refl _, _, rfl, ⟨upd (fun _ => none) 0 (some (.tup [(.c (.val (.int .i32 v35))), (I 1)])), (fun _ => none), 0⟩, (.tup [(.c (.val (.int .i32 v35))), (I 1)]), weak_canon [] rfl List.nodup_nil (Nat.le_refl _) (fun b h => absurd h (Nat.not_lt_zero _)) (.cons rfl (avAs_tup (.cons (avAs_free rfl) (.cons (avAs_free rfl) .nil))) .nil) .nil, rfl, rfl, rfl, rfl⟩
    · replace h := ifF hc2 h
      refine Sv.skip ?_
      refine Sv.seq ?_
      refine Sv.region ?_
      refine un (a1 rfl ?_)
      refine un (a1 (v := (.c (.val (.int .u8 (bitsV .and .u8 x_ 7))))) rfl ?_)
      refine un (a1 (v := (I (wr .i64 (bitsV .and .u8 x_ 7)))) rfl ?_)
      refine un (a1 rfl ?_)
      refine dnil ?_
      refine Sv.seq ?_
      refine Sv.region ?_
      refine un (a1 rfl ?_)
      refine un (a1 (v := (.c (.val (.int .u8 (shr .u8 x_ 4))))) rfl ?_)
      obtain ⟨x_1, hx4, h⟩ := bnd h
      refine un (a1 (v := (.c (.rop (List.drop ((shr .u8 x_ 4).toNat * 2) g3_c)))) (s_iaddrAr (L := unicode_utf8_decodeRuneInStringSlow_t1) rfl rfl rfl hx4) ?_)
      refine un (a1 (v := (.agg [.val (.int .u8 x_1.f_lo), .val (.int .u8 x_1.f_hi)])) (s_loadAr (o2 := 0) (v := fun q => (.agg [.val (.int .u8 q.f_lo), .val (.int .u8 q.f_hi)])) rfl (.cons rfl (.cons rfl (.cons rfl (.cons rfl (.cons rfl (.cons rfl (.cons rfl (.cons rfl (.cons rfl (.cons rfl (.cons rfl (.cons rfl (.cons rfl (.cons rfl (.cons rfl (.cons rfl .nil)))))))))))))))) hx4) ?_)
      refine un (a2v (v := (.c (.ref 0 2 0 0))) (h' := upd _ 0 (some (.cells 2 [[.val (.int .u8 0), .val (.int .u8 0)]]))) (n' := 1) rfl rfl (fun h => by cases h) ?_)
      refine un (a2n (h' := upd _ 0 (some (.cells 2 [[.val (.int .u8 x_1.f_lo), .val (.int .u8 x_1.f_hi)]]))) (n' := 1) rfl rfl (fun h => by cases h) ?_)
      refine dnil ?_
      refine Sv.seq ?_
      refine Sv.seq ?_
      refine Sv.region ?_
      refine un (a1 rfl ?_)
      refine un (a1 rfl ?_)
      refine un (a1 (v := (B (decide ((s_.length : Int) < (wr .i64 (bitsV .and .u8 x_ 7)))))) rfl ?_)
      refine dnil ?_
      refine Sv.cond (b := decide ((s_.length : Int) < (wr .i64 (bitsV .and .u8 x_ 7)))) rfl (fun hc3 => ?_) (fun hc3 => ?_)
      · replace h := ifT hc3 h
        refine Sv.seq ?_
        refine Sv.region ?_
        refine un (a1 rfl ?_)
        refine un (a1 rfl ?_)
        refine dnil ?_
        refine Sv.ret ?_
        replace h := Option.some.inj h
        subst h
        exact ⟨_, .refl _, _, rfl, ⟨upd (fun _ => none) 0 (some (.tup [(.c (.val (.int .i32 65533))), (I 1)])), (fun _ => none), 0⟩, (.tup [(.c (.val (.int .i32 65533))), (I 1)]), weak_canon [] rfl List.nodup_nil (Nat.le_refl _) (fun b h => absurd h (Nat.not_lt_zero _)) (.cons rfl (avAs_tup (.cons (avAs_free rfl) (.cons (avAs_free rfl) .nil))) .nil) .nil, rfl, rfl, rfl, rfl⟩
      · replace h := ifF hc3 h
        refine Sv.skip ?_
        refine Sv.seq ?_
        refine Sv.region ?_
        refine un (a1 rfl ?_)
        obtain ⟨c_2, hx5, h⟩ := bnd h
        refine un (a1 (v := (.c (.val (.int .u8 (c_2.toNat : Int))))) (s_idxS rfl rfl hx5) ?_)
        refine un (a1 rfl ?_)
        refine dnil ?_
        refine Sv.seq ?_
        refine Sv.seq ?_
        refine Sv.region ?_
        refine un (a1 rfl ?_)
        refine un (a1 (v := (.c (.ref 0 2 0 0))) rfl ?_)
        refine un (a1 (v := (.c (.val (.int .u8 x_1.f_lo)))) rfl ?_)
        refine un (a1 (v := (B (decide ((c_2.toNat : Int) < x_1.f_lo)))) rfl ?_)
        refine un (a1 rfl ?_)
        refine gjoin 5 (d := 57) (v := (B ((decide ((c_2.toNat : Int) < x_1.f_lo)) || (decide (x_1.f_hi < (c_2.toNat : Int)))))) (fun X hX => ?_) ?_
        · refine split2 (fun hc4 => ?_) (fun hc4 => ?_)
          · refine gs rfl rfl ?_
            refine gs rfl rfl ?_
            refine gs rfl rfl ?_
            refine gs rfl rfl ?_
            refine un (a1 (v := (B true)) rfl ?_)
            refine dnil ?_
            exact hX _ (.putEq (by rw [hc4]; rfl) (.skip _ _ (.skip _ _ (.skip _ _ (.skip _ _ (.putEq (by rw [hc4]) (.refl _)) rfl) rfl) rfl) rfl))
          · refine gt rfl (a1 (v := (.c (.ref 0 2 0 1))) rfl ?_)
            refine gt rfl (a1 (v := (.c (.val (.int .u8 x_1.f_hi)))) rfl ?_)
            refine gt rfl (a1 rfl ?_)
            refine gt rfl (a1 (v := (B (decide (x_1.f_hi < (c_2.toNat : Int))))) rfl ?_)
            refine un (a1 (v := (B (decide (x_1.f_hi < (c_2.toNat : Int))))) rfl ?_)
            refine dnil ?_
            exact hX _ (.putEq (by rw [hc4]; rfl) (.skip _ _ (.skip _ _ (.skip _ _ (.skip _ _ (.putEq (by rw [hc4]) (.refl _)) rfl) rfl) rfl) rfl))
        refine dnil ?_
        refine Sv.cond (b := ((decide ((c_2.toNat : Int) < x_1.f_lo)) || (decide (x_1.f_hi < (c_2.toNat : Int))))) rfl (fun hc5 => ?_) (fun hc5 => ?_)
        · replace h := ifT hc5 h
          refine Sv.seq ?_
          refine Sv.region ?_
          refine un (a1 rfl ?_)
          refine un (a1 rfl ?_)
          refine dnil ?_
          refine Sv.ret ?_
          replace h := Option.some.inj h
          subst h
          exact ⟨_, .refl _, _, rfl, ⟨upd (fun _ => none) 0 (some (.tup [(.c (.val (.int .i32 65533))), (I 1)])), (fun _ => none), 0⟩, (.tup [(.c (.val (.int .i32 65533))), (I 1)]), weak_canon [] rfl List.nodup_nil (Nat.le_refl _) (fun b h => absurd h (Nat.not_lt_zero _)) (.cons rfl (avAs_tup (.cons (avAs_free rfl) (.cons (avAs_free rfl) .nil))) .nil) .nil, rfl, rfl, rfl, rfl⟩
        · replace h := ifF hc5 h
          refine Sv.skip ?_
          refine Sv.seq ?_
          refine Sv.seq ?_
          refine Sv.region ?_
          refine un (a1 rfl ?_)
          refine un (a1 (v := (B (decide ((wr .i64 (bitsV .and .u8 x_ 7)) ≤ 2)))) rfl ?_)
          refine dnil ?_
          refine Sv.cond (b := decide ((wr .i64 (bitsV .and .u8 x_ 7)) ≤ 2)) rfl (fun hc6 => ?_) (fun hc6 => ?_)
          · replace h := ifT hc6 h
            refine Sv.seq ?_
            refine Sv.region ?_
            refine un (a1 rfl ?_)
            refine un (a1 (v := (.c (.val (.int .u8 (bitsV .and .u8 (c_.toNat : Int) 31))))) rfl ?_)
            refine un (a1 (v := (.c (.val (.int .i32 (wr .i32 (bitsV .and .u8 (c_.toNat : Int) 31)))))) rfl ?_)
            refine un (a1 (v := (.c (.val (.int .i32 (shl .i32 (wr .i32 (bitsV .and .u8 (c_.toNat : Int) 31)) 6))))) rfl ?_)
            refine un (a1 rfl ?_)
            refine un (a1 (v := (.c (.val (.int .u8 (bitsV .and .u8 (c_2.toNat : Int) 63))))) rfl ?_)
            refine un (a1 (v := (.c (.val (.int .i32 (wr .i32 (bitsV .and .u8 (c_2.toNat : Int) 63)))))) rfl ?_)
            obtain ⟨v67, hv67⟩ : ∃ v67 : Int, v67 = (bitsV .or .i32 (shl .i32 (wr .i32 (bitsV .and .u8 (c_.toNat : Int) 31)) 6) (wr .i32 (bitsV .and .u8 (c_2.toNat : Int) 63))) := ⟨_, rfl⟩
            replace h := letAt hv67 h
            refine un (a1 (v := (.c (.val (.int .i32 v67)))) (by rw [hv67]; rfl) ?_)
            clear hv67
            refine un (a1 rfl ?_)
            refine un (a1 rfl ?_)
            refine dnil ?_
            refine Sv.ret ?_
            replace h := Option.some.inj h
            subst h
            exact ⟨_, .refl _, _, rfl, ⟨upd (fun _ => none) 0 (some (.tup [(.c (.val (.int .i32 v67))), (I 2)])), (fun _ => none), 0⟩, (.tup [(.c (.val (.int .i32 v67))), (I 2)]), weak_canon [] rfl List.nodup_nil (Nat.le_refl _) (fun b h => absurd h (Nat.not_lt_zero _)) (.cons rfl (avAs_tup (.cons (avAs_free rfl) (.cons (avAs_free rfl) .nil))) .nil) .nil, rfl, rfl, rfl, rfl⟩
          · replace h := ifF hc6 h
            refine Sv.skip ?_
            refine Sv.seq ?_
            refine Sv.region ?_
            refine un (a1 rfl ?_)
            obtain ⟨c_3, hx6, h⟩ := bnd h
            refine un (a1 (v := (.c (.val (.int .u8 (c_3.toNat : Int))))) (s_idxS rfl rfl hx6) ?_)
            refine un (a1 rfl ?_)
            refine dnil ?_
            refine Sv.seq ?_
            refine Sv.seq ?_
            refine Sv.region ?_
            refine un (a1 rfl ?_)
            refine un (a1 (v := (B (decide ((c_3.toNat : Int) < 128)))) rfl ?_)
            refine un (a1 rfl ?_)
            refine gjoin 3 (d := 75) (v := (B ((decide ((c_3.toNat : Int) < 128)) || (decide (191 < (c_3.toNat : Int)))))) (fun X hX => ?_) ?_
            · refine split2 (fun hc7 => ?_) (fun hc7 => ?_)
              · refine gs rfl rfl ?_
                refine gs rfl rfl ?_
                refine un (a1 (v := (B true)) rfl ?_)
                refine dnil ?_
                exact hX _ (.putEq (by rw [hc7]; rfl) (.skip _ _ (.skip _ _ (.putEq (by rw [hc7]) (.refl _)) rfl) rfl))
              · refine gt rfl (a1 rfl ?_)
                refine gt rfl (a1 (v := (B (decide (191 < (c_3.toNat : Int))))) rfl ?_)
                refine un (a1 (v := (B (decide (191 < (c_3.toNat : Int))))) rfl ?_)
                refine dnil ?_
                exact hX _ (.putEq (by rw [hc7]; rfl) (.skip _ _ (.skip _ _ (.putEq (by rw [hc7]) (.refl _)) rfl) rfl))
            refine dnil ?_
            refine Sv.cond (b := ((decide ((c_3.toNat : Int) < 128)) || (decide (191 < (c_3.toNat : Int))))) rfl (fun hc8 => ?_) (fun hc8 => ?_)
            · replace h := ifT hc8 h
              refine Sv.seq ?_
              refine Sv.region ?_
              refine un (a1 rfl ?_)
              refine un (a1 rfl ?_)
              refine dnil ?_
              refine Sv.ret ?_
              replace h := Option.some.inj h
              subst h
              exact ⟨_, .refl _, _, rfl, ⟨upd (fun _ => none) 0 (some (.tup [(.c (.val (.int .i32 65533))), (I 1)])), (fun _ => none), 0⟩, (.tup [(.c (.val (.int .i32 65533))), (I 1)]), weak_canon [] rfl List.nodup_nil (Nat.le_refl _) (fun b h => absurd h (Nat.not_lt_zero _)) (.cons rfl (avAs_tup (.cons (avAs_free rfl) (.cons (avAs_free rfl) .nil))) .nil) .nil, rfl, rfl, rfl, rfl⟩
            · replace h := ifF hc8 h
              refine Sv.skip ?_
              refine Sv.seq ?_
              refine Sv.seq ?_
              refine Sv.region ?_
              refine un (a1 rfl ?_)
              refine un (a1 (v := (B (decide ((wr .i64 (bitsV .and .u8 x_ 7)) ≤ 3)))) rfl ?_)
              refine dnil ?_
              refine Sv.cond (b := decide ((wr .i64 (bitsV .and .u8 x_ 7)) ≤ 3)) rfl (fun hc9 => ?_) (fun hc9 => ?_)
              · replace h := ifT hc9 h
                refine Sv.seq ?_
                refine Sv.region ?_
                refine un (a1 rfl ?_)
                refine un (a1 (v := (.c (.val (.int .u8 (bitsV .and .u8 (c_.toNat : Int) 15))))) rfl ?_)
                refine un (a1 (v := (.c (.val (.int .i32 (wr .i32 (bitsV .and .u8 (c_.toNat : Int) 15)))))) rfl ?_)
                refine un (a1 (v := (.c (.val (.int .i32 (shl .i32 (wr .i32 (bitsV .and .u8 (c_.toNat : Int) 15)) 12))))) rfl ?_)
                refine un (a1 rfl ?_)
                refine un (a1 (v := (.c (.val (.int .u8 (bitsV .and .u8 (c_2.toNat : Int) 63))))) rfl ?_)
                refine un (a1 (v := (.c (.val (.int .i32 (wr .i32 (bitsV .and .u8 (c_2.toNat : Int) 63)))))) rfl ?_)
                refine un (a1 (v := (.c (.val (.int .i32 (shl .i32 (wr .i32 (bitsV .and .u8 (c_2.toNat : Int) 63)) 6))))) rfl ?_)
                obtain ⟨v86, hv86⟩ : ∃ v86 : Int, v86 = (bitsV .or .i32 (shl .i32 (wr .i32 (bitsV .and .u8 (c_.toNat : Int) 15)) 12) (shl .i32 (wr .i32 (bitsV .and .u8 (c_2.toNat : Int) 63)) 6)) := ⟨_, rfl⟩
                replace h := letAt hv86 h
                refine un (a1 (v := (.c (.val (.int .i32 v86)))) (by rw [hv86]; rfl) ?_)
                clear hv86
                refine un (a1 rfl ?_)
                refine un (a1 (v := (.c (.val (.int .u8 (bitsV .and .u8 (c_3.toNat : Int) 63))))) rfl ?_)
                refine un (a1 (v := (.c (.val (.int .i32 (wr .i32 (bitsV .and .u8 (c_3.toNat : Int) 63)))))) rfl ?_)
                refine un (a1 (v := (.c (.val (.int .i32 (bitsV .or .i32 v86 (wr .i32 (bitsV .and .u8 (c_3.toNat : Int) 63))))))) rfl ?_)
                refine un (a1 rfl ?_)
                refine un (a1 rfl ?_)
                refine dnil ?_
                refine Sv.ret ?_
                replace h := Option.some.inj h
                subst h
                exact ⟨_, .refl _, _, rfl, ⟨upd (fun _ => none) 0 (some (.tup [(.c (.val (.int .i32 (bitsV .or .i32 v86 (wr .i32 (bitsV .and .u8 (c_3.toNat : Int) 63)))))), (I 3)])), (fun _ => none), 0⟩, (.tup [(.c (.val (.int .i32 (bitsV .or .i32 v86 (wr .i32 (bitsV .and .u8 (c_3.toNat : Int) 63)))))), (I 3)]), weak_canon [] rfl List.nodup_nil (Nat.le_refl _) (fun b h => absurd h (Nat.not_lt_zero _)) (.cons rfl (avAs_tup (.cons (avAs_free rfl) (.cons (avAs_free rfl) .nil))) .nil) .nil, rfl, rfl, rfl, rfl⟩
              · replace h := ifF hc9 h
                refine Sv.skip ?_
                refine Sv.seq ?_
                refine Sv.region ?_
                refine un (a1 rfl ?_)
                obtain ⟨c_4, hx7, h⟩ := bnd h
                refine un (a1 (v := (.c (.val (.int .u8 (c_4.toNat : Int))))) (s_idxS rfl rfl hx7) ?_)
                refine un (a1 rfl ?_)
                refine dnil ?_
                refine Sv.seq ?_
                refine Sv.seq ?_
                refine Sv.region ?_
                refine un (a1 rfl ?_)
                refine un (a1 (v := (B (decide ((c_4.toNat : Int) < 128)))) rfl ?_)
                refine un (a1 rfl ?_)
                refine gjoin 3 (d := 98) (v := (B ((decide ((c_4.toNat : Int) < 128)) || (decide (191 < (c_4.toNat : Int)))))) (fun X hX => ?_) ?_
                · refine split2 (fun hc10 => ?_) (fun hc10 => ?_)
                  · refine gs rfl rfl ?_
                    refine gs rfl rfl ?_
                    refine un (a1 (v := (B true)) rfl ?_)
                    refine dnil ?_
                    exact hX _ (.putEq (by rw [hc10]; rfl) (.skip _ _ (.skip _ _ (.putEq (by rw [hc10]) (.refl _)) rfl) rfl))
                  · refine gt rfl (a1 rfl ?_)
                    refine gt rfl (a1 (v := (B (decide (191 < (c_4.toNat : Int))))) rfl ?_)
                    refine un (a1 (v := (B (decide (191 < (c_4.toNat : Int))))) rfl ?_)
                    refine dnil ?_
                    exact hX _ (.putEq (by rw [hc10]; rfl) (.skip _ _ (.skip _ _ (.putEq (by rw [hc10]) (.refl _)) rfl) rfl))
                refine dnil ?_
                refine Sv.cond (b := ((decide ((c_4.toNat : Int) < 128)) || (decide (191 < (c_4.toNat : Int))))) rfl (fun hc11 => ?_) (fun hc11 => ?_)
                · replace h := ifT hc11 h
                  refine Sv.seq ?_
                  refine Sv.region ?_
                  refine un (a1 rfl ?_)
                  refine un (a1 rfl ?_)
                  refine dnil ?_
                  refine Sv.ret ?_
                  replace h := Option.some.inj h
                  subst h
                  exact ⟨_, .refl _, _, rfl, ⟨upd (fun _ => none) 0 (some (.tup [(.c (.val (.int .i32 65533))), (I 1)])), (fun _ => none), 0⟩, (.tup [(.c (.val (.int .i32 65533))), (I 1)]), weak_canon [] rfl List.nodup_nil (Nat.le_refl _) (fun b h => absurd h (Nat.not_lt_zero _)) (.cons rfl (avAs_tup (.cons (avAs_free rfl) (.cons (avAs_free rfl) .nil))) .nil) .nil, rfl, rfl, rfl, rfl⟩
                · replace h := ifF hc11 h
                  refine Sv.skip ?_
                  refine Sv.seq ?_
                  refine Sv.region ?_
                  refine un (a1 rfl ?_)
                  refine un (a1 (v := (.c (.val (.int .u8 (bitsV .and .u8 (c_.toNat : Int) 7))))) rfl ?_)
                  refine un (a1 (v := (.c (.val (.int .i32 (wr .i32 (bitsV .and .u8 (c_.toNat : Int) 7)))))) rfl ?_)
                  refine un (a1 (v := (.c (.val (.int .i32 (shl .i32 (wr .i32 (bitsV .and .u8 (c_.toNat : Int) 7)) 18))))) rfl ?_)
                  refine un (a1 rfl ?_)
                  refine un (a1 (v := (.c (.val (.int .u8 (bitsV .and .u8 (c_2.toNat : Int) 63))))) rfl ?_)
                  refine un (a1 (v := (.c (.val (.int .i32 (wr .i32 (bitsV .and .u8 (c_2.toNat : Int) 63)))))) rfl ?_)
                  refine un (a1 (v := (.c (.val (.int .i32 (shl .i32 (wr .i32 (bitsV .and .u8 (c_2.toNat : Int) 63)) 12))))) rfl ?_)
                  obtain ⟨v107, hv107⟩ : ∃ v107 : Int, v107 = (bitsV .or .i32 (shl .i32 (wr .i32 (bitsV .and .u8 (c_.toNat : Int) 7)) 18) (shl .i32 (wr .i32 (bitsV .and .u8 (c_2.toNat : Int) 63)) 12)) := ⟨_, rfl⟩
                  replace h := letAt hv107 h
                  refine un (a1 (v := (.c (.val (.int .i32 v107)))) (by rw [hv107]; rfl) ?_)
                  clear hv107
                  refine un (a1 rfl ?_)
                  refine un (a1 (v := (.c (.val (.int .u8 (bitsV .and .u8 (c_3.toNat : Int) 63))))) rfl ?_)
                  refine un (a1 (v := (.c (.val (.int .i32 (wr .i32 (bitsV .and .u8 (c_3.toNat : Int) 63)))))) rfl ?_)
                  refine un (a1 (v := (.c (.val (.int .i32 (shl .i32 (wr .i32 (bitsV .and .u8 (c_3.toNat : Int) 63)) 6))))) rfl ?_)
                  obtain ⟨v112, hv112⟩ : ∃ v112 : Int, v112 = (bitsV .or .i32 v107 (shl .i32 (wr .i32 (bitsV .and .u8 (c_3.toNat : Int) 63)) 6)) := ⟨_, rfl⟩
                  replace h := letAt hv112 h
                  refine un (a1 (v := (.c (.val (.int .i32 v112)))) (by rw [hv112]; rfl) ?_)
                  clear hv112
                  refine un (a1 rfl ?_)
                  refine un (a1 (v := (.c (.val (.int .u8 (bitsV .and .u8 (c_4.toNat : Int) 63))))) rfl ?_)
                  refine un (a1 (v := (.c (.val (.int .i32 (wr .i32 (bitsV .and .u8 (c_4.toNat : Int) 63)))))) rfl ?_)
                  refine un (a1 (v := (.c (.val (.int .i32 (bitsV .or .i32 v112 (wr .i32 (bitsV .and .u8 (c_4.toNat : Int) 63))))))) rfl ?_)
                  refine un (a1 rfl ?_)
                  refine un (a1 rfl ?_)
                  refine dnil ?_
                  refine Sv.ret ?_
                  replace h := Option.some.inj h
                  subst h
                  exact ⟨_, .refl _, _, rfl, ⟨upd (fun _ => none) 0 (some (.tup [(.c (.val (.int .i32 (bitsV .or .i32 v112 (wr .i32 (bitsV .and .u8 (c_4.toNat : Int) 63)))))), (I 4)])), (fun _ => none), 0⟩, (.tup [(.c (.val (.int .i32 (bitsV .or .i32 v112 (wr .i32 (bitsV .and .u8 (c_4.toNat : Int) 63)))))), (I 4)]), weak_canon [] rfl List.nodup_nil (Nat.le_refl _) (fun b h => absurd h (Nat.not_lt_zero _)) (.cons rfl (avAs_tup (.cons (avAs_free rfl) (.cons (avAs_free rfl) .nil))) .nil) .nil, rfl, rfl, rfl, rfl⟩
def a55_c0 : ACode := (.cond (.tmp 10) (.seq (.region [⟨(some 11), (.mov (.tmp 0)), none⟩, ⟨(some 12), (.idxS (.tmp 11) (.const (.c (.val (.int .i64 0))))), none⟩, ⟨(some 13), (.conv .i32 (.tmp 12)), none⟩, ⟨(some 2), (.mov (.tmp 13)), none⟩, ⟨(some 3), (.mov (.const (.c (.val (.int .i64 1))))), none⟩])
 .ret) (.region [⟨(some 15), (.mov (.tmp 0)), none⟩, ⟨(some 16), (.call 87 [(.tmp 15)]), none⟩, ⟨(some 14), (.mov (.tmp 16)), none⟩, ⟨(some 17), (.ext (.tmp 14) 0), none⟩, ⟨(some 18), (.ext (.tmp 14) 1), none⟩, ⟨(some 2), (.mov (.tmp 17)), none⟩, ⟨(some 3), (.mov (.tmp 18)), none⟩]))
def a55_c1 : ACode := .ret
def a55 : AFunc := ⟨1, [(.tmp 2), (.tmp 3)], (.seq (.region [⟨(some 2), (.mov (.const (.c (.val (.int .i32 0))))), none⟩, ⟨(some 3), (.mov (.const (.c (.val (.int .i64 0))))), none⟩])
 (.seq (.seq (.region [⟨(some 4), (.mov (.tmp 0)), none⟩, ⟨(some 5), (.bin .neq (.tmp 4) (.const (.c (.str [])))), none⟩, ⟨(some 6), (.mov (.tmp 5)), none⟩, ⟨(some 7), (.mov (.tmp 0)), (some (6, true))⟩, ⟨(some 8), (.idxS (.tmp 7) (.const (.c (.val (.int .i64 0))))), (some (6, true))⟩, ⟨(some 9), (.bin .lss (.tmp 8) (.const (.c (.val (.int .u8 128))))), (some (6, true))⟩, ⟨(some 10), (.pick (.tmp 6) (.tmp 9) (.const (.c (.val (.bool false))))), none⟩])
 a55_c0)
 a55_c1))⟩
set_option maxRecDepth 100000 in
theorem c55 : compFunc Tryz.prog 55 = some a55 := by kernel_rfl
def unicode_utf8_DecodeRuneInString_post (r : (Int × Int)) : AV → Heap → Nat → Prop := fun v h' n' => v = (.tup [(.c (.val (.int .i32 r.1))), (I r.2)]) ∧ (h' = (fun _ => none)) ∧ n' = 0
abbrev unicode_utf8_DecodeRuneInString_q0 (mL : Int) (o : (Int × Int)) : AExit → St → Prop := AThen (Sv Tryz.prog (GG mL) 0 a55_c1 (Ends a55.results 0 (unicode_utf8_DecodeRuneInString_post o))) (Ends a55.results 0 (unicode_utf8_DecodeRuneInString_post o))
noncomputable def unicode_utf8_DecodeRuneInString_j1 (s_ : (List UInt8)) (v10 : Bool) : Option (Int × Int) :=
  if v10 then
    (at? s_ 0).bind fun c_ =>
    some ((wr .i32 (c_.toNat : Int)), 1)
  else
    (unicode_utf8_decodeRuneInStringSlow s_).bind fun r_ =>
    some (r_.1, r_.2)
theorem unicode_utf8_DecodeRuneInString_j1_ok {mL : Int} {s_ : (List UInt8)} {v10 : Bool} {o : (Int × Int)} (h : unicode_utf8_DecodeRuneInString_j1 s_ v10 = some o) :
    Sv Tryz.prog (GG mL) 0 a55_c0 (unicode_utf8_DecodeRuneInString_q0 mL o) ⟨(upd (upd (fun _ => none) 0 (some (S s_))) 10 (some (B v10))), (fun _ => none), 0⟩ := by
  unfold unicode_utf8_DecodeRuneInString_j1 at h
  refine Sv.cond (b := v10) rfl (fun hc1 => ?_) (fun hc1 => ?_)
  · replace h := ifT hc1 h
    refine Sv.seq ?_
    refine Sv.region ?_
    refine un (a1 rfl ?_)
    obtain ⟨c_, hx1, h⟩ := bnd h
    refine un (a1 (v := (.c (.val (.int .u8 (c_.toNat : Int))))) (s_idxS rfl rfl hx1) ?_)
    refine un (a1 (v := (.c (.val (.int .i32 (wr .i32 (c_.toNat : Int)))))) rfl ?_)
    refine un (a1 rfl ?_)
    refine un (a1 rfl ?_)
    refine dnil ?_
    refine Sv.ret ?_
    replace h := Option.some.inj h
    subst h
    exact ⟨_, .refl _, _, rfl, ⟨upd (fun _ => none) 0 (some (.tup [(.c (.val (.int .i32 (wr .i32 (c_.toNat : Int))))), (I 1)])), (fun _ => none), 0⟩, (.tup [(.c (.val (.int .i32 (wr .i32 (c_.toNat : Int))))), (I 1)]), weak_canon [] rfl List.nodup_nil (Nat.le_refl _) (fun b h => absurd h (Nat.not_lt_zero _)) (.cons rfl (avAs_tup (.cons (avAs_free rfl) (.cons (avAs_free rfl) .nil))) .nil) .nil, rfl, rfl, rfl, rfl⟩
  · replace h := ifF hc1 h
    refine Sv.region ?_
    refine un (a1 rfl ?_)
    obtain ⟨r_, hr1, h⟩ := bnd h
    refine un (ac_pure (unicode_utf8_decodeRuneInStringSlow_ok hr1) rfl rfl rfl ?_)
    refine un (a1 rfl ?_)
    refine un (a1 (v := (.c (.val (.int .i32 r_.1)))) rfl ?_)
    refine un (a1 (v := (I r_.2)) rfl ?_)
    refine un (a1 rfl ?_)
    refine un (a1 rfl ?_)
    refine dnil ?_
    refine Sv.ret ?_
    replace h := Option.some.inj h
    subst h
    exact ⟨_, .refl _, _, rfl, ⟨upd (fun _ => none) 0 (some (.tup [(.c (.val (.int .i32 r_.1))), (I r_.2)])), (fun _ => none), 0⟩, (.tup [(.c (.val (.int .i32 r_.1))), (I r_.2)]), weak_canon [] rfl List.nodup_nil (Nat.le_refl _) (fun b h => absurd h (Nat.not_lt_zero _)) (.cons rfl (avAs_tup (.cons (avAs_free rfl) (.cons (avAs_free rfl) .nil))) .nil) .nil, rfl, rfl, rfl, rfl⟩
/-- unicode/utf8.DecodeRuneInString -/
noncomputable def unicode_utf8_DecodeRuneInString (s_ : (List UInt8)) : Option (Int × Int) :=
  if (!decide (s_ = [])) then
    (at? s_ 0).bind fun c_1 =>
    unicode_utf8_DecodeRuneInString_j1 s_ (decide ((c_1.toNat : Int) < 128))
  else
    unicode_utf8_DecodeRuneInString_j1 s_ false
theorem unicode_utf8_DecodeRuneInString_ok {mL : Int} {s_ : (List UInt8)} {r : (Int × Int)} (h : unicode_utf8_DecodeRuneInString s_ = some r) : CPure Tryz.prog (GG mL) 55 [(S s_)] (.tup [(.c (.val (.int .i32 r.1))), (I r.2)]) := by
  refine acalls_of_sv hmix c55 (R := unicode_utf8_DecodeRuneInString_post r) ?_
  unfold unicode_utf8_DecodeRuneInString at h
  refine Sv.seq ?_
  refine Sv.region ?_
  refine un (a1 rfl ?_)
  refine un (a1 rfl ?_)
  refine dnil ?_
  refine Sv.seq ?_
  refine Sv.seq ?_
  refine Sv.region ?_
  refine un (a1 rfl ?_)
  refine un (a1 (v := (B (!decide (s_ = [])))) rfl ?_)
  refine un (a1 rfl ?_)
  refine split2 (fun hc2 => ?_) (fun hc2 => ?_)
  · replace h := ifT hc2 h
    refine gt rfl (a1 rfl ?_)
    obtain ⟨c_1, hx2, h⟩ := bnd h
    refine gt rfl (a1 (v := (.c (.val (.int .u8 (c_1.toNat : Int))))) (s_idxS rfl rfl hx2) ?_)
    refine gt rfl (a1 (v := (B (decide ((c_1.toNat : Int) < 128)))) rfl ?_)
    refine un (a1 (v := (B (decide ((c_1.toNat : Int) < 128)))) rfl ?_)
    refine dnil ?_
    exact Sv.weak (weak_canon [] rfl (by decide) (by decide) (fun b h => absurd h (Nat.not_lt_zero _)) (.cons rfl (avAs_free rfl) (.cons rfl (avAs_free rfl) .nil)) .nil) (unicode_utf8_DecodeRuneInString_j1_ok h)
  · replace h := ifF hc2 h
    refine gs rfl rfl ?_
    refine gs rfl rfl ?_
    refine gs rfl rfl ?_
    refine un (a1 (v := (B false)) rfl ?_)
    refine dnil ?_
    exact Sv.weak (weak_canon [] rfl (by decide) (by decide) (fun b h => absurd h (Nat.not_lt_zero _)) (.cons rfl (avAs_free rfl) (.cons rfl (avAs_free rfl) .nil)) .nil) (unicode_utf8_DecodeRuneInString_j1_ok h)
def a33_c1 : ACode := (.seq (.region [⟨(some 54), (.bin .lss (.tmp 53) (.tmp 52)), none⟩])
 (.seq (.cond (.tmp 54) .skip (.exit 0))
 (.seq (.block 1 (.seq (.region [⟨(some 55), (.mov (.tmp 11)), none⟩, ⟨(some 56), (.mov (.tmp 0)), none⟩, ⟨(some 57), (.mov (.tmp 11)), none⟩, ⟨(some 58), (.slStr (.tmp 56) (some (.tmp 57)) none), none⟩, ⟨(some 59), (.mov (.tmp 1)), none⟩, ⟨(some 60), (.call 54 [(.tmp 58), (.tmp 59)]), none⟩, ⟨(some 61), (.bin .add (.tmp 55) (.tmp 60)), none⟩, ⟨(some 12), (.mov (.tmp 61)), none⟩])
 (.seq (.region [⟨(some 62), (.mov (.tmp 0)), none⟩, ⟨(some 63), (.mov (.tmp 11)), none⟩, ⟨(some 64), (.mov (.tmp 12)), none⟩, ⟨(some 65), (.slStr (.tmp 62) (some (.tmp 63)) (some (.tmp 64))), none⟩, ⟨(some 66), (.call 35 [(.tmp 10), (.tmp 65)]), none⟩])
 (.seq (.region [⟨(some 67), (.mov (.tmp 2)), none⟩, ⟨(some 68), (.call 35 [(.tmp 10), (.tmp 67)]), none⟩])
 (.region [⟨(some 69), (.mov (.tmp 12)), none⟩, ⟨(some 70), (.mov (.tmp 1)), none⟩, ⟨(some 71), (.lenS (.tmp 70)), none⟩, ⟨(some 72), (.bin .add (.tmp 69) (.tmp 71)), none⟩, ⟨(some 11), (.mov (.tmp 72)), none⟩])))))
 (.region [⟨(some 73), (.bin .add (.tmp 53) (.const (.c (.val (.int .i64 1))))), none⟩, ⟨(some 53), (.mov (.tmp 73)), none⟩]))))
def a33_c2 : ACode := (.seq (.region [⟨(some 79), (.bin .lss (.tmp 78) (.tmp 77)), none⟩])
 (.seq (.cond (.tmp 79) .skip (.exit 2))
 (.seq (.block 3 (.seq (.region [⟨(some 81), (.mov (.tmp 0)), none⟩, ⟨(some 82), (.mov (.tmp 11)), none⟩, ⟨(some 83), (.slStr (.tmp 81) (some (.tmp 82)) none), none⟩, ⟨(some 84), (.call 55 [(.tmp 83)]), none⟩, ⟨(some 80), (.mov (.tmp 84)), none⟩, ⟨(some 85), (.ext (.tmp 80) 0), none⟩, ⟨(some 86), (.ext (.tmp 80) 1), none⟩, ⟨(some 13), (.mov (.tmp 85)), none⟩, ⟨(some 14), (.mov (.tmp 86)), none⟩])
 (.seq (.region [⟨(some 87), (.mov (.tmp 11)), none⟩, ⟨(some 88), (.mov (.tmp 14)), none⟩, ⟨(some 89), (.bin .add (.tmp 87) (.tmp 88)), none⟩, ⟨(some 15), (.mov (.tmp 89)), none⟩])
 (.seq (.region [⟨(some 90), (.mov (.tmp 0)), none⟩, ⟨(some 91), (.mov (.tmp 11)), none⟩, ⟨(some 92), (.mov (.tmp 15)), none⟩, ⟨(some 93), (.slStr (.tmp 90) (some (.tmp 91)) (some (.tmp 92))), none⟩, ⟨(some 94), (.call 35 [(.tmp 10), (.tmp 93)]), none⟩])
 (.seq (.region [⟨(some 95), (.mov (.tmp 2)), none⟩, ⟨(some 96), (.call 35 [(.tmp 10), (.tmp 95)]), none⟩])
 (.region [⟨(some 97), (.mov (.tmp 15)), none⟩, ⟨(some 11), (.mov (.tmp 97)), none⟩]))))))
 (.region [⟨(some 98), (.bin .add (.tmp 78) (.const (.c (.val (.int .i64 1))))), none⟩, ⟨(some 78), (.mov (.tmp 98)), none⟩]))))
def a33_c3 : ACode := (.seq (.region [⟨(some 99), (.mov (.tmp 0)), none⟩, ⟨(some 100), (.mov (.tmp 11)), none⟩, ⟨(some 101), (.slStr (.tmp 99) (some (.tmp 100)) none), none⟩, ⟨(some 102), (.call 35 [(.tmp 10), (.tmp 101)]), none⟩])
 (.seq (.region [⟨(some 103), (.call 36 [(.tmp 10)]), none⟩, ⟨(some 8), (.mov (.tmp 103)), none⟩])
 .ret))
def a33_c0 : ACode := (.seq (.region [⟨(some 10), (.boxB 76), none⟩])
 (.seq (.region [⟨(some 38), (.mov (.tmp 0)), none⟩, ⟨(some 39), (.lenS (.tmp 38)), none⟩, ⟨(some 40), (.mov (.tmp 3)), none⟩, ⟨(some 41), (.mov (.tmp 2)), none⟩, ⟨(some 42), (.lenS (.tmp 41)), none⟩, ⟨(some 43), (.mov (.tmp 1)), none⟩, ⟨(some 44), (.lenS (.tmp 43)), none⟩, ⟨(some 45), (.bin .sub (.tmp 42) (.tmp 44)), none⟩, ⟨(some 46), (.bin .mul (.tmp 40) (.tmp 45)), none⟩, ⟨(some 47), (.bin .add (.tmp 39) (.tmp 46)), none⟩, ⟨(some 48), (.call 34 [(.tmp 10), (.tmp 47)]), none⟩])
 (.seq (.region [⟨(some 11), (.mov (.const (.c (.val (.int .i64 0))))), none⟩])
 (.seq (.seq (.region [⟨(some 49), (.mov (.tmp 1)), none⟩, ⟨(some 50), (.lenS (.tmp 49)), none⟩, ⟨(some 51), (.bin .gtr (.tmp 50) (.const (.c (.val (.int .i64 0))))), none⟩])
 (.cond (.tmp 51) (.seq (.region [⟨(some 52), (.mov (.tmp 3)), none⟩, ⟨(some 53), (.mov (.const (.c (.val (.int .i64 0))))), none⟩])
 (.block 0 (.loop a33_c1))) (.seq (.region [⟨(some 74), (.mov (.tmp 2)), none⟩, ⟨(some 75), (.call 35 [(.tmp 10), (.tmp 74)]), none⟩])
 (.seq (.region [⟨(some 76), (.mov (.tmp 3)), none⟩, ⟨(some 77), (.bin .sub (.tmp 76) (.const (.c (.val (.int .i64 1))))), none⟩, ⟨(some 78), (.mov (.const (.c (.val (.int .i64 0))))), none⟩])
 (.block 2 (.loop a33_c2))))))
 a33_c3))))
def a33 : AFunc := ⟨4, [(.tmp 8)], (.seq (.region [⟨(some 8), (.mov (.const (.c (.str [])))), none⟩])
 (.seq (.seq (.region [⟨(some 16), (.mov (.tmp 1)), none⟩, ⟨(some 17), (.mov (.tmp 2)), none⟩, ⟨(some 18), (.bin .eql (.tmp 16) (.tmp 17)), none⟩, ⟨(some 19), (.mov (.tmp 18)), none⟩, ⟨(some 20), (.mov (.tmp 3)), (some (19, false))⟩, ⟨(some 21), (.bin .eql (.tmp 20) (.const (.c (.val (.int .i64 0))))), (some (19, false))⟩, ⟨(some 22), (.pick (.tmp 19) (.const (.c (.val (.bool true)))) (.tmp 21)), none⟩])
 (.cond (.tmp 22) (.seq (.region [⟨(some 23), (.mov (.tmp 0)), none⟩, ⟨(some 8), (.mov (.tmp 23)), none⟩])
 .ret) .skip))
 (.seq (.seq (.region [⟨(some 24), (.mov (.tmp 0)), none⟩, ⟨(some 25), (.mov (.tmp 1)), none⟩, ⟨(some 26), (.call 53 [(.tmp 24), (.tmp 25)]), none⟩, ⟨(some 9), (.mov (.tmp 26)), none⟩])
 (.seq (.region [⟨(some 27), (.mov (.tmp 9)), none⟩, ⟨(some 28), (.bin .eql (.tmp 27) (.const (.c (.val (.int .i64 0))))), none⟩])
 (.cond (.tmp 28) (.seq (.region [⟨(some 29), (.mov (.tmp 0)), none⟩, ⟨(some 8), (.mov (.tmp 29)), none⟩])
 .ret) (.seq (.region [⟨(some 30), (.mov (.tmp 3)), none⟩, ⟨(some 31), (.bin .lss (.tmp 30) (.const (.c (.val (.int .i64 0))))), none⟩, ⟨(some 32), (.mov (.tmp 31)), none⟩, ⟨(some 33), (.mov (.tmp 9)), (some (32, false))⟩, ⟨(some 34), (.mov (.tmp 3)), (some (32, false))⟩, ⟨(some 35), (.bin .lss (.tmp 33) (.tmp 34)), (some (32, false))⟩, ⟨(some 36), (.pick (.tmp 32) (.const (.c (.val (.bool true)))) (.tmp 35)), none⟩])
 (.cond (.tmp 36) (.region [⟨(some 37), (.mov (.tmp 9)), none⟩, ⟨(some 3), (.mov (.tmp 37)), none⟩]) .skip)))))
 a33_c0)))⟩
set_option maxRecDepth 100000 in
theorem c33 : compFunc Tryz.prog 33 = some a33 := by kernel_rfl
def strings_Replace_post (r : (List UInt8)) : AV → Heap → Nat → Prop := fun v h' n' => v = (S r) ∧ (h' = (fun _ => none)) ∧ n' = 0
noncomputable def strings_Replace_j2 (s_ : (List UInt8)) (b_ : (List UInt8)) (start : Int) : Option (List UInt8) :=
  (sub? s_ start (s_.length : Int)).bind fun r_1 =>
  (strings_Builder_WriteString b_ r_1).bind fun r_2 =>
  some r_2
theorem strings_Replace_j2_ok {mL : Int} {s_ : (List UInt8)} {b_ : (List UInt8)} {start : Int} {zb : Bool} (hzb : zb = true → b_ = []) {o : (List UInt8)} (h : strings_Replace_j2 s_ b_ start = some o) :
    Sv Tryz.prog (GG mL) 0 a33_c3 (Ends a33.results 0 (strings_Replace_post o)) ⟨(upd (upd (upd (fun _ => none) 0 (some (S s_))) 10 (some (.c (.ref 0 2 0 0)))) 11 (some (I start))), (upd (upd (fun _ => none) 0 (some (.bld 76 zb 1 b_.length))) 1 (bufB zb 5 b_)), 2⟩ := by
  unfold strings_Replace_j2 at h
  refine Sv.seq ?_
  refine Sv.region ?_
  refine un (a1 rfl ?_)
  refine un (a1 rfl ?_)
  obtain ⟨r_1, hx1, h⟩ := bnd h
  refine un (a1 (v := (S r_1)) (s_slStr rfl rfl rfl hx1) ?_)
  obtain ⟨r_2, hr2, h⟩ := bnd h
  refine un (ac_gen (bs := [0, 1]) («as» := [(.c (.ref 0 2 0 0)), (S r_1)]) (h2 := _) (h1 := (upd (upd (fun _ => none) 0 (some (.bld 76 zb 1 b_.length))) 1 (bufB zb 5 b_))) (strings_Builder_WriteString_ok (z := zb) (l := b_) hzb hr2) rfl (.cons (.c (.ref rfl (by decide))) (.cons (avAs_free rfl) .nil)) (hsub_refl _) (.cons rfl (.cons rfl (.nil _))) (fun h => by cases h) (by decide) (by decide) (.cons (.c (.ref rfl (by decide))) (.cons (avAs_free rfl) .nil)) (.buf (by decide) rfl (.box (by decide) rfl (.bld rfl (by decide)) .nil)) ?_)
  rintro _ _ _ hn ⟨z_1, hz_1, rfl, rfl, rfl⟩
  refine ⟨.inl rfl, (upd (upd (rem [0, 1] _) 0 (some (.bld 76 z_1 2 r_2.length))) 2 (bufB z_1 5 r_2)), fun hbd => (m3_cons (m3_buf rfl) (m3_cons (m3_box rfl rfl) (m3_rem (in_cons (by decide) (in_cons (by decide) (in_nil _))) (.cons (by decide) (.cons (by decide) .nil)) hbd))), (.tup [(I (r_1.length : Int)), (.c (.val .nilIface))]), 3, (by cases z_1 <;> rfl), rfl, ?_⟩
  refine dnil ?_
  refine Sv.seq ?_
  refine Sv.region ?_
  refine un (ac_gen (bs := [0, 2]) («as» := [(.c (.ref 0 2 0 0))]) (h2 := _) (h1 := (upd (upd (fun _ => none) 0 (some (.bld 76 z_1 2 r_2.length))) 2 (bufB z_1 5 r_2))) (strings_Builder_String_ok (z := z_1) (l := r_2) hz_1) rfl (.cons (.c (.ref rfl (by decide))) .nil) (hsub_refl _) (.cons rfl (.cons rfl (.nil _))) (fun h => by cases h) (by decide) (by decide) (.cons (.c (.ref rfl (by decide))) .nil) (.buf (by decide) rfl (.box (by decide) rfl (.bld rfl (by decide)) .nil)) ?_)
  rintro _ _ _ hn ⟨rfl, rfl, rfl⟩
  refine ⟨.inl rfl, (rem [0, 2] _), fun hbd => (m3_rem (in_cons (by decide) (in_cons (by decide) (in_nil _))) (.nil) hbd), (S r_2), 3, rfl, rfl, ?_⟩
  refine un (a1 rfl ?_)
  refine dnil ?_
  refine Sv.ret ?_
  replace h := Option.some.inj h
  subst h
  exact ⟨_, .refl _, _, rfl, ⟨upd (fun _ => none) 0 (some (S r_2)), (fun _ => none), 0⟩, (S r_2), weak_canon [] rfl List.nodup_nil (Nat.le_refl _) (fun b h => absurd h (Nat.not_lt_zero _)) (.cons rfl (avAs_free rfl) .nil) .nil, rfl, rfl, rfl, rfl⟩
abbrev strings_Replace_l4_E0 (s_ : (List UInt8)) (F_ : (List UInt8) → Int → Option (List UInt8)) (o : (List UInt8)) (R_ : St → Prop) : Prop := ∀ (b_2 : (List UInt8)) (start2 : Int) (zb_2 : Bool) (_ : zb_2 = true → b_2 = []), F_ b_2 start2 = some o → ∀ s, Weak 0 s ⟨(upd (upd (upd (fun _ => none) 0 (some (S s_))) 10 (some (.c (.ref 0 2 0 0)))) 11 (some (I start2))), (upd (upd (fun _ => none) 0 (some (.bld 76 zb_2 1 b_2.length))) 1 (bufB zb_2 5 b_2)), 2⟩ → R_ s
abbrev strings_Replace_l4_I (s_ : (List UInt8)) (old : (List UInt8)) (new : (List UInt8)) (n_1 : Int) (F_ : Nat → (List UInt8) → Int → Int → Option (List UInt8)) (o : (List UInt8)) : Nat → St → Prop := fun k s => ∃ (b_1 : (List UInt8)), ∃ (start1 : Int), ∃ (v53 : Int), ∃ (zb_1 : Bool), (zb_1 = true → b_1 = []) ∧ F_ k b_1 start1 v53 = some o ∧ s = ⟨(upd (upd (upd (upd (upd (upd (upd (fun _ => none) 0 (some (S s_))) 1 (some (S old))) 2 (some (S new))) 10 (some (.c (.ref 0 2 0 0)))) 11 (some (I start1))) 52 (some (I n_1))) 53 (some (I v53))), (upd (upd (fun _ => none) 0 (some (.bld 76 zb_1 1 b_1.length))) 1 (bufB zb_1 5 b_1)), 2⟩
abbrev strings_Replace_l4_H (s_ : (List UInt8)) (old : (List UInt8)) (new : (List UInt8)) (n_1 : Int) (F_ : (List UInt8) → Int → Int → Option (List UInt8)) (o : (List UInt8)) (R_ : St → Prop) : Prop := ∀ (b_1 : (List UInt8)) (start1 : Int) (v53 : Int) (zb_1 : Bool) (_ : zb_1 = true → b_1 = []), F_ b_1 start1 v53 = some o → ∀ s, Weak 0 s ⟨(upd (upd (upd (upd (upd (upd (upd (fun _ => none) 0 (some (S s_))) 1 (some (S old))) 2 (some (S new))) 10 (some (.c (.ref 0 2 0 0)))) 11 (some (I start1))) 52 (some (I n_1))) 53 (some (I v53))), (upd (upd (fun _ => none) 0 (some (.bld 76 zb_1 1 b_1.length))) 1 (bufB zb_1 5 b_1)), 2⟩ → R_ s
noncomputable def strings_Replace_l4 (n_1 : Int) (s_ : (List UInt8)) (old : (List UInt8)) (new : (List UInt8)) (K0_ : (List UInt8) → Int → Option (List UInt8)) : Nat → (List UInt8) → Int → Int → Option (List UInt8)
  | 0, _, _, _ => none
  | k + 1, b_1, start1, v53 =>
    if decide (v53 < n_1) then
      (sub? s_ start1 (s_.length : Int)).bind fun r_3 =>
      (strings_Index r_3 old).bind fun r_4 =>
      (sub? s_ start1 (wi (start1 + r_4))).bind fun r_5 =>
      (strings_Builder_WriteString b_1 r_5).bind fun r_6 =>
      (strings_Builder_WriteString r_6 new).bind fun r_7 =>
      (strings_Replace_l4 n_1 s_ old new K0_ k) r_7 (wi ((wi (start1 + r_4)) + (old.length : Int))) (wi (v53 + 1))
    else
      K0_ b_1 start1
theorem strings_Replace_l4_ok {mL : Int} {Q : AExit → St → Prop} {n_1 : Int} {s_ : (List UInt8)} {old : (List UInt8)} {new : (List UInt8)} {K0_ : (List UInt8) → Int → Option (List UInt8)} {k : Nat} {b_1 : (List UInt8)} {start1 : Int} {v53 : Int} {zb_1 : Bool} (hzb_1 : zb_1 = true → b_1 = []) {o : (List UInt8)} (h : strings_Replace_l4 n_1 s_ old new K0_ k b_1 start1 v53 = some o)
    (hK0 : strings_Replace_l4_E0 s_ K0_ o (Q (.exit 0)))
    (hr : ∀ s, Ends a33.results 0 (strings_Replace_post o) .ret s → Q .ret s) :
    Sv Tryz.prog (GG mL) 0 (.loop a33_c1) Q ⟨(upd (upd (upd (upd (upd (upd (upd (fun _ => none) 0 (some (S s_))) 1 (some (S old))) 2 (some (S new))) 10 (some (.c (.ref 0 2 0 0)))) 11 (some (I start1))) 52 (some (I n_1))) 53 (some (I v53))), (upd (upd (fun _ => none) 0 (some (.bld 76 zb_1 1 b_1.length))) 1 (bufB zb_1 5 b_1)), 2⟩ := by
  refine Sv.loop (I := strings_Replace_l4_I s_ old new n_1 (strings_Replace_l4 n_1 s_ old new K0_) o) (fun k s hI => ?_) ⟨b_1, start1, v53, zb_1, hzb_1, h, rfl⟩
  clear h
  clear hzb_1 zb_1 v53 start1 b_1
  obtain ⟨b_1, start1, v53, zb_1, hzb_1, h, rfl⟩ := hI
  cases k with
  | zero => cases h
  | succ k =>
  rw [strings_Replace_l4] at h
  have hself : strings_Replace_l4_H s_ old new n_1 (strings_Replace_l4 n_1 s_ old new K0_ k) o (rnd 0 (strings_Replace_l4_I s_ old new n_1 (strings_Replace_l4 n_1 s_ old new K0_) o) k Q) := fun b_1 start1 v53 zb_1 hzb_1 h s hw => ⟨_, k, hw, Nat.lt_succ_self k, b_1, start1, v53, zb_1, hzb_1, h, rfl⟩
  refine Sv.seq ?_
  refine Sv.region ?_
  refine un (a1 (v := (B (decide (v53 < n_1)))) rfl ?_)
  refine dnil ?_
  refine Sv.seq ?_
  refine Sv.cond (b := decide (v53 < n_1)) rfl (fun hc4 => ?_) (fun hc4 => ?_)
  · replace h := ifT hc4 h
    refine Sv.skip ?_
    refine Sv.seq ?_
    refine Sv.block ?_
    refine Sv.seq ?_
    refine Sv.region ?_
    refine un (a1 rfl ?_)
    refine un (a1 rfl ?_)
    refine un (a1 rfl ?_)
    obtain ⟨r_3, hx2, h⟩ := bnd h
    refine un (a1 (v := (S r_3)) (s_slStr rfl rfl rfl hx2) ?_)
    refine un (a1 rfl ?_)
    obtain ⟨r_4, hr3, h⟩ := bnd h
    refine un (ac_pure (strings_Index_ok hr3) rfl rfl rfl ?_)
    refine un (a1 (v := (I (wi (start1 + r_4)))) rfl ?_)
    refine un (a1 rfl ?_)
    refine dnil ?_
    refine Sv.seq ?_
    refine Sv.region ?_
    refine un (a1 rfl ?_)
    refine un (a1 rfl ?_)
    refine un (a1 rfl ?_)
    obtain ⟨r_5, hx3, h⟩ := bnd h
    refine un (a1 (v := (S r_5)) (s_slStr rfl rfl rfl hx3) ?_)
    obtain ⟨r_6, hr4, h⟩ := bnd h
    refine un (ac_gen (bs := [0, 1]) («as» := [(.c (.ref 0 2 0 0)), (S r_5)]) (h2 := _) (h1 := (upd (upd (fun _ => none) 0 (some (.bld 76 zb_1 1 b_1.length))) 1 (bufB zb_1 5 b_1))) (strings_Builder_WriteString_ok (z := zb_1) (l := b_1) hzb_1 hr4) rfl (.cons (.c (.ref rfl (by decide))) (.cons (avAs_free rfl) .nil)) (hsub_refl _) (.cons rfl (.cons rfl (.nil _))) (fun h => by cases h) (by decide) (by decide) (.cons (.c (.ref rfl (by decide))) (.cons (avAs_free rfl) .nil)) (.buf (by decide) rfl (.box (by decide) rfl (.bld rfl (by decide)) .nil)) ?_)
    rintro _ _ _ hn ⟨z_2, hz_2, rfl, rfl, rfl⟩
    refine ⟨.inl rfl, (upd (upd (rem [0, 1] _) 0 (some (.bld 76 z_2 2 r_6.length))) 2 (bufB z_2 5 r_6)), fun hbd => (m3_cons (m3_buf rfl) (m3_cons (m3_box rfl rfl) (m3_rem (in_cons (by decide) (in_cons (by decide) (in_nil _))) (.cons (by decide) (.cons (by decide) .nil)) hbd))), (.tup [(I (r_5.length : Int)), (.c (.val .nilIface))]), 3, (by cases z_2 <;> rfl), rfl, ?_⟩
    refine dnil ?_
    refine Sv.seq ?_
    refine Sv.region ?_
    refine un (a1 rfl ?_)
    obtain ⟨r_7, hr5, h⟩ := bnd h
    refine un (ac_gen (bs := [0, 2]) («as» := [(.c (.ref 0 2 0 0)), (S new)]) (h2 := _) (h1 := (upd (upd (fun _ => none) 0 (some (.bld 76 z_2 2 r_6.length))) 2 (bufB z_2 5 r_6))) (strings_Builder_WriteString_ok (z := z_2) (l := r_6) hz_2 hr5) rfl (.cons (.c (.ref rfl (by decide))) (.cons (avAs_free rfl) .nil)) (hsub_refl _) (.cons rfl (.cons rfl (.nil _))) (fun h => by cases h) (by decide) (by decide) (.cons (.c (.ref rfl (by decide))) (.cons (avAs_free rfl) .nil)) (.buf (by decide) rfl (.box (by decide) rfl (.bld rfl (by decide)) .nil)) ?_)
    rintro _ _ _ hn ⟨z_3, hz_3, rfl, rfl, rfl⟩
    refine ⟨.inl rfl, (upd (upd (rem [0, 2] _) 0 (some (.bld 76 z_3 3 r_7.length))) 3 (bufB z_3 5 r_7)), fun hbd => (m3_cons (m3_buf rfl) (m3_cons (m3_box rfl rfl) (m3_rem (in_cons (by decide) (in_cons (by decide) (in_nil _))) (.cons (by decide) (.cons (by decide) .nil)) hbd))), (.tup [(I (new.length : Int)), (.c (.val .nilIface))]), 4, (by cases z_3 <;> rfl), rfl, ?_⟩
    refine dnil ?_
    refine Sv.region ?_
    refine un (a1 rfl ?_)
    refine un (a1 rfl ?_)
    refine un (a1 (v := (I (old.length : Int))) rfl ?_)
    refine un (a1 (v := (I (wi ((wi (start1 + r_4)) + (old.length : Int))))) rfl ?_)
    refine un (a1 rfl ?_)
    refine dnil ?_
    refine Sv.region ?_
    refine un (a1 (v := (I (wi (v53 + 1)))) rfl ?_)
    refine un (a1 rfl ?_)
    refine dnil ?_
    exact hself r_7 (wi ((wi (start1 + r_4)) + (old.length : Int))) (wi (v53 + 1)) z_3 hz_3 h _ (weak_canon [0, 3] rfl (by decide) (by decide) (fun b h => absurd h (Nat.not_lt_zero _)) (.cons rfl (avAs_free rfl) (.cons rfl (avAs_free rfl) (.cons rfl (avAs_free rfl) (.cons rfl (.c (.ref rfl (by decide))) (.cons rfl (avAs_free rfl) (.cons rfl (avAs_free rfl) (.cons rfl (avAs_free rfl) .nil))))))) (.buf (by decide) rfl (.box (by decide) rfl (.bld rfl (by decide)) .nil)))
  · replace h := ifF hc4 h
    refine Sv.exit ?_
    exact hK0 b_1 start1 zb_1 hzb_1 h _ (weak_canon [0, 1] rfl (by decide) (by decide) (fun b h => absurd h (Nat.not_lt_zero _)) (.cons rfl (avAs_free rfl) (.cons rfl (.c (.ref rfl (by decide))) (.cons rfl (avAs_free rfl) .nil))) (.buf (by decide) rfl (.box (by decide) rfl (.bld rfl (by decide)) .nil)))
abbrev strings_Replace_l5_E2 (s_ : (List UInt8)) (F_ : (List UInt8) → Int → Option (List UInt8)) (o : (List UInt8)) (R_ : St → Prop) : Prop := ∀ (b_4 : (List UInt8)) (start4 : Int) (zb_4 : Bool) (_ : zb_4 = true → b_4 = []), F_ b_4 start4 = some o → ∀ s, Weak 0 s ⟨(upd (upd (upd (fun _ => none) 0 (some (S s_))) 10 (some (.c (.ref 0 2 0 0)))) 11 (some (I start4))), (upd (upd (fun _ => none) 0 (some (.bld 76 zb_4 1 b_4.length))) 1 (bufB zb_4 5 b_4)), 2⟩ → R_ s
abbrev strings_Replace_l5_I (s_ : (List UInt8)) (new : (List UInt8)) (n_1 : Int) (F_ : Nat → (List UInt8) → Int → Int → Option (List UInt8)) (o : (List UInt8)) : Nat → St → Prop := fun k s => ∃ (b_3 : (List UInt8)), ∃ (start3 : Int), ∃ (v78 : Int), ∃ (zb_3 : Bool), (zb_3 = true → b_3 = []) ∧ F_ k b_3 start3 v78 = some o ∧ s = ⟨(upd (upd (upd (upd (upd (upd (fun _ => none) 0 (some (S s_))) 2 (some (S new))) 10 (some (.c (.ref 0 2 0 0)))) 11 (some (I start3))) 77 (some (I (wi (n_1 - 1))))) 78 (some (I v78))), (upd (upd (fun _ => none) 0 (some (.bld 76 zb_3 1 b_3.length))) 1 (bufB zb_3 5 b_3)), 2⟩
abbrev strings_Replace_l5_H (s_ : (List UInt8)) (new : (List UInt8)) (n_1 : Int) (F_ : (List UInt8) → Int → Int → Option (List UInt8)) (o : (List UInt8)) (R_ : St → Prop) : Prop := ∀ (b_3 : (List UInt8)) (start3 : Int) (v78 : Int) (zb_3 : Bool) (_ : zb_3 = true → b_3 = []), F_ b_3 start3 v78 = some o → ∀ s, Weak 0 s ⟨(upd (upd (upd (upd (upd (upd (fun _ => none) 0 (some (S s_))) 2 (some (S new))) 10 (some (.c (.ref 0 2 0 0)))) 11 (some (I start3))) 77 (some (I (wi (n_1 - 1))))) 78 (some (I v78))), (upd (upd (fun _ => none) 0 (some (.bld 76 zb_3 1 b_3.length))) 1 (bufB zb_3 5 b_3)), 2⟩ → R_ s
noncomputable def strings_Replace_l5 (n_1 : Int) (s_ : (List UInt8)) (new : (List UInt8)) (K2_ : (List UInt8) → Int → Option (List UInt8)) : Nat → (List UInt8) → Int → Int → Option (List UInt8)
  | 0, _, _, _ => none
  | k + 1, b_3, start3, v78 =>
    if decide (v78 < (wi (n_1 - 1))) then
      (sub? s_ start3 (s_.length : Int)).bind fun r_9 =>
      (unicode_utf8_DecodeRuneInString r_9).bind fun r_10 =>
      (sub? s_ start3 (wi (start3 + r_10.2))).bind fun r_11 =>
      (strings_Builder_WriteString b_3 r_11).bind fun r_12 =>
      (strings_Builder_WriteString r_12 new).bind fun r_13 =>
      (strings_Replace_l5 n_1 s_ new K2_ k) r_13 (wi (start3 + r_10.2)) (wi (v78 + 1))
    else
      K2_ b_3 start3
theorem strings_Replace_l5_ok {mL : Int} {Q : AExit → St → Prop} {n_1 : Int} {s_ : (List UInt8)} {new : (List UInt8)} {K2_ : (List UInt8) → Int → Option (List UInt8)} {k : Nat} {b_3 : (List UInt8)} {start3 : Int} {v78 : Int} {zb_3 : Bool} (hzb_3 : zb_3 = true → b_3 = []) {o : (List UInt8)} (h : strings_Replace_l5 n_1 s_ new K2_ k b_3 start3 v78 = some o)
    (hK2 : strings_Replace_l5_E2 s_ K2_ o (Q (.exit 2)))
    (hr : ∀ s, Ends a33.results 0 (strings_Replace_post o) .ret s → Q .ret s) :
    Sv Tryz.prog (GG mL) 0 (.loop a33_c2) Q ⟨(upd (upd (upd (upd (upd (upd (fun _ => none) 0 (some (S s_))) 2 (some (S new))) 10 (some (.c (.ref 0 2 0 0)))) 11 (some (I start3))) 77 (some (I (wi (n_1 - 1))))) 78 (some (I v78))), (upd (upd (fun _ => none) 0 (some (.bld 76 zb_3 1 b_3.length))) 1 (bufB zb_3 5 b_3)), 2⟩ := by
  refine Sv.loop (I := strings_Replace_l5_I s_ new n_1 (strings_Replace_l5 n_1 s_ new K2_) o) (fun k s hI => ?_) ⟨b_3, start3, v78, zb_3, hzb_3, h, rfl⟩
  clear h
  clear hzb_3 zb_3 v78 start3 b_3
  obtain ⟨b_3, start3, v78, zb_3, hzb_3, h, rfl⟩ := hI
  cases k with
  | zero => cases h
  | succ k =>
  rw [strings_Replace_l5] at h
  have hself : strings_Replace_l5_H s_ new n_1 (strings_Replace_l5 n_1 s_ new K2_ k) o (rnd 0 (strings_Replace_l5_I s_ new n_1 (strings_Replace_l5 n_1 s_ new K2_) o) k Q) := fun b_3 start3 v78 zb_3 hzb_3 h s hw => ⟨_, k, hw, Nat.lt_succ_self k, b_3, start3, v78, zb_3, hzb_3, h, rfl⟩
  refine Sv.seq ?_
  refine Sv.region ?_
  refine un (a1 (v := (B (decide (v78 < (wi (n_1 - 1)))))) rfl ?_)
  refine dnil ?_
  refine Sv.seq ?_
  refine Sv.cond (b := decide (v78 < (wi (n_1 - 1)))) rfl (fun hc5 => ?_) (fun hc5 => ?_)
  · replace h := ifT hc5 h
    refine Sv.skip ?_
    refine Sv.seq ?_
    refine Sv.block ?_
    refine Sv.seq ?_
    refine Sv.region ?_
    refine un (a1 rfl ?_)
    refine un (a1 rfl ?_)
    obtain ⟨r_9, hx4, h⟩ := bnd h
    refine un (a1 (v := (S r_9)) (s_slStr rfl rfl rfl hx4) ?_)
    obtain ⟨r_10, hr7, h⟩ := bnd h
    refine un (ac_pure (unicode_utf8_DecodeRuneInString_ok hr7) rfl rfl rfl ?_)
    refine un (a1 rfl ?_)
    refine un (a1 (v := (.c (.val (.int .i32 r_10.1)))) rfl ?_)
    refine un (a1 (v := (I r_10.2)) rfl ?_)
    refine un (a1 rfl ?_)
    refine un (a1 rfl ?_)
    refine dnil ?_
    refine Sv.seq ?_
    refine Sv.region ?_
    refine un (a1 rfl ?_)
    refine un (a1 rfl ?_)
    refine un (a1 (v := (I (wi (start3 + r_10.2)))) rfl ?_)
    refine un (a1 rfl ?_)
    refine dnil ?_
    refine Sv.seq ?_
    refine Sv.region ?_
    refine un (a1 rfl ?_)
    refine un (a1 rfl ?_)
    refine un (a1 rfl ?_)
    obtain ⟨r_11, hx5, h⟩ := bnd h
    refine un (a1 (v := (S r_11)) (s_slStr rfl rfl rfl hx5) ?_)
    obtain ⟨r_12, hr8, h⟩ := bnd h
    refine un (ac_gen (bs := [0, 1]) («as» := [(.c (.ref 0 2 0 0)), (S r_11)]) (h2 := _) (h1 := (upd (upd (fun _ => none) 0 (some (.bld 76 zb_3 1 b_3.length))) 1 (bufB zb_3 5 b_3))) (strings_Builder_WriteString_ok (z := zb_3) (l := b_3) hzb_3 hr8) rfl (.cons (.c (.ref rfl (by decide))) (.cons (avAs_free rfl) .nil)) (hsub_refl _) (.cons rfl (.cons rfl (.nil _))) (fun h => by cases h) (by decide) (by decide) (.cons (.c (.ref rfl (by decide))) (.cons (avAs_free rfl) .nil)) (.buf (by decide) rfl (.box (by decide) rfl (.bld rfl (by decide)) .nil)) ?_)
    rintro _ _ _ hn ⟨z_5, hz_5, rfl, rfl, rfl⟩
    refine ⟨.inl rfl, (upd (upd (rem [0, 1] _) 0 (some (.bld 76 z_5 2 r_12.length))) 2 (bufB z_5 5 r_12)), fun hbd => (m3_cons (m3_buf rfl) (m3_cons (m3_box rfl rfl) (m3_rem (in_cons (by decide) (in_cons (by decide) (in_nil _))) (.cons (by decide) (.cons (by decide) .nil)) hbd))), (.tup [(I (r_11.length : Int)), (.c (.val .nilIface))]), 3, (by cases z_5 <;> rfl), rfl, ?_⟩
    refine dnil ?_
    refine Sv.seq ?_
    refine Sv.region ?_
    refine un (a1 rfl ?_)
    obtain ⟨r_13, hr9, h⟩ := bnd h
    refine un (ac_gen (bs := [0, 2]) («as» := [(.c (.ref 0 2 0 0)), (S new)]) (h2 := _) (h1 := (upd (upd (fun _ => none) 0 (some (.bld 76 z_5 2 r_12.length))) 2 (bufB z_5 5 r_12))) (strings_Builder_WriteString_ok (z := z_5) (l := r_12) hz_5 hr9) rfl (.cons (.c (.ref rfl (by decide))) (.cons (avAs_free rfl) .nil)) (hsub_refl _) (.cons rfl (.cons rfl (.nil _))) (fun h => by cases h) (by decide) (by decide) (.cons (.c (.ref rfl (by decide))) (.cons (avAs_free rfl) .nil)) (.buf (by decide) rfl (.box (by decide) rfl (.bld rfl (by decide)) .nil)) ?_)
    rintro _ _ _ hn ⟨z_6, hz_6, rfl, rfl, rfl⟩
    refine ⟨.inl rfl, (upd (upd (rem [0, 2] _) 0 (some (.bld 76 z_6 3 r_13.length))) 3 (bufB z_6 5 r_13)), fun hbd => (m3_cons (m3_buf rfl) (m3_cons (m3_box rfl rfl) (m3_rem (in_cons (by decide) (in_cons (by decide) (in_nil _))) (.cons (by decide) (.cons (by decide) .nil)) hbd))), (.tup [(I (new.length : Int)), (.c (.val .nilIface))]), 4, (by cases z_6 <;> rfl), rfl, ?_⟩
    refine dnil ?_
    refine Sv.region ?_
    refine un (a1 rfl ?_)
    refine un (a1 rfl ?_)
    refine dnil ?_
    refine Sv.region ?_
    refine un (a1 (v := (I (wi (v78 + 1)))) rfl ?_)
    refine un (a1 rfl ?_)
    refine dnil ?_
    exact hself r_13 (wi (start3 + r_10.2)) (wi (v78 + 1)) z_6 hz_6 h _ (weak_canon [0, 3] rfl (by decide) (by decide) (fun b h => absurd h (Nat.not_lt_zero _)) (.cons rfl (avAs_free rfl) (.cons rfl (avAs_free rfl) (.cons rfl (avAs_free rfl) (.cons rfl (.c (.ref rfl (by decide))) (.cons rfl (avAs_free rfl) (.cons rfl (avAs_free rfl) .nil)))))) (.buf (by decide) rfl (.box (by decide) rfl (.bld rfl (by decide)) .nil)))
  · replace h := ifF hc5 h
    refine Sv.exit ?_
    exact hK2 b_3 start3 zb_3 hzb_3 h _ (weak_canon [0, 1] rfl (by decide) (by decide) (fun b h => absurd h (Nat.not_lt_zero _)) (.cons rfl (avAs_free rfl) (.cons rfl (.c (.ref rfl (by decide))) (.cons rfl (avAs_free rfl) .nil))) (.buf (by decide) rfl (.box (by decide) rfl (.bld rfl (by decide)) .nil)))
noncomputable def strings_Replace_j1 (s_ : (List UInt8)) (new : (List UInt8)) (old : (List UInt8)) (n_1 : Int) : Option (List UInt8) :=
  letIn (wi ((s_.length : Int) + (wi (n_1 * (wi ((new.length : Int) - (old.length : Int))))))) fun v47 : Int =>
  (strings_Builder_Grow ([] : List UInt8) v47).bind fun r_ =>
  if decide (0 < (old.length : Int)) then
    lim fun kk => strings_Replace_l4 n_1 s_ old new (fun (b_2 : (List UInt8)) (start2 : Int) => 
        strings_Replace_j2 s_ b_2 start2) kk r_ 0 0
  else
    (strings_Builder_WriteString r_ new).bind fun r_8 =>
    lim fun kk1 => strings_Replace_l5 n_1 s_ new (fun (b_4 : (List UInt8)) (start4 : Int) => 
        strings_Replace_j2 s_ b_4 start4) kk1 r_8 0 0
theorem strings_Replace_j1_ok {mL : Int} {s_ : (List UInt8)} {new : (List UInt8)} {old : (List UInt8)} {n_1 : Int} {o : (List UInt8)} (h : strings_Replace_j1 s_ new old n_1 = some o) :
    Sv Tryz.prog (GG mL) 0 a33_c0 (Ends a33.results 0 (strings_Replace_post o)) ⟨(upd (upd (upd (upd (fun _ => none) 0 (some (S s_))) 1 (some (S old))) 2 (some (S new))) 3 (some (I n_1))), (fun _ => none), 0⟩ := by
  unfold strings_Replace_j1 at h
  refine Sv.seq ?_
  refine Sv.region ?_
  refine un (a2v (v := (.c (.ref 1 2 0 0))) (h' := upd _ 1 (some (.bld 76 true 0 ([] : List UInt8).length))) (n' := 2) rfl rfl (fun h => by cases h) ?_)
  refine dnil ?_
  refine Sv.seq ?_
  refine Sv.region ?_
  refine un (a1 rfl ?_)
  refine un (a1 (v := (I (s_.length : Int))) rfl ?_)
  refine un (a1 rfl ?_)
  refine un (a1 rfl ?_)
  refine un (a1 (v := (I (new.length : Int))) rfl ?_)
  refine un (a1 rfl ?_)
  refine un (a1 (v := (I (old.length : Int))) rfl ?_)
  refine un (a1 (v := (I (wi ((new.length : Int) - (old.length : Int))))) rfl ?_)
  refine un (a1 (v := (I (wi (n_1 * (wi ((new.length : Int) - (old.length : Int))))))) rfl ?_)
  obtain ⟨v47, hv47⟩ : ∃ v47 : Int, v47 = (wi ((s_.length : Int) + (wi (n_1 * (wi ((new.length : Int) - (old.length : Int))))))) := ⟨_, rfl⟩
  replace h := letAt hv47 h
  refine un (a1 (v := (I v47)) (by rw [hv47]; rfl) ?_)
  clear hv47
  obtain ⟨r_, hr1, h⟩ := bnd h
  refine un (ac_gen (bs := [1, 0]) («as» := [(.c (.ref 1 2 0 0)), (I v47)]) (h2 := _) (h1 := (upd (fun _ => none) 1 (some (.bld 76 true 0 ([] : List UInt8).length)))) (strings_Builder_Grow_ok (z := true) (l := ([] : List UInt8)) (fun _ => rfl) hr1) rfl (.cons (.c (.ref rfl (by decide))) (.cons (avAs_free rfl) .nil)) (hsub_refl _) (.cons rfl (.nil _)) (fun h => by cases h) (by decide) (by decide) (.cons (.c (.ref rfl (by decide))) (.cons (avAs_free rfl) .nil)) (.nonB (by decide) (.box (by decide) rfl (.bldN (by decide)) .nil)) ?_)
  rintro _ _ _ hn ⟨z_, hz_, rfl, rfl, rfl⟩
  refine ⟨.inl rfl, (upd (upd (rem [1, 0] _) 1 (some (.bld 76 z_ 2 r_.length))) 2 (bufB z_ 5 r_)), fun hbd => (m3_cons (m3_buf rfl) (m3_cons (m3_box rfl rfl) (m3_rem (in_cons (by decide) (in_nil _)) (.cons (by decide) (.cons (by decide) .nil)) hbd))), (.tup []), 3, (by cases z_ <;> rfl), rfl, ?_⟩
  refine dnil ?_
  refine Sv.seq ?_
  refine Sv.region ?_
  refine un (a1 rfl ?_)
  refine dnil ?_
  refine Sv.seq ?_
  refine Sv.seq ?_
  refine Sv.region ?_
  refine un (a1 rfl ?_)
  refine un (a1 (v := (I (old.length : Int))) rfl ?_)
  refine un (a1 (v := (B (decide (0 < (old.length : Int))))) rfl ?_)
  refine dnil ?_
  refine Sv.cond (b := decide (0 < (old.length : Int))) rfl (fun hc3 => ?_) (fun hc3 => ?_)
  · replace h := ifT hc3 h
    refine Sv.seq ?_
    refine Sv.region ?_
    refine un (a1 rfl ?_)
    refine un (a1 rfl ?_)
    refine dnil ?_
    refine Sv.block ?_
    obtain ⟨kk, h⟩ := lim_some h
    refine Sv.weak (weak_canon [1, 2] rfl (by decide) (by decide) (fun b h => absurd h (Nat.not_lt_zero _)) (.cons rfl (avAs_free rfl) (.cons rfl (avAs_free rfl) (.cons rfl (avAs_free rfl) (.cons rfl (.c (.ref rfl (by decide))) (.cons rfl (avAs_free rfl) (.cons rfl (avAs_free rfl) (.cons rfl (avAs_free rfl) .nil))))))) (.buf (by decide) rfl (.box (by decide) rfl (.bld rfl (by decide)) .nil))) (strings_Replace_l4_ok hz_ h ?_ (fun s hs => hs))
    · intro b_2 start2 zb_2 hzb_2 h _ hw1
      exact Sv.weak (hw1.trans (weak_canon [0, 1] rfl (by decide) (by decide) (fun b h => absurd h (Nat.not_lt_zero _)) (.cons rfl (avAs_free rfl) (.cons rfl (.c (.ref rfl (by decide))) (.cons rfl (avAs_free rfl) .nil))) (.buf (by decide) rfl (.box (by decide) rfl (.bld rfl (by decide)) .nil)))) (strings_Replace_j2_ok hzb_2 h)
  · replace h := ifF hc3 h
    refine Sv.seq ?_
    refine Sv.region ?_
    refine un (a1 rfl ?_)
    obtain ⟨r_8, hr6, h⟩ := bnd h
    refine un (ac_gen (bs := [1, 2]) («as» := [(.c (.ref 1 2 0 0)), (S new)]) (h2 := _) (h1 := (upd (upd (fun _ => none) 1 (some (.bld 76 z_ 2 r_.length))) 2 (bufB z_ 5 r_))) (strings_Builder_WriteString_ok (z := z_) (l := r_) hz_ hr6) rfl (.cons (.c (.ref rfl (by decide))) (.cons (avAs_free rfl) .nil)) (hsub_refl _) (.cons rfl (.cons rfl (.nil _))) (fun h => by cases h) (by decide) (by decide) (.cons (.c (.ref rfl (by decide))) (.cons (avAs_free rfl) .nil)) (.buf (by decide) rfl (.box (by decide) rfl (.bld rfl (by decide)) .nil)) ?_)
    rintro _ _ _ hn ⟨z_4, hz_4, rfl, rfl, rfl⟩
    refine ⟨.inl rfl, (upd (upd (rem [1, 2] _) 1 (some (.bld 76 z_4 3 r_8.length))) 3 (bufB z_4 5 r_8)), fun hbd => (m3_cons (m3_buf rfl) (m3_cons (m3_box rfl rfl) (m3_rem (in_cons (by decide) (in_cons (by decide) (in_nil _))) (.cons (by decide) (.cons (by decide) .nil)) hbd))), (.tup [(I (new.length : Int)), (.c (.val .nilIface))]), 4, (by cases z_4 <;> rfl), rfl, ?_⟩
    refine dnil ?_
    refine Sv.seq ?_
    refine Sv.region ?_
    refine un (a1 rfl ?_)
    refine un (a1 (v := (I (wi (n_1 - 1)))) rfl ?_)
    refine un (a1 rfl ?_)
    refine dnil ?_
    refine Sv.block ?_
    obtain ⟨kk1, h⟩ := lim_some h
    refine Sv.weak (weak_canon [1, 3] rfl (by decide) (by decide) (fun b h => absurd h (Nat.not_lt_zero _)) (.cons rfl (avAs_free rfl) (.cons rfl (avAs_free rfl) (.cons rfl (avAs_free rfl) (.cons rfl (.c (.ref rfl (by decide))) (.cons rfl (avAs_free rfl) (.cons rfl (avAs_free rfl) .nil)))))) (.buf (by decide) rfl (.box (by decide) rfl (.bld rfl (by decide)) .nil))) (strings_Replace_l5_ok hz_4 h ?_ (fun s hs => hs))
    · intro b_4 start4 zb_4 hzb_4 h _ hw2
      exact Sv.weak (hw2.trans (weak_canon [0, 1] rfl (by decide) (by decide) (fun b h => absurd h (Nat.not_lt_zero _)) (.cons rfl (avAs_free rfl) (.cons rfl (.c (.ref rfl (by decide))) (.cons rfl (avAs_free rfl) .nil))) (.buf (by decide) rfl (.box (by decide) rfl (.bld rfl (by decide)) .nil)))) (strings_Replace_j2_ok hzb_4 h)
/-- strings.Replace -/
noncomputable def strings_Replace (s_ : (List UInt8)) (old : (List UInt8)) (new : (List UInt8)) (n_ : Int) : Option (List UInt8) :=
  if ((decide (old = new)) || (decide (n_ = 0))) then
    some s_
  else
    (strings_Count s_ old).bind fun r_14 =>
    if decide (r_14 = 0) then
      some s_
    else
      if ((decide (n_ < 0)) || (decide (r_14 < n_))) then
        strings_Replace_j1 s_ new old r_14
      else
        strings_Replace_j1 s_ new old n_
theorem strings_Replace_ok {mL : Int} {s_ : (List UInt8)} {old : (List UInt8)} {new : (List UInt8)} {n_ : Int} {r : (List UInt8)} (h : strings_Replace s_ old new n_ = some r) : CPure Tryz.prog (GG mL) 33 [(S s_), (S old), (S new), (I n_)] (S r) := by
  refine acalls_of_sv hmix c33 (R := strings_Replace_post r) ?_
  unfold strings_Replace at h
  refine Sv.seq ?_
  refine Sv.region ?_
  refine un (a1 rfl ?_)
  refine dnil ?_
  refine Sv.seq ?_
  refine Sv.seq ?_
  refine Sv.region ?_
  refine un (a1 rfl ?_)
  refine un (a1 rfl ?_)
  refine un (a1 (v := (B (decide (old = new)))) rfl ?_)
  refine un (a1 rfl ?_)
  refine gjoin 3 (d := 22) (v := (B ((decide (old = new)) || (decide (n_ = 0))))) (fun X hX => ?_) ?_
  · refine split2 (fun hc1 => ?_) (fun hc1 => ?_)
    · refine gs rfl rfl ?_
      refine gs rfl rfl ?_
      refine un (a1 (v := (B true)) rfl ?_)
      refine dnil ?_
      exact hX _ (.putEq (by rw [hc1]; rfl) (.skip _ _ (.skip _ _ (.putEq (by rw [hc1]) (.refl _)) rfl) rfl))
    · refine gt rfl (a1 rfl ?_)
      refine gt rfl (a1 (v := (B (decide (n_ = 0)))) rfl ?_)
      refine un (a1 (v := (B (decide (n_ = 0)))) rfl ?_)
      refine dnil ?_
      exact hX _ (.putEq (by rw [hc1]; rfl) (.skip _ _ (.skip _ _ (.putEq (by rw [hc1]) (.refl _)) rfl) rfl))
  refine dnil ?_
  refine Sv.cond (b := ((decide (old = new)) || (decide (n_ = 0)))) rfl (fun hc2 => ?_) (fun hc2 => ?_)
  · replace h := ifT hc2 h
    refine Sv.seq ?_
    refine Sv.region ?_
    refine un (a1 rfl ?_)
    refine un (a1 rfl ?_)
    refine dnil ?_
    refine Sv.ret ?_
    replace h := Option.some.inj h
    subst h
    exact ⟨_, .refl _, _, rfl, ⟨upd (fun _ => none) 0 (some (S s_)), (fun _ => none), 0⟩, (S s_), weak_canon [] rfl List.nodup_nil (Nat.le_refl _) (fun b h => absurd h (Nat.not_lt_zero _)) (.cons rfl (avAs_free rfl) .nil) .nil, rfl, rfl, rfl, rfl⟩
  · replace h := ifF hc2 h
    refine Sv.skip ?_
    refine Sv.seq ?_
    refine Sv.seq ?_
    refine Sv.region ?_
    refine un (a1 rfl ?_)
    refine un (a1 rfl ?_)
    obtain ⟨r_14, hr10, h⟩ := bnd h
    refine un (ac_pure (strings_Count_ok hr10) rfl rfl rfl ?_)
    refine un (a1 rfl ?_)
    refine dnil ?_
    refine Sv.seq ?_
    refine Sv.region ?_
    refine un (a1 rfl ?_)
    refine un (a1 (v := (B (decide (r_14 = 0)))) rfl ?_)
    refine dnil ?_
    refine Sv.cond (b := decide (r_14 = 0)) rfl (fun hc6 => ?_) (fun hc6 => ?_)
    · replace h := ifT hc6 h
      refine Sv.seq ?_
      refine Sv.region ?_
      refine un (a1 rfl ?_)
      refine un (a1 rfl ?_)
      refine dnil ?_
      refine Sv.ret ?_
      replace h := Option.some.inj h
      subst h
      exact ⟨_, .refl _, _, rfl, ⟨upd (fun _ => none) 0 (some (S s_)), (fun _ => none), 0⟩, (S s_), weak_canon [] rfl List.nodup_nil (Nat.le_refl _) (fun b h => absurd h (Nat.not_lt_zero _)) (.cons rfl (avAs_free rfl) .nil) .nil, rfl, rfl, rfl, rfl⟩
    · replace h := ifF hc6 h
      refine Sv.seq ?_
      refine Sv.region ?_
      refine un (a1 rfl ?_)
      refine un (a1 (v := (B (decide (n_ < 0)))) rfl ?_)
      refine un (a1 rfl ?_)
      refine gjoin 4 (d := 36) (v := (B ((decide (n_ < 0)) || (decide (r_14 < n_))))) (fun X hX => ?_) ?_
      · refine split2 (fun hc7 => ?_) (fun hc7 => ?_)
        · refine gs rfl rfl ?_
          refine gs rfl rfl ?_
          refine gs rfl rfl ?_
          refine un (a1 (v := (B true)) rfl ?_)
          refine dnil ?_
          exact hX _ (.putEq (by rw [hc7]; rfl) (.skip _ _ (.skip _ _ (.skip _ _ (.putEq (by rw [hc7]) (.refl _)) rfl) rfl) rfl))
        · refine gt rfl (a1 rfl ?_)
          refine gt rfl (a1 rfl ?_)
          refine gt rfl (a1 (v := (B (decide (r_14 < n_)))) rfl ?_)
          refine un (a1 (v := (B (decide (r_14 < n_)))) rfl ?_)
          refine dnil ?_
          exact hX _ (.putEq (by rw [hc7]; rfl) (.skip _ _ (.skip _ _ (.skip _ _ (.putEq (by rw [hc7]) (.refl _)) rfl) rfl) rfl))
      refine dnil ?_
      refine Sv.cond (b := ((decide (n_ < 0)) || (decide (r_14 < n_)))) rfl (fun hc8 => ?_) (fun hc8 => ?_)
      · replace h := ifT hc8 h
        refine Sv.region ?_
        refine un (a1 rfl ?_)
        refine un (a1 rfl ?_)
        refine dnil ?_
        exact Sv.weak (weak_canon [] rfl (by decide) (by decide) (fun b h => absurd h (Nat.not_lt_zero _)) (.cons rfl (avAs_free rfl) (.cons rfl (avAs_free rfl) (.cons rfl (avAs_free rfl) (.cons rfl (avAs_free rfl) .nil)))) .nil) (strings_Replace_j1_ok h)
      · replace h := ifF hc8 h
        refine Sv.skip ?_
        exact Sv.weak (weak_canon [] rfl (by decide) (by decide) (fun b h => absurd h (Nat.not_lt_zero _)) (.cons rfl (avAs_free rfl) (.cons rfl (avAs_free rfl) (.cons rfl (avAs_free rfl) (.cons rfl (avAs_free rfl) .nil)))) .nil) (strings_Replace_j1_ok h)
def a19 : AFunc := ⟨1, [(.tmp 2)], (.seq (.region [⟨(some 1), (.box (.tmp 0)), none⟩, ⟨(some 2), (.mov (.const (.c (.str [])))), none⟩])
 (.seq (.block 0 (.seq (.region [⟨(some 4), (.faddr 0 (.tmp 1)), none⟩, ⟨(some 5), (.load false 1 (.tmp 4)), none⟩, ⟨(some 6), (.bin .geq (.tmp 5) (.const (.c (.val (.int .i64 1))))), none⟩, ⟨(some 7), (.mov (.tmp 6)), none⟩, ⟨(some 8), (.faddr 0 (.tmp 1)), (some (7, true))⟩, ⟨(some 9), (.load false 1 (.tmp 8)), (some (7, true))⟩, ⟨(some 10), (.bin .leq (.tmp 9) (.const (.c (.val (.int .i64 3))))), (some (7, true))⟩, ⟨(some 11), (.pick (.tmp 7) (.tmp 10) (.const (.c (.val (.bool false))))), none⟩, ⟨(some 3), (.mov (.tmp 11)), none⟩])
 (.cond (.tmp 3) (.seq (.region [⟨(some 12), (.faddr 0 (.tmp 1)), none⟩, ⟨(some 13), (.load false 1 (.tmp 12)), none⟩, ⟨(some 14), (.iaddrA 12 1 (.glob 0) (.tmp 13)), none⟩, ⟨(some 15), (.load false 1 (.tmp 14)), none⟩, ⟨(some 2), (.mov (.tmp 15)), none⟩])
 .ret) (.seq (.region [⟨(some 17), (.faddr 0 (.tmp 1)), none⟩, ⟨(some 18), (.load false 1 (.tmp 17)), none⟩, ⟨(some 19), (.bin .geq (.tmp 18) (.const (.c (.val (.int .i64 4))))), none⟩, ⟨(some 20), (.mov (.tmp 19)), none⟩, ⟨(some 21), (.faddr 0 (.tmp 1)), (some (20, true))⟩, ⟨(some 22), (.load false 1 (.tmp 21)), (some (20, true))⟩, ⟨(some 23), (.bin .leq (.tmp 22) (.const (.c (.val (.int .i64 7))))), (some (20, true))⟩, ⟨(some 24), (.pick (.tmp 20) (.tmp 23) (.const (.c (.val (.bool false))))), none⟩, ⟨(some 16), (.mov (.tmp 24)), none⟩])
 (.cond (.tmp 16) (.seq (.drawn (.fin [(⟨(some 25), (.faddr 0 (.tmp 1)), none⟩, (0, 0)), (⟨(some 26), (.load false 1 (.tmp 25)), none⟩, (0, 1)), (⟨(some 27), (.iaddrA 12 1 (.glob 0) (.tmp 26)), none⟩, (0, 2)), (⟨(some 28), (.load false 1 (.tmp 27)), none⟩, (0, 3)), (⟨(some 29), (.bin .add (.const (.c (.str [40]))) (.tmp 28)), none⟩, (0, 4)), (⟨(some 30), (.bin .add (.tmp 29) (.const (.c (.str [58, 32])))), none⟩, (0, 5)), (⟨(some 31), (.faddr 1 (.tmp 1)), none⟩, (0, 6)), (⟨(some 32), (.load false 1 (.tmp 31)), none⟩, (0, 7)), (⟨(some 33), (.call 32 [(.tmp 32)]), none⟩, (1, 8)), (⟨(some 34), (.bin .add (.tmp 30) (.tmp 33)), none⟩, (0, 9)), (⟨(some 35), (.bin .add (.tmp 34) (.const (.c (.str [112, 120, 41])))), none⟩, (0, 10)), (⟨(some 2), (.mov (.tmp 35)), none⟩, (0, 11))]))
 .ret) (.seq (.region [⟨(some 37), (.faddr 0 (.tmp 1)), none⟩, ⟨(some 38), (.load false 1 (.tmp 37)), none⟩, ⟨(some 39), (.bin .geq (.tmp 38) (.const (.c (.val (.int .i64 8))))), none⟩, ⟨(some 40), (.mov (.tmp 39)), none⟩, ⟨(some 41), (.faddr 0 (.tmp 1)), (some (40, true))⟩, ⟨(some 42), (.load false 1 (.tmp 41)), (some (40, true))⟩, ⟨(some 43), (.bin .leq (.tmp 42) (.const (.c (.val (.int .i64 11))))), (some (40, true))⟩, ⟨(some 44), (.pick (.tmp 40) (.tmp 43) (.const (.c (.val (.bool false))))), none⟩, ⟨(some 36), (.mov (.tmp 44)), none⟩])
 (.cond (.tmp 36) (.seq (.region [⟨(some 45), (.faddr 0 (.tmp 1)), none⟩, ⟨(some 46), (.load false 1 (.tmp 45)), none⟩, ⟨(some 47), (.iaddrA 12 1 (.glob 0) (.tmp 46)), none⟩, ⟨(some 48), (.load false 1 (.tmp 47)), none⟩, ⟨(some 49), (.call 33 [(.tmp 48), (.const (.c (.str [58]))), (.const (.c (.str [58, 32]))), (.const (.c (.val (.int .i64 1))))]), none⟩, ⟨(some 50), (.bin .add (.const (.c (.str [40]))) (.tmp 49)), none⟩, ⟨(some 51), (.bin .add (.tmp 50) (.const (.c (.str [41])))), none⟩, ⟨(some 2), (.mov (.tmp 51)), none⟩])
 .ret) .skip)))))))
 (.seq (.region [⟨(some 2), (.mov (.const (.c (.str [40, 63, 41])))), none⟩])
 .ret)))⟩
set_option maxRecDepth 100000 in
theorem c19 : compFunc Tryz.prog 19 = some a19 := by kernel_rfl
def media_featureText_post (r : (List UInt8)) : AV → Heap → Nat → Prop := fun v h' n' => v = (S r) ∧ (h' = (fun _ => none)) ∧ n' = 0
def media_featureText_t0 : List (List UInt8) := [[], [97, 108, 108], [115, 99, 114, 101, 101, 110], [112, 114, 105, 110, 116], [109, 105, 110, 45, 119, 105, 100, 116, 104], [109, 97, 120, 45, 119, 105, 100, 116, 104], [109, 105, 110, 45, 104, 101, 105, 103, 104, 116], [109, 97, 120, 45, 104, 101, 105, 103, 104, 116], [112, 114, 101, 102, 101, 114, 115, 45, 99, 111, 108, 111, 114, 45, 115, 99, 104, 101, 109, 101, 58, 100, 97, 114, 107], [112, 114, 101, 102, 101, 114, 115, 45, 99, 111, 108, 111, 114, 45, 115, 99, 104, 101, 109, 101, 58, 108, 105, 103, 104, 116], [111, 114, 105, 101, 110, 116, 97, 116, 105, 111, 110, 58, 112, 111, 114, 116, 114, 97, 105, 116], [111, 114, 105, 101, 110, 116, 97, 116, 105, 111, 110, 58, 108, 97, 110, 100, 115, 99, 97, 112, 101]]
/-- clerestory/media.featureText -/
noncomputable def media_featureText (f_ : TSFeature) : Option (List UInt8) :=
  if ((decide (1 ≤ f_.Kind)) && (decide (f_.Kind ≤ 3))) then
    (at? media_featureText_t0 f_.Kind).bind fun x_ =>
    some x_
  else
    if ((decide (4 ≤ f_.Kind)) && (decide (f_.Kind ≤ 7))) then
      (at? media_featureText_t0 f_.Kind).bind fun x_1 =>
      (cat? [40] x_1).bind fun r_ =>
      (cat? r_ [58, 32]).bind fun r_1 =>
      (strconv_Itoa f_.Num).bind fun r_2 =>
      (cat? r_1 r_2).bind fun r_3 =>
      (cat? r_3 [112, 120, 41]).bind fun r_4 =>
      some r_4
    else
      if ((decide (8 ≤ f_.Kind)) && (decide (f_.Kind ≤ 11))) then
        (at? media_featureText_t0 f_.Kind).bind fun x_2 =>
        (strings_Replace x_2 [58] [58, 32] 1).bind fun r_5 =>
        (cat? [40] r_5).bind fun r_6 =>
        (cat? r_6 [41]).bind fun r_7 =>
        some r_7
      else
        some [40, 63, 41]
theorem media_featureText_ok {mL : Int} {f_ : TSFeature} {r : (List UInt8)} (h : media_featureText f_ = some r) : CPure Tryz.prog (GG mL) 19 [(.agg [cI f_.Kind, cI f_.Num])] (S r) := by
  refine acalls_of_sv hmix c19 (R := media_featureText_post r) ?_
  unfold media_featureText at h
  refine Sv.seq ?_
  refine Sv.region ?_
  refine un (a2v (v := (.c (.ref 0 2 0 0))) (h' := upd _ 0 (some (.cells 2 [[cI f_.Kind, cI f_.Num]]))) (n' := 1) rfl rfl (fun h => by cases h) ?_)
  refine un (a1 rfl ?_)
  refine dnil ?_
  refine Sv.seq ?_
  refine Sv.block ?_
  refine Sv.seq ?_
  refine Sv.region ?_
  refine un (a1 (v := (.c (.ref 0 2 0 0))) rfl ?_)
  refine un (a1 (v := (I f_.Kind)) rfl ?_)
  refine un (a1 (v := (B (decide (1 ≤ f_.Kind)))) rfl ?_)
  refine un (a1 rfl ?_)
  refine gjoin 4 (d := 11) (v := (B ((decide (1 ≤ f_.Kind)) && (decide (f_.Kind ≤ 3))))) (fun X hX => ?_) ?_
  · refine split2 (fun hc1 => ?_) (fun hc1 => ?_)
    · refine gt rfl (a1 (v := (.c (.ref 0 2 0 0))) rfl ?_)
      refine gt rfl (a1 (v := (I f_.Kind)) rfl ?_)
      refine gt rfl (a1 (v := (B (decide (f_.Kind ≤ 3)))) rfl ?_)
      refine un (a1 (v := (B (decide (f_.Kind ≤ 3)))) rfl ?_)
      refine dnil ?_
      exact hX _ (.putEq (by rw [hc1]; rfl) (.skip _ _ (.skip _ _ (.skip _ _ (.putEq (by rw [hc1]) (.refl _)) rfl) rfl) rfl))
    · refine gs rfl rfl ?_
      refine gs rfl rfl ?_
      refine gs rfl rfl ?_
      refine un (a1 (v := (B false)) rfl ?_)
      refine dnil ?_
      exact hX _ (.putEq (by rw [hc1]; rfl) (.skip _ _ (.skip _ _ (.skip _ _ (.putEq (by rw [hc1]) (.refl _)) rfl) rfl) rfl))
  refine un (a1 rfl ?_)
  refine dnil ?_
  refine Sv.cond (b := ((decide (1 ≤ f_.Kind)) && (decide (f_.Kind ≤ 3)))) rfl (fun hc2 => ?_) (fun hc2 => ?_)
  · replace h := ifT hc2 h
    refine Sv.seq ?_
    refine Sv.region ?_
    refine un (a1 (v := (.c (.ref 0 2 0 0))) rfl ?_)
    refine un (a1 (v := (I f_.Kind)) rfl ?_)
    obtain ⟨x_, hx1, h⟩ := bnd h
    refine un (a1 (v := (.c (.rop (List.drop (f_.Kind.toNat * 1) g0_c)))) (s_iaddrAr (L := media_featureText_t0) rfl rfl rfl hx1) ?_)
    refine un (a1 (v := (S x_)) (s_loadAr (o2 := 0) (v := fun q => (S q)) rfl (.cons rfl (.cons rfl (.cons rfl (.cons rfl (.cons rfl (.cons rfl (.cons rfl (.cons rfl (.cons rfl (.cons rfl (.cons rfl (.cons rfl .nil)))))))))))) hx1) ?_)
    refine un (a1 rfl ?_)
    refine dnil ?_
    refine Sv.ret ?_
    replace h := Option.some.inj h
    subst h
    exact ⟨_, .refl _, _, rfl, ⟨upd (fun _ => none) 0 (some (S x_)), (fun _ => none), 0⟩, (S x_), weak_canon [] rfl List.nodup_nil (Nat.le_refl _) (fun b h => absurd h (Nat.not_lt_zero _)) (.cons rfl (avAs_free rfl) .nil) .nil, rfl, rfl, rfl, rfl⟩
  · replace h := ifF hc2 h
    refine Sv.seq ?_
    refine Sv.region ?_
    refine un (a1 (v := (.c (.ref 0 2 0 0))) rfl ?_)
    refine un (a1 (v := (I f_.Kind)) rfl ?_)
    refine un (a1 (v := (B (decide (4 ≤ f_.Kind)))) rfl ?_)
    refine un (a1 rfl ?_)
    refine gjoin 4 (d := 24) (v := (B ((decide (4 ≤ f_.Kind)) && (decide (f_.Kind ≤ 7))))) (fun X hX => ?_) ?_
    · refine split2 (fun hc3 => ?_) (fun hc3 => ?_)
      · refine gt rfl (a1 (v := (.c (.ref 0 2 0 0))) rfl ?_)
        refine gt rfl (a1 (v := (I f_.Kind)) rfl ?_)
        refine gt rfl (a1 (v := (B (decide (f_.Kind ≤ 7)))) rfl ?_)
        refine un (a1 (v := (B (decide (f_.Kind ≤ 7)))) rfl ?_)
        refine dnil ?_
        exact hX _ (.putEq (by rw [hc3]; rfl) (.skip _ _ (.skip _ _ (.skip _ _ (.putEq (by rw [hc3]) (.refl _)) rfl) rfl) rfl))
      · refine gs rfl rfl ?_
        refine gs rfl rfl ?_
        refine gs rfl rfl ?_
        refine un (a1 (v := (B false)) rfl ?_)
        refine dnil ?_
        exact hX _ (.putEq (by rw [hc3]; rfl) (.skip _ _ (.skip _ _ (.skip _ _ (.putEq (by rw [hc3]) (.refl _)) rfl) rfl) rfl))
    refine un (a1 rfl ?_)
    refine dnil ?_
    refine Sv.cond (b := ((decide (4 ≤ f_.Kind)) && (decide (f_.Kind ≤ 7)))) rfl (fun hc4 => ?_) (fun hc4 => ?_)
    · replace h := ifT hc4 h
      refine Sv.seq ?_
      refine Sv.drawn ?_
      refine un (a1 (v := (.c (.ref 0 2 0 0))) rfl ?_)
      refine un (a1 (v := (I f_.Kind)) rfl ?_)
      obtain ⟨x_1, hx2, h⟩ := bnd h
      refine un (a1 (v := (.c (.rop (List.drop (f_.Kind.toNat * 1) g0_c)))) (s_iaddrAr (L := media_featureText_t0) rfl rfl rfl hx2) ?_)
      refine un (a1 (v := (S x_1)) (s_loadAr (o2 := 0) (v := fun q => (S q)) rfl (.cons rfl (.cons rfl (.cons rfl (.cons rfl (.cons rfl (.cons rfl (.cons rfl (.cons rfl (.cons rfl (.cons rfl (.cons rfl (.cons rfl .nil)))))))))))) hx2) ?_)
      obtain ⟨r_, hx3, h⟩ := bnd h
      refine un (a1 (v := (S r_)) (s_cat rfl rfl hx3) ?_)
      obtain ⟨r_1, hx4, h⟩ := bnd h
      refine un (a1 (v := (S r_1)) (s_cat rfl rfl hx4) ?_)
      refine un (a1 (v := (.c (.ref 0 2 0 1))) rfl ?_)
      refine un (a1 (v := (I f_.Num)) rfl ?_)
      obtain ⟨r_2, hr1, h⟩ := bnd h
      refine un (ac_pure (strconv_Itoa_ok hr1) rfl rfl rfl ?_)
      obtain ⟨r_3, hx5, h⟩ := bnd h
      refine un (a1 (v := (S r_3)) (s_cat rfl rfl hx5) ?_)
      obtain ⟨r_4, hx6, h⟩ := bnd h
      refine un (a1 (v := (S r_4)) (s_cat rfl rfl hx6) ?_)
      refine un (a1 rfl ?_)
      refine dnil ?_
      refine Sv.ret ?_
      replace h := Option.some.inj h
      subst h
      exact ⟨_, .refl _, _, rfl, ⟨upd (fun _ => none) 0 (some (S r_4)), (fun _ => none), 0⟩, (S r_4), weak_canon [] rfl List.nodup_nil (Nat.le_refl _) (fun b h => absurd h (Nat.not_lt_zero _)) (.cons rfl (avAs_free rfl) .nil) .nil, rfl, rfl, rfl, rfl⟩
    · replace h := ifF hc4 h
      refine Sv.seq ?_
      refine Sv.region ?_
      refine un (a1 (v := (.c (.ref 0 2 0 0))) rfl ?_)
      refine un (a1 (v := (I f_.Kind)) rfl ?_)
      refine un (a1 (v := (B (decide (8 ≤ f_.Kind)))) rfl ?_)
      refine un (a1 rfl ?_)
      refine gjoin 4 (d := 44) (v := (B ((decide (8 ≤ f_.Kind)) && (decide (f_.Kind ≤ 11))))) (fun X hX => ?_) ?_
      · refine split2 (fun hc5 => ?_) (fun hc5 => ?_)
        · refine gt rfl (a1 (v := (.c (.ref 0 2 0 0))) rfl ?_)
          refine gt rfl (a1 (v := (I f_.Kind)) rfl ?_)
          refine gt rfl (a1 (v := (B (decide (f_.Kind ≤ 11)))) rfl ?_)
          refine un (a1 (v := (B (decide (f_.Kind ≤ 11)))) rfl ?_)
          refine dnil ?_
          exact hX _ (.putEq (by rw [hc5]; rfl) (.skip _ _ (.skip _ _ (.skip _ _ (.putEq (by rw [hc5]) (.refl _)) rfl) rfl) rfl))
        · refine gs rfl rfl ?_
          refine gs rfl rfl ?_
          refine gs rfl rfl ?_
          refine un (a1 (v := (B false)) rfl ?_)
          refine dnil ?_
          exact hX _ (.putEq (by rw [hc5]; rfl) (.skip _ _ (.skip _ _ (.skip _ _ (.putEq (by rw [hc5]) (.refl _)) rfl) rfl) rfl))
      refine un (a1 rfl ?_)
      refine dnil ?_
      refine Sv.cond (b := ((decide (8 ≤ f_.Kind)) && (decide (f_.Kind ≤ 11)))) rfl (fun hc6 => ?_) (fun hc6 => ?_)
      · replace h := ifT hc6 h
        refine Sv.seq ?_
        refine Sv.region ?_
        refine un (a1 (v := (.c (.ref 0 2 0 0))) rfl ?_)
        refine un (a1 (v := (I f_.Kind)) rfl ?_)
        obtain ⟨x_2, hx7, h⟩ := bnd h
        refine un (a1 (v := (.c (.rop (List.drop (f_.Kind.toNat * 1) g0_c)))) (s_iaddrAr (L := media_featureText_t0) rfl rfl rfl hx7) ?_)
        refine un (a1 (v := (S x_2)) (s_loadAr (o2 := 0) (v := fun q => (S q)) rfl (.cons rfl (.cons rfl (.cons rfl (.cons rfl (.cons rfl (.cons rfl (.cons rfl (.cons rfl (.cons rfl (.cons rfl (.cons rfl (.cons rfl .nil)))))))))))) hx7) ?_)
        obtain ⟨r_5, hr2, h⟩ := bnd h
        refine un (ac_pure (strings_Replace_ok hr2) rfl rfl rfl ?_)
        obtain ⟨r_6, hx8, h⟩ := bnd h
        refine un (a1 (v := (S r_6)) (s_cat rfl rfl hx8) ?_)
        obtain ⟨r_7, hx9, h⟩ := bnd h
        refine un (a1 (v := (S r_7)) (s_cat rfl rfl hx9) ?_)
        refine un (a1 rfl ?_)
        refine dnil ?_
        refine Sv.ret ?_
        replace h := Option.some.inj h
        subst h
        exact ⟨_, .refl _, _, rfl, ⟨upd (fun _ => none) 0 (some (S r_7)), (fun _ => none), 0⟩, (S r_7), weak_canon [] rfl List.nodup_nil (Nat.le_refl _) (fun b h => absurd h (Nat.not_lt_zero _)) (.cons rfl (avAs_free rfl) .nil) .nil, rfl, rfl, rfl, rfl⟩
      · replace h := ifF hc6 h
        refine Sv.skip ?_
        refine Sv.seq ?_
        refine Sv.region ?_
        refine un (a1 rfl ?_)
        refine dnil ?_
        refine Sv.ret ?_
        replace h := Option.some.inj h
        subst h
        exact ⟨_, .refl _, _, rfl, ⟨upd (fun _ => none) 0 (some (S [40, 63, 41])), (fun _ => none), 0⟩, (S [40, 63, 41]), weak_canon [] rfl List.nodup_nil (Nat.le_refl _) (fun b h => absurd h (Nat.not_lt_zero _)) (.cons rfl (avAs_free rfl) .nil) .nil, rfl, rfl, rfl, rfl⟩
def a20_c1 : ACode := (.seq (.region [⟨(some 42), (.bin .lss (.tmp 41) (.tmp 40)), none⟩])
 (.seq (.cond (.tmp 42) .skip (.exit 1))
 (.seq (.block 2 (.seq (.region [⟨(some 43), (.iaddr 1 (.tmp 39) (.tmp 41)), none⟩, ⟨(some 44), (.load false 1 (.tmp 43)), none⟩, ⟨(some 7), (.mov (.tmp 44)), none⟩])
 (.seq (.seq (.region [⟨(some 45), (.mov (.tmp 7)), none⟩, ⟨(some 46), (.lenS (.tmp 45)), none⟩, ⟨(some 47), (.mov (.tmp 5)), none⟩, ⟨(some 48), (.bin .sub (.const (.c (.val (.int .i64 9223372036854775807)))) (.tmp 47)), none⟩, ⟨(some 49), (.bin .gtr (.tmp 46) (.tmp 48)), none⟩])
 (.cond (.tmp 49) (.region [⟨(some 50), .mkif, none⟩, ⟨none, .bad, none⟩]) .skip))
 (.region [⟨(some 51), (.mov (.tmp 5)), none⟩, ⟨(some 52), (.mov (.tmp 7)), none⟩, ⟨(some 53), (.lenS (.tmp 52)), none⟩, ⟨(some 54), (.bin .add (.tmp 51) (.tmp 53)), none⟩, ⟨(some 5), (.mov (.tmp 54)), none⟩]))))
 (.region [⟨(some 55), (.bin .add (.tmp 41) (.const (.c (.val (.int .i64 1))))), none⟩, ⟨(some 41), (.mov (.tmp 55)), none⟩]))))
def a20_c2 : ACode := (.seq (.region [⟨(some 66), (.bin .lss (.tmp 65) (.tmp 64)), none⟩])
 (.seq (.cond (.tmp 66) .skip (.exit 3))
 (.seq (.block 4 (.seq (.region [⟨(some 67), (.iaddr 1 (.tmp 63) (.tmp 65)), none⟩, ⟨(some 68), (.load false 1 (.tmp 67)), none⟩, ⟨(some 10), (.mov (.tmp 68)), none⟩])
 (.seq (.region [⟨(some 69), (.mov (.tmp 1)), none⟩, ⟨(some 70), (.call 35 [(.tmp 8), (.tmp 69)]), none⟩])
 (.region [⟨(some 71), (.mov (.tmp 10)), none⟩, ⟨(some 72), (.call 35 [(.tmp 8), (.tmp 71)]), none⟩]))))
 (.region [⟨(some 73), (.bin .add (.tmp 65) (.const (.c (.val (.int .i64 1))))), none⟩, ⟨(some 65), (.mov (.tmp 73)), none⟩]))))
def a20_c0 : ACode := (.seq (.seq (.region [⟨(some 39), (.mov (.tmp 0)), none⟩, ⟨(some 40), (.len (.tmp 39)), none⟩, ⟨(some 41), (.mov (.const (.c (.val (.int .i64 0))))), none⟩])
 (.block 1 (.loop a20_c1)))
 (.seq (.region [⟨(some 8), (.boxB 76), none⟩])
 (.seq (.region [⟨(some 56), (.mov (.tmp 5)), none⟩, ⟨(some 57), (.call 34 [(.tmp 8), (.tmp 56)]), none⟩])
 (.seq (.region [⟨(some 58), (.mov (.tmp 0)), none⟩, ⟨(some 59), (.iaddr 1 (.tmp 58) (.const (.c (.val (.int .i64 0))))), none⟩, ⟨(some 60), (.load false 1 (.tmp 59)), none⟩, ⟨(some 61), (.call 35 [(.tmp 8), (.tmp 60)]), none⟩])
 (.seq (.seq (.region [⟨(some 62), (.mov (.tmp 0)), none⟩, ⟨(some 63), (.slSl 1 (.tmp 62) (some (.const (.c (.val (.int .i64 1))))) none none), none⟩, ⟨(some 64), (.len (.tmp 63)), none⟩, ⟨(some 65), (.mov (.const (.c (.val (.int .i64 0))))), none⟩])
 (.block 3 (.loop a20_c2)))
 (.seq (.region [⟨(some 74), (.call 36 [(.tmp 8)]), none⟩, ⟨(some 4), (.mov (.tmp 74)), none⟩])
 .ret))))))
def a20 : AFunc := ⟨2, [(.tmp 4)], (.seq (.region [⟨(some 4), (.mov (.const (.c (.str [])))), none⟩])
 (.seq (.seq (.region [⟨(some 11), (.mov (.tmp 0)), none⟩, ⟨(some 12), (.len (.tmp 11)), none⟩])
 (.block 0 (.seq (.region [⟨(some 14), (.bin .eql (.tmp 12) (.const (.c (.val (.int .i64 0))))), none⟩, ⟨(some 13), (.mov (.tmp 14)), none⟩])
 (.cond (.tmp 13) (.seq (.region [⟨(some 4), (.mov (.const (.c (.str [])))), none⟩])
 .ret) (.seq (.region [⟨(some 16), (.bin .eql (.tmp 12) (.const (.c (.val (.int .i64 1))))), none⟩, ⟨(some 15), (.mov (.tmp 16)), none⟩])
 (.cond (.tmp 15) (.seq (.region [⟨(some 17), (.mov (.tmp 0)), none⟩, ⟨(some 18), (.iaddr 1 (.tmp 17) (.const (.c (.val (.int .i64 0))))), none⟩, ⟨(some 19), (.load false 1 (.tmp 18)), none⟩, ⟨(some 4), (.mov (.tmp 19)), none⟩])
 .ret) .skip))))))
 (.seq (.region [⟨(some 5), (.mov (.const (.c (.val (.int .i64 0))))), none⟩])
 (.seq (.seq (.region [⟨(some 20), (.mov (.tmp 1)), none⟩, ⟨(some 21), (.lenS (.tmp 20)), none⟩, ⟨(some 22), (.bin .gtr (.tmp 21) (.const (.c (.val (.int .i64 0))))), none⟩])
 (.cond (.tmp 22) (.seq (.seq (.region [⟨(some 23), (.mov (.tmp 1)), none⟩, ⟨(some 24), (.lenS (.tmp 23)), none⟩, ⟨(some 25), (.mov (.tmp 0)), none⟩, ⟨(some 26), (.len (.tmp 25)), none⟩, ⟨(some 27), (.bin .sub (.tmp 26) (.const (.c (.val (.int .i64 1))))), none⟩, ⟨(some 28), (.bin .quo (.const (.c (.val (.int .i64 9223372036854775807)))) (.tmp 27)), none⟩, ⟨(some 29), (.bin .geq (.tmp 24) (.tmp 28)), none⟩])
 (.cond (.tmp 29) (.region [⟨(some 30), .mkif, none⟩, ⟨none, .bad, none⟩]) .skip))
 (.region [⟨(some 31), (.mov (.tmp 5)), none⟩, ⟨(some 32), (.mov (.tmp 1)), none⟩, ⟨(some 33), (.lenS (.tmp 32)), none⟩, ⟨(some 34), (.mov (.tmp 0)), none⟩, ⟨(some 35), (.len (.tmp 34)), none⟩, ⟨(some 36), (.bin .sub (.tmp 35) (.const (.c (.val (.int .i64 1))))), none⟩, ⟨(some 37), (.bin .mul (.tmp 33) (.tmp 36)), none⟩, ⟨(some 38), (.bin .add (.tmp 31) (.tmp 37)), none⟩, ⟨(some 5), (.mov (.tmp 38)), none⟩])) .skip))
 a20_c0))))⟩
set_option maxRecDepth 100000 in
theorem c20 : compFunc Tryz.prog 20 = some a20 := by kernel_rfl
def strings_Join_post (r : (List UInt8)) : AV → Heap → Nat → Prop := fun v h' n' => v = (S r) ∧ (h' = (fun _ => none)) ∧ n' = 0
abbrev strings_Join_l0_E1 (elems : (List (List UInt8))) (sep : (List UInt8)) (F_ : Int → Option (List UInt8)) (o : (List UInt8)) (R_ : St → Prop) : Prop := ∀ (n_2 : Int), F_ n_2 = some o → ∀ s, Weak 0 s ⟨(upd (upd (upd (fun _ => none) 0 (some (.c (.ro false 1 (elems.map eStr))))) 1 (some (S sep))) 5 (some (I n_2))), (fun _ => none), 0⟩ → R_ s
abbrev strings_Join_l0_I (elems : (List (List UInt8))) (sep : (List UInt8)) (F_ : Nat → Int → Int → Option (List UInt8)) (o : (List UInt8)) : Nat → St → Prop := fun k s => ∃ (n_1 : Int), ∃ (v41 : Int), F_ k n_1 v41 = some o ∧ s = ⟨(upd (upd (upd (upd (upd (upd (fun _ => none) 0 (some (.c (.ro false 1 (elems.map eStr))))) 1 (some (S sep))) 5 (some (I n_1))) 39 (some (.c (.ro false 1 (elems.map eStr))))) 40 (some (I (elems.length : Int)))) 41 (some (I v41))), (fun _ => none), 0⟩
abbrev strings_Join_l0_H (elems : (List (List UInt8))) (sep : (List UInt8)) (F_ : Int → Int → Option (List UInt8)) (o : (List UInt8)) (R_ : St → Prop) : Prop := ∀ (n_1 : Int) (v41 : Int), F_ n_1 v41 = some o → ∀ s, Weak 0 s ⟨(upd (upd (upd (upd (upd (upd (fun _ => none) 0 (some (.c (.ro false 1 (elems.map eStr))))) 1 (some (S sep))) 5 (some (I n_1))) 39 (some (.c (.ro false 1 (elems.map eStr))))) 40 (some (I (elems.length : Int)))) 41 (some (I v41))), (fun _ => none), 0⟩ → R_ s
noncomputable def strings_Join_l0 (elems : (List (List UInt8))) (sep : (List UInt8)) (K1_ : Int → Option (List UInt8)) : Nat → Int → Int → Option (List UInt8)
  | 0, _, _ => none
  | k + 1, n_1, v41 =>
    if decide (v41 < (elems.length : Int)) then
      (at? elems v41).bind fun x_1 =>
      if decide ((wi (9223372036854775807 - n_1)) < (x_1.length : Int)) then
        none
      else
        (strings_Join_l0 elems sep K1_ k) (wi (n_1 + (x_1.length : Int))) (wi (v41 + 1))
    else
      K1_ n_1
theorem strings_Join_l0_ok {mL : Int} {Q : AExit → St → Prop} {elems : (List (List UInt8))} {sep : (List UInt8)} {K1_ : Int → Option (List UInt8)} {k : Nat} {n_1 : Int} {v41 : Int} {o : (List UInt8)} (h : strings_Join_l0 elems sep K1_ k n_1 v41 = some o)
    (hK1 : strings_Join_l0_E1 elems sep K1_ o (Q (.exit 1)))
    (hr : ∀ s, Ends a20.results 0 (strings_Join_post o) .ret s → Q .ret s) :
    Sv Tryz.prog (GG mL) 0 (.loop a20_c1) Q ⟨(upd (upd (upd (upd (upd (upd (fun _ => none) 0 (some (.c (.ro false 1 (elems.map eStr))))) 1 (some (S sep))) 5 (some (I n_1))) 39 (some (.c (.ro false 1 (elems.map eStr))))) 40 (some (I (elems.length : Int)))) 41 (some (I v41))), (fun _ => none), 0⟩ := by
  refine Sv.loop (I := strings_Join_l0_I elems sep (strings_Join_l0 elems sep K1_) o) (fun k s hI => ?_) ⟨n_1, v41, h, rfl⟩
  clear h
  clear v41 n_1
  obtain ⟨n_1, v41, h, rfl⟩ := hI
  cases k with
  | zero => cases h
  | succ k =>
  rw [strings_Join_l0] at h
  have hself : strings_Join_l0_H elems sep (strings_Join_l0 elems sep K1_ k) o (rnd 0 (strings_Join_l0_I elems sep (strings_Join_l0 elems sep K1_) o) k Q) := fun n_1 v41 h s hw => ⟨_, k, hw, Nat.lt_succ_self k, n_1, v41, h, rfl⟩
  refine Sv.seq ?_
  refine Sv.region ?_
  refine un (a1 (v := (B (decide (v41 < (elems.length : Int))))) rfl ?_)
  refine dnil ?_
  refine Sv.seq ?_
  refine Sv.cond (b := decide (v41 < (elems.length : Int))) rfl (fun hc3 => ?_) (fun hc3 => ?_)
  · replace h := ifT hc3 h
    refine Sv.skip ?_
    refine Sv.seq ?_
    refine Sv.block ?_
    refine Sv.seq ?_
    refine Sv.region ?_
    obtain ⟨x_1, hx2, h⟩ := bnd h
    refine un (a1 (v := (.c (.rop [.str x_1]))) (s_iaddr (e := eStr) (xs := elems) rfl rfl hx2) ?_)
    refine un (a1 (v := (S x_1)) rfl ?_)
    refine un (a1 rfl ?_)
    refine dnil ?_
    refine Sv.seq ?_
    refine Sv.seq ?_
    refine Sv.region ?_
    refine un (a1 rfl ?_)
    refine un (a1 (v := (I (x_1.length : Int))) rfl ?_)
    refine un (a1 rfl ?_)
    refine un (a1 (v := (I (wi (9223372036854775807 - n_1)))) rfl ?_)
    refine un (a1 (v := (B (decide ((wi (9223372036854775807 - n_1)) < (x_1.length : Int))))) rfl ?_)
    refine dnil ?_
    refine Sv.cond (b := decide ((wi (9223372036854775807 - n_1)) < (x_1.length : Int))) rfl (fun hc4 => ?_) (fun hc4 => ?_)
    · replace h := ifT hc4 h
      refine Sv.region ?_
      refine un (a1 (v := (.c (.opq))) rfl ?_)
      cases h
    · replace h := ifF hc4 h
      refine Sv.skip ?_
      refine Sv.region ?_
      refine un (a1 rfl ?_)
      refine un (a1 rfl ?_)
      refine un (a1 (v := (I (x_1.length : Int))) rfl ?_)
      refine un (a1 (v := (I (wi (n_1 + (x_1.length : Int))))) rfl ?_)
      refine un (a1 rfl ?_)
      refine dnil ?_
      refine Sv.region ?_
      refine un (a1 (v := (I (wi (v41 + 1)))) rfl ?_)
      refine un (a1 rfl ?_)
      refine dnil ?_
      exact hself (wi (n_1 + (x_1.length : Int))) (wi (v41 + 1)) h _ (weak_canon [] rfl (by decide) (by decide) (fun b h => absurd h (Nat.not_lt_zero _)) (.cons rfl (avAs_free rfl) (.cons rfl (avAs_free rfl) (.cons rfl (avAs_free rfl) (.cons rfl (avAs_free rfl) (.cons rfl (avAs_free rfl) (.cons rfl (avAs_free rfl) .nil)))))) .nil)
  · replace h := ifF hc3 h
    refine Sv.exit ?_
    exact hK1 n_1 h _ (weak_canon [] rfl (by decide) (by decide) (fun b h => absurd h (Nat.not_lt_zero _)) (.cons rfl (avAs_free rfl) (.cons rfl (avAs_free rfl) (.cons rfl (avAs_free rfl) .nil))) .nil)
abbrev strings_Join_l1_E3 (F_ : (List UInt8) → Option (List UInt8)) (o : (List UInt8)) (R_ : St → Prop) : Prop := ∀ (b_1 : (List UInt8)) (zb_1 : Bool) (_ : zb_1 = true → b_1 = []), F_ b_1 = some o → ∀ s, Weak 0 s ⟨(upd (fun _ => none) 8 (some (.c (.ref 0 2 0 0)))), (upd (upd (fun _ => none) 0 (some (.bld 76 zb_1 1 b_1.length))) 1 (bufB zb_1 5 b_1)), 2⟩ → R_ s
abbrev strings_Join_l1_I (sep : (List UInt8)) (r_2 : (List (List UInt8))) (F_ : Nat → (List UInt8) → Int → Option (List UInt8)) (o : (List UInt8)) : Nat → St → Prop := fun k s => ∃ (b_ : (List UInt8)), ∃ (v65 : Int), ∃ (zb : Bool), (zb = true → b_ = []) ∧ F_ k b_ v65 = some o ∧ s = ⟨(upd (upd (upd (upd (upd (fun _ => none) 1 (some (S sep))) 8 (some (.c (.ref 0 2 0 0)))) 63 (some (.c (.ro false 1 (r_2.map eStr))))) 64 (some (I (r_2.length : Int)))) 65 (some (I v65))), (upd (upd (fun _ => none) 0 (some (.bld 76 zb 1 b_.length))) 1 (bufB zb 5 b_)), 2⟩
abbrev strings_Join_l1_H (sep : (List UInt8)) (r_2 : (List (List UInt8))) (F_ : (List UInt8) → Int → Option (List UInt8)) (o : (List UInt8)) (R_ : St → Prop) : Prop := ∀ (b_ : (List UInt8)) (v65 : Int) (zb : Bool) (_ : zb = true → b_ = []), F_ b_ v65 = some o → ∀ s, Weak 0 s ⟨(upd (upd (upd (upd (upd (fun _ => none) 1 (some (S sep))) 8 (some (.c (.ref 0 2 0 0)))) 63 (some (.c (.ro false 1 (r_2.map eStr))))) 64 (some (I (r_2.length : Int)))) 65 (some (I v65))), (upd (upd (fun _ => none) 0 (some (.bld 76 zb 1 b_.length))) 1 (bufB zb 5 b_)), 2⟩ → R_ s
noncomputable def strings_Join_l1 (r_2 : (List (List UInt8))) (sep : (List UInt8)) (K3_ : (List UInt8) → Option (List UInt8)) : Nat → (List UInt8) → Int → Option (List UInt8)
  | 0, _, _ => none
  | k + 1, b_, v65 =>
    if decide (v65 < (r_2.length : Int)) then
      (at? r_2 v65).bind fun x_3 =>
      (strings_Builder_WriteString b_ sep).bind fun r_3 =>
      (strings_Builder_WriteString r_3 x_3).bind fun r_4 =>
      (strings_Join_l1 r_2 sep K3_ k) r_4 (wi (v65 + 1))
    else
      K3_ b_
theorem strings_Join_l1_ok {mL : Int} {Q : AExit → St → Prop} {r_2 : (List (List UInt8))} {sep : (List UInt8)} {K3_ : (List UInt8) → Option (List UInt8)} {k : Nat} {b_ : (List UInt8)} {v65 : Int} {zb : Bool} (hzb : zb = true → b_ = []) {o : (List UInt8)} (h : strings_Join_l1 r_2 sep K3_ k b_ v65 = some o)
    (hK3 : strings_Join_l1_E3 K3_ o (Q (.exit 3)))
    (hr : ∀ s, Ends a20.results 0 (strings_Join_post o) .ret s → Q .ret s) :
    Sv Tryz.prog (GG mL) 0 (.loop a20_c2) Q ⟨(upd (upd (upd (upd (upd (fun _ => none) 1 (some (S sep))) 8 (some (.c (.ref 0 2 0 0)))) 63 (some (.c (.ro false 1 (r_2.map eStr))))) 64 (some (I (r_2.length : Int)))) 65 (some (I v65))), (upd (upd (fun _ => none) 0 (some (.bld 76 zb 1 b_.length))) 1 (bufB zb 5 b_)), 2⟩ := by
  refine Sv.loop (I := strings_Join_l1_I sep r_2 (strings_Join_l1 r_2 sep K3_) o) (fun k s hI => ?_) ⟨b_, v65, zb, hzb, h, rfl⟩
  clear h
  clear hzb zb v65 b_
  obtain ⟨b_, v65, zb, hzb, h, rfl⟩ := hI
  cases k with
  | zero => cases h
  | succ k =>
  rw [strings_Join_l1] at h
  have hself : strings_Join_l1_H sep r_2 (strings_Join_l1 r_2 sep K3_ k) o (rnd 0 (strings_Join_l1_I sep r_2 (strings_Join_l1 r_2 sep K3_) o) k Q) := fun b_ v65 zb hzb h s hw => ⟨_, k, hw, Nat.lt_succ_self k, b_, v65, zb, hzb, h, rfl⟩
  refine Sv.seq ?_
  refine Sv.region ?_
  refine un (a1 (v := (B (decide (v65 < (r_2.length : Int))))) rfl ?_)
  refine dnil ?_
  refine Sv.seq ?_
  refine Sv.cond (b := decide (v65 < (r_2.length : Int))) rfl (fun hc5 => ?_) (fun hc5 => ?_)
  · replace h := ifT hc5 h
    refine Sv.skip ?_
    refine Sv.seq ?_
    refine Sv.block ?_
    refine Sv.seq ?_
    refine Sv.region ?_
    obtain ⟨x_3, hx5, h⟩ := bnd h
    refine un (a1 (v := (.c (.rop [.str x_3]))) (s_iaddr (e := eStr) (xs := r_2) rfl rfl hx5) ?_)
    refine un (a1 (v := (S x_3)) rfl ?_)
    refine un (a1 rfl ?_)
    refine dnil ?_
    refine Sv.seq ?_
    refine Sv.region ?_
    refine un (a1 rfl ?_)
    obtain ⟨r_3, hr3, h⟩ := bnd h
    refine un (ac_gen (bs := [0, 1]) («as» := [(.c (.ref 0 2 0 0)), (S sep)]) (h2 := _) (h1 := (upd (upd (fun _ => none) 0 (some (.bld 76 zb 1 b_.length))) 1 (bufB zb 5 b_))) (strings_Builder_WriteString_ok (z := zb) (l := b_) hzb hr3) rfl (.cons (.c (.ref rfl (by decide))) (.cons (avAs_free rfl) .nil)) (hsub_refl _) (.cons rfl (.cons rfl (.nil _))) (fun h => by cases h) (by decide) (by decide) (.cons (.c (.ref rfl (by decide))) (.cons (avAs_free rfl) .nil)) (.buf (by decide) rfl (.box (by decide) rfl (.bld rfl (by decide)) .nil)) ?_)
    rintro _ _ _ hn ⟨z_2, hz_2, rfl, rfl, rfl⟩
    refine ⟨.inl rfl, (upd (upd (rem [0, 1] _) 0 (some (.bld 76 z_2 2 r_3.length))) 2 (bufB z_2 5 r_3)), fun hbd => (m3_cons (m3_buf rfl) (m3_cons (m3_box rfl rfl) (m3_rem (in_cons (by decide) (in_cons (by decide) (in_nil _))) (.cons (by decide) (.cons (by decide) .nil)) hbd))), (.tup [(I (sep.length : Int)), (.c (.val .nilIface))]), 3, (by cases z_2 <;> rfl), rfl, ?_⟩
    refine dnil ?_
    refine Sv.region ?_
    refine un (a1 rfl ?_)
    obtain ⟨r_4, hr4, h⟩ := bnd h
    refine un (ac_gen (bs := [0, 2]) («as» := [(.c (.ref 0 2 0 0)), (S x_3)]) (h2 := _) (h1 := (upd (upd (fun _ => none) 0 (some (.bld 76 z_2 2 r_3.length))) 2 (bufB z_2 5 r_3))) (strings_Builder_WriteString_ok (z := z_2) (l := r_3) hz_2 hr4) rfl (.cons (.c (.ref rfl (by decide))) (.cons (avAs_free rfl) .nil)) (hsub_refl _) (.cons rfl (.cons rfl (.nil _))) (fun h => by cases h) (by decide) (by decide) (.cons (.c (.ref rfl (by decide))) (.cons (avAs_free rfl) .nil)) (.buf (by decide) rfl (.box (by decide) rfl (.bld rfl (by decide)) .nil)) ?_)
    rintro _ _ _ hn ⟨z_3, hz_3, rfl, rfl, rfl⟩
    refine ⟨.inl rfl, (upd (upd (rem [0, 2] _) 0 (some (.bld 76 z_3 3 r_4.length))) 3 (bufB z_3 5 r_4)), fun hbd => (m3_cons (m3_buf rfl) (m3_cons (m3_box rfl rfl) (m3_rem (in_cons (by decide) (in_cons (by decide) (in_nil _))) (.cons (by decide) (.cons (by decide) .nil)) hbd))), (.tup [(I (x_3.length : Int)), (.c (.val .nilIface))]), 4, (by cases z_3 <;> rfl), rfl, ?_⟩
    refine dnil ?_
    refine Sv.region ?_
    refine un (a1 (v := (I (wi (v65 + 1)))) rfl ?_)
    refine un (a1 rfl ?_)
    refine dnil ?_
    exact hself r_4 (wi (v65 + 1)) z_3 hz_3 h _ (weak_canon [0, 3] rfl (by decide) (by decide) (fun b h => absurd h (Nat.not_lt_zero _)) (.cons rfl (avAs_free rfl) (.cons rfl (avAs_free rfl) (.cons rfl (avAs_free rfl) (.cons rfl (.c (.ref rfl (by decide))) (.cons rfl (avAs_free rfl) .nil))))) (.buf (by decide) rfl (.box (by decide) rfl (.bld rfl (by decide)) .nil)))
  · replace h := ifF hc5 h
    refine Sv.exit ?_
    exact hK3 b_ zb hzb h _ (weak_canon [0, 1] rfl (by decide) (by decide) (fun b h => absurd h (Nat.not_lt_zero _)) (.cons rfl (.c (.ref rfl (by decide))) .nil) (.buf (by decide) rfl (.box (by decide) rfl (.bld rfl (by decide)) .nil)))
noncomputable def strings_Join_j1 (elems : (List (List UInt8))) (sep : (List UInt8)) (n_ : Int) : Option (List UInt8) :=
  lim fun kk1 => strings_Join_l0 elems sep (fun (n_2 : Int) => 
      (strings_Builder_Grow ([] : List UInt8) n_2).bind fun r_ =>
      (at? elems 0).bind fun x_2 =>
      (strings_Builder_WriteString r_ x_2).bind fun r_1 =>
      (sub? elems 1 (elems.length : Int)).bind fun r_2 =>
      lim fun kk => strings_Join_l1 r_2 sep (fun (b_1 : (List UInt8)) => 
          some b_1) kk r_1 0) kk1 n_ 0
theorem strings_Join_j1_ok {mL : Int} {elems : (List (List UInt8))} {sep : (List UInt8)} {n_ : Int} {o : (List UInt8)} (h : strings_Join_j1 elems sep n_ = some o) :
    Sv Tryz.prog (GG mL) 0 a20_c0 (Ends a20.results 0 (strings_Join_post o)) ⟨(upd (upd (upd (fun _ => none) 0 (some (.c (.ro false 1 (elems.map eStr))))) 1 (some (S sep))) 5 (some (I n_))), (fun _ => none), 0⟩ := by
  unfold strings_Join_j1 at h
  refine Sv.seq ?_
  refine Sv.seq ?_
  refine Sv.region ?_
  refine un (a1 rfl ?_)
  refine un (a1 (v := (I (elems.length : Int))) (s_len (e := eStr) (xs := elems) rfl) ?_)
  refine un (a1 rfl ?_)
  refine dnil ?_
  refine Sv.block ?_
  obtain ⟨kk1, h⟩ := lim_some h
  refine Sv.weak (weak_canon [] rfl (by decide) (by decide) (fun b h => absurd h (Nat.not_lt_zero _)) (.cons rfl (avAs_free rfl) (.cons rfl (avAs_free rfl) (.cons rfl (avAs_free rfl) (.cons rfl (avAs_free rfl) (.cons rfl (avAs_free rfl) (.cons rfl (avAs_free rfl) .nil)))))) .nil) (strings_Join_l0_ok h ?_ (fun s hs => hs))
  · intro n_2 h _ hw1
    refine Sv.weak hw1 ?_
    refine Sv.seq ?_
    refine Sv.region ?_
    refine un (a2v (v := (.c (.ref 1 2 0 0))) (h' := upd _ 1 (some (.bld 76 true 0 ([] : List UInt8).length))) (n' := 2) rfl rfl (fun h => by cases h) ?_)
    refine dnil ?_
    refine Sv.seq ?_
    refine Sv.region ?_
    refine un (a1 rfl ?_)
    obtain ⟨r_, hr1, h⟩ := bnd h
    refine un (ac_gen (bs := [1, 0]) («as» := [(.c (.ref 1 2 0 0)), (I n_2)]) (h2 := _) (h1 := (upd (fun _ => none) 1 (some (.bld 76 true 0 ([] : List UInt8).length)))) (strings_Builder_Grow_ok (z := true) (l := ([] : List UInt8)) (fun _ => rfl) hr1) rfl (.cons (.c (.ref rfl (by decide))) (.cons (avAs_free rfl) .nil)) (hsub_refl _) (.cons rfl (.nil _)) (fun h => by cases h) (by decide) (by decide) (.cons (.c (.ref rfl (by decide))) (.cons (avAs_free rfl) .nil)) (.nonB (by decide) (.box (by decide) rfl (.bldN (by decide)) .nil)) ?_)
    rintro _ _ _ hn ⟨z_, hz_, rfl, rfl, rfl⟩
    refine ⟨.inl rfl, (upd (upd (rem [1, 0] _) 1 (some (.bld 76 z_ 2 r_.length))) 2 (bufB z_ 5 r_)), fun hbd => (m3_cons (m3_buf rfl) (m3_cons (m3_box rfl rfl) (m3_rem (in_cons (by decide) (in_nil _)) (.cons (by decide) (.cons (by decide) .nil)) hbd))), (.tup []), 3, (by cases z_ <;> rfl), rfl, ?_⟩
    refine dnil ?_
    refine Sv.seq ?_
    refine Sv.region ?_
    refine un (a1 rfl ?_)
    obtain ⟨x_2, hx3, h⟩ := bnd h
    refine un (a1 (v := (.c (.rop [.str x_2]))) (s_iaddr (e := eStr) (xs := elems) rfl rfl hx3) ?_)
    refine un (a1 (v := (S x_2)) rfl ?_)
    obtain ⟨r_1, hr2, h⟩ := bnd h
    refine un (ac_gen (bs := [1, 2]) («as» := [(.c (.ref 1 2 0 0)), (S x_2)]) (h2 := _) (h1 := (upd (upd (fun _ => none) 1 (some (.bld 76 z_ 2 r_.length))) 2 (bufB z_ 5 r_))) (strings_Builder_WriteString_ok (z := z_) (l := r_) hz_ hr2) rfl (.cons (.c (.ref rfl (by decide))) (.cons (avAs_free rfl) .nil)) (hsub_refl _) (.cons rfl (.cons rfl (.nil _))) (fun h => by cases h) (by decide) (by decide) (.cons (.c (.ref rfl (by decide))) (.cons (avAs_free rfl) .nil)) (.buf (by decide) rfl (.box (by decide) rfl (.bld rfl (by decide)) .nil)) ?_)
    rintro _ _ _ hn ⟨z_1, hz_1, rfl, rfl, rfl⟩
    refine ⟨.inl rfl, (upd (upd (rem [1, 2] _) 1 (some (.bld 76 z_1 3 r_1.length))) 3 (bufB z_1 5 r_1)), fun hbd => (m3_cons (m3_buf rfl) (m3_cons (m3_box rfl rfl) (m3_rem (in_cons (by decide) (in_cons (by decide) (in_nil _))) (.cons (by decide) (.cons (by decide) .nil)) hbd))), (.tup [(I (x_2.length : Int)), (.c (.val .nilIface))]), 4, (by cases z_1 <;> rfl), rfl, ?_⟩
    refine dnil ?_
    refine Sv.seq ?_
    refine Sv.seq ?_
    refine Sv.region ?_
    refine un (a1 rfl ?_)
    obtain ⟨r_2, hx4, h⟩ := bnd h
    refine un (a1 (v := (.c (.ro false 1 (r_2.map eStr)))) (s_slSl (e := eStr) rfl rfl rfl hx4) ?_)
    refine un (a1 (v := (I (r_2.length : Int))) (s_len (e := eStr) (xs := r_2) rfl) ?_)
    refine un (a1 rfl ?_)
    refine dnil ?_
    refine Sv.block ?_
    obtain ⟨kk, h⟩ := lim_some h
    refine Sv.weak (weak_canon [1, 3] rfl (by decide) (by decide) (fun b h => absurd h (Nat.not_lt_zero _)) (.cons rfl (avAs_free rfl) (.cons rfl (avAs_free rfl) (.cons rfl (avAs_free rfl) (.cons rfl (.c (.ref rfl (by decide))) (.cons rfl (avAs_free rfl) .nil))))) (.buf (by decide) rfl (.box (by decide) rfl (.bld rfl (by decide)) .nil))) (strings_Join_l1_ok hz_1 h ?_ (fun s hs => hs))
    · intro b_1 zb_1 hzb_1 h _ hw2
      refine Sv.weak hw2 ?_
      refine Sv.seq ?_
      refine Sv.region ?_
      refine un (ac_gen (bs := [0, 1]) («as» := [(.c (.ref 0 2 0 0))]) (h2 := _) (h1 := (upd (upd (fun _ => none) 0 (some (.bld 76 zb_1 1 b_1.length))) 1 (bufB zb_1 5 b_1))) (strings_Builder_String_ok (z := zb_1) (l := b_1) hzb_1) rfl (.cons (.c (.ref rfl (by decide))) .nil) (hsub_refl _) (.cons rfl (.cons rfl (.nil _))) (fun h => by cases h) (by decide) (by decide) (.cons (.c (.ref rfl (by decide))) .nil) (.buf (by decide) rfl (.box (by decide) rfl (.bld rfl (by decide)) .nil)) ?_)
      rintro _ _ _ hn ⟨rfl, rfl, rfl⟩
      refine ⟨.inl rfl, (rem [0, 1] _), fun hbd => (m3_rem (in_cons (by decide) (in_cons (by decide) (in_nil _))) (.nil) hbd), (S b_1), 2, rfl, rfl, ?_⟩
      refine un (a1 rfl ?_)
      refine dnil ?_
      refine Sv.ret ?_
      replace h := Option.some.inj h
      subst h
      exact ⟨_, .refl _, _, rfl, ⟨upd (fun _ => none) 0 (some (S b_1)), (fun _ => none), 0⟩, (S b_1), weak_canon [] rfl List.nodup_nil (Nat.le_refl _) (fun b h => absurd h (Nat.not_lt_zero _)) (.cons rfl (avAs_free rfl) .nil) .nil, rfl, rfl, rfl, rfl⟩
/-- strings.Join -/
noncomputable def strings_Join (elems : (List (List UInt8))) (sep : (List UInt8)) : Option (List UInt8) :=
  if decide ((elems.length : Int) = 0) then
    some []
  else
    if decide ((elems.length : Int) = 1) then
      (at? elems 0).bind fun x_ =>
      some x_
    else
      if decide (0 < (sep.length : Int)) then
        (quo? .i64 9223372036854775807 (wi ((elems.length : Int) - 1))).bind fun r_5 =>
        if decide (r_5 ≤ (sep.length : Int)) then
          none
        else
          strings_Join_j1 elems sep (wi (0 + (wi ((sep.length : Int) * (wi ((elems.length : Int) - 1))))))
      else
        strings_Join_j1 elems sep 0
theorem strings_Join_ok {mL : Int} {elems : (List (List UInt8))} {sep : (List UInt8)} {r : (List UInt8)} (h : strings_Join elems sep = some r) : CPure Tryz.prog (GG mL) 20 [(.c (.ro false 1 (elems.map eStr))), (S sep)] (S r) := by
  refine acalls_of_sv hmix c20 (R := strings_Join_post r) ?_
  unfold strings_Join at h
  refine Sv.seq ?_
  refine Sv.region ?_
  refine un (a1 rfl ?_)
  refine dnil ?_
  refine Sv.seq ?_
  refine Sv.seq ?_
  refine Sv.region ?_
  refine un (a1 rfl ?_)
  refine un (a1 (v := (I (elems.length : Int))) (s_len (e := eStr) (xs := elems) rfl) ?_)
  refine dnil ?_
  refine Sv.block ?_
  refine Sv.seq ?_
  refine Sv.region ?_
  refine un (a1 (v := (B (decide ((elems.length : Int) = 0)))) rfl ?_)
  refine un (a1 rfl ?_)
  refine dnil ?_
  refine Sv.cond (b := decide ((elems.length : Int) = 0)) rfl (fun hc1 => ?_) (fun hc1 => ?_)
  · replace h := ifT hc1 h
    refine Sv.seq ?_
    refine Sv.region ?_
    refine un (a1 rfl ?_)
    refine dnil ?_
    refine Sv.ret ?_
    replace h := Option.some.inj h
    subst h
    exact ⟨_, .refl _, _, rfl, ⟨upd (fun _ => none) 0 (some (S [])), (fun _ => none), 0⟩, (S []), weak_canon [] rfl List.nodup_nil (Nat.le_refl _) (fun b h => absurd h (Nat.not_lt_zero _)) (.cons rfl (avAs_free rfl) .nil) .nil, rfl, rfl, rfl, rfl⟩
  · replace h := ifF hc1 h
    refine Sv.seq ?_
    refine Sv.region ?_
    refine un (a1 (v := (B (decide ((elems.length : Int) = 1)))) rfl ?_)
    refine un (a1 rfl ?_)
    refine dnil ?_
    refine Sv.cond (b := decide ((elems.length : Int) = 1)) rfl (fun hc2 => ?_) (fun hc2 => ?_)
    · replace h := ifT hc2 h
      refine Sv.seq ?_
      refine Sv.region ?_
      refine un (a1 rfl ?_)
      obtain ⟨x_, hx1, h⟩ := bnd h
      refine un (a1 (v := (.c (.rop [.str x_]))) (s_iaddr (e := eStr) (xs := elems) rfl rfl hx1) ?_)
      refine un (a1 (v := (S x_)) rfl ?_)
      refine un (a1 rfl ?_)
      refine dnil ?_
      refine Sv.ret ?_
      replace h := Option.some.inj h
      subst h
      exact ⟨_, .refl _, _, rfl, ⟨upd (fun _ => none) 0 (some (S x_)), (fun _ => none), 0⟩, (S x_), weak_canon [] rfl List.nodup_nil (Nat.le_refl _) (fun b h => absurd h (Nat.not_lt_zero _)) (.cons rfl (avAs_free rfl) .nil) .nil, rfl, rfl, rfl, rfl⟩
    · replace h := ifF hc2 h
      refine Sv.skip ?_
      refine Sv.seq ?_
      refine Sv.region ?_
      refine un (a1 rfl ?_)
      refine dnil ?_
      refine Sv.seq ?_
      refine Sv.seq ?_
      refine Sv.region ?_
      refine un (a1 rfl ?_)
      refine un (a1 (v := (I (sep.length : Int))) rfl ?_)
      refine un (a1 (v := (B (decide (0 < (sep.length : Int))))) rfl ?_)
      refine dnil ?_
      refine Sv.cond (b := decide (0 < (sep.length : Int))) rfl (fun hc6 => ?_) (fun hc6 => ?_)
      · replace h := ifT hc6 h
        refine Sv.seq ?_
        refine Sv.seq ?_
        refine Sv.region ?_
        refine un (a1 rfl ?_)
        refine un (a1 (v := (I (sep.length : Int))) rfl ?_)
        refine un (a1 rfl ?_)
        refine un (a1 (v := (I (elems.length : Int))) (s_len (e := eStr) (xs := elems) rfl) ?_)
        refine un (a1 (v := (I (wi ((elems.length : Int) - 1)))) rfl ?_)
        obtain ⟨r_5, hx6, h⟩ := bnd h
        refine un (a1 (v := (I r_5)) (s_quo rfl rfl hx6) ?_)
        refine un (a1 (v := (B (decide (r_5 ≤ (sep.length : Int))))) rfl ?_)
        refine dnil ?_
        refine Sv.cond (b := decide (r_5 ≤ (sep.length : Int))) rfl (fun hc7 => ?_) (fun hc7 => ?_)
        · replace h := ifT hc7 h
          refine Sv.region ?_
          refine un (a1 (v := (.c (.opq))) rfl ?_)
          cases h
        · replace h := ifF hc7 h
          refine Sv.skip ?_
          refine Sv.region ?_
          refine un (a1 rfl ?_)
          refine un (a1 rfl ?_)
          refine un (a1 (v := (I (sep.length : Int))) rfl ?_)
          refine un (a1 rfl ?_)
          refine un (a1 (v := (I (elems.length : Int))) (s_len (e := eStr) (xs := elems) rfl) ?_)
          refine un (a1 (v := (I (wi ((elems.length : Int) - 1)))) rfl ?_)
          refine un (a1 (v := (I (wi ((sep.length : Int) * (wi ((elems.length : Int) - 1)))))) rfl ?_)
          refine un (a1 (v := (I (wi (0 + (wi ((sep.length : Int) * (wi ((elems.length : Int) - 1)))))))) rfl ?_)
          refine un (a1 rfl ?_)
          refine dnil ?_
          exact Sv.weak (weak_canon [] rfl (by decide) (by decide) (fun b h => absurd h (Nat.not_lt_zero _)) (.cons rfl (avAs_free rfl) (.cons rfl (avAs_free rfl) (.cons rfl (avAs_free rfl) .nil))) .nil) (strings_Join_j1_ok h)
      · replace h := ifF hc6 h
        refine Sv.skip ?_
        exact Sv.weak (weak_canon [] rfl (by decide) (by decide) (fun b h => absurd h (Nat.not_lt_zero _)) (.cons rfl (avAs_free rfl) (.cons rfl (avAs_free rfl) (.cons rfl (avAs_free rfl) .nil))) .nil) (strings_Join_j1_ok h)
def a10_c0 : ACode := (.seq (.region [⟨(some 20), (.bin .lss (.tmp 19) (.tmp 18)), none⟩])
 (.seq (.cond (.tmp 20) .skip (.exit 2))
 (.seq (.block 3 (.seq (.region [⟨(some 21), (.iaddr 2 (.tmp 17) (.tmp 19)), none⟩, ⟨(some 22), (.load true 2 (.tmp 21)), none⟩, ⟨(some 8), (.box (.const (.agg [(.val (.int .i64 0)), (.val (.int .i64 0))]))), none⟩, ⟨none, (.store 2 (.tmp 8) (.tmp 22)), none⟩])
 (.region [⟨(some 23), (.mov (.tmp 6)), none⟩, ⟨(some 24), (.load true 2 (.tmp 8)), none⟩, ⟨(some 25), (.call 19 [(.tmp 24)]), none⟩, ⟨(some 26), (.bslice 1 [(.str [])] 1 [(0, (.tmp 25))]), none⟩, ⟨(some 27), (.app 1 16 (.tmp 23) (.tmp 26)), none⟩, ⟨(some 6), (.mov (.tmp 27)), none⟩])))
 (.region [⟨(some 28), (.bin .add (.tmp 19) (.const (.c (.val (.int .i64 1))))), none⟩, ⟨(some 19), (.mov (.tmp 28)), none⟩]))))
def a10_c1 : ACode := (.region [⟨(some 35), (.mov (.tmp 3)), none⟩, ⟨(some 36), (.mov (.tmp 9)), none⟩, ⟨(some 37), (.bslice 1 [(.str [])] 1 [(0, (.tmp 36))]), none⟩, ⟨(some 38), (.app 1 16 (.tmp 35) (.tmp 37)), none⟩, ⟨(some 3), (.mov (.tmp 38)), none⟩])
def a10_c2 : ACode := (.region [⟨(some 39), (.bin .add (.tmp 12) (.const (.c (.val (.int .i64 1))))), none⟩, ⟨(some 12), (.mov (.tmp 39)), none⟩])
def a10_c3 : ACode := (.seq (.region [⟨(some 13), (.bin .lss (.tmp 12) (.tmp 11)), none⟩])
 (.seq (.cond (.tmp 13) .skip (.exit 0))
 (.seq (.block 1 (.seq (.region [⟨(some 14), (.iaddr 2 (.tmp 10) (.tmp 12)), none⟩, ⟨(some 15), (.load true 2 (.tmp 14)), none⟩, ⟨(some 5), (.box (.const (.agg [(.val (.bool false)), (.ro true 2 [])]))), none⟩, ⟨none, (.store 2 (.tmp 5) (.tmp 15)), none⟩])
 (.seq (.region [⟨(some 6), (.mov (.const (.c (.ro true 1 [])))), none⟩])
 (.seq (.seq (.region [⟨(some 16), (.faddr 1 (.tmp 5)), none⟩, ⟨(some 17), (.load false 1 (.tmp 16)), none⟩, ⟨(some 18), (.len (.tmp 17)), none⟩, ⟨(some 19), (.mov (.const (.c (.val (.int .i64 0))))), none⟩])
 (.block 2 (.loop a10_c0)))
 (.seq (.region [⟨(some 29), (.mov (.tmp 6)), none⟩, ⟨(some 30), (.call 20 [(.tmp 29), (.const (.c (.str [32, 97, 110, 100, 32])))]), none⟩, ⟨(some 9), (.mov (.tmp 30)), none⟩])
 (.seq (.seq (.region [⟨(some 31), (.faddr 0 (.tmp 5)), none⟩, ⟨(some 32), (.load false 1 (.tmp 31)), none⟩])
 (.cond (.tmp 32) (.region [⟨(some 33), (.mov (.tmp 9)), none⟩, ⟨(some 34), (.bin .add (.const (.c (.str [110, 111, 116, 32]))) (.tmp 33)), none⟩, ⟨(some 9), (.mov (.tmp 34)), none⟩]) .skip))
 a10_c1))))))
 a10_c2)))
def a10 : AFunc := ⟨1, [(.tmp 2)], (.seq (.region [⟨(some 2), (.mov (.const (.c (.str [])))), none⟩])
 (.seq (.region [⟨(some 3), (.mov (.const (.c (.ro true 1 [])))), none⟩])
 (.seq (.seq (.region [⟨(some 10), (.mov (.tmp 0)), none⟩, ⟨(some 11), (.len (.tmp 10)), none⟩, ⟨(some 12), (.mov (.const (.c (.val (.int .i64 0))))), none⟩])
 (.block 0 (.loop a10_c3)))
 (.seq (.region [⟨(some 40), (.mov (.tmp 3)), none⟩, ⟨(some 41), (.call 20 [(.tmp 40), (.const (.c (.str [44, 32])))]), none⟩, ⟨(some 2), (.mov (.tmp 41)), none⟩])
 .ret))))⟩
set_option maxRecDepth 100000 in
theorem c10 : compFunc Tryz.prog 10 = some a10 := by kernel_rfl
def media_Text_post (r : (List UInt8)) : AV → Heap → Nat → Prop := fun v h' n' => v = (S r) ∧ (h' = (fun _ => none)) ∧ n' = 0
abbrev media_Text_l3_E2 (zout : Bool) (out : (List (List UInt8))) (l_ : (List TSQuery)) (v12 : Int) (x_ : TSQuery) (F_ : (List (List UInt8)) → Option (List UInt8)) (o : (List UInt8)) (R_ : St → Prop) : Prop := ∀ (fs1 : (List (List UInt8))) (zfs1 : Bool) (_ : zfs1 = true → fs1 = []), F_ fs1 = some o → ∀ s, Weak 0 s ⟨(upd (upd (upd (upd (upd (upd (fun _ => none) 3 (some (lstV zout 0 1 out.length))) 5 (some (.c (.ref 1 2 0 0)))) 6 (some (lstV zfs1 2 1 fs1.length))) 10 (some (.c (.ro false 2 (l_.map e_TSQuery))))) 11 (some (I (l_.length : Int)))) 12 (some (I v12))), (upd (upd (upd (fun _ => none) 0 (lstB zout 1 (out.map eStr))) 1 (some (.cells 2 [[cB x_.Not, .ro false 2 (x_.Features.map e_TSFeature)]]))) 2 (lstB zfs1 1 (fs1.map eStr))), 3⟩ → R_ s
abbrev media_Text_l3_I (zout : Bool) (out : (List (List UInt8))) (l_ : (List TSQuery)) (v12 : Int) (x_ : TSQuery) (F_ : Nat → (List (List UInt8)) → Int → Option (List UInt8)) (o : (List UInt8)) : Nat → St → Prop := fun k s => ∃ (fs : (List (List UInt8))), ∃ (v19 : Int), ∃ (zfs : Bool), (zfs = true → fs = []) ∧ F_ k fs v19 = some o ∧ s = ⟨(upd (upd (upd (upd (upd (upd (upd (upd (upd (fun _ => none) 3 (some (lstV zout 0 1 out.length))) 5 (some (.c (.ref 1 2 0 0)))) 6 (some (lstV zfs 2 1 fs.length))) 10 (some (.c (.ro false 2 (l_.map e_TSQuery))))) 11 (some (I (l_.length : Int)))) 12 (some (I v12))) 17 (some (.c (.ro false 2 (x_.Features.map e_TSFeature))))) 18 (some (I (x_.Features.length : Int)))) 19 (some (I v19))), (upd (upd (upd (fun _ => none) 0 (lstB zout 1 (out.map eStr))) 1 (some (.cells 2 [[cB x_.Not, .ro false 2 (x_.Features.map e_TSFeature)]]))) 2 (lstB zfs 1 (fs.map eStr))), 3⟩
abbrev media_Text_l3_H (zout : Bool) (out : (List (List UInt8))) (l_ : (List TSQuery)) (v12 : Int) (x_ : TSQuery) (F_ : (List (List UInt8)) → Int → Option (List UInt8)) (o : (List UInt8)) (R_ : St → Prop) : Prop := ∀ (fs : (List (List UInt8))) (v19 : Int) (zfs : Bool) (_ : zfs = true → fs = []), F_ fs v19 = some o → ∀ s, Weak 0 s ⟨(upd (upd (upd (upd (upd (upd (upd (upd (upd (fun _ => none) 3 (some (lstV zout 0 1 out.length))) 5 (some (.c (.ref 1 2 0 0)))) 6 (some (lstV zfs 2 1 fs.length))) 10 (some (.c (.ro false 2 (l_.map e_TSQuery))))) 11 (some (I (l_.length : Int)))) 12 (some (I v12))) 17 (some (.c (.ro false 2 (x_.Features.map e_TSFeature))))) 18 (some (I (x_.Features.length : Int)))) 19 (some (I v19))), (upd (upd (upd (fun _ => none) 0 (lstB zout 1 (out.map eStr))) 1 (some (.cells 2 [[cB x_.Not, .ro false 2 (x_.Features.map e_TSFeature)]]))) 2 (lstB zfs 1 (fs.map eStr))), 3⟩ → R_ s
noncomputable def media_Text_l3 (x_ : TSQuery) (out : (List (List UInt8))) (l_ : (List TSQuery)) (v12 : Int) (K2_ : (List (List UInt8)) → Option (List UInt8)) : Nat → (List (List UInt8)) → Int → Option (List UInt8)
  | 0, _, _ => none
  | k + 1, fs, v19 =>
    if decide (v19 < (x_.Features.length : Int)) then
      (at? x_.Features v19).bind fun x_1 =>
      (media_featureText x_1).bind fun r_ =>
      (app? 16 fs [r_]).bind fun r_1 =>
      (media_Text_l3 x_ out l_ v12 K2_ k) r_1 (wi (v19 + 1))
    else
      K2_ fs
theorem media_Text_l3_ok {mL : Int} {Q : AExit → St → Prop} {x_ : TSQuery} {out : (List (List UInt8))} {l_ : (List TSQuery)} {v12 : Int} {K2_ : (List (List UInt8)) → Option (List UInt8)} {zout : Bool} (hzout : zout = true → out = []) {k : Nat} {fs : (List (List UInt8))} {v19 : Int} {zfs : Bool} (hzfs : zfs = true → fs = []) {o : (List UInt8)} (h : media_Text_l3 x_ out l_ v12 K2_ k fs v19 = some o)
    (hK2 : media_Text_l3_E2 zout out l_ v12 x_ K2_ o (Q (.exit 2)))
    (hr : ∀ s, Ends a10.results 0 (media_Text_post o) .ret s → Q .ret s) :
    Sv Tryz.prog (GG mL) 0 (.loop a10_c0) Q ⟨(upd (upd (upd (upd (upd (upd (upd (upd (upd (fun _ => none) 3 (some (lstV zout 0 1 out.length))) 5 (some (.c (.ref 1 2 0 0)))) 6 (some (lstV zfs 2 1 fs.length))) 10 (some (.c (.ro false 2 (l_.map e_TSQuery))))) 11 (some (I (l_.length : Int)))) 12 (some (I v12))) 17 (some (.c (.ro false 2 (x_.Features.map e_TSFeature))))) 18 (some (I (x_.Features.length : Int)))) 19 (some (I v19))), (upd (upd (upd (fun _ => none) 0 (lstB zout 1 (out.map eStr))) 1 (some (.cells 2 [[cB x_.Not, .ro false 2 (x_.Features.map e_TSFeature)]]))) 2 (lstB zfs 1 (fs.map eStr))), 3⟩ := by
  refine Sv.loop (I := media_Text_l3_I zout out l_ v12 x_ (media_Text_l3 x_ out l_ v12 K2_) o) (fun k s hI => ?_) ⟨fs, v19, zfs, hzfs, h, rfl⟩
  clear h
  clear hzfs zfs v19 fs
  obtain ⟨fs, v19, zfs, hzfs, h, rfl⟩ := hI
  cases k with
  | zero => cases h
  | succ k =>
  rw [media_Text_l3] at h
  have hself : media_Text_l3_H zout out l_ v12 x_ (media_Text_l3 x_ out l_ v12 K2_ k) o (rnd 0 (media_Text_l3_I zout out l_ v12 x_ (media_Text_l3 x_ out l_ v12 K2_) o) k Q) := fun fs v19 zfs hzfs h s hw => ⟨_, k, hw, Nat.lt_succ_self k, fs, v19, zfs, hzfs, h, rfl⟩
  refine Sv.seq ?_
  refine Sv.region ?_
  refine un (a1 (v := (B (decide (v19 < (x_.Features.length : Int))))) rfl ?_)
  refine dnil ?_
  refine Sv.seq ?_
  refine Sv.cond (b := decide (v19 < (x_.Features.length : Int))) rfl (fun hc2 => ?_) (fun hc2 => ?_)
  · replace h := ifT hc2 h
    refine Sv.skip ?_
    refine Sv.seq ?_
    refine Sv.block ?_
    refine Sv.seq ?_
    refine Sv.region ?_
    obtain ⟨x_1, hx2, h⟩ := bnd h
    refine un (a1 (v := (.c (.rop [cI x_1.Kind, cI x_1.Num]))) (s_iaddr (e := e_TSFeature) (xs := x_.Features) rfl rfl hx2) ?_)
    refine un (a1 (v := (.agg [cI x_1.Kind, cI x_1.Num])) rfl ?_)
    refine un (a2v (v := (.c (.ref 3 2 0 0))) (h' := upd _ 3 (some (.cells 2 [[cI 0, cI 0]]))) (n' := 4) rfl rfl (fun h => by cases h) ?_)
    refine un (a2n (h' := upd _ 3 (some (.cells 2 [[cI x_1.Kind, cI x_1.Num]]))) (n' := 4) rfl rfl (fun h => by cases h) ?_)
    refine dnil ?_
    refine Sv.region ?_
    refine un (a1 rfl ?_)
    refine un (a1 (v := (.agg [cI x_1.Kind, cI x_1.Num])) rfl ?_)
    obtain ⟨r_, hr1, h⟩ := bnd h
    refine un (ac_pure (media_featureText_ok hr1) rfl rfl rfl ?_)
    refine un (a2v (v := (lstV false 4 1 [r_].length)) (h' := upd _ 4 (lstB false 1 ([r_].map eStr))) (n' := 5) rfl rfl (fun h => by cases h) ?_)
    obtain ⟨r_1, hr2, h⟩ := bnd h
    have hz1 : (zfs && [r_].isEmpty) = true → r_1 = [] := app_nil (z := zfs) (ys := [r_]) hzfs hr2
    refine un (a2v rfl (s_app (xs := fs) (ys := [r_]) (e := eStr) (z := zfs) (b := 2) rfl rfl hzfs rfl rfl (slc_lst rfl (List.length_map _).symm (map_nil_of (fun h => by cases h))) hr2) (fun h => by cases h) ?_)
    refine un (a1 rfl ?_)
    refine dnil ?_
    refine Sv.region ?_
    refine un (a1 (v := (I (wi (v19 + 1)))) rfl ?_)
    refine un (a1 rfl ?_)
    refine dnil ?_
    exact hself r_1 (wi (v19 + 1)) (zfs && [r_].isEmpty) hz1 h _ (weak_canon [0, 1, 5] rfl (by decide) (by decide) (fun b h => absurd h (Nat.not_lt_zero _)) (.cons rfl (avAs_free rfl) (.cons rfl (avAs_free rfl) (.cons rfl (avAs_free rfl) (.cons rfl (avAs_free rfl) (.cons rfl (avAs_free rfl) (.cons rfl (avAs_free rfl) (.cons rfl (.c (lstC_ren rfl (by decide))) (.cons rfl (.c (.ref rfl (by decide))) (.cons rfl (.c (lstC_ren rfl (by decide))) .nil))))))))) (.row (by decide) rfl (fr_map fun _ => rfl) (.box (by decide) rfl (blkAs_cells (.cons (.same rfl) (.cons (.same rfl) .nil))) (.row (by decide) rfl (fr_map fun _ => rfl) .nil))))
  · replace h := ifF hc2 h
    refine Sv.exit ?_
    exact hK2 fs zfs hzfs h _ (weak_canon [0, 1, 2] rfl (by decide) (by decide) (fun b h => absurd h (Nat.not_lt_zero _)) (.cons rfl (avAs_free rfl) (.cons rfl (avAs_free rfl) (.cons rfl (avAs_free rfl) (.cons rfl (.c (lstC_ren rfl (by decide))) (.cons rfl (.c (.ref rfl (by decide))) (.cons rfl (.c (lstC_ren rfl (by decide))) .nil)))))) (.row (by decide) rfl (fr_map fun _ => rfl) (.box (by decide) rfl (blkAs_cells (.cons (.same rfl) (.cons (.same rfl) .nil))) (.row (by decide) rfl (fr_map fun _ => rfl) .nil))))
abbrev media_Text_q0 (mL : Int) (Q : AExit → St → Prop) : AExit → St → Prop := AThen (Sv Tryz.prog (GG mL) 0 a10_c2 Q) Q
abbrev media_Text_q1 (mL : Int) (Q : AExit → St → Prop) : AExit → St → Prop := ABlock 1 (media_Text_q0 mL Q)
abbrev media_Text_l2_H (l_ : (List TSQuery)) (F_ : (List (List UInt8)) → Int → Option (List UInt8)) (o : (List UInt8)) (R_ : St → Prop) : Prop := ∀ (out : (List (List UInt8))) (v12 : Int) (zout : Bool) (_ : zout = true → out = []), F_ out v12 = some o → ∀ s, Weak 0 s ⟨(upd (upd (upd (upd (fun _ => none) 3 (some (lstV zout 0 1 out.length))) 10 (some (.c (.ro false 2 (l_.map e_TSQuery))))) 11 (some (I (l_.length : Int)))) 12 (some (I v12))), (upd (fun _ => none) 0 (lstB zout 1 (out.map eStr))), 1⟩ → R_ s
abbrev media_Text_l2_E0 (F_ : (List (List UInt8)) → Option (List UInt8)) (o : (List UInt8)) (R_ : St → Prop) : Prop := ∀ (out1 : (List (List UInt8))) (zout1 : Bool) (_ : zout1 = true → out1 = []), F_ out1 = some o → ∀ s, Weak 0 s ⟨(upd (fun _ => none) 3 (some (lstV zout1 0 1 out1.length))), (upd (fun _ => none) 0 (lstB zout1 1 (out1.map eStr))), 1⟩ → R_ s
noncomputable def media_Text_j3 (v12 : Int) (l_ : (List TSQuery)) (self : (List (List UInt8)) → Int → Option (List UInt8)) (K0_ : (List (List UInt8)) → Option (List UInt8)) (out2 : (List (List UInt8))) (s_ : (List UInt8)) : Option (List UInt8) :=
  (app? 16 out2 [s_]).bind fun r_3 =>
  self r_3 (wi (v12 + 1))
theorem media_Text_j3_ok {mL : Int} {Q : AExit → St → Prop} {v12 : Int} {l_ : (List TSQuery)} {self : (List (List UInt8)) → Int → Option (List UInt8)} {K0_ : (List (List UInt8)) → Option (List UInt8)} {out2 : (List (List UInt8))} {s_ : (List UInt8)} {zout2 : Bool} (hzout2 : zout2 = true → out2 = []) {o : (List UInt8)} (h : media_Text_j3 v12 l_ self K0_ out2 s_ = some o)
    (hself : media_Text_l2_H l_ self o (Q .normal))
    (hK0 : media_Text_l2_E0 K0_ o (Q (.exit 0)))
    (hr : ∀ s, Ends a10.results 0 (media_Text_post o) .ret s → Q .ret s) :
    Sv Tryz.prog (GG mL) 0 a10_c1 (media_Text_q1 mL Q) ⟨(upd (upd (upd (upd (upd (fun _ => none) 3 (some (lstV zout2 0 1 out2.length))) 9 (some (S s_))) 10 (some (.c (.ro false 2 (l_.map e_TSQuery))))) 11 (some (I (l_.length : Int)))) 12 (some (I v12))), (upd (fun _ => none) 0 (lstB zout2 1 (out2.map eStr))), 1⟩ := by
  unfold media_Text_j3 at h
  refine Sv.region ?_
  refine un (a1 rfl ?_)
  refine un (a1 rfl ?_)
  refine un (a2v (v := (lstV false 1 1 [s_].length)) (h' := upd _ 1 (lstB false 1 ([s_].map eStr))) (n' := 2) rfl rfl (fun h => by cases h) ?_)
  obtain ⟨r_3, hr4, h⟩ := bnd h
  have hz2 : (zout2 && [s_].isEmpty) = true → r_3 = [] := app_nil (z := zout2) (ys := [s_]) hzout2 hr4
  refine un (a2v rfl (s_app (xs := out2) (ys := [s_]) (e := eStr) (z := zout2) (b := 0) rfl rfl hzout2 rfl rfl (slc_lst rfl (List.length_map _).symm (map_nil_of (fun h => by cases h))) hr4) (fun h => by cases h) ?_)
  refine un (a1 rfl ?_)
  refine dnil ?_
  refine Sv.region ?_
  refine un (a1 (v := (I (wi (v12 + 1)))) rfl ?_)
  refine un (a1 rfl ?_)
  refine dnil ?_
  exact hself r_3 (wi (v12 + 1)) (zout2 && [s_].isEmpty) hz2 h _ (weak_canon [2] rfl (by decide) (by decide) (fun b h => absurd h (Nat.not_lt_zero _)) (.cons rfl (avAs_free rfl) (.cons rfl (avAs_free rfl) (.cons rfl (avAs_free rfl) (.cons rfl (.c (lstC_ren rfl (by decide))) .nil)))) (.row (by decide) rfl (fr_map fun _ => rfl) .nil))
abbrev media_Text_l2_I (l_ : (List TSQuery)) (F_ : Nat → (List (List UInt8)) → Int → Option (List UInt8)) (o : (List UInt8)) : Nat → St → Prop := fun k s => ∃ (out : (List (List UInt8))), ∃ (v12 : Int), ∃ (zout : Bool), (zout = true → out = []) ∧ F_ k out v12 = some o ∧ s = ⟨(upd (upd (upd (upd (fun _ => none) 3 (some (lstV zout 0 1 out.length))) 10 (some (.c (.ro false 2 (l_.map e_TSQuery))))) 11 (some (I (l_.length : Int)))) 12 (some (I v12))), (upd (fun _ => none) 0 (lstB zout 1 (out.map eStr))), 1⟩
noncomputable def media_Text_l2 (l_ : (List TSQuery)) (K0_ : (List (List UInt8)) → Option (List UInt8)) : Nat → (List (List UInt8)) → Int → Option (List UInt8)
  | 0, _, _ => none
  | k + 1, out, v12 =>
    if decide (v12 < (l_.length : Int)) then
      (at? l_ v12).bind fun x_ =>
      lim fun kk => media_Text_l3 x_ out l_ v12 (fun (fs1 : (List (List UInt8))) => 
          (strings_Join fs1 [32, 97, 110, 100, 32]).bind fun r_2 =>
          if x_.Not then
            (cat? [110, 111, 116, 32] r_2).bind fun r_4 =>
            media_Text_j3 v12 l_ (media_Text_l2 l_ K0_ k) K0_ out r_4
          else
            media_Text_j3 v12 l_ (media_Text_l2 l_ K0_ k) K0_ out r_2) kk ([] : List (List UInt8)) 0
    else
      K0_ out
theorem media_Text_l2_ok {mL : Int} {Q : AExit → St → Prop} {l_ : (List TSQuery)} {K0_ : (List (List UInt8)) → Option (List UInt8)} {k : Nat} {out : (List (List UInt8))} {v12 : Int} {zout : Bool} (hzout : zout = true → out = []) {o : (List UInt8)} (h : media_Text_l2 l_ K0_ k out v12 = some o)
    (hK0 : media_Text_l2_E0 K0_ o (Q (.exit 0)))
    (hr : ∀ s, Ends a10.results 0 (media_Text_post o) .ret s → Q .ret s) :
    Sv Tryz.prog (GG mL) 0 (.loop a10_c3) Q ⟨(upd (upd (upd (upd (fun _ => none) 3 (some (lstV zout 0 1 out.length))) 10 (some (.c (.ro false 2 (l_.map e_TSQuery))))) 11 (some (I (l_.length : Int)))) 12 (some (I v12))), (upd (fun _ => none) 0 (lstB zout 1 (out.map eStr))), 1⟩ := by
  refine Sv.loop (I := media_Text_l2_I l_ (media_Text_l2 l_ K0_) o) (fun k s hI => ?_) ⟨out, v12, zout, hzout, h, rfl⟩
  clear h
  clear hzout zout v12 out
  obtain ⟨out, v12, zout, hzout, h, rfl⟩ := hI
  cases k with
  | zero => cases h
  | succ k =>
  rw [media_Text_l2] at h
  have hself : media_Text_l2_H l_ (media_Text_l2 l_ K0_ k) o (rnd 0 (media_Text_l2_I l_ (media_Text_l2 l_ K0_) o) k Q) := fun out v12 zout hzout h s hw => ⟨_, k, hw, Nat.lt_succ_self k, out, v12, zout, hzout, h, rfl⟩
  refine Sv.seq ?_
  refine Sv.region ?_
  refine un (a1 (v := (B (decide (v12 < (l_.length : Int))))) rfl ?_)
  refine dnil ?_
  refine Sv.seq ?_
  refine Sv.cond (b := decide (v12 < (l_.length : Int))) rfl (fun hc1 => ?_) (fun hc1 => ?_)
  · replace h := ifT hc1 h
    refine Sv.skip ?_
    refine Sv.seq ?_
    refine Sv.block ?_
    refine Sv.seq ?_
    refine Sv.region ?_
    obtain ⟨x_, hx1, h⟩ := bnd h
    refine un (a1 (v := (.c (.rop [cB x_.Not, .ro false 2 (x_.Features.map e_TSFeature)]))) (s_iaddr (e := e_TSQuery) (xs := l_) rfl rfl hx1) ?_)
    refine un (a1 (v := (.agg [cB x_.Not, .ro false 2 (x_.Features.map e_TSFeature)])) rfl ?_)
    refine un (a2v (v := (.c (.ref 1 2 0 0))) (h' := upd _ 1 (some (.cells 2 [[cB false, .ro true 2 []]]))) (n' := 2) rfl rfl (fun h => by cases h) ?_)
    refine un (a2n (h' := upd _ 1 (some (.cells 2 [[cB x_.Not, .ro false 2 (x_.Features.map e_TSFeature)]]))) (n' := 2) rfl rfl (fun h => by cases h) ?_)
    refine dnil ?_
    refine Sv.seq ?_
    refine Sv.region ?_
    refine un (a1 rfl ?_)
    refine dnil ?_
    refine Sv.seq ?_
    refine Sv.seq ?_
    refine Sv.region ?_
    refine un (a1 (v := (.c (.ref 1 2 0 1))) rfl ?_)
    refine un (a1 (v := (.c (.ro false 2 (x_.Features.map e_TSFeature)))) rfl ?_)
    refine un (a1 (v := (I (x_.Features.length : Int))) (s_len (e := e_TSFeature) (xs := x_.Features) rfl) ?_)
    refine un (a1 rfl ?_)
    refine dnil ?_
    refine Sv.block ?_
    obtain ⟨kk, h⟩ := lim_some h
    refine Sv.weak (weak_canon [0, 1, 1000] rfl (by decide) (by decide) (fun b h => absurd h (Nat.not_lt_zero _)) (.cons rfl (avAs_free rfl) (.cons rfl (avAs_free rfl) (.cons rfl (avAs_free rfl) (.cons rfl (avAs_free rfl) (.cons rfl (avAs_free rfl) (.cons rfl (avAs_free rfl) (.cons rfl (.c (.same rfl)) (.cons rfl (.c (.ref rfl (by decide))) (.cons rfl (.c (lstC_ren rfl (by decide))) .nil))))))))) (.non (by decide) (.box (by decide) rfl (blkAs_cells (.cons (.same rfl) (.cons (.same rfl) .nil))) (.row (by decide) rfl (fr_map fun _ => rfl) .nil)))) (media_Text_l3_ok hzout (fun _ => rfl) h ?_ hr)
    · intro fs1 zfs1 hzfs1 h _ hw1
      refine Sv.weak hw1 ?_
      refine Sv.seq ?_
      refine Sv.region ?_
      refine un (a1 rfl ?_)
      obtain ⟨r_2, hr3, h⟩ := bnd h
      refine un (ac_lend (h2 := (upd _ 2 none)) (strings_Join_ok hr3) rfl (.cons (.c (lstC_ro (es := List.map eStr fs1) rfl (List.length_map eStr).symm (map_nil_of hzfs1) (gone rfl) (fr_map fun _ => rfl))) (.cons (avAs_free rfl) .nil)) (hsub_none (hsub_refl _)) rfl rfl (.inr rfl) ?_)
      refine un (a1 rfl ?_)
      refine dnil ?_
      refine Sv.seq ?_
      refine Sv.seq ?_
      refine Sv.region ?_
      refine un (a1 (v := (.c (.ref 1 2 0 0))) rfl ?_)
      refine un (a1 (v := (B x_.Not)) rfl ?_)
      refine dnil ?_
      refine Sv.cond (b := x_.Not) rfl (fun hc3 => ?_) (fun hc3 => ?_)
      · replace h := ifT hc3 h
        refine Sv.region ?_
        refine un (a1 rfl ?_)
        obtain ⟨r_4, hx3, h⟩ := bnd h
        refine un (a1 (v := (S r_4)) (s_cat rfl rfl hx3) ?_)
        refine un (a1 rfl ?_)
        refine dnil ?_
        exact Sv.weak (weak_canon [0] rfl (by decide) (by decide) (fun b h => absurd h (Nat.not_lt_zero _)) (.cons rfl (avAs_free rfl) (.cons rfl (avAs_free rfl) (.cons rfl (avAs_free rfl) (.cons rfl (avAs_free rfl) (.cons rfl (.c (lstC_ren rfl (by decide))) .nil))))) (.row (by decide) rfl (fr_map fun _ => rfl) .nil)) (media_Text_j3_ok hzout h hself hK0 hr)
      · replace h := ifF hc3 h
        refine Sv.skip ?_
        exact Sv.weak (weak_canon [0] rfl (by decide) (by decide) (fun b h => absurd h (Nat.not_lt_zero _)) (.cons rfl (avAs_free rfl) (.cons rfl (avAs_free rfl) (.cons rfl (avAs_free rfl) (.cons rfl (avAs_free rfl) (.cons rfl (.c (lstC_ren rfl (by decide))) .nil))))) (.row (by decide) rfl (fr_map fun _ => rfl) .nil)) (media_Text_j3_ok hzout h hself hK0 hr)
  · replace h := ifF hc1 h
    refine Sv.exit ?_
    exact hK0 out zout hzout h _ (weak_canon [0] rfl (by decide) (by decide) (fun b h => absurd h (Nat.not_lt_zero _)) (.cons rfl (.c (lstC_ren rfl (by decide))) .nil) (.row (by decide) rfl (fr_map fun _ => rfl) .nil))
/-- clerestory/media.Text -/
noncomputable def media_Text (l_ : (List TSQuery)) : Option (List UInt8) :=
  lim fun kk1 => media_Text_l2 l_ (fun (out1 : (List (List UInt8))) => 
      (strings_Join out1 [44, 32]).bind fun r_5 =>
      some r_5) kk1 ([] : List (List UInt8)) 0
theorem media_Text_ok {mL : Int} {l_ : (List TSQuery)} {r : (List UInt8)} (h : media_Text l_ = some r) : CPure Tryz.prog (GG mL) 10 [(.c (.ro false 2 (l_.map e_TSQuery)))] (S r) := by
  refine acalls_of_sv hmix c10 (R := media_Text_post r) ?_
  unfold media_Text at h
  refine Sv.seq ?_
  refine Sv.region ?_
  refine un (a1 rfl ?_)
  refine dnil ?_
  refine Sv.seq ?_
  refine Sv.region ?_
  refine un (a1 rfl ?_)
  refine dnil ?_
  refine Sv.seq ?_
  refine Sv.seq ?_
  refine Sv.region ?_
  refine un (a1 rfl ?_)
  refine un (a1 (v := (I (l_.length : Int))) (s_len (e := e_TSQuery) (xs := l_) rfl) ?_)
  refine un (a1 rfl ?_)
  refine dnil ?_
  refine Sv.block ?_
  obtain ⟨kk1, h⟩ := lim_some h
  refine Sv.weak (weak_canon [1000] rfl (by decide) (by decide) (fun b h => absurd h (Nat.not_lt_zero _)) (.cons rfl (avAs_free rfl) (.cons rfl (avAs_free rfl) (.cons rfl (avAs_free rfl) (.cons rfl (.c (.same rfl)) .nil)))) (.non (by decide) .nil)) (media_Text_l2_ok (fun _ => rfl) h ?_ (fun s hs => hs))
  · intro out1 zout1 hzout1 h _ hw2
    refine Sv.weak hw2 ?_
    refine Sv.seq ?_
    refine Sv.region ?_
    refine un (a1 rfl ?_)
    obtain ⟨r_5, hr5, h⟩ := bnd h
    refine un (ac_lend (h2 := (upd _ 0 none)) (strings_Join_ok hr5) rfl (.cons (.c (lstC_ro (es := List.map eStr out1) rfl (List.length_map eStr).symm (map_nil_of hzout1) (gone rfl) (fr_map fun _ => rfl))) (.cons (avAs_free rfl) .nil)) (hsub_none (hsub_refl _)) rfl rfl (.inr rfl) ?_)
    refine un (a1 rfl ?_)
    refine dnil ?_
    refine Sv.ret ?_
    replace h := Option.some.inj h
    subst h
    exact ⟨_, .refl _, _, rfl, ⟨upd (fun _ => none) 0 (some (S r_5)), (fun _ => none), 0⟩, (S r_5), weak_canon [] rfl List.nodup_nil (Nat.le_refl _) (fun b h => absurd h (Nat.not_lt_zero _)) (.cons rfl (avAs_free rfl) .nil) .nil, rfl, rfl, rfl, rfl⟩
def a58_c0 : ACode := (.seq (.region [⟨(some 17), (.mov (.tmp 3)), none⟩, ⟨(some 2), (.mov (.tmp 17)), none⟩])
 .ret)
def a58 : AFunc := ⟨1, [(.tmp 2)], (.seq (.region [⟨(some 2), (.mov (.const (.c (.str [])))), none⟩])
 (.seq (.region [⟨(some 4), (.mov (.tmp 0)), none⟩, ⟨(some 5), (.bin .rem (.tmp 4) (.const (.c (.val (.int .i64 10))))), none⟩, ⟨(some 6), (.bin .add (.const (.c (.val (.int .i64 48)))) (.tmp 5)), none⟩, ⟨(some 7), (.conv .u8 (.tmp 6)), none⟩, ⟨(some 8), (.bslice 1 [(.val (.int .u8 0))] 1 [(0, (.tmp 7))]), none⟩, ⟨(some 9), (.ofBytes (.tmp 8)), none⟩, ⟨(some 3), (.mov (.tmp 9)), none⟩])
 (.seq (.seq (.region [⟨(some 10), (.mov (.tmp 0)), none⟩, ⟨(some 11), (.bin .gtr (.tmp 10) (.const (.c (.val (.int .i64 9))))), none⟩])
 (.cond (.tmp 11) (.region [⟨(some 12), (.mov (.tmp 0)), none⟩, ⟨(some 13), (.bin .quo (.tmp 12) (.const (.c (.val (.int .i64 10))))), none⟩, ⟨(some 14), (.call 58 [(.tmp 13)]), none⟩, ⟨(some 15), (.mov (.tmp 3)), none⟩, ⟨(some 16), (.bin .add (.tmp 14) (.tmp 15)), none⟩, ⟨(some 3), (.mov (.tmp 16)), none⟩]) .skip))
 a58_c0)))⟩
set_option maxRecDepth 100000 in
theorem c58 : compFunc Tryz.prog 58 = some a58 := by kernel_rfl
def clerestoryref2_Digits_post (r : (List UInt8)) : AV → Heap → Nat → Prop := fun v h' n' => v = (S r) ∧ (h' = (fun _ => none)) ∧ n' = 0
def clerestoryref2_Digits_Rec (mL : Int) (recf : Int → Option (List UInt8)) : Prop := ∀ (n_ : Int) (r : (List UInt8)), recf n_ = some r → CPure Tryz.prog (GG mL) 58 [(I n_)] (S r)
noncomputable def clerestoryref2_Digits_j1 (s_ : (List UInt8)) : Option (List UInt8) :=
  some s_
theorem clerestoryref2_Digits_j1_ok {mL : Int} {s_ : (List UInt8)} {o : (List UInt8)} (h : clerestoryref2_Digits_j1 s_ = some o) :
    Sv Tryz.prog (GG mL) 0 a58_c0 (Ends a58.results 0 (clerestoryref2_Digits_post o)) ⟨(upd (fun _ => none) 3 (some (S s_))), (fun _ => none), 0⟩ := by
  unfold clerestoryref2_Digits_j1 at h
  refine Sv.seq ?_
  refine Sv.region ?_
  refine un (a1 rfl ?_)
  refine un (a1 rfl ?_)
  refine dnil ?_
  refine Sv.ret ?_
  replace h := Option.some.inj h
  subst h
  exact ⟨_, .refl _, _, rfl, ⟨upd (fun _ => none) 0 (some (S s_)), (fun _ => none), 0⟩, (S s_), weak_canon [] rfl List.nodup_nil (Nat.le_refl _) (fun b h => absurd h (Nat.not_lt_zero _)) (.cons rfl (avAs_free rfl) .nil) .nil, rfl, rfl, rfl, rfl⟩
/-- clerestory/clerestoryref2.Digits -/
noncomputable def clerestoryref2_Digits_r : Nat → Int → Option (List UInt8)
  | 0, _ => none
  | k + 1, n_ =>
    if decide (9 < n_) then
      ((clerestoryref2_Digits_r k) (wi (n_.tdiv 10))).bind fun r_ =>
      (cat? r_ (byts [(wr .u8 (wi (48 + (n_.tmod 10))))])).bind fun r_1 =>
      clerestoryref2_Digits_j1 r_1
    else
      clerestoryref2_Digits_j1 (byts [(wr .u8 (wi (48 + (n_.tmod 10))))])
noncomputable def clerestoryref2_Digits (n_ : Int) : Option (List UInt8) :=
  lim fun kr => clerestoryref2_Digits_r kr n_
theorem clerestoryref2_Digits_r_ok {mL : Int} (k : Nat) : clerestoryref2_Digits_Rec mL (clerestoryref2_Digits_r k) := by
  induction k with
  | zero => intro n_ r h; cases h
  | succ k hrec =>
  intro n_ r h
  refine acalls_of_sv hmix c58 (R := clerestoryref2_Digits_post r) ?_
  rw [clerestoryref2_Digits_r] at h
  refine Sv.seq ?_
  refine Sv.region ?_
  refine un (a1 rfl ?_)
  refine dnil ?_
  refine Sv.seq ?_
  refine Sv.region ?_
  refine un (a1 rfl ?_)
  refine un (a1 (v := (I (n_.tmod 10))) rfl ?_)
  refine un (a1 (v := (I (wi (48 + (n_.tmod 10))))) rfl ?_)
  refine un (a1 (v := (.c (.val (.int .u8 (wr .u8 (wi (48 + (n_.tmod 10)))))))) rfl ?_)
  refine un (a2v (v := (lstV false 0 1 [(wr .u8 (wi (48 + (n_.tmod 10))))].length)) (h' := upd _ 0 (lstB false 1 ([(wr .u8 (wi (48 + (n_.tmod 10))))].map (eK .u8)))) (n' := 1) rfl rfl (fun h => by cases h) ?_)
  refine un (a1 (v := (S (byts [(wr .u8 (wi (48 + (n_.tmod 10))))]))) (s_ofBytes (xs := [(wr .u8 (wi (48 + (n_.tmod 10))))]) rfl (slc_lst rfl (List.length_map _).symm (map_nil_of (fun h => by cases h)))) ?_)
  refine un (a1 rfl ?_)
  refine dnil ?_
  refine Sv.seq ?_
  refine Sv.seq ?_
  refine Sv.region ?_
  refine un (a1 rfl ?_)
  refine un (a1 (v := (B (decide (9 < n_)))) rfl ?_)
  refine dnil ?_
  refine Sv.cond (b := decide (9 < n_)) rfl (fun hc1 => ?_) (fun hc1 => ?_)
  · replace h := ifT hc1 h
    refine Sv.region ?_
    refine un (a1 rfl ?_)
    refine un (a1 (v := (I (wi (n_.tdiv 10)))) rfl ?_)
    obtain ⟨r_, hr1, h⟩ := bnd h
    refine un (ac_pure (hrec (wi (n_.tdiv 10)) _ hr1) rfl rfl rfl ?_)
    refine un (a1 rfl ?_)
    obtain ⟨r_1, hx1, h⟩ := bnd h
    refine un (a1 (v := (S r_1)) (s_cat rfl rfl hx1) ?_)
    refine un (a1 rfl ?_)
    refine dnil ?_
    exact Sv.weak (weak_canon [] rfl (by decide) (by decide) (fun b h => absurd h (Nat.not_lt_zero _)) (.cons rfl (avAs_free rfl) .nil) .nil) (clerestoryref2_Digits_j1_ok h)
  · replace h := ifF hc1 h
    refine Sv.skip ?_
    exact Sv.weak (weak_canon [] rfl (by decide) (by decide) (fun b h => absurd h (Nat.not_lt_zero _)) (.cons rfl (avAs_free rfl) .nil) .nil) (clerestoryref2_Digits_j1_ok h)
theorem clerestoryref2_Digits_ok {mL : Int} {n_ : Int} {r : (List UInt8)} (h : clerestoryref2_Digits n_ = some r) : CPure Tryz.prog (GG mL) 58 [(I n_)] (S r) := by
  unfold clerestoryref2_Digits at h
  obtain ⟨k, h⟩ := lim_some h
  exact clerestoryref2_Digits_r_ok k n_  r h
def a37 : AFunc := ⟨1, [(.tmp 2)], (.seq (.region [⟨(some 2), (.mov (.const (.c (.str [])))), none⟩])
 (.seq (.seq (.region [⟨(some 3), (.mov (.tmp 0)), none⟩, ⟨(some 4), (.bin .leq (.tmp 3) (.const (.c (.val (.int .i64 (-10)))))), none⟩])
 (.cond (.tmp 4) (.seq (.region [⟨(some 5), (.mov (.tmp 0)), none⟩, ⟨(some 6), (.bin .quo (.tmp 5) (.const (.c (.val (.int .i64 10))))), none⟩, ⟨(some 7), (.call 37 [(.tmp 6)]), none⟩, ⟨(some 8), (.mov (.tmp 0)), none⟩, ⟨(some 9), (.bin .rem (.tmp 8) (.const (.c (.val (.int .i64 10))))), none⟩, ⟨(some 10), (.un .neg (.tmp 9)), none⟩, ⟨(some 11), (.call 58 [(.tmp 10)]), none⟩, ⟨(some 12), (.bin .add (.tmp 7) (.tmp 11)), none⟩, ⟨(some 2), (.mov (.tmp 12)), none⟩])
 .ret) .skip))
 (.seq (.seq (.region [⟨(some 13), (.mov (.tmp 0)), none⟩, ⟨(some 14), (.bin .lss (.tmp 13) (.const (.c (.val (.int .i64 0))))), none⟩])
 (.cond (.tmp 14) (.seq (.region [⟨(some 15), (.mov (.tmp 0)), none⟩, ⟨(some 16), (.bin .sub (.const (.c (.val (.int .i64 0)))) (.tmp 15)), none⟩, ⟨(some 17), (.call 58 [(.tmp 16)]), none⟩, ⟨(some 18), (.bin .add (.const (.c (.str [45]))) (.tmp 17)), none⟩, ⟨(some 2), (.mov (.tmp 18)), none⟩])
 .ret) .skip))
 (.seq (.region [⟨(some 19), (.mov (.tmp 0)), none⟩, ⟨(some 20), (.call 58 [(.tmp 19)]), none⟩, ⟨(some 2), (.mov (.tmp 20)), none⟩])
 .ret))))⟩
set_option maxRecDepth 100000 in
theorem c37 : compFunc Tryz.prog 37 = some a37 := by kernel_rfl
def clerestoryref2_Signed_post (r : (List UInt8)) : AV → Heap → Nat → Prop := fun v h' n' => v = (S r) ∧ (h' = (fun _ => none)) ∧ n' = 0
def clerestoryref2_Signed_Rec (mL : Int) (recf : Int → Option (List UInt8)) : Prop := ∀ (n_ : Int) (r : (List UInt8)), recf n_ = some r → CPure Tryz.prog (GG mL) 37 [(I n_)] (S r)
/-- clerestory/clerestoryref2.Signed -/
noncomputable def clerestoryref2_Signed_r : Nat → Int → Option (List UInt8)
  | 0, _ => none
  | k + 1, n_ =>
    if decide (n_ ≤ (-10)) then
      ((clerestoryref2_Signed_r k) (wi (n_.tdiv 10))).bind fun r_ =>
      (clerestoryref2_Digits (wi (0 - (n_.tmod 10)))).bind fun r_1 =>
      (cat? r_ r_1).bind fun r_2 =>
      some r_2
    else
      if decide (n_ < 0) then
        (clerestoryref2_Digits (wi (0 - n_))).bind fun r_3 =>
        (cat? [45] r_3).bind fun r_4 =>
        some r_4
      else
        (clerestoryref2_Digits n_).bind fun r_5 =>
        some r_5
noncomputable def clerestoryref2_Signed (n_ : Int) : Option (List UInt8) :=
  lim fun kr => clerestoryref2_Signed_r kr n_
theorem clerestoryref2_Signed_r_ok {mL : Int} (k : Nat) : clerestoryref2_Signed_Rec mL (clerestoryref2_Signed_r k) := by
  induction k with
  | zero => intro n_ r h; cases h
  | succ k hrec =>
  intro n_ r h
  refine acalls_of_sv hmix c37 (R := clerestoryref2_Signed_post r) ?_
  rw [clerestoryref2_Signed_r] at h
  refine Sv.seq ?_
  refine Sv.region ?_
  refine un (a1 rfl ?_)
  refine dnil ?_
  refine Sv.seq ?_
  refine Sv.seq ?_
  refine Sv.region ?_
  refine un (a1 rfl ?_)
  refine un (a1 (v := (B (decide (n_ ≤ (-10))))) rfl ?_)
  refine dnil ?_
  refine Sv.cond (b := decide (n_ ≤ (-10))) rfl (fun hc1 => ?_) (fun hc1 => ?_)
  · replace h := ifT hc1 h
    refine Sv.seq ?_
    refine Sv.region ?_
    refine un (a1 rfl ?_)
    refine un (a1 (v := (I (wi (n_.tdiv 10)))) rfl ?_)
    obtain ⟨r_, hr1, h⟩ := bnd h
    refine un (ac_pure (hrec (wi (n_.tdiv 10)) _ hr1) rfl rfl rfl ?_)
    refine un (a1 rfl ?_)
    refine un (a1 (v := (I (n_.tmod 10))) rfl ?_)
    refine un (a1 (v := (I (wi (0 - (n_.tmod 10))))) rfl ?_)
    obtain ⟨r_1, hr2, h⟩ := bnd h
    refine un (ac_pure (clerestoryref2_Digits_ok hr2) rfl rfl rfl ?_)
    obtain ⟨r_2, hx1, h⟩ := bnd h
    refine un (a1 (v := (S r_2)) (s_cat rfl rfl hx1) ?_)
    refine un (a1 rfl ?_)
    refine dnil ?_
    refine Sv.ret ?_
    replace h := Option.some.inj h
    subst h
    exact ⟨_, .refl _, _, rfl, ⟨upd (fun _ => none) 0 (some (S r_2)), (fun _ => none), 0⟩, (S r_2), weak_canon [] rfl List.nodup_nil (Nat.le_refl _) (fun b h => absurd h (Nat.not_lt_zero _)) (.cons rfl (avAs_free rfl) .nil) .nil, rfl, rfl, rfl, rfl⟩
  · replace h := ifF hc1 h
    refine Sv.skip ?_
    refine Sv.seq ?_
    refine Sv.seq ?_
    refine Sv.region ?_
    refine un (a1 rfl ?_)
    refine un (a1 (v := (B (decide (n_ < 0)))) rfl ?_)
    refine dnil ?_
    refine Sv.cond (b := decide (n_ < 0)) rfl (fun hc2 => ?_) (fun hc2 => ?_)
    · replace h := ifT hc2 h
      refine Sv.seq ?_
      refine Sv.region ?_
      refine un (a1 rfl ?_)
      refine un (a1 (v := (I (wi (0 - n_)))) rfl ?_)
      obtain ⟨r_3, hr3, h⟩ := bnd h
      refine un (ac_pure (clerestoryref2_Digits_ok hr3) rfl rfl rfl ?_)
      obtain ⟨r_4, hx2, h⟩ := bnd h
      refine un (a1 (v := (S r_4)) (s_cat rfl rfl hx2) ?_)
      refine un (a1 rfl ?_)
      refine dnil ?_
      refine Sv.ret ?_
      replace h := Option.some.inj h
      subst h
      exact ⟨_, .refl _, _, rfl, ⟨upd (fun _ => none) 0 (some (S r_4)), (fun _ => none), 0⟩, (S r_4), weak_canon [] rfl List.nodup_nil (Nat.le_refl _) (fun b h => absurd h (Nat.not_lt_zero _)) (.cons rfl (avAs_free rfl) .nil) .nil, rfl, rfl, rfl, rfl⟩
    · replace h := ifF hc2 h
      refine Sv.skip ?_
      refine Sv.seq ?_
      refine Sv.region ?_
      refine un (a1 rfl ?_)
      obtain ⟨r_5, hr4, h⟩ := bnd h
      refine un (ac_pure (clerestoryref2_Digits_ok hr4) rfl rfl rfl ?_)
      refine un (a1 rfl ?_)
      refine dnil ?_
      refine Sv.ret ?_
      replace h := Option.some.inj h
      subst h
      exact ⟨_, .refl _, _, rfl, ⟨upd (fun _ => none) 0 (some (S r_5)), (fun _ => none), 0⟩, (S r_5), weak_canon [] rfl List.nodup_nil (Nat.le_refl _) (fun b h => absurd h (Nat.not_lt_zero _)) (.cons rfl (avAs_free rfl) .nil) .nil, rfl, rfl, rfl, rfl⟩
theorem clerestoryref2_Signed_ok {mL : Int} {n_ : Int} {r : (List UInt8)} (h : clerestoryref2_Signed n_ = some r) : CPure Tryz.prog (GG mL) 37 [(I n_)] (S r) := by
  unfold clerestoryref2_Signed at h
  obtain ⟨k, h⟩ := lim_some h
  exact clerestoryref2_Signed_r_ok k n_  r h
def a21 : AFunc := ⟨1, [(.tmp 2)], (.seq (.region [⟨(some 1), (.box (.tmp 0)), none⟩, ⟨(some 2), (.mov (.const (.c (.str [])))), none⟩])
 (.seq (.seq (.region [⟨(some 3), (.faddr 0 (.tmp 1)), none⟩, ⟨(some 4), (.load false 1 (.tmp 3)), none⟩, ⟨(some 5), (.bin .eql (.tmp 4) (.const (.c (.val (.int .i64 1))))), none⟩])
 (.cond (.tmp 5) (.seq (.region [⟨(some 2), (.mov (.const (.c (.str [97, 108, 108])))), none⟩])
 .ret) .skip))
 (.seq (.seq (.region [⟨(some 6), (.faddr 0 (.tmp 1)), none⟩, ⟨(some 7), (.load false 1 (.tmp 6)), none⟩, ⟨(some 8), (.bin .eql (.tmp 7) (.const (.c (.val (.int .i64 2))))), none⟩])
 (.cond (.tmp 8) (.seq (.region [⟨(some 2), (.mov (.const (.c (.str [115, 99, 114, 101, 101, 110])))), none⟩])
 .ret) .skip))
 (.seq (.seq (.region [⟨(some 9), (.faddr 0 (.tmp 1)), none⟩, ⟨(some 10), (.load false 1 (.tmp 9)), none⟩, ⟨(some 11), (.bin .eql (.tmp 10) (.const (.c (.val (.int .i64 3))))), none⟩])
 (.cond (.tmp 11) (.seq (.region [⟨(some 2), (.mov (.const (.c (.str [112, 114, 105, 110, 116])))), none⟩])
 .ret) .skip))
 (.seq (.seq (.region [⟨(some 12), (.faddr 0 (.tmp 1)), none⟩, ⟨(some 13), (.load false 1 (.tmp 12)), none⟩, ⟨(some 14), (.bin .eql (.tmp 13) (.const (.c (.val (.int .i64 4))))), none⟩])
 (.cond (.tmp 14) (.seq (.region [⟨(some 15), (.faddr 1 (.tmp 1)), none⟩, ⟨(some 16), (.load false 1 (.tmp 15)), none⟩, ⟨(some 17), (.call 37 [(.tmp 16)]), none⟩, ⟨(some 18), (.bin .add (.const (.c (.str [40, 109, 105, 110, 45, 119, 105, 100, 116, 104, 58, 32]))) (.tmp 17)), none⟩, ⟨(some 19), (.bin .add (.tmp 18) (.const (.c (.str [112, 120, 41])))), none⟩, ⟨(some 2), (.mov (.tmp 19)), none⟩])
 .ret) .skip))
 (.seq (.seq (.region [⟨(some 20), (.faddr 0 (.tmp 1)), none⟩, ⟨(some 21), (.load false 1 (.tmp 20)), none⟩, ⟨(some 22), (.bin .eql (.tmp 21) (.const (.c (.val (.int .i64 5))))), none⟩])
 (.cond (.tmp 22) (.seq (.region [⟨(some 23), (.faddr 1 (.tmp 1)), none⟩, ⟨(some 24), (.load false 1 (.tmp 23)), none⟩, ⟨(some 25), (.call 37 [(.tmp 24)]), none⟩, ⟨(some 26), (.bin .add (.const (.c (.str [40, 109, 97, 120, 45, 119, 105, 100, 116, 104, 58, 32]))) (.tmp 25)), none⟩, ⟨(some 27), (.bin .add (.tmp 26) (.const (.c (.str [112, 120, 41])))), none⟩, ⟨(some 2), (.mov (.tmp 27)), none⟩])
 .ret) .skip))
 (.seq (.seq (.region [⟨(some 28), (.faddr 0 (.tmp 1)), none⟩, ⟨(some 29), (.load false 1 (.tmp 28)), none⟩, ⟨(some 30), (.bin .eql (.tmp 29) (.const (.c (.val (.int .i64 6))))), none⟩])
 (.cond (.tmp 30) (.seq (.region [⟨(some 31), (.faddr 1 (.tmp 1)), none⟩, ⟨(some 32), (.load false 1 (.tmp 31)), none⟩, ⟨(some 33), (.call 37 [(.tmp 32)]), none⟩, ⟨(some 34), (.bin .add (.const (.c (.str [40, 109, 105, 110, 45, 104, 101, 105, 103, 104, 116, 58, 32]))) (.tmp 33)), none⟩, ⟨(some 35), (.bin .add (.tmp 34) (.const (.c (.str [112, 120, 41])))), none⟩, ⟨(some 2), (.mov (.tmp 35)), none⟩])
 .ret) .skip))
 (.seq (.seq (.region [⟨(some 36), (.faddr 0 (.tmp 1)), none⟩, ⟨(some 37), (.load false 1 (.tmp 36)), none⟩, ⟨(some 38), (.bin .eql (.tmp 37) (.const (.c (.val (.int .i64 7))))), none⟩])
 (.cond (.tmp 38) (.seq (.region [⟨(some 39), (.faddr 1 (.tmp 1)), none⟩, ⟨(some 40), (.load false 1 (.tmp 39)), none⟩, ⟨(some 41), (.call 37 [(.tmp 40)]), none⟩, ⟨(some 42), (.bin .add (.const (.c (.str [40, 109, 97, 120, 45, 104, 101, 105, 103, 104, 116, 58, 32]))) (.tmp 41)), none⟩, ⟨(some 43), (.bin .add (.tmp 42) (.const (.c (.str [112, 120, 41])))), none⟩, ⟨(some 2), (.mov (.tmp 43)), none⟩])
 .ret) .skip))
 (.seq (.seq (.region [⟨(some 44), (.faddr 0 (.tmp 1)), none⟩, ⟨(some 45), (.load false 1 (.tmp 44)), none⟩, ⟨(some 46), (.bin .eql (.tmp 45) (.const (.c (.val (.int .i64 8))))), none⟩])
 (.cond (.tmp 46) (.seq (.region [⟨(some 2), (.mov (.const (.c (.str [40, 112, 114, 101, 102, 101, 114, 115, 45, 99, 111, 108, 111, 114, 45, 115, 99, 104, 101, 109, 101, 58, 32, 100, 97, 114, 107, 41])))), none⟩])
 .ret) .skip))
 (.seq (.seq (.region [⟨(some 47), (.faddr 0 (.tmp 1)), none⟩, ⟨(some 48), (.load false 1 (.tmp 47)), none⟩, ⟨(some 49), (.bin .eql (.tmp 48) (.const (.c (.val (.int .i64 9))))), none⟩])
 (.cond (.tmp 49) (.seq (.region [⟨(some 2), (.mov (.const (.c (.str [40, 112, 114, 101, 102, 101, 114, 115, 45, 99, 111, 108, 111, 114, 45, 115, 99, 104, 101, 109, 101, 58, 32, 108, 105, 103, 104, 116, 41])))), none⟩])
 .ret) .skip))
 (.seq (.seq (.region [⟨(some 50), (.faddr 0 (.tmp 1)), none⟩, ⟨(some 51), (.load false 1 (.tmp 50)), none⟩, ⟨(some 52), (.bin .eql (.tmp 51) (.const (.c (.val (.int .i64 10))))), none⟩])
 (.cond (.tmp 52) (.seq (.region [⟨(some 2), (.mov (.const (.c (.str [40, 111, 114, 105, 101, 110, 116, 97, 116, 105, 111, 110, 58, 32, 112, 111, 114, 116, 114, 97, 105, 116, 41])))), none⟩])
 .ret) .skip))
 (.seq (.seq (.region [⟨(some 53), (.faddr 0 (.tmp 1)), none⟩, ⟨(some 54), (.load false 1 (.tmp 53)), none⟩, ⟨(some 55), (.bin .eql (.tmp 54) (.const (.c (.val (.int .i64 11))))), none⟩])
 (.cond (.tmp 55) (.seq (.region [⟨(some 2), (.mov (.const (.c (.str [40, 111, 114, 105, 101, 110, 116, 97, 116, 105, 111, 110, 58, 32, 108, 97, 110, 100, 115, 99, 97, 112, 101, 41])))), none⟩])
 .ret) .skip))
 (.seq (.region [⟨(some 2), (.mov (.const (.c (.str [40, 63, 41])))), none⟩])
 .ret)))))))))))))⟩
set_option maxRecDepth 100000 in
theorem c21 : compFunc Tryz.prog 21 = some a21 := by kernel_rfl
def clerestoryref2_FeatureText_post (r : (List UInt8)) : AV → Heap → Nat → Prop := fun v h' n' => v = (S r) ∧ (h' = (fun _ => none)) ∧ n' = 0
/-- clerestory/clerestoryref2.FeatureText -/
noncomputable def clerestoryref2_FeatureText (f_ : TSFeature) : Option (List UInt8) :=
  if decide (f_.Kind = 1) then
    some [97, 108, 108]
  else
    if decide (f_.Kind = 2) then
      some [115, 99, 114, 101, 101, 110]
    else
      if decide (f_.Kind = 3) then
        some [112, 114, 105, 110, 116]
      else
        if decide (f_.Kind = 4) then
          (clerestoryref2_Signed f_.Num).bind fun r_ =>
          (cat? [40, 109, 105, 110, 45, 119, 105, 100, 116, 104, 58, 32] r_).bind fun r_1 =>
          (cat? r_1 [112, 120, 41]).bind fun r_2 =>
          some r_2
        else
          if decide (f_.Kind = 5) then
            (clerestoryref2_Signed f_.Num).bind fun r_3 =>
            (cat? [40, 109, 97, 120, 45, 119, 105, 100, 116, 104, 58, 32] r_3).bind fun r_4 =>
            (cat? r_4 [112, 120, 41]).bind fun r_5 =>
            some r_5
          else
            if decide (f_.Kind = 6) then
              (clerestoryref2_Signed f_.Num).bind fun r_6 =>
              (cat? [40, 109, 105, 110, 45, 104, 101, 105, 103, 104, 116, 58, 32] r_6).bind fun r_7 =>
              (cat? r_7 [112, 120, 41]).bind fun r_8 =>
              some r_8
            else
              if decide (f_.Kind = 7) then
                (clerestoryref2_Signed f_.Num).bind fun r_9 =>
                (cat? [40, 109, 97, 120, 45, 104, 101, 105, 103, 104, 116, 58, 32] r_9).bind fun r_10 =>
                (cat? r_10 [112, 120, 41]).bind fun r_11 =>
                some r_11
              else
                if decide (f_.Kind = 8) then
                  some [40, 112, 114, 101, 102, 101, 114, 115, 45, 99, 111, 108, 111, 114, 45, 115, 99, 104, 101, 109, 101, 58, 32, 100, 97, 114, 107, 41]
                else
                  if decide (f_.Kind = 9) then
                    some [40, 112, 114, 101, 102, 101, 114, 115, 45, 99, 111, 108, 111, 114, 45, 115, 99, 104, 101, 109, 101, 58, 32, 108, 105, 103, 104, 116, 41]
                  else
                    if decide (f_.Kind = 10) then
                      some [40, 111, 114, 105, 101, 110, 116, 97, 116, 105, 111, 110, 58, 32, 112, 111, 114, 116, 114, 97, 105, 116, 41]
                    else
                      if decide (f_.Kind = 11) then
                        some [40, 111, 114, 105, 101, 110, 116, 97, 116, 105, 111, 110, 58, 32, 108, 97, 110, 100, 115, 99, 97, 112, 101, 41]
                      else
                        some [40, 63, 41]
theorem clerestoryref2_FeatureText_ok {mL : Int} {f_ : TSFeature} {r : (List UInt8)} (h : clerestoryref2_FeatureText f_ = some r) : CPure Tryz.prog (GG mL) 21 [(.agg [cI f_.Kind, cI f_.Num])] (S r) := by
  refine acalls_of_sv hmix c21 (R := clerestoryref2_FeatureText_post r) ?_
  unfold clerestoryref2_FeatureText at h
  refine Sv.seq ?_
  refine Sv.region ?_
  refine un (a2v (v := (.c (.ref 0 2 0 0))) (h' := upd _ 0 (some (.cells 2 [[cI f_.Kind, cI f_.Num]]))) (n' := 1) rfl rfl (fun h => by cases h) ?_)
  refine un (a1 rfl ?_)
  refine dnil ?_
  refine Sv.seq ?_
  refine Sv.seq ?_
  refine Sv.region ?_
  refine un (a1 (v := (.c (.ref 0 2 0 0))) rfl ?_)
  refine un (a1 (v := (I f_.Kind)) rfl ?_)
  refine un (a1 (v := (B (decide (f_.Kind = 1)))) rfl ?_)
  refine dnil ?_
  refine Sv.cond (b := decide (f_.Kind = 1)) rfl (fun hc1 => ?_) (fun hc1 => ?_)
  · replace h := ifT hc1 h
    refine Sv.seq ?_
    refine Sv.region ?_
    refine un (a1 rfl ?_)
    refine dnil ?_
    refine Sv.ret ?_
    replace h := Option.some.inj h
    subst h
    exact ⟨_, .refl _, _, rfl, ⟨upd (fun _ => none) 0 (some (S [97, 108, 108])), (fun _ => none), 0⟩, (S [97, 108, 108]), weak_canon [] rfl List.nodup_nil (Nat.le_refl _) (fun b h => absurd h (Nat.not_lt_zero _)) (.cons rfl (avAs_free rfl) .nil) .nil, rfl, rfl, rfl, rfl⟩
  · replace h := ifF hc1 h
    refine Sv.skip ?_
    refine Sv.seq ?_
    refine Sv.seq ?_
    refine Sv.region ?_
    refine un (a1 (v := (.c (.ref 0 2 0 0))) rfl ?_)
    refine un (a1 (v := (I f_.Kind)) rfl ?_)
    refine un (a1 (v := (B (decide (f_.Kind = 2)))) rfl ?_)
    refine dnil ?_
    refine Sv.cond (b := decide (f_.Kind = 2)) rfl (fun hc2 => ?_) (fun hc2 => ?_)
    · replace h := ifT hc2 h
      refine Sv.seq ?_
      refine Sv.region ?_
      refine un (a1 rfl ?_)
      refine dnil ?_
      refine Sv.ret ?_
      replace h := Option.some.inj h
      subst h
      exact ⟨_, .refl _, _, rfl, ⟨upd (fun _ => none) 0 (some (S [115, 99, 114, 101, 101, 110])), (fun _ => none), 0⟩, (S [115, 99, 114, 101, 101, 110]), weak_canon [] rfl List.nodup_nil (Nat.le_refl _) (fun b h => absurd h (Nat.not_lt_zero _)) (.cons rfl (avAs_free rfl) .nil) .nil, rfl, rfl, rfl, rfl⟩
    · replace h := ifF hc2 h
      refine Sv.skip ?_
      refine Sv.seq ?_
      refine Sv.seq ?_
      refine Sv.region ?_
      refine un (a1 (v := (.c (.ref 0 2 0 0))) rfl ?_)
      refine un (a1 (v := (I f_.Kind)) rfl ?_)
      refine un (a1 (v := (B (decide (f_.Kind = 3)))) rfl ?_)
      refine dnil ?_
      refine Sv.cond (b := decide (f_.Kind = 3)) rfl (fun hc3 => ?_) (fun hc3 => ?_)
      · replace h := ifT hc3 h
        refine Sv.seq ?_
        refine Sv.region ?_
        refine un (a1 rfl ?_)
        refine dnil ?_
        refine Sv.ret ?_
        replace h := Option.some.inj h
        subst h
        exact ⟨_, .refl _, _, rfl, ⟨upd (fun _ => none) 0 (some (S [112, 114, 105, 110, 116])), (fun _ => none), 0⟩, (S [112, 114, 105, 110, 116]), weak_canon [] rfl List.nodup_nil (Nat.le_refl _) (fun b h => absurd h (Nat.not_lt_zero _)) (.cons rfl (avAs_free rfl) .nil) .nil, rfl, rfl, rfl, rfl⟩
      · replace h := ifF hc3 h
        refine Sv.skip ?_
        refine Sv.seq ?_
        refine Sv.seq ?_
        refine Sv.region ?_
        refine un (a1 (v := (.c (.ref 0 2 0 0))) rfl ?_)
        refine un (a1 (v := (I f_.Kind)) rfl ?_)
        refine un (a1 (v := (B (decide (f_.Kind = 4)))) rfl ?_)
        refine dnil ?_
        refine Sv.cond (b := decide (f_.Kind = 4)) rfl (fun hc4 => ?_) (fun hc4 => ?_)
        · replace h := ifT hc4 h
          refine Sv.seq ?_
          refine Sv.region ?_
          refine un (a1 (v := (.c (.ref 0 2 0 1))) rfl ?_)
          refine un (a1 (v := (I f_.Num)) rfl ?_)
          obtain ⟨r_, hr1, h⟩ := bnd h
          refine un (ac_pure (clerestoryref2_Signed_ok hr1) rfl rfl rfl ?_)
          obtain ⟨r_1, hx1, h⟩ := bnd h
          refine un (a1 (v := (S r_1)) (s_cat rfl rfl hx1) ?_)
          obtain ⟨r_2, hx2, h⟩ := bnd h
          refine un (a1 (v := (S r_2)) (s_cat rfl rfl hx2) ?_)
          refine un (a1 rfl ?_)
          refine dnil ?_
          refine Sv.ret ?_
          replace h := Option.some.inj h
          subst h
          exact ⟨_, .refl _, _, rfl, ⟨upd (fun _ => none) 0 (some (S r_2)), (fun _ => none), 0⟩, (S r_2), weak_canon [] rfl List.nodup_nil (Nat.le_refl _) (fun b h => absurd h (Nat.not_lt_zero _)) (.cons rfl (avAs_free rfl) .nil) .nil, rfl, rfl, rfl, rfl⟩
        · replace h := ifF hc4 h
          refine Sv.skip ?_
          refine Sv.seq ?_
          refine Sv.seq ?_
          refine Sv.region ?_
          refine un (a1 (v := (.c (.ref 0 2 0 0))) rfl ?_)
          refine un (a1 (v := (I f_.Kind)) rfl ?_)
          refine un (a1 (v := (B (decide (f_.Kind = 5)))) rfl ?_)
          refine dnil ?_
          refine Sv.cond (b := decide (f_.Kind = 5)) rfl (fun hc5 => ?_) (fun hc5 => ?_)
          · replace h := ifT hc5 h
            refine Sv.seq ?_
            refine Sv.region ?_
            refine un (a1 (v := (.c (.ref 0 2 0 1))) rfl ?_)
            refine un (a1 (v := (I f_.Num)) rfl ?_)
            obtain ⟨r_3, hr2, h⟩ := bnd h
            refine un (ac_pure (clerestoryref2_Signed_ok hr2) rfl rfl rfl ?_)
            obtain ⟨r_4, hx3, h⟩ := bnd h
            refine un (a1 (v := (S r_4)) (s_cat rfl rfl hx3) ?_)
            obtain ⟨r_5, hx4, h⟩ := bnd h
            refine un (a1 (v := (S r_5)) (s_cat rfl rfl hx4) ?_)
            refine un (a1 rfl ?_)
            refine dnil ?_
            refine Sv.ret ?_
            replace h := Option.some.inj h
            subst h
            exact ⟨_, .refl _, _, rfl, ⟨upd (fun _ => none) 0 (some (S r_5)), (fun _ => none), 0⟩, (S r_5), weak_canon [] rfl List.nodup_nil (Nat.le_refl _) (fun b h => absurd h (Nat.not_lt_zero _)) (.cons rfl (avAs_free rfl) .nil) .nil, rfl, rfl, rfl, rfl⟩
          · replace h := ifF hc5 h
            refine Sv.skip ?_
            refine Sv.seq ?_
            refine Sv.seq ?_
            refine Sv.region ?_
            refine un (a1 (v := (.c (.ref 0 2 0 0))) rfl ?_)
            refine un (a1 (v := (I f_.Kind)) rfl ?_)
            refine un (a1 (v := (B (decide (f_.Kind = 6)))) rfl ?_)
            refine dnil ?_
            refine Sv.cond (b := decide (f_.Kind = 6)) rfl (fun hc6 => ?_) (fun hc6 => ?_)
            · replace h := ifT hc6 h
              refine Sv.seq ?_
              refine Sv.region ?_
              refine un (a1 (v := (.c (.ref 0 2 0 1))) rfl ?_)
              refine un (a1 (v := (I f_.Num)) rfl ?_)
              obtain ⟨r_6, hr3, h⟩ := bnd h
              refine un (ac_pure (clerestoryref2_Signed_ok hr3) rfl rfl rfl ?_)
              obtain ⟨r_7, hx5, h⟩ := bnd h
              refine un (a1 (v := (S r_7)) (s_cat rfl rfl hx5) ?_)
              obtain ⟨r_8, hx6, h⟩ := bnd h
              refine un (a1 (v := (S r_8)) (s_cat rfl rfl hx6) ?_)
              refine un (a1 rfl ?_)
              refine dnil ?_
              refine Sv.ret ?_
              replace h := Option.some.inj h
              subst h
              exact ⟨_, .refl _, _, rfl, ⟨upd (fun _ => none) 0 (some (S r_8)), (fun _ => none), 0⟩, (S r_8), weak_canon [] rfl List.nodup_nil (Nat.le_refl _) (fun b h => absurd h (Nat.not_lt_zero _)) (.cons rfl (avAs_free rfl) .nil) .nil, rfl, rfl, rfl, rfl⟩
            · replace h := ifF hc6 h
              refine Sv.skip ?_
              refine Sv.seq ?_
              refine Sv.seq ?_
              refine Sv.region ?_
              refine un (a1 (v := (.c (.ref 0 2 0 0))) rfl ?_)
              refine un (a1 (v := (I f_.Kind)) rfl ?_)
              refine un (a1 (v := (B (decide (f_.Kind = 7)))) rfl ?_)
              refine dnil ?_
              refine Sv.cond (b := decide (f_.Kind = 7)) rfl (fun hc7 => ?_) (fun hc7 => ?_)
              · replace h := ifT hc7 h
                refine Sv.seq ?_
                refine Sv.region ?_
                refine un (a1 (v := (.c (.ref 0 2 0 1))) rfl ?_)
                refine un (a1 (v := (I f_.Num)) rfl ?_)
                obtain ⟨r_9, hr4, h⟩ := bnd h
                refine un (ac_pure (clerestoryref2_Signed_ok hr4) rfl rfl rfl ?_)
                obtain ⟨r_10, hx7, h⟩ := bnd h
                refine un (a1 (v := (S r_10)) (s_cat rfl rfl hx7) ?_)
                obtain ⟨r_11, hx8, h⟩ := bnd h
                refine un (a1 (v := (S r_11)) (s_cat rfl rfl hx8) ?_)
                refine un (a1 rfl ?_)
                refine dnil ?_
                refine Sv.ret ?_
                replace h := Option.some.inj h
                subst h
                exact ⟨_, .refl _, _, rfl, ⟨upd (fun _ => none) 0 (some (S r_11)), (fun _ => none), 0⟩, (S r_11), weak_canon [] rfl List.nodup_nil (Nat.le_refl _) (fun b h => absurd h (Nat.not_lt_zero _)) (.cons rfl (avAs_free rfl) .nil) .nil, rfl, rfl, rfl, rfl⟩
              · replace h := ifF hc7 h
                refine Sv.skip ?_
                refine Sv.seq ?_
                refine Sv.seq ?_
                refine Sv.region ?_
                refine un (a1 (v := (.c (.ref 0 2 0 0))) rfl ?_)
                refine un (a1 (v := (I f_.Kind)) rfl ?_)
                refine un (a1 (v := (B (decide (f_.Kind = 8)))) rfl ?_)
                refine dnil ?_
                refine Sv.cond (b := decide (f_.Kind = 8)) rfl (fun hc8 => ?_) (fun hc8 => ?_)
                · replace h := ifT hc8 h
                  refine Sv.seq ?_
                  refine Sv.region ?_
                  refine un (a1 rfl ?_)
                  refine dnil ?_
                  refine Sv.ret ?_
                  replace h := Option.some.inj h
                  subst h
                  exact ⟨_, .refl _, _, rfl, ⟨upd (fun _ => none) 0 (some (S [40, 112, 114, 101, 102, 101, 114, 115, 45, 99, 111, 108, 111, 114, 45, 115, 99, 104, 101, 109, 101, 58, 32, 100, 97, 114, 107, 41])), (fun _ => none), 0⟩, (S [40, 112, 114, 101, 102, 101, 114, 115, 45, 99, 111, 108, 111, 114, 45, 115, 99, 104, 101, 109, 101, 58, 32, 100, 97, 114, 107, 41]), weak_canon [] rfl List.nodup_nil (Nat.le_refl _) (fun b h => absurd h (Nat.not_lt_zero _)) (.cons rfl (avAs_free rfl) .nil) .nil, rfl, rfl, rfl, rfl⟩
                · replace h := ifF hc8 h
                  refine Sv.skip ?_
                  refine Sv.seq ?_
                  refine Sv.seq ?_
                  refine Sv.region ?_
                  refine un (a1 (v := (.c (.ref 0 2 0 0))) rfl ?_)
                  refine un (a1 (v := (I f_.Kind)) rfl ?_)
                  refine un (a1 (v := (B (decide (f_.Kind = 9)))) rfl ?_)
                  refine dnil ?_
                  refine Sv.cond (b := decide (f_.Kind = 9)) rfl (fun hc9 => ?_) (fun hc9 => ?_)
                  · replace h := ifT hc9 h
                    refine Sv.seq ?_
                    refine Sv.region ?_
                    refine un (a1 rfl ?_)
                    refine dnil ?_
                    refine Sv.ret ?_
                    replace h := Option.some.inj h
                    subst h
                    exact ⟨_, .refl _, _, rfl, ⟨upd (fun _ => none) 0 (some (S [40, 112, 114, 101, 102, 101, 114, 115, 45, 99, 111, 108, 111, 114, 45, 115, 99, 104, 101, 109, 101, 58, 32, 108, 105, 103, 104, 116, 41])), (fun _ => none), 0⟩, (S [40, 112, 114, 101, 102, 101, 114, 115, 45, 99, 111, 108, 111, 114, 45, 115, 99, 104, 101, 109, 101, 58, 32, 108, 105, 103, 104, 116, 41]), weak_canon [] rfl List.nodup_nil (Nat.le_refl _) (fun b h => absurd h (Nat.not_lt_zero _)) (.cons rfl (avAs_free rfl) .nil) .nil, rfl, rfl, rfl, rfl⟩
                  · replace h := ifF hc9 h
                    refine Sv.skip ?_
                    refine Sv.seq ?_
                    refine Sv.seq ?_
                    refine Sv.region ?_
                    refine un (a1 (v := (.c (.ref 0 2 0 0))) rfl ?_)
                    refine un (a1 (v := (I f_.Kind)) rfl ?_)
                    refine un (a1 (v := (B (decide (f_.Kind = 10)))) rfl ?_)
                    refine dnil ?_
                    refine Sv.cond (b := decide (f_.Kind = 10)) rfl (fun hc10 => ?_) (fun hc10 => ?_)
                    · replace h := ifT hc10 h
                      refine Sv.seq ?_
                      refine Sv.region ?_
                      refine un (a1 rfl ?_)
                      refine dnil ?_
                      refine Sv.ret ?_
                      replace h := Option.some.inj h
                      subst h
                      exact ⟨_, .refl _, _, rfl, ⟨upd (fun _ => none) 0 (some (S [40, 111, 114, 105, 101, 110, 116, 97, 116, 105, 111, 110, 58, 32, 112, 111, 114, 116, 114, 97, 105, 116, 41])), (fun _ => none), 0⟩, (S [40, 111, 114, 105, 101, 110, 116, 97, 116, 105, 111, 110, 58, 32, 112, 111, 114, 116, 114, 97, 105, 116, 41]), weak_canon [] rfl List.nodup_nil (Nat.le_refl _) (fun b h => absurd h (Nat.not_lt_zero _)) (.cons rfl (avAs_free rfl) .nil) .nil, rfl, rfl, rfl, rfl⟩
                    · replace h := ifF hc10 h
                      refine Sv.skip ?_
                      refine Sv.seq ?_
                      refine Sv.seq ?_
                      refine Sv.region ?_
                      refine un (a1 (v := (.c (.ref 0 2 0 0))) rfl ?_)
                      refine un (a1 (v := (I f_.Kind)) rfl ?_)
                      refine un (a1 (v := (B (decide (f_.Kind = 11)))) rfl ?_)
                      refine dnil ?_
                      refine Sv.cond (b := decide (f_.Kind = 11)) rfl (fun hc11 => ?_) (fun hc11 => ?_)
                      · replace h := ifT hc11 h
                        refine Sv.seq ?_
                        refine Sv.region ?_
                        refine un (a1 rfl ?_)
                        refine dnil ?_
                        refine Sv.ret ?_
                        replace h := Option.some.inj h
                        subst h
                        exact ⟨_, .refl _, _, rfl, ⟨upd (fun _ => none) 0 (some (S [40, 111, 114, 105, 101, 110, 116, 97, 116, 105, 111, 110, 58, 32, 108, 97, 110, 100, 115, 99, 97, 112, 101, 41])), (fun _ => none), 0⟩, (S [40, 111, 114, 105, 101, 110, 116, 97, 116, 105, 111, 110, 58, 32, 108, 97, 110, 100, 115, 99, 97, 112, 101, 41]), weak_canon [] rfl List.nodup_nil (Nat.le_refl _) (fun b h => absurd h (Nat.not_lt_zero _)) (.cons rfl (avAs_free rfl) .nil) .nil, rfl, rfl, rfl, rfl⟩
                      · replace h := ifF hc11 h
                        refine Sv.skip ?_
                        refine Sv.seq ?_
                        refine Sv.region ?_
                        refine un (a1 rfl ?_)
                        refine dnil ?_
                        refine Sv.ret ?_
                        replace h := Option.some.inj h
                        subst h
                        exact ⟨_, .refl _, _, rfl, ⟨upd (fun _ => none) 0 (some (S [40, 63, 41])), (fun _ => none), 0⟩, (S [40, 63, 41]), weak_canon [] rfl List.nodup_nil (Nat.le_refl _) (fun b h => absurd h (Nat.not_lt_zero _)) (.cons rfl (avAs_free rfl) .nil) .nil, rfl, rfl, rfl, rfl⟩
def a11_c2 : ACode := (.region [⟨(some 37), (.mov (.tmp 3)), none⟩, ⟨(some 38), (.mov (.tmp 0)), none⟩, ⟨(some 39), (.mov (.tmp 4)), none⟩, ⟨(some 40), (.iaddr 2 (.tmp 38) (.tmp 39)), none⟩, ⟨(some 41), (.faddr 1 (.tmp 40)), none⟩, ⟨(some 42), (.load false 1 (.tmp 41)), none⟩, ⟨(some 43), (.mov (.tmp 5)), none⟩, ⟨(some 44), (.iaddr 2 (.tmp 42) (.tmp 43)), none⟩, ⟨(some 45), (.load true 2 (.tmp 44)), none⟩, ⟨(some 46), (.call 21 [(.tmp 45)]), none⟩, ⟨(some 47), (.bin .add (.tmp 37) (.tmp 46)), none⟩, ⟨(some 3), (.mov (.tmp 47)), none⟩])
def a11_c3 : ACode := (.region [⟨(some 31), (.mov (.tmp 5)), none⟩, ⟨(some 32), (.bin .add (.tmp 31) (.const (.c (.val (.int .i64 1))))), none⟩, ⟨(some 5), (.mov (.tmp 32)), none⟩])
def a11_c4 : ACode := (.seq (.seq (.region [⟨(some 23), (.mov (.tmp 5)), none⟩, ⟨(some 24), (.mov (.tmp 0)), none⟩, ⟨(some 25), (.mov (.tmp 4)), none⟩, ⟨(some 26), (.iaddr 2 (.tmp 24) (.tmp 25)), none⟩, ⟨(some 27), (.faddr 1 (.tmp 26)), none⟩, ⟨(some 28), (.load false 1 (.tmp 27)), none⟩, ⟨(some 29), (.len (.tmp 28)), none⟩, ⟨(some 30), (.bin .lss (.tmp 23) (.tmp 29)), none⟩])
 (.cond (.tmp 30) .skip (.exit 2)))
 (.seq (.block 3 (.seq (.seq (.region [⟨(some 33), (.mov (.tmp 5)), none⟩, ⟨(some 34), (.bin .gtr (.tmp 33) (.const (.c (.val (.int .i64 0))))), none⟩])
 (.cond (.tmp 34) (.region [⟨(some 35), (.mov (.tmp 3)), none⟩, ⟨(some 36), (.bin .add (.tmp 35) (.const (.c (.str [32, 97, 110, 100, 32])))), none⟩, ⟨(some 3), (.mov (.tmp 36)), none⟩]) .skip))
 a11_c2))
 a11_c3))
def a11_c1 : ACode := (.seq (.region [⟨(some 5), (.mov (.const (.c (.val (.int .i64 0))))), none⟩])
 (.block 2 (.loop a11_c4)))
def a11_c0 : ACode := (.seq (.seq (.region [⟨(some 16), (.mov (.tmp 0)), none⟩, ⟨(some 17), (.mov (.tmp 4)), none⟩, ⟨(some 18), (.iaddr 2 (.tmp 16) (.tmp 17)), none⟩, ⟨(some 19), (.faddr 0 (.tmp 18)), none⟩, ⟨(some 20), (.load false 1 (.tmp 19)), none⟩])
 (.cond (.tmp 20) (.region [⟨(some 21), (.mov (.tmp 3)), none⟩, ⟨(some 22), (.bin .add (.tmp 21) (.const (.c (.str [110, 111, 116, 32])))), none⟩, ⟨(some 3), (.mov (.tmp 22)), none⟩]) .skip))
 a11_c1)
def a11_c5 : ACode := (.region [⟨(some 10), (.mov (.tmp 4)), none⟩, ⟨(some 11), (.bin .add (.tmp 10) (.const (.c (.val (.int .i64 1))))), none⟩, ⟨(some 4), (.mov (.tmp 11)), none⟩])
def a11_c6 : ACode := (.seq (.seq (.region [⟨(some 6), (.mov (.tmp 4)), none⟩, ⟨(some 7), (.mov (.tmp 0)), none⟩, ⟨(some 8), (.len (.tmp 7)), none⟩, ⟨(some 9), (.bin .lss (.tmp 6) (.tmp 8)), none⟩])
 (.cond (.tmp 9) .skip (.exit 0)))
 (.seq (.block 1 (.seq (.seq (.region [⟨(some 12), (.mov (.tmp 4)), none⟩, ⟨(some 13), (.bin .gtr (.tmp 12) (.const (.c (.val (.int .i64 0))))), none⟩])
 (.cond (.tmp 13) (.region [⟨(some 14), (.mov (.tmp 3)), none⟩, ⟨(some 15), (.bin .add (.tmp 14) (.const (.c (.str [44, 32])))), none⟩, ⟨(some 3), (.mov (.tmp 15)), none⟩]) .skip))
 a11_c0))
 a11_c5))
def a11 : AFunc := ⟨1, [(.tmp 2)], (.seq (.region [⟨(some 2), (.mov (.const (.c (.str [])))), none⟩])
 (.seq (.region [⟨(some 3), (.mov (.const (.c (.str [])))), none⟩])
 (.seq (.seq (.region [⟨(some 4), (.mov (.const (.c (.val (.int .i64 0))))), none⟩])
 (.block 0 (.loop a11_c6)))
 (.seq (.region [⟨(some 48), (.mov (.tmp 3)), none⟩, ⟨(some 2), (.mov (.tmp 48)), none⟩])
 .ret))))⟩
set_option maxRecDepth 100000 in
theorem c11 : compFunc Tryz.prog 11 = some a11 := by kernel_rfl
def clerestoryref2_QueriesText_post (r : (List UInt8)) : AV → Heap → Nat → Prop := fun v h' n' => v = (S r) ∧ (h' = (fun _ => none)) ∧ n' = 0
abbrev clerestoryref2_QueriesText_q0 (mL : Int) (Q : AExit → St → Prop) : AExit → St → Prop := AThen (Sv Tryz.prog (GG mL) 0 a11_c3 Q) Q
abbrev clerestoryref2_QueriesText_q1 (mL : Int) (Q : AExit → St → Prop) : AExit → St → Prop := ABlock 3 (clerestoryref2_QueriesText_q0 mL Q)
abbrev clerestoryref2_QueriesText_l3_H (l_ : (List TSQuery)) (i_ : Int) (F_ : (List UInt8) → Int → Option (List UInt8)) (o : (List UInt8)) (R_ : St → Prop) : Prop := ∀ (s_4 : (List UInt8)) (k_ : Int), F_ s_4 k_ = some o → ∀ s, Weak 0 s ⟨(upd (upd (upd (upd (fun _ => none) 0 (some (.c (.ro false 2 (l_.map e_TSQuery))))) 3 (some (S s_4))) 4 (some (I i_))) 5 (some (I k_))), (fun _ => none), 0⟩ → R_ s
abbrev clerestoryref2_QueriesText_l3_E2 (l_ : (List TSQuery)) (i_ : Int) (F_ : (List UInt8) → Option (List UInt8)) (o : (List UInt8)) (R_ : St → Prop) : Prop := ∀ (s_5 : (List UInt8)), F_ s_5 = some o → ∀ s, Weak 0 s ⟨(upd (upd (upd (fun _ => none) 0 (some (.c (.ro false 2 (l_.map e_TSQuery))))) 3 (some (S s_5))) 4 (some (I i_))), (fun _ => none), 0⟩ → R_ s
noncomputable def clerestoryref2_QueriesText_j15 (l_ : (List TSQuery)) (i_ : Int) (k_ : Int) (self : (List UInt8) → Int → Option (List UInt8)) (K2_ : (List UInt8) → Option (List UInt8)) (s_6 : (List UInt8)) : Option (List UInt8) :=
  (at? l_ i_).bind fun x_1 =>
  (at? x_1.Features k_).bind fun x_2 =>
  (clerestoryref2_FeatureText x_2).bind fun r_ =>
  (cat? s_6 r_).bind fun r_1 =>
  self r_1 (wi (k_ + 1))
theorem clerestoryref2_QueriesText_j15_ok {mL : Int} {Q : AExit → St → Prop} {l_ : (List TSQuery)} {i_ : Int} {k_ : Int} {self : (List UInt8) → Int → Option (List UInt8)} {K2_ : (List UInt8) → Option (List UInt8)} {s_6 : (List UInt8)} {o : (List UInt8)} (h : clerestoryref2_QueriesText_j15 l_ i_ k_ self K2_ s_6 = some o)
    (hself : clerestoryref2_QueriesText_l3_H l_ i_ self o (Q .normal))
    (hK2 : clerestoryref2_QueriesText_l3_E2 l_ i_ K2_ o (Q (.exit 2)))
    (hr : ∀ s, Ends a11.results 0 (clerestoryref2_QueriesText_post o) .ret s → Q .ret s) :
    Sv Tryz.prog (GG mL) 0 a11_c2 (clerestoryref2_QueriesText_q1 mL Q) ⟨(upd (upd (upd (upd (fun _ => none) 0 (some (.c (.ro false 2 (l_.map e_TSQuery))))) 3 (some (S s_6))) 4 (some (I i_))) 5 (some (I k_))), (fun _ => none), 0⟩ := by
  unfold clerestoryref2_QueriesText_j15 at h
  refine Sv.region ?_
  refine un (a1 rfl ?_)
  refine un (a1 rfl ?_)
  refine un (a1 rfl ?_)
  obtain ⟨x_1, hx2, h⟩ := bnd h
  refine un (a1 (v := (.c (.rop [cB x_1.Not, .ro false 2 (x_1.Features.map e_TSFeature)]))) (s_iaddr (e := e_TSQuery) (xs := l_) rfl rfl hx2) ?_)
  refine un (a1 (v := (.c (.rop [.ro false 2 (x_1.Features.map e_TSFeature)]))) rfl ?_)
  refine un (a1 (v := (.c (.ro false 2 (x_1.Features.map e_TSFeature)))) rfl ?_)
  refine un (a1 rfl ?_)
  obtain ⟨x_2, hx3, h⟩ := bnd h
  refine un (a1 (v := (.c (.rop [cI x_2.Kind, cI x_2.Num]))) (s_iaddr (e := e_TSFeature) (xs := x_1.Features) rfl rfl hx3) ?_)
  refine un (a1 (v := (.agg [cI x_2.Kind, cI x_2.Num])) rfl ?_)
  obtain ⟨r_, hr1, h⟩ := bnd h
  refine un (ac_pure (clerestoryref2_FeatureText_ok hr1) rfl rfl rfl ?_)
  obtain ⟨r_1, hx4, h⟩ := bnd h
  refine un (a1 (v := (S r_1)) (s_cat rfl rfl hx4) ?_)
  refine un (a1 rfl ?_)
  refine dnil ?_
  refine Sv.region ?_
  refine un (a1 rfl ?_)
  refine un (a1 (v := (I (wi (k_ + 1)))) rfl ?_)
  refine un (a1 rfl ?_)
  refine dnil ?_
  exact hself r_1 (wi (k_ + 1)) h _ (weak_canon [] rfl (by decide) (by decide) (fun b h => absurd h (Nat.not_lt_zero _)) (.cons rfl (avAs_free rfl) (.cons rfl (avAs_free rfl) (.cons rfl (avAs_free rfl) (.cons rfl (avAs_free rfl) .nil)))) .nil)
abbrev clerestoryref2_QueriesText_l3_I (l_ : (List TSQuery)) (i_ : Int) (F_ : Nat → (List UInt8) → Int → Option (List UInt8)) (o : (List UInt8)) : Nat → St → Prop := fun k s => ∃ (s_4 : (List UInt8)), ∃ (k_ : Int), F_ k s_4 k_ = some o ∧ s = ⟨(upd (upd (upd (upd (fun _ => none) 0 (some (.c (.ro false 2 (l_.map e_TSQuery))))) 3 (some (S s_4))) 4 (some (I i_))) 5 (some (I k_))), (fun _ => none), 0⟩
noncomputable def clerestoryref2_QueriesText_l3 (l_ : (List TSQuery)) (i_ : Int) (K2_ : (List UInt8) → Option (List UInt8)) : Nat → (List UInt8) → Int → Option (List UInt8)
  | 0, _, _ => none
  | k + 1, s_4, k_ =>
    (at? l_ i_).bind fun x_ =>
    if decide (k_ < (x_.Features.length : Int)) then
      if decide (0 < k_) then
        (cat? s_4 [32, 97, 110, 100, 32]).bind fun r_2 =>
        clerestoryref2_QueriesText_j15 l_ i_ k_ (clerestoryref2_QueriesText_l3 l_ i_ K2_ k) K2_ r_2
      else
        clerestoryref2_QueriesText_j15 l_ i_ k_ (clerestoryref2_QueriesText_l3 l_ i_ K2_ k) K2_ s_4
    else
      K2_ s_4
theorem clerestoryref2_QueriesText_l3_ok {mL : Int} {Q : AExit → St → Prop} {l_ : (List TSQuery)} {i_ : Int} {K2_ : (List UInt8) → Option (List UInt8)} {k : Nat} {s_4 : (List UInt8)} {k_ : Int} {o : (List UInt8)} (h : clerestoryref2_QueriesText_l3 l_ i_ K2_ k s_4 k_ = some o)
    (hK2 : clerestoryref2_QueriesText_l3_E2 l_ i_ K2_ o (Q (.exit 2)))
    (hr : ∀ s, Ends a11.results 0 (clerestoryref2_QueriesText_post o) .ret s → Q .ret s) :
    Sv Tryz.prog (GG mL) 0 (.loop a11_c4) Q ⟨(upd (upd (upd (upd (fun _ => none) 0 (some (.c (.ro false 2 (l_.map e_TSQuery))))) 3 (some (S s_4))) 4 (some (I i_))) 5 (some (I k_))), (fun _ => none), 0⟩ := by
  refine Sv.loop (I := clerestoryref2_QueriesText_l3_I l_ i_ (clerestoryref2_QueriesText_l3 l_ i_ K2_) o) (fun k s hI => ?_) ⟨s_4, k_, h, rfl⟩
  clear h
  clear k_ s_4
  obtain ⟨s_4, k_, h, rfl⟩ := hI
  cases k with
  | zero => cases h
  | succ k =>
  rw [clerestoryref2_QueriesText_l3] at h
  have hself : clerestoryref2_QueriesText_l3_H l_ i_ (clerestoryref2_QueriesText_l3 l_ i_ K2_ k) o (rnd 0 (clerestoryref2_QueriesText_l3_I l_ i_ (clerestoryref2_QueriesText_l3 l_ i_ K2_) o) k Q) := fun s_4 k_ h s hw => ⟨_, k, hw, Nat.lt_succ_self k, s_4, k_, h, rfl⟩
  refine Sv.seq ?_
  refine Sv.seq ?_
  refine Sv.region ?_
  refine un (a1 rfl ?_)
  refine un (a1 rfl ?_)
  refine un (a1 rfl ?_)
  obtain ⟨x_, hx1, h⟩ := bnd h
  refine un (a1 (v := (.c (.rop [cB x_.Not, .ro false 2 (x_.Features.map e_TSFeature)]))) (s_iaddr (e := e_TSQuery) (xs := l_) rfl rfl hx1) ?_)
  refine un (a1 (v := (.c (.rop [.ro false 2 (x_.Features.map e_TSFeature)]))) rfl ?_)
  refine un (a1 (v := (.c (.ro false 2 (x_.Features.map e_TSFeature)))) rfl ?_)
  refine un (a1 (v := (I (x_.Features.length : Int))) (s_len (e := e_TSFeature) (xs := x_.Features) rfl) ?_)
  refine un (a1 (v := (B (decide (k_ < (x_.Features.length : Int))))) rfl ?_)
  refine dnil ?_
  refine Sv.cond (b := decide (k_ < (x_.Features.length : Int))) rfl (fun hc2 => ?_) (fun hc2 => ?_)
  · replace h := ifT hc2 h
    refine Sv.skip ?_
    refine Sv.seq ?_
    refine Sv.block ?_
    refine Sv.seq ?_
    refine Sv.seq ?_
    refine Sv.region ?_
    refine un (a1 rfl ?_)
    refine un (a1 (v := (B (decide (0 < k_)))) rfl ?_)
    refine dnil ?_
    refine Sv.cond (b := decide (0 < k_)) rfl (fun hc3 => ?_) (fun hc3 => ?_)
    · replace h := ifT hc3 h
      refine Sv.region ?_
      refine un (a1 rfl ?_)
      obtain ⟨r_2, hx5, h⟩ := bnd h
      refine un (a1 (v := (S r_2)) (s_cat rfl rfl hx5) ?_)
      refine un (a1 rfl ?_)
      refine dnil ?_
      exact Sv.weak (weak_canon [] rfl (by decide) (by decide) (fun b h => absurd h (Nat.not_lt_zero _)) (.cons rfl (avAs_free rfl) (.cons rfl (avAs_free rfl) (.cons rfl (avAs_free rfl) (.cons rfl (avAs_free rfl) .nil)))) .nil) (clerestoryref2_QueriesText_j15_ok h hself hK2 hr)
    · replace h := ifF hc3 h
      refine Sv.skip ?_
      exact Sv.weak (weak_canon [] rfl (by decide) (by decide) (fun b h => absurd h (Nat.not_lt_zero _)) (.cons rfl (avAs_free rfl) (.cons rfl (avAs_free rfl) (.cons rfl (avAs_free rfl) (.cons rfl (avAs_free rfl) .nil)))) .nil) (clerestoryref2_QueriesText_j15_ok h hself hK2 hr)
  · replace h := ifF hc2 h
    refine Sv.exit ?_
    exact hK2 s_4 h _ (weak_canon [] rfl (by decide) (by decide) (fun b h => absurd h (Nat.not_lt_zero _)) (.cons rfl (avAs_free rfl) (.cons rfl (avAs_free rfl) (.cons rfl (avAs_free rfl) .nil))) .nil)
abbrev clerestoryref2_QueriesText_q2 (mL : Int) (Q : AExit → St → Prop) : AExit → St → Prop := AThen (Sv Tryz.prog (GG mL) 0 a11_c5 Q) Q
abbrev clerestoryref2_QueriesText_q3 (mL : Int) (Q : AExit → St → Prop) : AExit → St → Prop := ABlock 1 (clerestoryref2_QueriesText_q2 mL Q)
abbrev clerestoryref2_QueriesText_l2_H (l_ : (List TSQuery)) (F_ : (List UInt8) → Int → Option (List UInt8)) (o : (List UInt8)) (R_ : St → Prop) : Prop := ∀ (s_ : (List UInt8)) (i_ : Int), F_ s_ i_ = some o → ∀ s, Weak 0 s ⟨(upd (upd (upd (fun _ => none) 0 (some (.c (.ro false 2 (l_.map e_TSQuery))))) 3 (some (S s_))) 4 (some (I i_))), (fun _ => none), 0⟩ → R_ s
abbrev clerestoryref2_QueriesText_l2_E0 (F_ : (List UInt8) → Option (List UInt8)) (o : (List UInt8)) (R_ : St → Prop) : Prop := ∀ (s_1 : (List UInt8)), F_ s_1 = some o → ∀ s, Weak 0 s ⟨(upd (fun _ => none) 3 (some (S s_1))), (fun _ => none), 0⟩ → R_ s
noncomputable def clerestoryref2_QueriesText_j12 (l_ : (List TSQuery)) (i_ : Int) (self : (List UInt8) → Int → Option (List UInt8)) (K0_ : (List UInt8) → Option (List UInt8)) (s_3 : (List UInt8)) : Option (List UInt8) :=
  lim fun kk => clerestoryref2_QueriesText_l3 l_ i_ (fun (s_5 : (List UInt8)) => 
      self s_5 (wi (i_ + 1))) kk s_3 0
theorem clerestoryref2_QueriesText_j12_ok {mL : Int} {Q : AExit → St → Prop} {l_ : (List TSQuery)} {i_ : Int} {self : (List UInt8) → Int → Option (List UInt8)} {K0_ : (List UInt8) → Option (List UInt8)} {s_3 : (List UInt8)} {o : (List UInt8)} (h : clerestoryref2_QueriesText_j12 l_ i_ self K0_ s_3 = some o)
    (hself : clerestoryref2_QueriesText_l2_H l_ self o (Q .normal))
    (hK0 : clerestoryref2_QueriesText_l2_E0 K0_ o (Q (.exit 0)))
    (hr : ∀ s, Ends a11.results 0 (clerestoryref2_QueriesText_post o) .ret s → Q .ret s) :
    Sv Tryz.prog (GG mL) 0 a11_c1 (clerestoryref2_QueriesText_q3 mL Q) ⟨(upd (upd (upd (fun _ => none) 0 (some (.c (.ro false 2 (l_.map e_TSQuery))))) 3 (some (S s_3))) 4 (some (I i_))), (fun _ => none), 0⟩ := by
  unfold clerestoryref2_QueriesText_j12 at h
  refine Sv.seq ?_
  refine Sv.region ?_
  refine un (a1 rfl ?_)
  refine dnil ?_
  refine Sv.block ?_
  obtain ⟨kk, h⟩ := lim_some h
  refine Sv.weak (weak_canon [] rfl (by decide) (by decide) (fun b h => absurd h (Nat.not_lt_zero _)) (.cons rfl (avAs_free rfl) (.cons rfl (avAs_free rfl) (.cons rfl (avAs_free rfl) (.cons rfl (avAs_free rfl) .nil)))) .nil) (clerestoryref2_QueriesText_l3_ok h ?_ hr)
  · intro s_5 h _ hw1
    refine Sv.weak hw1 ?_
    refine Sv.region ?_
    refine un (a1 rfl ?_)
    refine un (a1 (v := (I (wi (i_ + 1)))) rfl ?_)
    refine un (a1 rfl ?_)
    refine dnil ?_
    exact hself s_5 (wi (i_ + 1)) h _ (weak_canon [] rfl (by decide) (by decide) (fun b h => absurd h (Nat.not_lt_zero _)) (.cons rfl (avAs_free rfl) (.cons rfl (avAs_free rfl) (.cons rfl (avAs_free rfl) .nil))) .nil)
noncomputable def clerestoryref2_QueriesText_j11 (l_ : (List TSQuery)) (i_ : Int) (self : (List UInt8) → Int → Option (List UInt8)) (K0_ : (List UInt8) → Option (List UInt8)) (s_2 : (List UInt8)) : Option (List UInt8) :=
  (at? l_ i_).bind fun x_3 =>
  if x_3.Not then
    (cat? s_2 [110, 111, 116, 32]).bind fun r_3 =>
    clerestoryref2_QueriesText_j12 l_ i_ self K0_ r_3
  else
    clerestoryref2_QueriesText_j12 l_ i_ self K0_ s_2
theorem clerestoryref2_QueriesText_j11_ok {mL : Int} {Q : AExit → St → Prop} {l_ : (List TSQuery)} {i_ : Int} {self : (List UInt8) → Int → Option (List UInt8)} {K0_ : (List UInt8) → Option (List UInt8)} {s_2 : (List UInt8)} {o : (List UInt8)} (h : clerestoryref2_QueriesText_j11 l_ i_ self K0_ s_2 = some o)
    (hself : clerestoryref2_QueriesText_l2_H l_ self o (Q .normal))
    (hK0 : clerestoryref2_QueriesText_l2_E0 K0_ o (Q (.exit 0)))
    (hr : ∀ s, Ends a11.results 0 (clerestoryref2_QueriesText_post o) .ret s → Q .ret s) :
    Sv Tryz.prog (GG mL) 0 a11_c0 (clerestoryref2_QueriesText_q3 mL Q) ⟨(upd (upd (upd (fun _ => none) 0 (some (.c (.ro false 2 (l_.map e_TSQuery))))) 3 (some (S s_2))) 4 (some (I i_))), (fun _ => none), 0⟩ := by
  unfold clerestoryref2_QueriesText_j11 at h
  refine Sv.seq ?_
  refine Sv.seq ?_
  refine Sv.region ?_
  refine un (a1 rfl ?_)
  refine un (a1 rfl ?_)
  obtain ⟨x_3, hx6, h⟩ := bnd h
  refine un (a1 (v := (.c (.rop [cB x_3.Not, .ro false 2 (x_3.Features.map e_TSFeature)]))) (s_iaddr (e := e_TSQuery) (xs := l_) rfl rfl hx6) ?_)
  refine un (a1 (v := (.c (.rop [cB x_3.Not, .ro false 2 (x_3.Features.map e_TSFeature)]))) rfl ?_)
  refine un (a1 (v := (B x_3.Not)) rfl ?_)
  refine dnil ?_
  refine Sv.cond (b := x_3.Not) rfl (fun hc4 => ?_) (fun hc4 => ?_)
  · replace h := ifT hc4 h
    refine Sv.region ?_
    refine un (a1 rfl ?_)
    obtain ⟨r_3, hx7, h⟩ := bnd h
    refine un (a1 (v := (S r_3)) (s_cat rfl rfl hx7) ?_)
    refine un (a1 rfl ?_)
    refine dnil ?_
    exact Sv.weak (weak_canon [] rfl (by decide) (by decide) (fun b h => absurd h (Nat.not_lt_zero _)) (.cons rfl (avAs_free rfl) (.cons rfl (avAs_free rfl) (.cons rfl (avAs_free rfl) .nil))) .nil) (clerestoryref2_QueriesText_j12_ok h hself hK0 hr)
  · replace h := ifF hc4 h
    refine Sv.skip ?_
    exact Sv.weak (weak_canon [] rfl (by decide) (by decide) (fun b h => absurd h (Nat.not_lt_zero _)) (.cons rfl (avAs_free rfl) (.cons rfl (avAs_free rfl) (.cons rfl (avAs_free rfl) .nil))) .nil) (clerestoryref2_QueriesText_j12_ok h hself hK0 hr)
abbrev clerestoryref2_QueriesText_l2_I (l_ : (List TSQuery)) (F_ : Nat → (List UInt8) → Int → Option (List UInt8)) (o : (List UInt8)) : Nat → St → Prop := fun k s => ∃ (s_ : (List UInt8)), ∃ (i_ : Int), F_ k s_ i_ = some o ∧ s = ⟨(upd (upd (upd (fun _ => none) 0 (some (.c (.ro false 2 (l_.map e_TSQuery))))) 3 (some (S s_))) 4 (some (I i_))), (fun _ => none), 0⟩
noncomputable def clerestoryref2_QueriesText_l2 (l_ : (List TSQuery)) (K0_ : (List UInt8) → Option (List UInt8)) : Nat → (List UInt8) → Int → Option (List UInt8)
  | 0, _, _ => none
  | k + 1, s_, i_ =>
    if decide (i_ < (l_.length : Int)) then
      if decide (0 < i_) then
        (cat? s_ [44, 32]).bind fun r_4 =>
        clerestoryref2_QueriesText_j11 l_ i_ (clerestoryref2_QueriesText_l2 l_ K0_ k) K0_ r_4
      else
        clerestoryref2_QueriesText_j11 l_ i_ (clerestoryref2_QueriesText_l2 l_ K0_ k) K0_ s_
    else
      K0_ s_
theorem clerestoryref2_QueriesText_l2_ok {mL : Int} {Q : AExit → St → Prop} {l_ : (List TSQuery)} {K0_ : (List UInt8) → Option (List UInt8)} {k : Nat} {s_ : (List UInt8)} {i_ : Int} {o : (List UInt8)} (h : clerestoryref2_QueriesText_l2 l_ K0_ k s_ i_ = some o)
    (hK0 : clerestoryref2_QueriesText_l2_E0 K0_ o (Q (.exit 0)))
    (hr : ∀ s, Ends a11.results 0 (clerestoryref2_QueriesText_post o) .ret s → Q .ret s) :
    Sv Tryz.prog (GG mL) 0 (.loop a11_c6) Q ⟨(upd (upd (upd (fun _ => none) 0 (some (.c (.ro false 2 (l_.map e_TSQuery))))) 3 (some (S s_))) 4 (some (I i_))), (fun _ => none), 0⟩ := by
  refine Sv.loop (I := clerestoryref2_QueriesText_l2_I l_ (clerestoryref2_QueriesText_l2 l_ K0_) o) (fun k s hI => ?_) ⟨s_, i_, h, rfl⟩
  clear h
  clear i_ s_
  obtain ⟨s_, i_, h, rfl⟩ := hI
  cases k with
  | zero => cases h
  | succ k =>
  rw [clerestoryref2_QueriesText_l2] at h
  have hself : clerestoryref2_QueriesText_l2_H l_ (clerestoryref2_QueriesText_l2 l_ K0_ k) o (rnd 0 (clerestoryref2_QueriesText_l2_I l_ (clerestoryref2_QueriesText_l2 l_ K0_) o) k Q) := fun s_ i_ h s hw => ⟨_, k, hw, Nat.lt_succ_self k, s_, i_, h, rfl⟩
  refine Sv.seq ?_
  refine Sv.seq ?_
  refine Sv.region ?_
  refine un (a1 rfl ?_)
  refine un (a1 rfl ?_)
  refine un (a1 (v := (I (l_.length : Int))) (s_len (e := e_TSQuery) (xs := l_) rfl) ?_)
  refine un (a1 (v := (B (decide (i_ < (l_.length : Int))))) rfl ?_)
  refine dnil ?_
  refine Sv.cond (b := decide (i_ < (l_.length : Int))) rfl (fun hc1 => ?_) (fun hc1 => ?_)
  · replace h := ifT hc1 h
    refine Sv.skip ?_
    refine Sv.seq ?_
    refine Sv.block ?_
    refine Sv.seq ?_
    refine Sv.seq ?_
    refine Sv.region ?_
    refine un (a1 rfl ?_)
    refine un (a1 (v := (B (decide (0 < i_)))) rfl ?_)
    refine dnil ?_
    refine Sv.cond (b := decide (0 < i_)) rfl (fun hc5 => ?_) (fun hc5 => ?_)
    · replace h := ifT hc5 h
      refine Sv.region ?_
      refine un (a1 rfl ?_)
      obtain ⟨r_4, hx8, h⟩ := bnd h
      refine un (a1 (v := (S r_4)) (s_cat rfl rfl hx8) ?_)
      refine un (a1 rfl ?_)
      refine dnil ?_
      exact Sv.weak (weak_canon [] rfl (by decide) (by decide) (fun b h => absurd h (Nat.not_lt_zero _)) (.cons rfl (avAs_free rfl) (.cons rfl (avAs_free rfl) (.cons rfl (avAs_free rfl) .nil))) .nil) (clerestoryref2_QueriesText_j11_ok h hself hK0 hr)
    · replace h := ifF hc5 h
      refine Sv.skip ?_
      exact Sv.weak (weak_canon [] rfl (by decide) (by decide) (fun b h => absurd h (Nat.not_lt_zero _)) (.cons rfl (avAs_free rfl) (.cons rfl (avAs_free rfl) (.cons rfl (avAs_free rfl) .nil))) .nil) (clerestoryref2_QueriesText_j11_ok h hself hK0 hr)
  · replace h := ifF hc1 h
    refine Sv.exit ?_
    exact hK0 s_ h _ (weak_canon [] rfl (by decide) (by decide) (fun b h => absurd h (Nat.not_lt_zero _)) (.cons rfl (avAs_free rfl) .nil) .nil)
/-- clerestory/clerestoryref2.QueriesText -/
noncomputable def clerestoryref2_QueriesText (l_ : (List TSQuery)) : Option (List UInt8) :=
  lim fun kk1 => clerestoryref2_QueriesText_l2 l_ (fun (s_1 : (List UInt8)) => 
      some s_1) kk1 [] 0
theorem clerestoryref2_QueriesText_ok {mL : Int} {l_ : (List TSQuery)} {r : (List UInt8)} (h : clerestoryref2_QueriesText l_ = some r) : CPure Tryz.prog (GG mL) 11 [(.c (.ro false 2 (l_.map e_TSQuery)))] (S r) := by
  refine acalls_of_sv hmix c11 (R := clerestoryref2_QueriesText_post r) ?_
  unfold clerestoryref2_QueriesText at h
  refine Sv.seq ?_
  refine Sv.region ?_
  refine un (a1 rfl ?_)
  refine dnil ?_
  refine Sv.seq ?_
  refine Sv.region ?_
  refine un (a1 rfl ?_)
  refine dnil ?_
  refine Sv.seq ?_
  refine Sv.seq ?_
  refine Sv.region ?_
  refine un (a1 rfl ?_)
  refine dnil ?_
  refine Sv.block ?_
  obtain ⟨kk1, h⟩ := lim_some h
  refine Sv.weak (weak_canon [] rfl (by decide) (by decide) (fun b h => absurd h (Nat.not_lt_zero _)) (.cons rfl (avAs_free rfl) (.cons rfl (avAs_free rfl) (.cons rfl (avAs_free rfl) .nil))) .nil) (clerestoryref2_QueriesText_l2_ok h ?_ (fun s hs => hs))
  · intro s_1 h _ hw2
    refine Sv.weak hw2 ?_
    refine Sv.seq ?_
    refine Sv.region ?_
    refine un (a1 rfl ?_)
    refine un (a1 rfl ?_)
    refine dnil ?_
    refine Sv.ret ?_
    replace h := Option.some.inj h
    subst h
    exact ⟨_, .refl _, _, rfl, ⟨upd (fun _ => none) 0 (some (S s_1)), (fun _ => none), 0⟩, (S s_1), weak_canon [] rfl List.nodup_nil (Nat.le_refl _) (fun b h => absurd h (Nat.not_lt_zero _)) (.cons rfl (avAs_free rfl) .nil) .nil, rfl, rfl, rfl, rfl⟩
def a4_c0 : ACode := .ret
def a4 : AFunc := ⟨1, [(.tmp 2)], (.seq (.region [⟨(some 2), (.mov (.const (.c (.val (.bool false))))), none⟩])
 (.seq (.region [⟨(some 4), (.call 9 []), none⟩, ⟨(some 3), (.mov (.tmp 4)), none⟩])
 (.seq (.region [⟨(some 5), (.mov (.tmp 3)), none⟩, ⟨(some 6), (.mov (.tmp 5)), none⟩, ⟨(some 7), (.mov (.tmp 0)), (some (6, true))⟩, ⟨(some 8), (.call 10 [(.tmp 7)]), (some (6, true))⟩, ⟨(some 9), (.mov (.tmp 0)), (some (6, true))⟩, ⟨(some 10), (.call 11 [(.tmp 9)]), (some (6, true))⟩, ⟨(some 11), (.bin .eql (.tmp 8) (.tmp 10)), (some (6, true))⟩, ⟨(some 12), (.pick (.tmp 6) (.tmp 11) (.const (.c (.val (.bool false))))), none⟩, ⟨(some 2), (.mov (.tmp 12)), none⟩])
 a4_c0)))⟩
set_option maxRecDepth 100000 in
theorem c4 : compFunc Tryz.prog 4 = some a4 := by kernel_rfl
def clerestorylaw2_MediaTells_post (r : Bool) : AV → Heap → Nat → Prop := fun v h' n' => v = (B r) ∧ (h' = (fun _ => none)) ∧ n' = 0
noncomputable def clerestorylaw2_MediaTells_j1 (v2 : Bool) : Option Bool :=
  some v2
theorem clerestorylaw2_MediaTells_j1_ok {mL : Int} {v2 : Bool} {o : Bool} (h : clerestorylaw2_MediaTells_j1 v2 = some o) :
    Sv Tryz.prog (GG mL) 0 a4_c0 (Ends a4.results 0 (clerestorylaw2_MediaTells_post o)) ⟨(upd (fun _ => none) 2 (some (B v2))), (fun _ => none), 0⟩ := by
  unfold clerestorylaw2_MediaTells_j1 at h
  refine Sv.ret ?_
  replace h := Option.some.inj h
  subst h
  exact ⟨_, .refl _, _, rfl, ⟨upd (fun _ => none) 0 (some (B v2)), (fun _ => none), 0⟩, (B v2), weak_canon [] rfl List.nodup_nil (Nat.le_refl _) (fun b h => absurd h (Nat.not_lt_zero _)) (.cons rfl (avAs_free rfl) .nil) .nil, rfl, rfl, rfl, rfl⟩
/-- clerestory/clerestorylaw2.MediaTells -/
noncomputable def clerestorylaw2_MediaTells (l_ : (List TSQuery)) : Option Bool :=
  (clerestorylaw2_wide).bind fun r_ =>
  if r_ then
    (media_Text l_).bind fun r_1 =>
    (clerestoryref2_QueriesText l_).bind fun r_2 =>
    clerestorylaw2_MediaTells_j1 (decide (r_1 = r_2))
  else
    clerestorylaw2_MediaTells_j1 false
theorem clerestorylaw2_MediaTells_ok {mL : Int} {l_ : (List TSQuery)} {r : Bool} (h : clerestorylaw2_MediaTells l_ = some r) : CPure Tryz.prog (GG mL) 4 [(.c (.ro false 2 (l_.map e_TSQuery)))] (B r) := by
  refine acalls_of_sv hmix c4 (R := clerestorylaw2_MediaTells_post r) ?_
  unfold clerestorylaw2_MediaTells at h
  refine Sv.seq ?_
  refine Sv.region ?_
  refine un (a1 rfl ?_)
  refine dnil ?_
  refine Sv.seq ?_
  refine Sv.region ?_
  obtain ⟨r_, hr1, h⟩ := bnd h
  refine un (ac_pure (clerestorylaw2_wide_ok hr1) rfl rfl rfl ?_)
  refine un (a1 rfl ?_)
  refine dnil ?_
  refine Sv.seq ?_
  refine Sv.region ?_
  refine un (a1 rfl ?_)
  refine un (a1 rfl ?_)
  refine split2 (fun hc1 => ?_) (fun hc1 => ?_)
  · replace h := ifT hc1 h
    refine gt rfl (a1 rfl ?_)
    obtain ⟨r_1, hr2, h⟩ := bnd h
    refine gt rfl (ac_pure (media_Text_ok hr2) rfl rfl rfl ?_)
    refine gt rfl (a1 rfl ?_)
    obtain ⟨r_2, hr3, h⟩ := bnd h
    refine gt rfl (ac_pure (clerestoryref2_QueriesText_ok hr3) rfl rfl rfl ?_)
    refine gt rfl (a1 (v := (B (decide (r_1 = r_2)))) rfl ?_)
    refine un (a1 (v := (B (decide (r_1 = r_2)))) rfl ?_)
    refine un (a1 rfl ?_)
    refine dnil ?_
    exact Sv.weak (weak_canon [] rfl (by decide) (by decide) (fun b h => absurd h (Nat.not_lt_zero _)) (.cons rfl (avAs_free rfl) .nil) .nil) (clerestorylaw2_MediaTells_j1_ok h)
  · replace h := ifF hc1 h
    refine gs rfl rfl ?_
    refine gs rfl rfl ?_
    refine gs rfl rfl ?_
    refine gs rfl rfl ?_
    refine gs rfl rfl ?_
    refine un (a1 (v := (B false)) rfl ?_)
    refine un (a1 rfl ?_)
    refine dnil ?_
    exact Sv.weak (weak_canon [] rfl (by decide) (by decide) (fun b h => absurd h (Nat.not_lt_zero _)) (.cons rfl (avAs_free rfl) .nil) .nil) (clerestorylaw2_MediaTells_j1_ok h)
end Go.Proofs.YtaejmblphhjccabGreatDoorBv
