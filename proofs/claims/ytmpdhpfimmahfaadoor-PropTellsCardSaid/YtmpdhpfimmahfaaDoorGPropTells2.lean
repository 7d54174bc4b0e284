/- Printed by a program of mine (bgen.py): plain functions, and the walks that show that the code comes to what they answer. -/
import Derived.Test.YtmpdhpfimmahfaaDoorGPropTells1
namespace Go.Proofs.YtmpdhpfimmahfaaDoorBv
open Go
set_option linter.unusedVariables false
set_option linter.unusedSimpArgs false
set_option maxRecDepth 100000
def a30 : AFunc := ⟨1, [(.tmp 2)], (.seq (.region [⟨(some 2), (.mov (.const (.c (.ro true 1 [])))), none⟩])
 (.seq (.seq (.region [⟨(some 3), (.mov (.tmp 0)), none⟩])
 (.block 0 (.seq (.region [⟨(some 5), (.bin .eql (.tmp 3) (.const (.c (.val (.int .i64 0))))), none⟩, ⟨(some 4), (.mov (.tmp 5)), none⟩])
 (.cond (.tmp 4) (.seq (.region [⟨(some 6), (.bslice 1 [(.str [])] 10 [(0, (.const (.c (.str [110, 111, 110, 101])))), (1, (.const (.c (.str [105, 110, 108, 105, 110, 101])))), (2, (.const (.c (.str [98, 108, 111, 99, 107])))), (3, (.const (.c (.str [105, 110, 108, 105, 110, 101, 45, 98, 108, 111, 99, 107])))), (4, (.const (.c (.str [102, 108, 101, 120])))), (5, (.const (.c (.str [116, 97, 98, 108, 101])))), (6, (.const (.c (.str [116, 97, 98, 108, 101, 45, 114, 111, 119])))), (7, (.const (.c (.str [116, 97, 98, 108, 101, 45, 99, 101, 108, 108])))), (8, (.const (.c (.str [108, 105, 115, 116, 45, 105, 116, 101, 109])))), (9, (.const (.c (.str [99, 111, 110, 116, 101, 110, 116, 115]))))]), none⟩, ⟨(some 2), (.mov (.tmp 6)), none⟩])
 .ret) (.seq (.region [⟨(some 8), (.bin .eql (.tmp 3) (.const (.c (.val (.int .i64 1))))), none⟩, ⟨(some 7), (.mov (.tmp 8)), none⟩])
 (.cond (.tmp 7) (.seq (.region [⟨(some 9), (.bslice 1 [(.str [])] 4 [(0, (.const (.c (.str [115, 116, 97, 116, 105, 99])))), (1, (.const (.c (.str [114, 101, 108, 97, 116, 105, 118, 101])))), (2, (.const (.c (.str [97, 98, 115, 111, 108, 117, 116, 101])))), (3, (.const (.c (.str [102, 105, 120, 101, 100]))))]), none⟩, ⟨(some 2), (.mov (.tmp 9)), none⟩])
 .ret) (.seq (.region [⟨(some 11), (.bin .eql (.tmp 3) (.const (.c (.val (.int .i64 2))))), none⟩, ⟨(some 10), (.mov (.tmp 11)), none⟩])
 (.cond (.tmp 10) (.seq (.region [⟨(some 12), (.bslice 1 [(.str [])] 3 [(0, (.const (.c (.str [110, 111, 110, 101])))), (1, (.const (.c (.str [108, 101, 102, 116])))), (2, (.const (.c (.str [114, 105, 103, 104, 116]))))]), none⟩, ⟨(some 2), (.mov (.tmp 12)), none⟩])
 .ret) (.seq (.region [⟨(some 14), (.bin .eql (.tmp 3) (.const (.c (.val (.int .i64 3))))), none⟩, ⟨(some 13), (.mov (.tmp 14)), none⟩])
 (.cond (.tmp 13) (.seq (.region [⟨(some 15), (.bslice 1 [(.str [])] 4 [(0, (.const (.c (.str [110, 111, 110, 101])))), (1, (.const (.c (.str [108, 101, 102, 116])))), (2, (.const (.c (.str [114, 105, 103, 104, 116])))), (3, (.const (.c (.str [98, 111, 116, 104]))))]), none⟩, ⟨(some 2), (.mov (.tmp 15)), none⟩])
 .ret) (.seq (.region [⟨(some 17), (.bin .eql (.tmp 3) (.const (.c (.val (.int .i64 4))))), none⟩, ⟨(some 16), (.mov (.tmp 17)), none⟩])
 (.cond (.tmp 16) (.seq (.region [⟨(some 18), (.bslice 1 [(.str [])] 2 [(0, (.const (.c (.str [99, 111, 110, 116, 101, 110, 116, 45, 98, 111, 120])))), (1, (.const (.c (.str [98, 111, 114, 100, 101, 114, 45, 98, 111, 120]))))]), none⟩, ⟨(some 2), (.mov (.tmp 18)), none⟩])
 .ret) (.seq (.region [⟨(some 20), (.bin .eql (.tmp 3) (.const (.c (.val (.int .i64 32))))), none⟩, ⟨(some 19), (.mov (.tmp 20)), none⟩])
 (.cond (.tmp 19) (.seq (.region [⟨(some 21), (.bslice 1 [(.str [])] 2 [(0, (.const (.c (.str [118, 105, 115, 105, 98, 108, 101])))), (1, (.const (.c (.str [104, 105, 100, 100, 101, 110]))))]), none⟩, ⟨(some 2), (.mov (.tmp 21)), none⟩])
 .ret) (.seq (.region [⟨(some 23), (.bin .eql (.tmp 3) (.const (.c (.val (.int .i64 33))))), none⟩, ⟨(some 22), (.mov (.tmp 23)), none⟩])
 (.cond (.tmp 22) (.seq (.region [⟨(some 24), (.bslice 1 [(.str [])] 2 [(0, (.const (.c (.str [118, 105, 115, 105, 98, 108, 101])))), (1, (.const (.c (.str [104, 105, 100, 100, 101, 110]))))]), none⟩, ⟨(some 2), (.mov (.tmp 24)), none⟩])
 .ret) (.seq (.region [⟨(some 26), (.bin .eql (.tmp 3) (.const (.c (.val (.int .i64 39))))), none⟩, ⟨(some 25), (.mov (.tmp 26)), none⟩])
 (.cond (.tmp 25) (.seq (.region [⟨(some 27), (.bslice 1 [(.str [])] 4 [(0, (.const (.c (.str [115, 116, 97, 114, 116])))), (1, (.const (.c (.str [101, 110, 100])))), (2, (.const (.c (.str [99, 101, 110, 116, 101, 114])))), (3, (.const (.c (.str [106, 117, 115, 116, 105, 102, 121]))))]), none⟩, ⟨(some 2), (.mov (.tmp 27)), none⟩])
 .ret) (.seq (.region [⟨(some 29), (.bin .eql (.tmp 3) (.const (.c (.val (.int .i64 41))))), none⟩, ⟨(some 28), (.mov (.tmp 29)), none⟩])
 (.cond (.tmp 28) (.seq (.region [⟨(some 30), (.bslice 1 [(.str [])] 4 [(0, (.const (.c (.str [110, 111, 114, 109, 97, 108])))), (1, (.const (.c (.str [112, 114, 101])))), (2, (.const (.c (.str [110, 111, 119, 114, 97, 112])))), (3, (.const (.c (.str [112, 114, 101, 45, 119, 114, 97, 112]))))]), none⟩, ⟨(some 2), (.mov (.tmp 30)), none⟩])
 .ret) (.seq (.region [⟨(some 32), (.bin .eql (.tmp 3) (.const (.c (.val (.int .i64 42))))), none⟩, ⟨(some 31), (.mov (.tmp 32)), none⟩])
 (.cond (.tmp 31) (.seq (.region [⟨(some 33), (.bslice 1 [(.str [])] 4 [(0, (.const (.c (.str [98, 97, 115, 101, 108, 105, 110, 101])))), (1, (.const (.c (.str [116, 111, 112])))), (2, (.const (.c (.str [109, 105, 100, 100, 108, 101])))), (3, (.const (.c (.str [98, 111, 116, 116, 111, 109]))))]), none⟩, ⟨(some 2), (.mov (.tmp 33)), none⟩])
 .ret) (.seq (.region [⟨(some 35), (.bin .eql (.tmp 3) (.const (.c (.val (.int .i64 43))))), none⟩, ⟨(some 34), (.mov (.tmp 35)), none⟩])
 (.cond (.tmp 34) (.seq (.region [⟨(some 36), (.bslice 1 [(.str [])] 3 [(0, (.const (.c (.str [110, 111, 110, 101])))), (1, (.const (.c (.str [117, 112, 112, 101, 114, 99, 97, 115, 101])))), (2, (.const (.c (.str [108, 111, 119, 101, 114, 99, 97, 115, 101]))))]), none⟩, ⟨(some 2), (.mov (.tmp 36)), none⟩])
 .ret) (.seq (.region [⟨(some 38), (.bin .eql (.tmp 3) (.const (.c (.val (.int .i64 45))))), none⟩, ⟨(some 37), (.mov (.tmp 38)), none⟩])
 (.cond (.tmp 37) (.seq (.region [⟨(some 39), (.bslice 1 [(.str [])] 4 [(0, (.const (.c (.str [114, 111, 119])))), (1, (.const (.c (.str [114, 111, 119, 45, 114, 101, 118, 101, 114, 115, 101])))), (2, (.const (.c (.str [99, 111, 108, 117, 109, 110])))), (3, (.const (.c (.str [99, 111, 108, 117, 109, 110, 45, 114, 101, 118, 101, 114, 115, 101]))))]), none⟩, ⟨(some 2), (.mov (.tmp 39)), none⟩])
 .ret) (.seq (.region [⟨(some 41), (.bin .eql (.tmp 3) (.const (.c (.val (.int .i64 46))))), none⟩, ⟨(some 40), (.mov (.tmp 41)), none⟩])
 (.cond (.tmp 40) (.seq (.region [⟨(some 42), (.bslice 1 [(.str [])] 2 [(0, (.const (.c (.str [110, 111, 119, 114, 97, 112])))), (1, (.const (.c (.str [119, 114, 97, 112]))))]), none⟩, ⟨(some 2), (.mov (.tmp 42)), none⟩])
 .ret) (.seq (.region [⟨(some 44), (.bin .eql (.tmp 3) (.const (.c (.val (.int .i64 47))))), none⟩, ⟨(some 43), (.mov (.tmp 44)), none⟩])
 (.cond (.tmp 43) (.seq (.region [⟨(some 45), (.bslice 1 [(.str [])] 6 [(0, (.const (.c (.str [102, 108, 101, 120, 45, 115, 116, 97, 114, 116])))), (1, (.const (.c (.str [102, 108, 101, 120, 45, 101, 110, 100])))), (2, (.const (.c (.str [99, 101, 110, 116, 101, 114])))), (3, (.const (.c (.str [])))), (4, (.const (.c (.str [115, 112, 97, 99, 101, 45, 98, 101, 116, 119, 101, 101, 110])))), (5, (.const (.c (.str [115, 112, 97, 99, 101, 45, 97, 114, 111, 117, 110, 100]))))]), none⟩, ⟨(some 2), (.mov (.tmp 45)), none⟩])
 .ret) (.seq (.region [⟨(some 47), (.bin .eql (.tmp 3) (.const (.c (.val (.int .i64 48))))), none⟩, ⟨(some 46), (.mov (.tmp 47)), none⟩])
 (.cond (.tmp 46) (.seq (.region [⟨(some 48), (.bslice 1 [(.str [])] 7 [(0, (.const (.c (.str [102, 108, 101, 120, 45, 115, 116, 97, 114, 116])))), (1, (.const (.c (.str [102, 108, 101, 120, 45, 101, 110, 100])))), (2, (.const (.c (.str [99, 101, 110, 116, 101, 114])))), (3, (.const (.c (.str [])))), (4, (.const (.c (.str [])))), (5, (.const (.c (.str [])))), (6, (.const (.c (.str [115, 116, 114, 101, 116, 99, 104]))))]), none⟩, ⟨(some 2), (.mov (.tmp 48)), none⟩])
 .ret) (.seq (.region [⟨(some 50), (.bin .eql (.tmp 3) (.const (.c (.val (.int .i64 49))))), none⟩, ⟨(some 49), (.mov (.tmp 50)), none⟩])
 (.cond (.tmp 49) (.seq (.region [⟨(some 51), (.bslice 1 [(.str [])] 7 [(0, (.const (.c (.str [102, 108, 101, 120, 45, 115, 116, 97, 114, 116])))), (1, (.const (.c (.str [102, 108, 101, 120, 45, 101, 110, 100])))), (2, (.const (.c (.str [99, 101, 110, 116, 101, 114])))), (3, (.const (.c (.str [])))), (4, (.const (.c (.str [])))), (5, (.const (.c (.str [])))), (6, (.const (.c (.str [115, 116, 114, 101, 116, 99, 104]))))]), none⟩, ⟨(some 2), (.mov (.tmp 51)), none⟩])
 .ret) (.seq (.region [⟨(some 53), (.bin .eql (.tmp 3) (.const (.c (.val (.int .i64 55))))), none⟩, ⟨(some 52), (.mov (.tmp 53)), none⟩])
 (.cond (.tmp 52) (.seq (.region [⟨(some 54), (.bslice 1 [(.str [])] 2 [(0, (.const (.c (.str [97, 117, 116, 111])))), (1, (.const (.c (.str [102, 105, 120, 101, 100]))))]), none⟩, ⟨(some 2), (.mov (.tmp 54)), none⟩])
 .ret) (.seq (.region [⟨(some 56), (.bin .eql (.tmp 3) (.const (.c (.val (.int .i64 57))))), none⟩, ⟨(some 55), (.mov (.tmp 56)), none⟩])
 (.cond (.tmp 55) (.seq (.region [⟨(some 57), (.bslice 1 [(.str [])] 3 [(0, (.const (.c (.str [110, 111, 110, 101])))), (1, (.const (.c (.str [100, 105, 115, 99])))), (2, (.const (.c (.str [100, 101, 99, 105, 109, 97, 108]))))]), none⟩, ⟨(some 2), (.mov (.tmp 57)), none⟩])
 .ret) (.seq (.region [⟨(some 59), (.bin .eql (.tmp 3) (.const (.c (.val (.int .i64 58))))), none⟩, ⟨(some 58), (.mov (.tmp 59)), none⟩])
 (.cond (.tmp 58) (.seq (.region [⟨(some 60), (.bslice 1 [(.str [])] 2 [(0, (.const (.c (.str [97, 117, 116, 111])))), (1, (.const (.c (.str [110, 111, 110, 101]))))]), none⟩, ⟨(some 2), (.mov (.tmp 60)), none⟩])
 .ret) .skip))))))))))))))))))))))))))))))))))))))))
 (.seq (.region [⟨(some 2), (.mov (.const (.c (.ro true 1 [])))), none⟩])
 .ret)))⟩
set_option maxRecDepth 100000 in
theorem c30 : compFunc Tryd.prog 30 = some a30 := by kernel_rfl
def clerestoryref2_PropKeys_post (r : (List (List UInt8))) : AV → Heap → Nat → Prop := fun v h' n' => ∃ z0 : Bool, (z0 = true → r = []) ∧ v = (lstV z0 0 1 r.length) ∧ (h' = (upd (fun _ => none) 0 (lstB z0 1 (r.map eStr)))) ∧ n' = 1
def clerestoryref2_PropKeys_t0 : List (List UInt8) := [[110, 111, 110, 101], [105, 110, 108, 105, 110, 101], [98, 108, 111, 99, 107], [105, 110, 108, 105, 110, 101, 45, 98, 108, 111, 99, 107], [102, 108, 101, 120], [116, 97, 98, 108, 101], [116, 97, 98, 108, 101, 45, 114, 111, 119], [116, 97, 98, 108, 101, 45, 99, 101, 108, 108], [108, 105, 115, 116, 45, 105, 116, 101, 109], [99, 111, 110, 116, 101, 110, 116, 115]]
def clerestoryref2_PropKeys_t1 : List (List UInt8) := [[115, 116, 97, 116, 105, 99], [114, 101, 108, 97, 116, 105, 118, 101], [97, 98, 115, 111, 108, 117, 116, 101], [102, 105, 120, 101, 100]]
def clerestoryref2_PropKeys_t2 : List (List UInt8) := [[110, 111, 110, 101], [108, 101, 102, 116], [114, 105, 103, 104, 116], [98, 111, 116, 104]]
def clerestoryref2_PropKeys_t3 : List (List UInt8) := [[99, 111, 110, 116, 101, 110, 116, 45, 98, 111, 120], [98, 111, 114, 100, 101, 114, 45, 98, 111, 120]]
def clerestoryref2_PropKeys_t4 : List (List UInt8) := [[115, 116, 97, 114, 116], [101, 110, 100], [99, 101, 110, 116, 101, 114], [106, 117, 115, 116, 105, 102, 121]]
def clerestoryref2_PropKeys_t5 : List (List UInt8) := [[110, 111, 114, 109, 97, 108], [112, 114, 101], [110, 111, 119, 114, 97, 112], [112, 114, 101, 45, 119, 114, 97, 112]]
def clerestoryref2_PropKeys_t6 : List (List UInt8) := [[98, 97, 115, 101, 108, 105, 110, 101], [116, 111, 112], [109, 105, 100, 100, 108, 101], [98, 111, 116, 116, 111, 109]]
def clerestoryref2_PropKeys_t7 : List (List UInt8) := [[110, 111, 110, 101], [117, 112, 112, 101, 114, 99, 97, 115, 101], [108, 111, 119, 101, 114, 99, 97, 115, 101]]
def clerestoryref2_PropKeys_t8 : List (List UInt8) := [[114, 111, 119], [114, 111, 119, 45, 114, 101, 118, 101, 114, 115, 101], [99, 111, 108, 117, 109, 110], [99, 111, 108, 117, 109, 110, 45, 114, 101, 118, 101, 114, 115, 101]]
def clerestoryref2_PropKeys_t9 : List (List UInt8) := [[102, 108, 101, 120, 45, 115, 116, 97, 114, 116], [102, 108, 101, 120, 45, 101, 110, 100], [99, 101, 110, 116, 101, 114], [], [115, 112, 97, 99, 101, 45, 98, 101, 116, 119, 101, 101, 110], [115, 112, 97, 99, 101, 45, 97, 114, 111, 117, 110, 100]]
def clerestoryref2_PropKeys_t10 : List (List UInt8) := [[102, 108, 101, 120, 45, 115, 116, 97, 114, 116], [102, 108, 101, 120, 45, 101, 110, 100], [99, 101, 110, 116, 101, 114], [], [], [], [115, 116, 114, 101, 116, 99, 104]]
def clerestoryref2_PropKeys_t11 : List (List UInt8) := [[110, 111, 110, 101], [100, 105, 115, 99], [100, 101, 99, 105, 109, 97, 108]]
/-- clerestory/clerestoryref2.PropKeys -/
noncomputable def clerestoryref2_PropKeys (p_ : Int) : Option (List (List UInt8)) :=
  if decide (p_ = 0) then
    some clerestoryref2_PropKeys_t0
  else
    if decide (p_ = 1) then
      some clerestoryref2_PropKeys_t1
    else
      if decide (p_ = 2) then
        some ([[110, 111, 110, 101], [108, 101, 102, 116], [114, 105, 103, 104, 116]] : List (List UInt8))
      else
        if decide (p_ = 3) then
          some clerestoryref2_PropKeys_t2
        else
          if decide (p_ = 4) then
            some clerestoryref2_PropKeys_t3
          else
            if decide (p_ = 32) then
              some ([[118, 105, 115, 105, 98, 108, 101], [104, 105, 100, 100, 101, 110]] : List (List UInt8))
            else
              if decide (p_ = 33) then
                some ([[118, 105, 115, 105, 98, 108, 101], [104, 105, 100, 100, 101, 110]] : List (List UInt8))
              else
                if decide (p_ = 39) then
                  some clerestoryref2_PropKeys_t4
                else
                  if decide (p_ = 41) then
                    some clerestoryref2_PropKeys_t5
                  else
                    if decide (p_ = 42) then
                      some clerestoryref2_PropKeys_t6
                    else
                      if decide (p_ = 43) then
                        some clerestoryref2_PropKeys_t7
                      else
                        if decide (p_ = 45) then
                          some clerestoryref2_PropKeys_t8
                        else
                          if decide (p_ = 46) then
                            some ([[110, 111, 119, 114, 97, 112], [119, 114, 97, 112]] : List (List UInt8))
                          else
                            if decide (p_ = 47) then
                              some clerestoryref2_PropKeys_t9
                            else
                              if decide (p_ = 48) then
                                some clerestoryref2_PropKeys_t10
                              else
                                if decide (p_ = 49) then
                                  some clerestoryref2_PropKeys_t10
                                else
                                  if decide (p_ = 55) then
                                    some ([[97, 117, 116, 111], [102, 105, 120, 101, 100]] : List (List UInt8))
                                  else
                                    if decide (p_ = 57) then
                                      some clerestoryref2_PropKeys_t11
                                    else
                                      if decide (p_ = 58) then
                                        some ([[97, 117, 116, 111], [110, 111, 110, 101]] : List (List UInt8))
                                      else
                                        some ([] : List (List UInt8))
theorem clerestoryref2_PropKeys_ok {mL : Int} {p_ : Int} {r : (List (List UInt8))} (h : clerestoryref2_PropKeys p_ = some r) : ACalls Tryd.prog (GG mL) 30 [(I p_)] (fun _ => none) 0 (clerestoryref2_PropKeys_post r) := by
  refine acalls_of_sv hmix c30 (R := clerestoryref2_PropKeys_post r) ?_
  unfold clerestoryref2_PropKeys at h
  refine Sv.seq ?_
  refine Sv.region ?_
  refine un (a1 rfl ?_)
  refine dnil ?_
  refine Sv.seq ?_
  refine Sv.seq ?_
  refine Sv.region ?_
  refine un (a1 rfl ?_)
  refine dnil ?_
  refine Sv.block ?_
  refine Sv.seq ?_
  refine Sv.region ?_
  refine un (a1 (v := (B (decide (p_ = 0)))) rfl ?_)
  refine un (a1 rfl ?_)
  refine dnil ?_
  refine Sv.cond (b := decide (p_ = 0)) rfl (fun hc1 => ?_) (fun hc1 => ?_)
  · replace h := ifT hc1 h
    refine Sv.seq ?_
    refine Sv.region ?_
    refine un (a2v (v := (lstV false 0 1 clerestoryref2_PropKeys_t0.length)) (h' := upd _ 0 (lstB false 1 (clerestoryref2_PropKeys_t0.map eStr))) (n' := 1) rfl rfl (fun h => by cases h) ?_)
    refine un (a1 rfl ?_)
    refine dnil ?_
    refine Sv.ret ?_
    replace h := Option.some.inj h
    subst h
    exact ⟨_, .refl _, _, rfl, ⟨upd (fun _ => none) 0 (some (lstV false 0 1 clerestoryref2_PropKeys_t0.length)), (upd (fun _ => none) 0 (lstB false 1 (clerestoryref2_PropKeys_t0.map eStr))), 1⟩, (lstV false 0 1 clerestoryref2_PropKeys_t0.length), weak_canon2 [0] [0] (by decide) (by decide) (fun b h => absurd h (Nat.not_lt_zero _)) (.cons (by decide) .nil) (.cons rfl (.c (lstC_ren rfl (by decide))) .nil) (.row (by decide) rfl (fr_map fun _ => rfl) .nil), rfl, false, (fun h => by cases h), rfl, rfl, rfl⟩
  · replace h := ifF hc1 h
    refine Sv.seq ?_
    refine Sv.region ?_
    refine un (a1 (v := (B (decide (p_ = 1)))) rfl ?_)
    refine un (a1 rfl ?_)
    refine dnil ?_
    refine Sv.cond (b := decide (p_ = 1)) rfl (fun hc2 => ?_) (fun hc2 => ?_)
    · replace h := ifT hc2 h
      refine Sv.seq ?_
      refine Sv.region ?_
      refine un (a2v (v := (lstV false 0 1 clerestoryref2_PropKeys_t1.length)) (h' := upd _ 0 (lstB false 1 (clerestoryref2_PropKeys_t1.map eStr))) (n' := 1) rfl rfl (fun h => by cases h) ?_)
      refine un (a1 rfl ?_)
      refine dnil ?_
      refine Sv.ret ?_
      replace h := Option.some.inj h
      subst h
      exact ⟨_, .refl _, _, rfl, ⟨upd (fun _ => none) 0 (some (lstV false 0 1 clerestoryref2_PropKeys_t1.length)), (upd (fun _ => none) 0 (lstB false 1 (clerestoryref2_PropKeys_t1.map eStr))), 1⟩, (lstV false 0 1 clerestoryref2_PropKeys_t1.length), weak_canon2 [0] [0] (by decide) (by decide) (fun b h => absurd h (Nat.not_lt_zero _)) (.cons (by decide) .nil) (.cons rfl (.c (lstC_ren rfl (by decide))) .nil) (.row (by decide) rfl (fr_map fun _ => rfl) .nil), rfl, false, (fun h => by cases h), rfl, rfl, rfl⟩
    · replace h := ifF hc2 h
      refine Sv.seq ?_
      refine Sv.region ?_
      refine un (a1 (v := (B (decide (p_ = 2)))) rfl ?_)
      refine un (a1 rfl ?_)
      refine dnil ?_
      refine Sv.cond (b := decide (p_ = 2)) rfl (fun hc3 => ?_) (fun hc3 => ?_)
      · replace h := ifT hc3 h
        refine Sv.seq ?_
        refine Sv.region ?_
        refine un (a2v (v := (lstV false 0 1 ([[110, 111, 110, 101], [108, 101, 102, 116], [114, 105, 103, 104, 116]] : List (List UInt8)).length)) (h' := upd _ 0 (lstB false 1 (([[110, 111, 110, 101], [108, 101, 102, 116], [114, 105, 103, 104, 116]] : List (List UInt8)).map eStr))) (n' := 1) rfl rfl (fun h => by cases h) ?_)
        refine un (a1 rfl ?_)
        refine dnil ?_
        refine Sv.ret ?_
        replace h := Option.some.inj h
        subst h
        exact ⟨_, .refl _, _, rfl, ⟨upd (fun _ => none) 0 (some (lstV false 0 1 ([[110, 111, 110, 101], [108, 101, 102, 116], [114, 105, 103, 104, 116]] : List (List UInt8)).length)), (upd (fun _ => none) 0 (lstB false 1 (([[110, 111, 110, 101], [108, 101, 102, 116], [114, 105, 103, 104, 116]] : List (List UInt8)).map eStr))), 1⟩, (lstV false 0 1 ([[110, 111, 110, 101], [108, 101, 102, 116], [114, 105, 103, 104, 116]] : List (List UInt8)).length), weak_canon2 [0] [0] (by decide) (by decide) (fun b h => absurd h (Nat.not_lt_zero _)) (.cons (by decide) .nil) (.cons rfl (.c (lstC_ren rfl (by decide))) .nil) (.row (by decide) rfl (fr_map fun _ => rfl) .nil), rfl, false, (fun h => by cases h), rfl, rfl, rfl⟩
      · replace h := ifF hc3 h
        refine Sv.seq ?_
        refine Sv.region ?_
        refine un (a1 (v := (B (decide (p_ = 3)))) rfl ?_)
        refine un (a1 rfl ?_)
        refine dnil ?_
        refine Sv.cond (b := decide (p_ = 3)) rfl (fun hc4 => ?_) (fun hc4 => ?_)
        · replace h := ifT hc4 h
          refine Sv.seq ?_
          refine Sv.region ?_
          refine un (a2v (v := (lstV false 0 1 clerestoryref2_PropKeys_t2.length)) (h' := upd _ 0 (lstB false 1 (clerestoryref2_PropKeys_t2.map eStr))) (n' := 1) rfl rfl (fun h => by cases h) ?_)
          refine un (a1 rfl ?_)
          refine dnil ?_
          refine Sv.ret ?_
          replace h := Option.some.inj h
          subst h
          exact ⟨_, .refl _, _, rfl, ⟨upd (fun _ => none) 0 (some (lstV false 0 1 clerestoryref2_PropKeys_t2.length)), (upd (fun _ => none) 0 (lstB false 1 (clerestoryref2_PropKeys_t2.map eStr))), 1⟩, (lstV false 0 1 clerestoryref2_PropKeys_t2.length), weak_canon2 [0] [0] (by decide) (by decide) (fun b h => absurd h (Nat.not_lt_zero _)) (.cons (by decide) .nil) (.cons rfl (.c (lstC_ren rfl (by decide))) .nil) (.row (by decide) rfl (fr_map fun _ => rfl) .nil), rfl, false, (fun h => by cases h), rfl, rfl, rfl⟩
        · replace h := ifF hc4 h
          refine Sv.seq ?_
          refine Sv.region ?_
          refine un (a1 (v := (B (decide (p_ = 4)))) rfl ?_)
          refine un (a1 rfl ?_)
          refine dnil ?_
          refine Sv.cond (b := decide (p_ = 4)) rfl (fun hc5 => ?_) (fun hc5 => ?_)
          · replace h := ifT hc5 h
            refine Sv.seq ?_
            refine Sv.region ?_
            refine un (a2v (v := (lstV false 0 1 clerestoryref2_PropKeys_t3.length)) (h' := upd _ 0 (lstB false 1 (clerestoryref2_PropKeys_t3.map eStr))) (n' := 1) rfl rfl (fun h => by cases h) ?_)
            refine un (a1 rfl ?_)
            refine dnil ?_
            refine Sv.ret ?_
            replace h := Option.some.inj h
            subst h
            exact ⟨_, .refl _, _, rfl, ⟨upd (fun _ => none) 0 (some (lstV false 0 1 clerestoryref2_PropKeys_t3.length)), (upd (fun _ => none) 0 (lstB false 1 (clerestoryref2_PropKeys_t3.map eStr))), 1⟩, (lstV false 0 1 clerestoryref2_PropKeys_t3.length), weak_canon2 [0] [0] (by decide) (by decide) (fun b h => absurd h (Nat.not_lt_zero _)) (.cons (by decide) .nil) (.cons rfl (.c (lstC_ren rfl (by decide))) .nil) (.row (by decide) rfl (fr_map fun _ => rfl) .nil), rfl, false, (fun h => by cases h), rfl, rfl, rfl⟩
          · replace h := ifF hc5 h
            refine Sv.seq ?_
            refine Sv.region ?_
            refine un (a1 (v := (B (decide (p_ = 32)))) rfl ?_)
            refine un (a1 rfl ?_)
            refine dnil ?_
            refine Sv.cond (b := decide (p_ = 32)) rfl (fun hc6 => ?_) (fun hc6 => ?_)
            · replace h := ifT hc6 h
              refine Sv.seq ?_
              refine Sv.region ?_
              refine un (a2v (v := (lstV false 0 1 ([[118, 105, 115, 105, 98, 108, 101], [104, 105, 100, 100, 101, 110]] : List (List UInt8)).length)) (h' := upd _ 0 (lstB false 1 (([[118, 105, 115, 105, 98, 108, 101], [104, 105, 100, 100, 101, 110]] : List (List UInt8)).map eStr))) (n' := 1) rfl rfl (fun h => by cases h) ?_)
              refine un (a1 rfl ?_)
              refine dnil ?_
              refine Sv.ret ?_
              replace h := Option.some.inj h
              subst h
              exact ⟨_, .refl _, _, rfl, ⟨upd (fun _ => none) 0 (some (lstV false 0 1 ([[118, 105, 115, 105, 98, 108, 101], [104, 105, 100, 100, 101, 110]] : List (List UInt8)).length)), (upd (fun _ => none) 0 (lstB false 1 (([[118, 105, 115, 105, 98, 108, 101], [104, 105, 100, 100, 101, 110]] : List (List UInt8)).map eStr))), 1⟩, (lstV false 0 1 ([[118, 105, 115, 105, 98, 108, 101], [104, 105, 100, 100, 101, 110]] : List (List UInt8)).length), weak_canon2 [0] [0] (by decide) (by decide) (fun b h => absurd h (Nat.not_lt_zero _)) (.cons (by decide) .nil) (.cons rfl (.c (lstC_ren rfl (by decide))) .nil) (.row (by decide) rfl (fr_map fun _ => rfl) .nil), rfl, false, (fun h => by cases h), rfl, rfl, rfl⟩
            · replace h := ifF hc6 h
              refine Sv.seq ?_
              refine Sv.region ?_
              refine un (a1 (v := (B (decide (p_ = 33)))) rfl ?_)
              refine un (a1 rfl ?_)
              refine dnil ?_
              refine Sv.cond (b := decide (p_ = 33)) rfl (fun hc7 => ?_) (fun hc7 => ?_)
              · replace h := ifT hc7 h
                refine Sv.seq ?_
                refine Sv.region ?_
                refine un (a2v (v := (lstV false 0 1 ([[118, 105, 115, 105, 98, 108, 101], [104, 105, 100, 100, 101, 110]] : List (List UInt8)).length)) (h' := upd _ 0 (lstB false 1 (([[118, 105, 115, 105, 98, 108, 101], [104, 105, 100, 100, 101, 110]] : List (List UInt8)).map eStr))) (n' := 1) rfl rfl (fun h => by cases h) ?_)
                refine un (a1 rfl ?_)
                refine dnil ?_
                refine Sv.ret ?_
                replace h := Option.some.inj h
                subst h
                exact ⟨_, .refl _, _, rfl, ⟨upd (fun _ => none) 0 (some (lstV false 0 1 ([[118, 105, 115, 105, 98, 108, 101], [104, 105, 100, 100, 101, 110]] : List (List UInt8)).length)), (upd (fun _ => none) 0 (lstB false 1 (([[118, 105, 115, 105, 98, 108, 101], [104, 105, 100, 100, 101, 110]] : List (List UInt8)).map eStr))), 1⟩, (lstV false 0 1 ([[118, 105, 115, 105, 98, 108, 101], [104, 105, 100, 100, 101, 110]] : List (List UInt8)).length), weak_canon2 [0] [0] (by decide) (by decide) (fun b h => absurd h (Nat.not_lt_zero _)) (.cons (by decide) .nil) (.cons rfl (.c (lstC_ren rfl (by decide))) .nil) (.row (by decide) rfl (fr_map fun _ => rfl) .nil), rfl, false, (fun h => by cases h), rfl, rfl, rfl⟩
              · replace h := ifF hc7 h
                refine Sv.seq ?_
                refine Sv.region ?_
                refine un (a1 (v := (B (decide (p_ = 39)))) rfl ?_)
                refine un (a1 rfl ?_)
                refine dnil ?_
                refine Sv.cond (b := decide (p_ = 39)) rfl (fun hc8 => ?_) (fun hc8 => ?_)
                · replace h := ifT hc8 h
                  refine Sv.seq ?_
                  refine Sv.region ?_
                  refine un (a2v (v := (lstV false 0 1 clerestoryref2_PropKeys_t4.length)) (h' := upd _ 0 (lstB false 1 (clerestoryref2_PropKeys_t4.map eStr))) (n' := 1) rfl rfl (fun h => by cases h) ?_)
                  refine un (a1 rfl ?_)
                  refine dnil ?_
                  refine Sv.ret ?_
                  replace h := Option.some.inj h
                  subst h
                  exact ⟨_, .refl _, _, rfl, ⟨upd (fun _ => none) 0 (some (lstV false 0 1 clerestoryref2_PropKeys_t4.length)), (upd (fun _ => none) 0 (lstB false 1 (clerestoryref2_PropKeys_t4.map eStr))), 1⟩, (lstV false 0 1 clerestoryref2_PropKeys_t4.length), weak_canon2 [0] [0] (by decide) (by decide) (fun b h => absurd h (Nat.not_lt_zero _)) (.cons (by decide) .nil) (.cons rfl (.c (lstC_ren rfl (by decide))) .nil) (.row (by decide) rfl (fr_map fun _ => rfl) .nil), rfl, false, (fun h => by cases h), rfl, rfl, rfl⟩
                · replace h := ifF hc8 h
                  refine Sv.seq ?_
                  refine Sv.region ?_
                  refine un (a1 (v := (B (decide (p_ = 41)))) rfl ?_)
                  refine un (a1 rfl ?_)
                  refine dnil ?_
                  refine Sv.cond (b := decide (p_ = 41)) rfl (fun hc9 => ?_) (fun hc9 => ?_)
                  · replace h := ifT hc9 h
                    refine Sv.seq ?_
                    refine Sv.region ?_
                    refine un (a2v (v := (lstV false 0 1 clerestoryref2_PropKeys_t5.length)) (h' := upd _ 0 (lstB false 1 (clerestoryref2_PropKeys_t5.map eStr))) (n' := 1) rfl rfl (fun h => by cases h) ?_)
                    refine un (a1 rfl ?_)
                    refine dnil ?_
                    refine Sv.ret ?_
                    replace h := Option.some.inj h
                    subst h
                    exact ⟨_, .refl _, _, rfl, ⟨upd (fun _ => none) 0 (some (lstV false 0 1 clerestoryref2_PropKeys_t5.length)), (upd (fun _ => none) 0 (lstB false 1 (clerestoryref2_PropKeys_t5.map eStr))), 1⟩, (lstV false 0 1 clerestoryref2_PropKeys_t5.length), weak_canon2 [0] [0] (by decide) (by decide) (fun b h => absurd h (Nat.not_lt_zero _)) (.cons (by decide) .nil) (.cons rfl (.c (lstC_ren rfl (by decide))) .nil) (.row (by decide) rfl (fr_map fun _ => rfl) .nil), rfl, false, (fun h => by cases h), rfl, rfl, rfl⟩
                  · replace h := ifF hc9 h
                    refine Sv.seq ?_
                    refine Sv.region ?_
                    refine un (a1 (v := (B (decide (p_ = 42)))) rfl ?_)
                    refine un (a1 rfl ?_)
                    refine dnil ?_
                    refine Sv.cond (b := decide (p_ = 42)) rfl (fun hc10 => ?_) (fun hc10 => ?_)
                    · replace h := ifT hc10 h
                      refine Sv.seq ?_
                      refine Sv.region ?_
                      refine un (a2v (v := (lstV false 0 1 clerestoryref2_PropKeys_t6.length)) (h' := upd _ 0 (lstB false 1 (clerestoryref2_PropKeys_t6.map eStr))) (n' := 1) rfl rfl (fun h => by cases h) ?_)
                      refine un (a1 rfl ?_)
                      refine dnil ?_
                      refine Sv.ret ?_
                      replace h := Option.some.inj h
                      subst h
                      exact ⟨_, .refl _, _, rfl, ⟨upd (fun _ => none) 0 (some (lstV false 0 1 clerestoryref2_PropKeys_t6.length)), (upd (fun _ => none) 0 (lstB false 1 (clerestoryref2_PropKeys_t6.map eStr))), 1⟩, (lstV false 0 1 clerestoryref2_PropKeys_t6.length), weak_canon2 [0] [0] (by decide) (by decide) (fun b h => absurd h (Nat.not_lt_zero _)) (.cons (by decide) .nil) (.cons rfl (.c (lstC_ren rfl (by decide))) .nil) (.row (by decide) rfl (fr_map fun _ => rfl) .nil), rfl, false, (fun h => by cases h), rfl, rfl, rfl⟩
                    · replace h := ifF hc10 h
                      refine Sv.seq ?_
                      refine Sv.region ?_
                      refine un (a1 (v := (B (decide (p_ = 43)))) rfl ?_)
                      refine un (a1 rfl ?_)
                      refine dnil ?_
                      refine Sv.cond (b := decide (p_ = 43)) rfl (fun hc11 => ?_) (fun hc11 => ?_)
                      · replace h := ifT hc11 h
                        refine Sv.seq ?_
                        refine Sv.region ?_
                        refine un (a2v (v := (lstV false 0 1 clerestoryref2_PropKeys_t7.length)) (h' := upd _ 0 (lstB false 1 (clerestoryref2_PropKeys_t7.map eStr))) (n' := 1) rfl rfl (fun h => by cases h) ?_)
                        refine un (a1 rfl ?_)
                        refine dnil ?_
                        refine Sv.ret ?_
                        replace h := Option.some.inj h
                        subst h
                        exact ⟨_, .refl _, _, rfl, ⟨upd (fun _ => none) 0 (some (lstV false 0 1 clerestoryref2_PropKeys_t7.length)), (upd (fun _ => none) 0 (lstB false 1 (clerestoryref2_PropKeys_t7.map eStr))), 1⟩, (lstV false 0 1 clerestoryref2_PropKeys_t7.length), weak_canon2 [0] [0] (by decide) (by decide) (fun b h => absurd h (Nat.not_lt_zero _)) (.cons (by decide) .nil) (.cons rfl (.c (lstC_ren rfl (by decide))) .nil) (.row (by decide) rfl (fr_map fun _ => rfl) .nil), rfl, false, (fun h => by cases h), rfl, rfl, rfl⟩
                      · replace h := ifF hc11 h
                        refine Sv.seq ?_
                        refine Sv.region ?_
                        refine un (a1 (v := (B (decide (p_ = 45)))) rfl ?_)
                        refine un (a1 rfl ?_)
                        refine dnil ?_
                        refine Sv.cond (b := decide (p_ = 45)) rfl (fun hc12 => ?_) (fun hc12 => ?_)
                        · replace h := ifT hc12 h
                          refine Sv.seq ?_
                          refine Sv.region ?_
                          refine un (a2v (v := (lstV false 0 1 clerestoryref2_PropKeys_t8.length)) (h' := upd _ 0 (lstB false 1 (clerestoryref2_PropKeys_t8.map eStr))) (n' := 1) rfl rfl (fun h => by cases h) ?_)
                          refine un (a1 rfl ?_)
                          refine dnil ?_
                          refine Sv.ret ?_
                          replace h := Option.some.inj h
                          subst h
                          exact ⟨_, .refl _, _, rfl, ⟨upd (fun _ => none) 0 (some (lstV false 0 1 clerestoryref2_PropKeys_t8.length)), (upd (fun _ => none) 0 (lstB false 1 (clerestoryref2_PropKeys_t8.map eStr))), 1⟩, (lstV false 0 1 clerestoryref2_PropKeys_t8.length), weak_canon2 [0] [0] (by decide) (by decide) (fun b h => absurd h (Nat.not_lt_zero _)) (.cons (by decide) .nil) (.cons rfl (.c (lstC_ren rfl (by decide))) .nil) (.row (by decide) rfl (fr_map fun _ => rfl) .nil), rfl, false, (fun h => by cases h), rfl, rfl, rfl⟩
                        · replace h := ifF hc12 h
                          refine Sv.seq ?_
                          refine Sv.region ?_
                          refine un (a1 (v := (B (decide (p_ = 46)))) rfl ?_)
                          refine un (a1 rfl ?_)
                          refine dnil ?_
                          refine Sv.cond (b := decide (p_ = 46)) rfl (fun hc13 => ?_) (fun hc13 => ?_)
                          · replace h := ifT hc13 h
                            refine Sv.seq ?_
                            refine Sv.region ?_
                            refine un (a2v (v := (lstV false 0 1 ([[110, 111, 119, 114, 97, 112], [119, 114, 97, 112]] : List (List UInt8)).length)) (h' := upd _ 0 (lstB false 1 (([[110, 111, 119, 114, 97, 112], [119, 114, 97, 112]] : List (List UInt8)).map eStr))) (n' := 1) rfl rfl (fun h => by cases h) ?_)
                            refine un (a1 rfl ?_)
                            refine dnil ?_
                            refine Sv.ret ?_
                            replace h := Option.some.inj h
                            subst h
                            exact ⟨_, .refl _, _, rfl, ⟨upd (fun _ => none) 0 (some (lstV false 0 1 ([[110, 111, 119, 114, 97, 112], [119, 114, 97, 112]] : List (List UInt8)).length)), (upd (fun _ => none) 0 (lstB false 1 (([[110, 111, 119, 114, 97, 112], [119, 114, 97, 112]] : List (List UInt8)).map eStr))), 1⟩, (lstV false 0 1 ([[110, 111, 119, 114, 97, 112], [119, 114, 97, 112]] : List (List UInt8)).length), weak_canon2 [0] [0] (by decide) (by decide) (fun b h => absurd h (Nat.not_lt_zero _)) (.cons (by decide) .nil) (.cons rfl (.c (lstC_ren rfl (by decide))) .nil) (.row (by decide) rfl (fr_map fun _ => rfl) .nil), rfl, false, (fun h => by cases h), rfl, rfl, rfl⟩
                          · replace h := ifF hc13 h
                            refine Sv.seq ?_
                            refine Sv.region ?_
                            refine un (a1 (v := (B (decide (p_ = 47)))) rfl ?_)
                            refine un (a1 rfl ?_)
                            refine dnil ?_
                            refine Sv.cond (b := decide (p_ = 47)) rfl (fun hc14 => ?_) (fun hc14 => ?_)
                            · replace h := ifT hc14 h
                              refine Sv.seq ?_
                              refine Sv.region ?_
                              refine un (a2v (v := (lstV false 0 1 clerestoryref2_PropKeys_t9.length)) (h' := upd _ 0 (lstB false 1 (clerestoryref2_PropKeys_t9.map eStr))) (n' := 1) rfl rfl (fun h => by cases h) ?_)
                              refine un (a1 rfl ?_)
                              refine dnil ?_
                              refine Sv.ret ?_
                              replace h := Option.some.inj h
                              subst h
                              exact ⟨_, .refl _, _, rfl, ⟨upd (fun _ => none) 0 (some (lstV false 0 1 clerestoryref2_PropKeys_t9.length)), (upd (fun _ => none) 0 (lstB false 1 (clerestoryref2_PropKeys_t9.map eStr))), 1⟩, (lstV false 0 1 clerestoryref2_PropKeys_t9.length), weak_canon2 [0] [0] (by decide) (by decide) (fun b h => absurd h (Nat.not_lt_zero _)) (.cons (by decide) .nil) (.cons rfl (.c (lstC_ren rfl (by decide))) .nil) (.row (by decide) rfl (fr_map fun _ => rfl) .nil), rfl, false, (fun h => by cases h), rfl, rfl, rfl⟩
                            · replace h := ifF hc14 h
                              refine Sv.seq ?_
                              refine Sv.region ?_
                              refine un (a1 (v := (B (decide (p_ = 48)))) rfl ?_)
                              refine un (a1 rfl ?_)
                              refine dnil ?_
                              refine Sv.cond (b := decide (p_ = 48)) rfl (fun hc15 => ?_) (fun hc15 => ?_)
                              · replace h := ifT hc15 h
                                refine Sv.seq ?_
                                refine Sv.region ?_
                                refine un (a2v (v := (lstV false 0 1 clerestoryref2_PropKeys_t10.length)) (h' := upd _ 0 (lstB false 1 (clerestoryref2_PropKeys_t10.map eStr))) (n' := 1) rfl rfl (fun h => by cases h) ?_)
                                refine un (a1 rfl ?_)
                                refine dnil ?_
                                refine Sv.ret ?_
                                replace h := Option.some.inj h
                                subst h
                                exact ⟨_, .refl _, _, rfl, ⟨upd (fun _ => none) 0 (some (lstV false 0 1 clerestoryref2_PropKeys_t10.length)), (upd (fun _ => none) 0 (lstB false 1 (clerestoryref2_PropKeys_t10.map eStr))), 1⟩, (lstV false 0 1 clerestoryref2_PropKeys_t10.length), weak_canon2 [0] [0] (by decide) (by decide) (fun b h => absurd h (Nat.not_lt_zero _)) (.cons (by decide) .nil) (.cons rfl (.c (lstC_ren rfl (by decide))) .nil) (.row (by decide) rfl (fr_map fun _ => rfl) .nil), rfl, false, (fun h => by cases h), rfl, rfl, rfl⟩
                              · replace h := ifF hc15 h
                                refine Sv.seq ?_
                                refine Sv.region ?_
                                refine un (a1 (v := (B (decide (p_ = 49)))) rfl ?_)
                                refine un (a1 rfl ?_)
                                refine dnil ?_
                                refine Sv.cond (b := decide (p_ = 49)) rfl (fun hc16 => ?_) (fun hc16 => ?_)
                                · replace h := ifT hc16 h
                                  refine Sv.seq ?_
                                  refine Sv.region ?_
                                  refine un (a2v (v := (lstV false 0 1 clerestoryref2_PropKeys_t10.length)) (h' := upd _ 0 (lstB false 1 (clerestoryref2_PropKeys_t10.map eStr))) (n' := 1) rfl rfl (fun h => by cases h) ?_)
                                  refine un (a1 rfl ?_)
                                  refine dnil ?_
                                  refine Sv.ret ?_
                                  replace h := Option.some.inj h
                                  subst h
                                  exact ⟨_, .refl _, _, rfl, ⟨upd (fun _ => none) 0 (some (lstV false 0 1 clerestoryref2_PropKeys_t10.length)), (upd (fun _ => none) 0 (lstB false 1 (clerestoryref2_PropKeys_t10.map eStr))), 1⟩, (lstV false 0 1 clerestoryref2_PropKeys_t10.length), weak_canon2 [0] [0] (by decide) (by decide) (fun b h => absurd h (Nat.not_lt_zero _)) (.cons (by decide) .nil) (.cons rfl (.c (lstC_ren rfl (by decide))) .nil) (.row (by decide) rfl (fr_map fun _ => rfl) .nil), rfl, false, (fun h => by cases h), rfl, rfl, rfl⟩
                                · replace h := ifF hc16 h
                                  refine Sv.seq ?_
                                  refine Sv.region ?_
                                  refine un (a1 (v := (B (decide (p_ = 55)))) rfl ?_)
                                  refine un (a1 rfl ?_)
                                  refine dnil ?_
                                  refine Sv.cond (b := decide (p_ = 55)) rfl (fun hc17 => ?_) (fun hc17 => ?_)
                                  · replace h := ifT hc17 h
                                    refine Sv.seq ?_
                                    refine Sv.region ?_
                                    refine un (a2v (v := (lstV false 0 1 ([[97, 117, 116, 111], [102, 105, 120, 101, 100]] : List (List UInt8)).length)) (h' := upd _ 0 (lstB false 1 (([[97, 117, 116, 111], [102, 105, 120, 101, 100]] : List (List UInt8)).map eStr))) (n' := 1) rfl rfl (fun h => by cases h) ?_)
                                    refine un (a1 rfl ?_)
                                    refine dnil ?_
                                    refine Sv.ret ?_
                                    replace h := Option.some.inj h
                                    subst h
                                    exact ⟨_, .refl _, _, rfl, ⟨upd (fun _ => none) 0 (some (lstV false 0 1 ([[97, 117, 116, 111], [102, 105, 120, 101, 100]] : List (List UInt8)).length)), (upd (fun _ => none) 0 (lstB false 1 (([[97, 117, 116, 111], [102, 105, 120, 101, 100]] : List (List UInt8)).map eStr))), 1⟩, (lstV false 0 1 ([[97, 117, 116, 111], [102, 105, 120, 101, 100]] : List (List UInt8)).length), weak_canon2 [0] [0] (by decide) (by decide) (fun b h => absurd h (Nat.not_lt_zero _)) (.cons (by decide) .nil) (.cons rfl (.c (lstC_ren rfl (by decide))) .nil) (.row (by decide) rfl (fr_map fun _ => rfl) .nil), rfl, false, (fun h => by cases h), rfl, rfl, rfl⟩
                                  · replace h := ifF hc17 h
                                    refine Sv.seq ?_
                                    refine Sv.region ?_
                                    refine un (a1 (v := (B (decide (p_ = 57)))) rfl ?_)
                                    refine un (a1 rfl ?_)
                                    refine dnil ?_
                                    refine Sv.cond (b := decide (p_ = 57)) rfl (fun hc18 => ?_) (fun hc18 => ?_)
                                    · replace h := ifT hc18 h
                                      refine Sv.seq ?_
                                      refine Sv.region ?_
                                      refine un (a2v (v := (lstV false 0 1 clerestoryref2_PropKeys_t11.length)) (h' := upd _ 0 (lstB false 1 (clerestoryref2_PropKeys_t11.map eStr))) (n' := 1) rfl rfl (fun h => by cases h) ?_)
                                      refine un (a1 rfl ?_)
                                      refine dnil ?_
                                      refine Sv.ret ?_
                                      replace h := Option.some.inj h
                                      subst h
                                      exact ⟨_, .refl _, _, rfl, ⟨upd (fun _ => none) 0 (some (lstV false 0 1 clerestoryref2_PropKeys_t11.length)), (upd (fun _ => none) 0 (lstB false 1 (clerestoryref2_PropKeys_t11.map eStr))), 1⟩, (lstV false 0 1 clerestoryref2_PropKeys_t11.length), weak_canon2 [0] [0] (by decide) (by decide) (fun b h => absurd h (Nat.not_lt_zero _)) (.cons (by decide) .nil) (.cons rfl (.c (lstC_ren rfl (by decide))) .nil) (.row (by decide) rfl (fr_map fun _ => rfl) .nil), rfl, false, (fun h => by cases h), rfl, rfl, rfl⟩
                                    · replace h := ifF hc18 h
                                      refine Sv.seq ?_
                                      refine Sv.region ?_
                                      refine un (a1 (v := (B (decide (p_ = 58)))) rfl ?_)
                                      refine un (a1 rfl ?_)
                                      refine dnil ?_
                                      refine Sv.cond (b := decide (p_ = 58)) rfl (fun hc19 => ?_) (fun hc19 => ?_)
                                      · replace h := ifT hc19 h
                                        refine Sv.seq ?_
                                        refine Sv.region ?_
                                        refine un (a2v (v := (lstV false 0 1 ([[97, 117, 116, 111], [110, 111, 110, 101]] : List (List UInt8)).length)) (h' := upd _ 0 (lstB false 1 (([[97, 117, 116, 111], [110, 111, 110, 101]] : List (List UInt8)).map eStr))) (n' := 1) rfl rfl (fun h => by cases h) ?_)
                                        refine un (a1 rfl ?_)
                                        refine dnil ?_
                                        refine Sv.ret ?_
                                        replace h := Option.some.inj h
                                        subst h
                                        exact ⟨_, .refl _, _, rfl, ⟨upd (fun _ => none) 0 (some (lstV false 0 1 ([[97, 117, 116, 111], [110, 111, 110, 101]] : List (List UInt8)).length)), (upd (fun _ => none) 0 (lstB false 1 (([[97, 117, 116, 111], [110, 111, 110, 101]] : List (List UInt8)).map eStr))), 1⟩, (lstV false 0 1 ([[97, 117, 116, 111], [110, 111, 110, 101]] : List (List UInt8)).length), weak_canon2 [0] [0] (by decide) (by decide) (fun b h => absurd h (Nat.not_lt_zero _)) (.cons (by decide) .nil) (.cons rfl (.c (lstC_ren rfl (by decide))) .nil) (.row (by decide) rfl (fr_map fun _ => rfl) .nil), rfl, false, (fun h => by cases h), rfl, rfl, rfl⟩
                                      · replace h := ifF hc19 h
                                        refine Sv.skip ?_
                                        refine Sv.seq ?_
                                        refine Sv.region ?_
                                        refine un (a1 rfl ?_)
                                        refine dnil ?_
                                        refine Sv.ret ?_
                                        replace h := Option.some.inj h
                                        subst h
                                        exact ⟨_, .refl _, _, rfl, ⟨upd (fun _ => none) 0 (some (lstV true 0 1 ([] : List (List UInt8)).length)), (upd (fun _ => none) 0 (lstB true 1 (([] : List (List UInt8)).map eStr))), 1⟩, (lstV true 0 1 ([] : List (List UInt8)).length), weak_canon2 [1000] [0] (by decide) (by decide) (fun b h => absurd h (Nat.not_lt_zero _)) (.cons (by decide) .nil) (.cons rfl (.c (.same rfl)) .nil) (.non (by decide) .nil), rfl, true, (fun _ => rfl), rfl, rfl, rfl⟩
def a10_c0 : ACode := .ret
def a10_c2 : ACode := (.cond (.tmp 94) (.seq (.region [⟨(some 4), (.mov (.const (.c (.val (.bool false))))), none⟩])
 .ret) .skip)
def a10_c3 : ACode := (.seq (.seq (.region [⟨(some 95), (.mov (.tmp 0)), none⟩, ⟨(some 96), (.bin .eql (.tmp 95) (.const (.c (.val (.int .i64 34))))), none⟩, ⟨(some 97), (.mov (.tmp 96)), none⟩, ⟨(some 98), (.faddr 1 (.tmp 3)), (some (97, true))⟩, ⟨(some 99), (.load false 1 (.tmp 98)), (some (97, true))⟩, ⟨(some 100), (.bin .gtr (.tmp 99) (.const (.c (.val (.int .i64 1000))))), (some (97, true))⟩, ⟨(some 101), (.pick (.tmp 97) (.tmp 100) (.const (.c (.val (.bool false))))), none⟩, ⟨(some 102), (.mov (.tmp 101)), none⟩, ⟨(some 103), (.mov (.tmp 0)), (some (102, false))⟩, ⟨(some 104), (.bin .eql (.tmp 103) (.const (.c (.val (.int .i64 37))))), (some (102, false))⟩, ⟨(some 105), (.mov (.tmp 104)), (some (102, false))⟩, ⟨(some 106), (.faddr 1 (.tmp 3)), (some (105, true))⟩, ⟨(some 107), (.load false 1 (.tmp 106)), (some (105, true))⟩, ⟨(some 108), (.bin .lss (.tmp 107) (.const (.c (.val (.int .i64 64))))), (some (105, true))⟩, ⟨(some 109), (.pick (.tmp 105) (.tmp 108) (.const (.c (.val (.bool false))))), (some (102, false))⟩, ⟨(some 110), (.pick (.tmp 102) (.const (.c (.val (.bool true)))) (.tmp 109)), none⟩])
 (.cond (.tmp 110) (.seq (.region [⟨(some 4), (.mov (.const (.c (.val (.bool false))))), none⟩])
 .ret) .skip))
 (.seq (.region [⟨(some 111), (.faddr 1 (.tmp 3)), none⟩, ⟨(some 112), (.load false 1 (.tmp 111)), none⟩, ⟨(some 113), (.bin .geq (.tmp 112) (.const (.c (.val (.int .i64 (-16777216)))))), none⟩, ⟨(some 114), (.mov (.tmp 113)), none⟩, ⟨(some 115), (.faddr 1 (.tmp 3)), (some (114, true))⟩, ⟨(some 116), (.load false 1 (.tmp 115)), (some (114, true))⟩, ⟨(some 117), (.bin .leq (.tmp 116) (.const (.c (.val (.int .i64 16777216))))), (some (114, true))⟩, ⟨(some 118), (.pick (.tmp 114) (.tmp 117) (.const (.c (.val (.bool false))))), none⟩, ⟨(some 4), (.mov (.tmp 118)), none⟩])
 .ret))
def a10_c1 : ACode := (.seq (.seq (.region [⟨(some 57), (.faddr 0 (.tmp 3)), none⟩, ⟨(some 58), (.load false 1 (.tmp 57)), none⟩, ⟨(some 59), (.bin .eql (.tmp 58) (.const (.c (.val (.int .i64 6))))), none⟩])
 (.cond (.tmp 59) (.seq (.region [⟨(some 60), (.faddr 1 (.tmp 3)), none⟩, ⟨(some 61), (.load false 1 (.tmp 60)), none⟩, ⟨(some 62), (.bin .eql (.tmp 61) (.const (.c (.val (.int .i64 0))))), none⟩, ⟨(some 4), (.mov (.tmp 62)), none⟩])
 .ret) .skip))
 (.seq (.seq (.region [⟨(some 63), (.faddr 0 (.tmp 3)), none⟩, ⟨(some 64), (.load false 1 (.tmp 63)), none⟩, ⟨(some 65), (.bin .eql (.tmp 64) (.const (.c (.val (.int .i64 5))))), none⟩])
 (.cond (.tmp 65) (.seq (.region [⟨(some 66), (.faddr 1 (.tmp 3)), none⟩, ⟨(some 67), (.load false 1 (.tmp 66)), none⟩, ⟨(some 68), (.bin .geq (.tmp 67) (.const (.c (.val (.int .i64 0))))), none⟩, ⟨(some 69), (.mov (.tmp 68)), none⟩, ⟨(some 70), (.faddr 1 (.tmp 3)), (some (69, true))⟩, ⟨(some 71), (.load false 1 (.tmp 70)), (some (69, true))⟩, ⟨(some 72), (.bin .leq (.tmp 71) (.const (.c (.val (.int .i64 4294967295))))), (some (69, true))⟩, ⟨(some 73), (.pick (.tmp 69) (.tmp 72) (.const (.c (.val (.bool false))))), none⟩, ⟨(some 4), (.mov (.tmp 73)), none⟩])
 .ret) .skip))
 (.seq (.seq (.region [⟨(some 74), (.mov (.tmp 0)), none⟩, ⟨(some 75), (.bin .eql (.tmp 74) (.const (.c (.val (.int .i64 31))))), none⟩, ⟨(some 76), (.mov (.tmp 75)), none⟩, ⟨(some 77), (.mov (.tmp 0)), (some (76, false))⟩, ⟨(some 78), (.bin .eql (.tmp 77) (.const (.c (.val (.int .i64 53))))), (some (76, false))⟩, ⟨(some 79), (.pick (.tmp 76) (.const (.c (.val (.bool true)))) (.tmp 78)), none⟩, ⟨(some 80), (.mov (.tmp 79)), none⟩, ⟨(some 81), (.faddr 1 (.tmp 3)), (some (80, true))⟩, ⟨(some 82), (.load false 1 (.tmp 81)), (some (80, true))⟩, ⟨(some 83), (.bin .rem (.tmp 82) (.const (.c (.val (.int .i64 1000))))), (some (80, true))⟩, ⟨(some 84), (.bin .neq (.tmp 83) (.const (.c (.val (.int .i64 0))))), (some (80, true))⟩, ⟨(some 85), (.pick (.tmp 80) (.tmp 84) (.const (.c (.val (.bool false))))), none⟩, ⟨(some 86), (.mov (.tmp 85)), none⟩, ⟨(some 87), (.mov (.tmp 5)), (some (86, false))⟩, ⟨(some 88), (.call 29 [(.tmp 87), (.const (.c (.val (.int .u8 48))))]), (some (86, false))⟩, ⟨(some 89), (.mov (.tmp 88)), (some (86, false))⟩, ⟨(some 90), (.faddr 1 (.tmp 3)), (some (89, true))⟩, ⟨(some 91), (.load false 1 (.tmp 90)), (some (89, true))⟩, ⟨(some 92), (.bin .lss (.tmp 91) (.const (.c (.val (.int .i64 0))))), (some (89, true))⟩, ⟨(some 93), (.pick (.tmp 89) (.tmp 92) (.const (.c (.val (.bool false))))), (some (86, false))⟩, ⟨(some 94), (.pick (.tmp 86) (.const (.c (.val (.bool true)))) (.tmp 93)), none⟩])
 a10_c2)
 a10_c3)))
def a10 : AFunc := ⟨2, [(.tmp 4)], (.seq (.region [⟨(some 3), (.box (.tmp 1)), none⟩, ⟨(some 4), (.mov (.const (.c (.val (.bool false))))), none⟩])
 (.seq (.seq (.region [⟨(some 7), (.mov (.tmp 0)), none⟩, ⟨(some 8), (.bin .lss (.tmp 7) (.const (.c (.val (.int .i64 0))))), none⟩, ⟨(some 9), (.mov (.tmp 8)), none⟩, ⟨(some 10), (.mov (.tmp 0)), (some (9, false))⟩, ⟨(some 11), (.bin .geq (.tmp 10) (.const (.c (.val (.int .i64 59))))), (some (9, false))⟩, ⟨(some 12), (.pick (.tmp 9) (.const (.c (.val (.bool true)))) (.tmp 11)), none⟩, ⟨(some 13), (.mov (.tmp 12)), none⟩, ⟨(some 14), (.faddr 0 (.tmp 3)), (some (13, false))⟩, ⟨(some 15), (.load false 1 (.tmp 14)), (some (13, false))⟩, ⟨(some 16), (.bin .lss (.tmp 15) (.const (.c (.val (.int .i64 1))))), (some (13, false))⟩, ⟨(some 17), (.pick (.tmp 13) (.const (.c (.val (.bool true)))) (.tmp 16)), none⟩, ⟨(some 18), (.mov (.tmp 17)), none⟩, ⟨(some 19), (.faddr 0 (.tmp 3)), (some (18, false))⟩, ⟨(some 20), (.load false 1 (.tmp 19)), (some (18, false))⟩, ⟨(some 21), (.bin .gtr (.tmp 20) (.const (.c (.val (.int .i64 6))))), (some (18, false))⟩, ⟨(some 22), (.pick (.tmp 18) (.const (.c (.val (.bool true)))) (.tmp 21)), none⟩])
 (.cond (.tmp 22) (.seq (.region [⟨(some 4), (.mov (.const (.c (.val (.bool false))))), none⟩])
 .ret) .skip))
 (.seq (.region [⟨(some 23), (.call 28 []), none⟩, ⟨(some 24), (.mov (.tmp 0)), none⟩, ⟨(some 25), (.iaddr 1 (.tmp 23) (.tmp 24)), none⟩, ⟨(some 26), (.load false 1 (.tmp 25)), none⟩, ⟨(some 5), (.mov (.tmp 26)), none⟩])
 (.seq (.seq (.region [⟨(some 27), (.mov (.tmp 5)), none⟩, ⟨(some 28), (.faddr 0 (.tmp 3)), none⟩, ⟨(some 29), (.load false 1 (.tmp 28)), none⟩, ⟨(some 30), (.bin .sub (.tmp 29) (.const (.c (.val (.int .i64 1))))), none⟩, ⟨(some 31), (.idxS (.const (.c (.str [107, 108, 112, 110, 99, 97]))) (.tmp 30)), none⟩, ⟨(some 32), (.call 29 [(.tmp 27), (.tmp 31)]), none⟩, ⟨(some 33), (.un .not (.tmp 32)), none⟩])
 (.cond (.tmp 33) (.seq (.region [⟨(some 4), (.mov (.const (.c (.val (.bool false))))), none⟩])
 .ret) .skip))
 (.seq (.seq (.region [⟨(some 34), (.faddr 0 (.tmp 3)), none⟩, ⟨(some 35), (.load false 1 (.tmp 34)), none⟩, ⟨(some 36), (.bin .eql (.tmp 35) (.const (.c (.val (.int .i64 1))))), none⟩])
 (.cond (.tmp 36) (.seq (.region [⟨(some 37), (.mov (.tmp 0)), none⟩, ⟨(some 38), (.call 30 [(.tmp 37)]), none⟩, ⟨(some 6), (.mov (.tmp 38)), none⟩])
 (.seq (.region [⟨(some 39), (.faddr 1 (.tmp 3)), none⟩, ⟨(some 40), (.load false 1 (.tmp 39)), none⟩, ⟨(some 41), (.bin .geq (.tmp 40) (.const (.c (.val (.int .i64 0))))), none⟩, ⟨(some 42), (.mov (.tmp 41)), none⟩, ⟨(some 43), (.faddr 1 (.tmp 3)), (some (42, true))⟩, ⟨(some 44), (.load false 1 (.tmp 43)), (some (42, true))⟩, ⟨(some 45), (.mov (.tmp 6)), (some (42, true))⟩, ⟨(some 46), (.len (.tmp 45)), (some (42, true))⟩, ⟨(some 47), (.bin .lss (.tmp 44) (.tmp 46)), (some (42, true))⟩, ⟨(some 48), (.pick (.tmp 42) (.tmp 47) (.const (.c (.val (.bool false))))), none⟩, ⟨(some 49), (.mov (.tmp 48)), none⟩, ⟨(some 50), (.mov (.tmp 6)), (some (49, true))⟩, ⟨(some 51), (.faddr 1 (.tmp 3)), (some (49, true))⟩, ⟨(some 52), (.load false 1 (.tmp 51)), (some (49, true))⟩, ⟨(some 53), (.iaddr 1 (.tmp 50) (.tmp 52)), (some (49, true))⟩, ⟨(some 54), (.load false 1 (.tmp 53)), (some (49, true))⟩, ⟨(some 55), (.bin .neq (.tmp 54) (.const (.c (.str [])))), (some (49, true))⟩, ⟨(some 56), (.pick (.tmp 49) (.tmp 55) (.const (.c (.val (.bool false))))), none⟩, ⟨(some 4), (.mov (.tmp 56)), none⟩])
 a10_c0)) .skip))
 a10_c1)))))⟩
set_option maxRecDepth 100000 in
theorem c10 : compFunc Tryd.prog 10 = some a10 := by kernel_rfl
def clerestoryref2_ValMay_post (r : Bool) : AV → Heap → Nat → Prop := fun v h' n' => v = (B r) ∧ (h' = (fun _ => none)) ∧ n' = 0
abbrev clerestoryref2_ValMay_q0 (mL : Int) (o : Bool) : AExit → St → Prop := AThen (Sv Tryd.prog (GG mL) 0 a10_c1 (Ends a10.results 0 (clerestoryref2_ValMay_post o))) (Ends a10.results 0 (clerestoryref2_ValMay_post o))
noncomputable def clerestoryref2_ValMay_j1 (v4 : Bool) : Option Bool :=
  some v4
theorem clerestoryref2_ValMay_j1_ok {mL : Int} {v4 : Bool} {o : Bool} (h : clerestoryref2_ValMay_j1 v4 = some o) :
    Sv Tryd.prog (GG mL) 0 a10_c0 (clerestoryref2_ValMay_q0 mL o) ⟨(upd (fun _ => none) 4 (some (B v4))), (fun _ => none), 0⟩ := by
  unfold clerestoryref2_ValMay_j1 at h
  refine Sv.ret ?_
  replace h := Option.some.inj h
  subst h
  exact ⟨_, .refl _, _, rfl, ⟨upd (fun _ => none) 0 (some (B v4)), (fun _ => none), 0⟩, (B v4), weak_canon [] rfl List.nodup_nil (Nat.le_refl _) (fun b h => absurd h (Nat.not_lt_zero _)) (.cons rfl (avAs_free rfl) .nil) .nil, rfl, rfl, rfl, rfl⟩
abbrev clerestoryref2_ValMay_q1 (mL : Int) (o : Bool) : AExit → St → Prop := AThen (Sv Tryd.prog (GG mL) 0 a10_c3 (Ends a10.results 0 (clerestoryref2_ValMay_post o))) (Ends a10.results 0 (clerestoryref2_ValMay_post o))
noncomputable def clerestoryref2_ValMay_j2 (p_ : Int) (v_ : TVal) (v94 : Bool) : Option Bool :=
  if v94 then
    some false
  else
    if (((decide (p_ = 34)) && (decide (1000 < v_.N))) || ((decide (p_ = 37)) && (decide (v_.N < 64)))) then
      some false
    else
      some ((decide ((-16777216) ≤ v_.N)) && (decide (v_.N ≤ 16777216)))
theorem clerestoryref2_ValMay_j2_ok {mL : Int} {p_ : Int} {v_ : TVal} {v94 : Bool} {o : Bool} (h : clerestoryref2_ValMay_j2 p_ v_ v94 = some o) :
    Sv Tryd.prog (GG mL) 0 a10_c2 (clerestoryref2_ValMay_q1 mL o) ⟨(upd (upd (upd (fun _ => none) 0 (some (I p_))) 3 (some (.c (.ref 0 2 0 0)))) 94 (some (B v94))), (upd (fun _ => none) 0 (some (.cells 2 [[cI v_.Kind, cI v_.N]]))), 1⟩ := by
  unfold clerestoryref2_ValMay_j2 at h
  refine Sv.cond (b := v94) rfl (fun hc12 => ?_) (fun hc12 => ?_)
  · replace h := ifT hc12 h
    refine Sv.seq ?_
    refine Sv.region ?_
    refine un (a1 rfl ?_)
    refine dnil ?_
    refine Sv.ret ?_
    replace h := Option.some.inj h
    subst h
    exact ⟨_, .refl _, _, rfl, ⟨upd (fun _ => none) 0 (some (B false)), (fun _ => none), 0⟩, (B false), weak_canon [] rfl List.nodup_nil (Nat.le_refl _) (fun b h => absurd h (Nat.not_lt_zero _)) (.cons rfl (avAs_free rfl) .nil) .nil, rfl, rfl, rfl, rfl⟩
  · replace h := ifF hc12 h
    refine Sv.skip ?_
    refine Sv.seq ?_
    refine Sv.seq ?_
    refine Sv.region ?_
    refine un (a1 rfl ?_)
    refine un (a1 (v := (B (decide (p_ = 34)))) rfl ?_)
    refine un (a1 rfl ?_)
    refine gjoin 4 (d := 101) (v := (B ((decide (p_ = 34)) && (decide (1000 < v_.N))))) (fun X hX => ?_) ?_
    · refine split2 (fun hc13 => ?_) (fun hc13 => ?_)
      · refine gt rfl (a1 (v := (.c (.ref 0 2 0 1))) rfl ?_)
        refine gt rfl (a1 (v := (I v_.N)) rfl ?_)
        refine gt rfl (a1 (v := (B (decide (1000 < v_.N)))) rfl ?_)
        refine un (a1 (v := (B (decide (1000 < v_.N)))) rfl ?_)
        refine dnil ?_
        exact hX _ (.putEq (by rw [hc13]; rfl) (.skip _ _ (.skip _ _ (.skip _ _ (.putEq (by rw [hc13]) (.refl _)) rfl) rfl) rfl))
      · refine gs rfl rfl ?_
        refine gs rfl rfl ?_
        refine gs rfl rfl ?_
        refine un (a1 (v := (B false)) rfl ?_)
        refine dnil ?_
        exact hX _ (.putEq (by rw [hc13]; rfl) (.skip _ _ (.skip _ _ (.skip _ _ (.putEq (by rw [hc13]) (.refl _)) rfl) rfl) rfl))
    refine un (a1 rfl ?_)
    refine gjoin 8 (d := 110) (v := (B (((decide (p_ = 34)) && (decide (1000 < v_.N))) || ((decide (p_ = 37)) && (decide (v_.N < 64)))))) (fun X hX => ?_) ?_
    · refine split2 (fun hc15 => ?_) (fun hc15 => ?_)
      · refine gs rfl rfl ?_
        refine gs rfl rfl ?_
        refine gs rfl rfl ?_
        refine gu rfl ?_
        refine gu rfl ?_
        refine gu rfl ?_
        refine gs rfl rfl ?_
        refine un (a1 (v := (B true)) rfl ?_)
        refine dnil ?_
        exact hX _ (.putEq (by rw [hc15]; rfl) (.skip _ _ (.skip _ _ (.skip _ _ (.skip _ _ (.skip _ _ (.skip _ _ (.skip _ _ (.putEq (by rw [hc15]) (.refl _)) rfl) rfl) rfl) rfl) rfl) rfl) rfl))
      · refine gt rfl (a1 rfl ?_)
        refine gt rfl (a1 (v := (B (decide (p_ = 37)))) rfl ?_)
        refine gt rfl (a1 rfl ?_)
        refine gjoin 4 (d := 109) (v := (B ((decide (p_ = 37)) && (decide (v_.N < 64))))) (fun X hX => ?_) ?_
        · refine split2 (fun hc14 => ?_) (fun hc14 => ?_)
          · refine gt rfl (a1 (v := (.c (.ref 0 2 0 1))) rfl ?_)
            refine gt rfl (a1 (v := (I v_.N)) rfl ?_)
            refine gt rfl (a1 (v := (B (decide (v_.N < 64)))) rfl ?_)
            refine gt rfl (a1 (v := (B (decide (v_.N < 64)))) rfl ?_)
            refine dnil ?_
            exact hX _ (.putEq (by rw [hc14]; rfl) (.skip _ _ (.skip _ _ (.skip _ _ (.putEq (by rw [hc14]) (.refl _)) rfl) rfl) rfl))
          · refine gs rfl rfl ?_
            refine gs rfl rfl ?_
            refine gs rfl rfl ?_
            refine gt rfl (a1 (v := (B false)) rfl ?_)
            refine dnil ?_
            exact hX _ (.putEq (by rw [hc14]; rfl) (.skip _ _ (.skip _ _ (.skip _ _ (.putEq (by rw [hc14]) (.refl _)) rfl) rfl) rfl))
        refine un (a1 (v := (B ((decide (p_ = 37)) && (decide (v_.N < 64))))) rfl ?_)
        refine dnil ?_
        exact hX _ (.putEq (by rw [hc15]; rfl) (.skip _ _ (.skip _ _ (.skip _ _ (.skip _ _ (.putEq (by rw [hc15]) (.refl _)) rfl) rfl) rfl) rfl))
    refine dnil ?_
    refine Sv.cond (b := (((decide (p_ = 34)) && (decide (1000 < v_.N))) || ((decide (p_ = 37)) && (decide (v_.N < 64))))) rfl (fun hc16 => ?_) (fun hc16 => ?_)
    · replace h := ifT hc16 h
      refine Sv.seq ?_
      refine Sv.region ?_
      refine un (a1 rfl ?_)
      refine dnil ?_
      refine Sv.ret ?_
      replace h := Option.some.inj h
      subst h
      exact ⟨_, .refl _, _, rfl, ⟨upd (fun _ => none) 0 (some (B false)), (fun _ => none), 0⟩, (B false), weak_canon [] rfl List.nodup_nil (Nat.le_refl _) (fun b h => absurd h (Nat.not_lt_zero _)) (.cons rfl (avAs_free rfl) .nil) .nil, rfl, rfl, rfl, rfl⟩
    · replace h := ifF hc16 h
      refine Sv.skip ?_
      refine Sv.seq ?_
      refine Sv.region ?_
      refine un (a1 (v := (.c (.ref 0 2 0 1))) rfl ?_)
      refine un (a1 (v := (I v_.N)) rfl ?_)
      refine un (a1 (v := (B (decide ((-16777216) ≤ v_.N)))) rfl ?_)
      refine un (a1 rfl ?_)
      refine gjoin 4 (d := 118) (v := (B ((decide ((-16777216) ≤ v_.N)) && (decide (v_.N ≤ 16777216))))) (fun X hX => ?_) ?_
      · refine split2 (fun hc17 => ?_) (fun hc17 => ?_)
        · refine gt rfl (a1 (v := (.c (.ref 0 2 0 1))) rfl ?_)
          refine gt rfl (a1 (v := (I v_.N)) rfl ?_)
          refine gt rfl (a1 (v := (B (decide (v_.N ≤ 16777216)))) rfl ?_)
          refine un (a1 (v := (B (decide (v_.N ≤ 16777216)))) rfl ?_)
          refine dnil ?_
          exact hX _ (.putEq (by rw [hc17]; rfl) (.skip _ _ (.skip _ _ (.skip _ _ (.putEq (by rw [hc17]) (.refl _)) rfl) rfl) rfl))
        · refine gs rfl rfl ?_
          refine gs rfl rfl ?_
          refine gs rfl rfl ?_
          refine un (a1 (v := (B false)) rfl ?_)
          refine dnil ?_
          exact hX _ (.putEq (by rw [hc17]; rfl) (.skip _ _ (.skip _ _ (.skip _ _ (.putEq (by rw [hc17]) (.refl _)) rfl) rfl) rfl))
      refine un (a1 rfl ?_)
      refine dnil ?_
      refine Sv.ret ?_
      replace h := Option.some.inj h
      subst h
      exact ⟨_, .refl _, _, rfl, ⟨upd (fun _ => none) 0 (some (B ((decide ((-16777216) ≤ v_.N)) && (decide (v_.N ≤ 16777216))))), (fun _ => none), 0⟩, (B ((decide ((-16777216) ≤ v_.N)) && (decide (v_.N ≤ 16777216)))), weak_canon [] rfl List.nodup_nil (Nat.le_refl _) (fun b h => absurd h (Nat.not_lt_zero _)) (.cons rfl (avAs_free rfl) .nil) .nil, rfl, rfl, rfl, rfl⟩
/-- clerestory/clerestoryref2.ValMay -/
noncomputable def clerestoryref2_ValMay (p_ : Int) (v_ : TVal) : Option Bool :=
  if ((((decide (p_ < 0)) || (decide (59 ≤ p_))) || (decide (v_.Kind < 1))) || (decide (6 < v_.Kind))) then
    some false
  else
    (clerestoryref2_PropKinds).bind fun r_ =>
    (at? r_ p_).bind fun x_ =>
    (at? ([107, 108, 112, 110, 99, 97] : List UInt8) (wi (v_.Kind - 1))).bind fun c_ =>
    (clerestoryref2_hasByte x_ (c_.toNat : Int)).bind fun r_1 =>
    if (!r_1) then
      some false
    else
      if decide (v_.Kind = 1) then
        (clerestoryref2_PropKeys p_).bind fun r_2 =>
        if ((decide (0 ≤ v_.N)) && (decide (v_.N < (r_2.length : Int)))) then
          (at? r_2 v_.N).bind fun x_1 =>
          clerestoryref2_ValMay_j1 (!decide (x_1 = []))
        else
          clerestoryref2_ValMay_j1 false
      else
        if decide (v_.Kind = 6) then
          some (decide (v_.N = 0))
        else
          if decide (v_.Kind = 5) then
            some ((decide (0 ≤ v_.N)) && (decide (v_.N ≤ 4294967295)))
          else
            if (((decide (p_ = 31)) || (decide (p_ = 53))) && (!decide ((v_.N.tmod 1000) = 0))) then
              clerestoryref2_ValMay_j2 p_ v_ true
            else
              (clerestoryref2_hasByte x_ 48).bind fun r_3 =>
              clerestoryref2_ValMay_j2 p_ v_ (r_3 && (decide (v_.N < 0)))
theorem clerestoryref2_ValMay_ok {mL : Int} {p_ : Int} {v_ : TVal} {r : Bool} (h : clerestoryref2_ValMay p_ v_ = some r) : CPure Tryd.prog (GG mL) 10 [(I p_), (.agg [cI v_.Kind, cI v_.N])] (B r) := by
  refine acalls_of_sv hmix c10 (R := clerestoryref2_ValMay_post r) ?_
  unfold clerestoryref2_ValMay at h
  refine Sv.seq ?_
  refine Sv.region ?_
  refine un (a2v (v := (.c (.ref 0 2 0 0))) (h' := upd _ 0 (some (.cells 2 [[cI v_.Kind, cI v_.N]]))) (n' := 1) rfl rfl (fun h => by cases h) ?_)
  refine un (a1 rfl ?_)
  refine dnil ?_
  refine Sv.seq ?_
  refine Sv.seq ?_
  refine Sv.region ?_
  refine un (a1 rfl ?_)
  refine un (a1 (v := (B (decide (p_ < 0)))) rfl ?_)
  refine un (a1 rfl ?_)
  refine gjoin 3 (d := 12) (v := (B ((decide (p_ < 0)) || (decide (59 ≤ p_))))) (fun X hX => ?_) ?_
  · refine split2 (fun hc1 => ?_) (fun hc1 => ?_)
    · refine gs rfl rfl ?_
      refine gs rfl rfl ?_
      refine un (a1 (v := (B true)) rfl ?_)
      refine dnil ?_
      exact hX _ (.putEq (by rw [hc1]; rfl) (.skip _ _ (.skip _ _ (.putEq (by rw [hc1]) (.refl _)) rfl) rfl))
    · refine gt rfl (a1 rfl ?_)
      refine gt rfl (a1 (v := (B (decide (59 ≤ p_)))) rfl ?_)
      refine un (a1 (v := (B (decide (59 ≤ p_)))) rfl ?_)
      refine dnil ?_
      exact hX _ (.putEq (by rw [hc1]; rfl) (.skip _ _ (.skip _ _ (.putEq (by rw [hc1]) (.refl _)) rfl) rfl))
  refine un (a1 rfl ?_)
  refine gjoin 4 (d := 17) (v := (B (((decide (p_ < 0)) || (decide (59 ≤ p_))) || (decide (v_.Kind < 1))))) (fun X hX => ?_) ?_
  · refine split2 (fun hc2 => ?_) (fun hc2 => ?_)
    · refine gs rfl rfl ?_
      refine gs rfl rfl ?_
      refine gs rfl rfl ?_
      refine un (a1 (v := (B true)) rfl ?_)
      refine dnil ?_
      exact hX _ (.putEq (by rw [hc2]; rfl) (.skip _ _ (.skip _ _ (.skip _ _ (.putEq (by rw [hc2]) (.refl _)) rfl) rfl) rfl))
    · refine gt rfl (a1 (v := (.c (.ref 0 2 0 0))) rfl ?_)
      refine gt rfl (a1 (v := (I v_.Kind)) rfl ?_)
      refine gt rfl (a1 (v := (B (decide (v_.Kind < 1)))) rfl ?_)
      refine un (a1 (v := (B (decide (v_.Kind < 1)))) rfl ?_)
      refine dnil ?_
      exact hX _ (.putEq (by rw [hc2]; rfl) (.skip _ _ (.skip _ _ (.skip _ _ (.putEq (by rw [hc2]) (.refl _)) rfl) rfl) rfl))
  refine un (a1 rfl ?_)
  refine gjoin 4 (d := 22) (v := (B ((((decide (p_ < 0)) || (decide (59 ≤ p_))) || (decide (v_.Kind < 1))) || (decide (6 < v_.Kind))))) (fun X hX => ?_) ?_
  · refine split2 (fun hc3 => ?_) (fun hc3 => ?_)
    · refine gs rfl rfl ?_
      refine gs rfl rfl ?_
      refine gs rfl rfl ?_
      refine un (a1 (v := (B true)) rfl ?_)
      refine dnil ?_
      exact hX _ (.putEq (by rw [hc3]; rfl) (.skip _ _ (.skip _ _ (.skip _ _ (.putEq (by rw [hc3]) (.refl _)) rfl) rfl) rfl))
    · refine gt rfl (a1 (v := (.c (.ref 0 2 0 0))) rfl ?_)
      refine gt rfl (a1 (v := (I v_.Kind)) rfl ?_)
      refine gt rfl (a1 (v := (B (decide (6 < v_.Kind)))) rfl ?_)
      refine un (a1 (v := (B (decide (6 < v_.Kind)))) rfl ?_)
      refine dnil ?_
      exact hX _ (.putEq (by rw [hc3]; rfl) (.skip _ _ (.skip _ _ (.skip _ _ (.putEq (by rw [hc3]) (.refl _)) rfl) rfl) rfl))
  refine dnil ?_
  refine Sv.cond (b := ((((decide (p_ < 0)) || (decide (59 ≤ p_))) || (decide (v_.Kind < 1))) || (decide (6 < v_.Kind)))) rfl (fun hc4 => ?_) (fun hc4 => ?_)
  · replace h := ifT hc4 h
    refine Sv.seq ?_
    refine Sv.region ?_
    refine un (a1 rfl ?_)
    refine dnil ?_
    refine Sv.ret ?_
    replace h := Option.some.inj h
    subst h
    exact ⟨_, .refl _, _, rfl, ⟨upd (fun _ => none) 0 (some (B false)), (fun _ => none), 0⟩, (B false), weak_canon [] rfl List.nodup_nil (Nat.le_refl _) (fun b h => absurd h (Nat.not_lt_zero _)) (.cons rfl (avAs_free rfl) .nil) .nil, rfl, rfl, rfl, rfl⟩
  · replace h := ifF hc4 h
    refine Sv.skip ?_
    refine Sv.seq ?_
    refine Sv.region ?_
    obtain ⟨r_, hr1, h⟩ := bnd h
    refine un (ac_gen (bs := []) («as» := []) (h2 := _) (h1 := (fun _ => none)) (clerestoryref2_PropKinds_ok hr1) rfl .nil (hsub_refl _) (.nil _) (fun _ => rfl) (by decide) (by decide) .nil .nil ?_)
    rintro _ _ _ hn ⟨z_, hz_, rfl, rfl, rfl⟩
    refine ⟨.inl rfl, (upd (rem [] _) 1 (lstB z_ 1 (r_.map eStr))), fun hbd => (m3_cons (m3_row rfl (fr_map fun _ => rfl)) (m3_rem (in_nil _) (.cons (by decide) .nil) hbd)), (lstV z_ 1 1 r_.length), 2, (by cases z_ <;> rfl), rfl, ?_⟩
    refine un (a1 rfl ?_)
    obtain ⟨x_, hx1, h⟩ := bnd h
    refine un (a1 (v := (.c (.ref 1 1 p_.toNat 0))) (s_iaddrL rfl rfl hz_ hx1) ?_)
    refine un (a1 (v := (S x_)) (s_loadL (z := z_) (e := eStr) rfl rfl hz_ hx1 rfl rfl) ?_)
    refine un (a1 rfl ?_)
    refine dnil ?_
    refine Sv.seq ?_
    refine Sv.seq ?_
    refine Sv.region ?_
    refine un (a1 rfl ?_)
    refine un (a1 (v := (.c (.ref 0 2 0 0))) rfl ?_)
    refine un (a1 (v := (I v_.Kind)) rfl ?_)
    refine un (a1 (v := (I (wi (v_.Kind - 1)))) rfl ?_)
    obtain ⟨c_, hx2, h⟩ := bnd h
    refine un (a1 (v := (.c (.val (.int .u8 (c_.toNat : Int))))) (s_idxS rfl rfl hx2) ?_)
    obtain ⟨r_1, hr2, h⟩ := bnd h
    refine un (ac_pure (clerestoryref2_hasByte_ok hr2) rfl rfl rfl ?_)
    refine un (a1 (v := (B (!r_1))) rfl ?_)
    refine dnil ?_
    refine Sv.cond (b := (!r_1)) rfl (fun hc5 => ?_) (fun hc5 => ?_)
    · replace h := ifT hc5 h
      refine Sv.seq ?_
      refine Sv.region ?_
      refine un (a1 rfl ?_)
      refine dnil ?_
      refine Sv.ret ?_
      replace h := Option.some.inj h
      subst h
      exact ⟨_, .refl _, _, rfl, ⟨upd (fun _ => none) 0 (some (B false)), (fun _ => none), 0⟩, (B false), weak_canon [] rfl List.nodup_nil (Nat.le_refl _) (fun b h => absurd h (Nat.not_lt_zero _)) (.cons rfl (avAs_free rfl) .nil) .nil, rfl, rfl, rfl, rfl⟩
    · replace h := ifF hc5 h
      refine Sv.skip ?_
      refine Sv.seq ?_
      refine Sv.seq ?_
      refine Sv.region ?_
      refine un (a1 (v := (.c (.ref 0 2 0 0))) rfl ?_)
      refine un (a1 (v := (I v_.Kind)) rfl ?_)
      refine un (a1 (v := (B (decide (v_.Kind = 1)))) rfl ?_)
      refine dnil ?_
      refine Sv.cond (b := decide (v_.Kind = 1)) rfl (fun hc6 => ?_) (fun hc6 => ?_)
      · replace h := ifT hc6 h
        refine Sv.seq ?_
        refine Sv.region ?_
        refine un (a1 rfl ?_)
        obtain ⟨r_2, hr3, h⟩ := bnd h
        refine un (ac_gen (bs := []) («as» := [(I p_)]) (h2 := _) (h1 := (fun _ => none)) (clerestoryref2_PropKeys_ok hr3) rfl (.cons (avAs_free rfl) .nil) (hsub_refl _) (.nil _) (fun _ => rfl) (by decide) (by decide) (.cons (avAs_free rfl) .nil) .nil ?_)
        rintro _ _ _ hn ⟨z_1, hz_1, rfl, rfl, rfl⟩
        refine ⟨.inl rfl, (upd (rem [] _) 2 (lstB z_1 1 (r_2.map eStr))), fun hbd => (m3_cons (m3_row rfl (fr_map fun _ => rfl)) (m3_rem (in_nil _) (.cons (by decide) .nil) hbd)), (lstV z_1 2 1 r_2.length), 3, (by cases z_1 <;> rfl), rfl, ?_⟩
        refine un (a1 rfl ?_)
        refine dnil ?_
        refine Sv.seq ?_
        refine Sv.region ?_
        refine un (a1 (v := (.c (.ref 0 2 0 1))) rfl ?_)
        refine un (a1 (v := (I v_.N)) rfl ?_)
        refine un (a1 (v := (B (decide (0 ≤ v_.N)))) rfl ?_)
        refine un (a1 rfl ?_)
        refine gjoin 6 (d := 48) (v := (B ((decide (0 ≤ v_.N)) && (decide (v_.N < (r_2.length : Int)))))) (fun X hX => ?_) ?_
        · refine split2 (fun hc7 => ?_) (fun hc7 => ?_)
          · refine gt rfl (a1 (v := (.c (.ref 0 2 0 1))) rfl ?_)
            refine gt rfl (a1 (v := (I v_.N)) rfl ?_)
            refine gt rfl (a1 rfl ?_)
            refine gt rfl (a1 (v := (I (r_2.length : Int))) (s_lenL rfl (len_nil_of hz_1)) ?_)
            refine gt rfl (a1 (v := (B (decide (v_.N < (r_2.length : Int))))) rfl ?_)
            refine un (a1 (v := (B (decide (v_.N < (r_2.length : Int))))) rfl ?_)
            refine dnil ?_
            exact hX _ (.putEq (by rw [hc7]; rfl) (.skip _ _ (.skip _ _ (.skip _ _ (.skip _ _ (.skip _ _ (.putEq (by rw [hc7]) (.refl _)) rfl) rfl) rfl) rfl) rfl))
          · refine gs rfl rfl ?_
            refine gs rfl rfl ?_
            refine gs rfl rfl ?_
            refine gs rfl rfl ?_
            refine gs rfl rfl ?_
            refine un (a1 (v := (B false)) rfl ?_)
            refine dnil ?_
            exact hX _ (.putEq (by rw [hc7]; rfl) (.skip _ _ (.skip _ _ (.skip _ _ (.skip _ _ (.skip _ _ (.putEq (by rw [hc7]) (.refl _)) rfl) rfl) rfl) rfl) rfl))
        refine un (a1 rfl ?_)
        refine split2 (fun hc8 => ?_) (fun hc8 => ?_)
        · replace h := ifT hc8 h
          refine gt rfl (a1 rfl ?_)
          refine gt rfl (a1 (v := (.c (.ref 0 2 0 1))) rfl ?_)
          refine gt rfl (a1 (v := (I v_.N)) rfl ?_)
          obtain ⟨x_1, hx3, h⟩ := bnd h
          refine gt rfl (a1 (v := (.c (.ref 2 1 v_.N.toNat 0))) (s_iaddrL rfl rfl hz_1 hx3) ?_)
          refine gt rfl (a1 (v := (S x_1)) (s_loadL (z := z_1) (e := eStr) rfl rfl hz_1 hx3 rfl rfl) ?_)
          refine gt rfl (a1 (v := (B (!decide (x_1 = [])))) rfl ?_)
          refine un (a1 (v := (B (!decide (x_1 = [])))) rfl ?_)
          refine un (a1 rfl ?_)
          refine dnil ?_
          exact Sv.weak (weak_canon [] rfl (by decide) (by decide) (fun b h => absurd h (Nat.not_lt_zero _)) (.cons rfl (avAs_free rfl) .nil) .nil) (clerestoryref2_ValMay_j1_ok h)
        · replace h := ifF hc8 h
          refine gs rfl rfl ?_
          refine gs rfl rfl ?_
          refine gs rfl rfl ?_
          refine gs rfl rfl ?_
          refine gs rfl rfl ?_
          refine gs rfl rfl ?_
          refine un (a1 (v := (B false)) rfl ?_)
          refine un (a1 rfl ?_)
          refine dnil ?_
          exact Sv.weak (weak_canon [] rfl (by decide) (by decide) (fun b h => absurd h (Nat.not_lt_zero _)) (.cons rfl (avAs_free rfl) .nil) .nil) (clerestoryref2_ValMay_j1_ok h)
      · replace h := ifF hc6 h
        refine Sv.skip ?_
        refine Sv.seq ?_
        refine Sv.seq ?_
        refine Sv.region ?_
        refine un (a1 (v := (.c (.ref 0 2 0 0))) rfl ?_)
        refine un (a1 (v := (I v_.Kind)) rfl ?_)
        refine un (a1 (v := (B (decide (v_.Kind = 6)))) rfl ?_)
        refine dnil ?_
        refine Sv.cond (b := decide (v_.Kind = 6)) rfl (fun hc9 => ?_) (fun hc9 => ?_)
        · replace h := ifT hc9 h
          refine Sv.seq ?_
          refine Sv.region ?_
          refine un (a1 (v := (.c (.ref 0 2 0 1))) rfl ?_)
          refine un (a1 (v := (I v_.N)) rfl ?_)
          refine un (a1 (v := (B (decide (v_.N = 0)))) rfl ?_)
          refine un (a1 rfl ?_)
          refine dnil ?_
          refine Sv.ret ?_
          replace h := Option.some.inj h
          subst h
          exact ⟨_, .refl _, _, rfl, ⟨upd (fun _ => none) 0 (some (B (decide (v_.N = 0)))), (fun _ => none), 0⟩, (B (decide (v_.N = 0))), weak_canon [] rfl List.nodup_nil (Nat.le_refl _) (fun b h => absurd h (Nat.not_lt_zero _)) (.cons rfl (avAs_free rfl) .nil) .nil, rfl, rfl, rfl, rfl⟩
        · replace h := ifF hc9 h
          refine Sv.skip ?_
          refine Sv.seq ?_
          refine Sv.seq ?_
          refine Sv.region ?_
          refine un (a1 (v := (.c (.ref 0 2 0 0))) rfl ?_)
          refine un (a1 (v := (I v_.Kind)) rfl ?_)
          refine un (a1 (v := (B (decide (v_.Kind = 5)))) rfl ?_)
          refine dnil ?_
          refine Sv.cond (b := decide (v_.Kind = 5)) rfl (fun hc10 => ?_) (fun hc10 => ?_)
          · replace h := ifT hc10 h
            refine Sv.seq ?_
            refine Sv.region ?_
            refine un (a1 (v := (.c (.ref 0 2 0 1))) rfl ?_)
            refine un (a1 (v := (I v_.N)) rfl ?_)
            refine un (a1 (v := (B (decide (0 ≤ v_.N)))) rfl ?_)
            refine un (a1 rfl ?_)
            refine gjoin 4 (d := 73) (v := (B ((decide (0 ≤ v_.N)) && (decide (v_.N ≤ 4294967295))))) (fun X hX => ?_) ?_
            · refine split2 (fun hc11 => ?_) (fun hc11 => ?_)
              · refine gt rfl (a1 (v := (.c (.ref 0 2 0 1))) rfl ?_)
                refine gt rfl (a1 (v := (I v_.N)) rfl ?_)
                refine gt rfl (a1 (v := (B (decide (v_.N ≤ 4294967295)))) rfl ?_)
                refine un (a1 (v := (B (decide (v_.N ≤ 4294967295)))) rfl ?_)
                refine dnil ?_
                exact hX _ (.putEq (by rw [hc11]; rfl) (.skip _ _ (.skip _ _ (.skip _ _ (.putEq (by rw [hc11]) (.refl _)) rfl) rfl) rfl))
              · refine gs rfl rfl ?_
                refine gs rfl rfl ?_
                refine gs rfl rfl ?_
                refine un (a1 (v := (B false)) rfl ?_)
                refine dnil ?_
                exact hX _ (.putEq (by rw [hc11]; rfl) (.skip _ _ (.skip _ _ (.skip _ _ (.putEq (by rw [hc11]) (.refl _)) rfl) rfl) rfl))
            refine un (a1 rfl ?_)
            refine dnil ?_
            refine Sv.ret ?_
            replace h := Option.some.inj h
            subst h
            exact ⟨_, .refl _, _, rfl, ⟨upd (fun _ => none) 0 (some (B ((decide (0 ≤ v_.N)) && (decide (v_.N ≤ 4294967295))))), (fun _ => none), 0⟩, (B ((decide (0 ≤ v_.N)) && (decide (v_.N ≤ 4294967295)))), weak_canon [] rfl List.nodup_nil (Nat.le_refl _) (fun b h => absurd h (Nat.not_lt_zero _)) (.cons rfl (avAs_free rfl) .nil) .nil, rfl, rfl, rfl, rfl⟩
          · replace h := ifF hc10 h
            refine Sv.skip ?_
            refine Sv.seq ?_
            refine Sv.seq ?_
            refine Sv.region ?_
            refine un (a1 rfl ?_)
            refine un (a1 (v := (B (decide (p_ = 31)))) rfl ?_)
            refine un (a1 rfl ?_)
            refine gjoin 3 (d := 79) (v := (B ((decide (p_ = 31)) || (decide (p_ = 53))))) (fun X hX => ?_) ?_
            · refine split2 (fun hc18 => ?_) (fun hc18 => ?_)
              · refine gs rfl rfl ?_
                refine gs rfl rfl ?_
                refine un (a1 (v := (B true)) rfl ?_)
                refine dnil ?_
                exact hX _ (.putEq (by rw [hc18]; rfl) (.skip _ _ (.skip _ _ (.putEq (by rw [hc18]) (.refl _)) rfl) rfl))
              · refine gt rfl (a1 rfl ?_)
                refine gt rfl (a1 (v := (B (decide (p_ = 53)))) rfl ?_)
                refine un (a1 (v := (B (decide (p_ = 53)))) rfl ?_)
                refine dnil ?_
                exact hX _ (.putEq (by rw [hc18]; rfl) (.skip _ _ (.skip _ _ (.putEq (by rw [hc18]) (.refl _)) rfl) rfl))
            refine un (a1 rfl ?_)
            refine gjoin 5 (d := 85) (v := (B (((decide (p_ = 31)) || (decide (p_ = 53))) && (!decide ((v_.N.tmod 1000) = 0))))) (fun X hX => ?_) ?_
            · refine split2 (fun hc19 => ?_) (fun hc19 => ?_)
              · refine gt rfl (a1 (v := (.c (.ref 0 2 0 1))) rfl ?_)
                refine gt rfl (a1 (v := (I v_.N)) rfl ?_)
                refine gt rfl (a1 (v := (I (v_.N.tmod 1000))) rfl ?_)
                refine gt rfl (a1 (v := (B (!decide ((v_.N.tmod 1000) = 0)))) rfl ?_)
                refine un (a1 (v := (B (!decide ((v_.N.tmod 1000) = 0)))) rfl ?_)
                refine dnil ?_
                exact hX _ (.putEq (by rw [hc19]; rfl) (.skip _ _ (.skip _ _ (.skip _ _ (.skip _ _ (.putEq (by rw [hc19]) (.refl _)) rfl) rfl) rfl) rfl))
              · refine gs rfl rfl ?_
                refine gs rfl rfl ?_
                refine gs rfl rfl ?_
                refine gs rfl rfl ?_
                refine un (a1 (v := (B false)) rfl ?_)
                refine dnil ?_
                exact hX _ (.putEq (by rw [hc19]; rfl) (.skip _ _ (.skip _ _ (.skip _ _ (.skip _ _ (.putEq (by rw [hc19]) (.refl _)) rfl) rfl) rfl) rfl))
            refine un (a1 rfl ?_)
            refine split2 (fun hc20 => ?_) (fun hc20 => ?_)
            · replace h := ifT hc20 h
              refine gs rfl rfl ?_
              refine gs rfl rfl ?_
              refine gs rfl rfl ?_
              refine gu rfl ?_
              refine gu rfl ?_
              refine gu rfl ?_
              refine gs rfl rfl ?_
              refine un (a1 (v := (B true)) rfl ?_)
              refine dnil ?_
              exact Sv.weak (weak_canon [0] rfl (by decide) (by decide) (fun b h => absurd h (Nat.not_lt_zero _)) (.cons rfl (avAs_free rfl) (.cons rfl (.c (.ref rfl (by decide))) (.cons rfl (avAs_free rfl) .nil))) (.box (by decide) rfl (blkAs_cells (.cons (.same rfl) (.cons (.same rfl) .nil))) .nil)) (clerestoryref2_ValMay_j2_ok h)
            · replace h := ifF hc20 h
              refine gt rfl (a1 rfl ?_)
              obtain ⟨r_3, hr4, h⟩ := bnd h
              refine gt rfl (ac_pure (clerestoryref2_hasByte_ok hr4) rfl rfl rfl ?_)
              refine gt rfl (a1 rfl ?_)
              refine gjoin 4 (d := 93) (v := (B (r_3 && (decide (v_.N < 0))))) (fun X hX => ?_) ?_
              · refine split2 (fun hc21 => ?_) (fun hc21 => ?_)
                · refine gt rfl (a1 (v := (.c (.ref 0 2 0 1))) rfl ?_)
                  refine gt rfl (a1 (v := (I v_.N)) rfl ?_)
                  refine gt rfl (a1 (v := (B (decide (v_.N < 0)))) rfl ?_)
                  refine gt rfl (a1 (v := (B (decide (v_.N < 0)))) rfl ?_)
                  refine dnil ?_
                  exact hX _ (.putEq (by rw [hc21]; rfl) (.skip _ _ (.skip _ _ (.skip _ _ (.putEq (by rw [hc21]) (.refl _)) rfl) rfl) rfl))
                · refine gs rfl rfl ?_
                  refine gs rfl rfl ?_
                  refine gs rfl rfl ?_
                  refine gt rfl (a1 (v := (B false)) rfl ?_)
                  refine dnil ?_
                  exact hX _ (.putEq (by rw [hc21]; rfl) (.skip _ _ (.skip _ _ (.skip _ _ (.putEq (by rw [hc21]) (.refl _)) rfl) rfl) rfl))
              refine un (a1 (v := (B (r_3 && (decide (v_.N < 0))))) rfl ?_)
              refine dnil ?_
              exact Sv.weak (weak_canon [0] rfl (by decide) (by decide) (fun b h => absurd h (Nat.not_lt_zero _)) (.cons rfl (avAs_free rfl) (.cons rfl (.c (.ref rfl (by decide))) (.cons rfl (avAs_free rfl) .nil))) (.box (by decide) rfl (blkAs_cells (.cons (.same rfl) (.cons (.same rfl) .nil))) .nil)) (clerestoryref2_ValMay_j2_ok h)
def a31 : AFunc := ⟨1, [(.tmp 2)], (.seq (.region [⟨(some 2), (.mov (.const (.c (.str [])))), none⟩])
 (.seq (.seq (.region [⟨(some 3), (.mov (.tmp 0)), none⟩, ⟨(some 4), (.bin .eql (.tmp 3) (.const (.c (.val (.int .i64 9))))), none⟩, ⟨(some 5), (.mov (.tmp 4)), none⟩, ⟨(some 6), (.mov (.tmp 0)), (some (5, false))⟩, ⟨(some 7), (.bin .eql (.tmp 6) (.const (.c (.val (.int .i64 10))))), (some (5, false))⟩, ⟨(some 8), (.pick (.tmp 5) (.const (.c (.val (.bool true)))) (.tmp 7)), none⟩])
 (.cond (.tmp 8) (.seq (.region [⟨(some 2), (.mov (.const (.c (.str [110, 111, 110, 101])))), none⟩])
 .ret) .skip))
 (.seq (.seq (.region [⟨(some 9), (.mov (.tmp 0)), none⟩, ⟨(some 10), (.bin .eql (.tmp 9) (.const (.c (.val (.int .i64 38))))), none⟩, ⟨(some 11), (.mov (.tmp 10)), none⟩, ⟨(some 12), (.mov (.tmp 0)), (some (11, false))⟩, ⟨(some 13), (.bin .eql (.tmp 12) (.const (.c (.val (.int .i64 44))))), (some (11, false))⟩, ⟨(some 14), (.pick (.tmp 11) (.const (.c (.val (.bool true)))) (.tmp 13)), none⟩])
 (.cond (.tmp 14) (.seq (.region [⟨(some 2), (.mov (.const (.c (.str [110, 111, 114, 109, 97, 108])))), none⟩])
 .ret) .skip))
 (.seq (.region [⟨(some 2), (.mov (.const (.c (.str [97, 117, 116, 111])))), none⟩])
 .ret))))⟩
set_option maxRecDepth 100000 in
theorem c31 : compFunc Tryd.prog 31 = some a31 := by kernel_rfl
def clerestoryref2_PropAuto_post (r : (List UInt8)) : AV → Heap → Nat → Prop := fun v h' n' => v = (S r) ∧ (h' = (fun _ => none)) ∧ n' = 0
/-- clerestory/clerestoryref2.PropAuto -/
def clerestoryref2_PropAuto (p_ : Int) : (List UInt8) :=
  if ((decide (p_ = 9)) || (decide (p_ = 10))) then
    [110, 111, 110, 101]
  else
    if ((decide (p_ = 38)) || (decide (p_ = 44))) then
      [110, 111, 114, 109, 97, 108]
    else
      [97, 117, 116, 111]
theorem clerestoryref2_PropAuto_ok {mL : Int} (p_ : Int) : CPure Tryd.prog (GG mL) 31 [(I p_)] (S (clerestoryref2_PropAuto p_)) := by
  generalize h : clerestoryref2_PropAuto p_ = o
  refine acalls_of_sv hmix c31 (R := clerestoryref2_PropAuto_post o) ?_
  unfold clerestoryref2_PropAuto at h
  refine Sv.seq ?_
  refine Sv.region ?_
  refine un (a1 rfl ?_)
  refine dnil ?_
  refine Sv.seq ?_
  refine Sv.seq ?_
  refine Sv.region ?_
  refine un (a1 rfl ?_)
  refine un (a1 (v := (B (decide (p_ = 9)))) rfl ?_)
  refine un (a1 rfl ?_)
  refine gjoin 3 (d := 8) (v := (B ((decide (p_ = 9)) || (decide (p_ = 10))))) (fun X hX => ?_) ?_
  · refine split2 (fun hc1 => ?_) (fun hc1 => ?_)
    · refine gs rfl rfl ?_
      refine gs rfl rfl ?_
      refine un (a1 (v := (B true)) rfl ?_)
      refine dnil ?_
      exact hX _ (.putEq (by rw [hc1]; rfl) (.skip _ _ (.skip _ _ (.putEq (by rw [hc1]) (.refl _)) rfl) rfl))
    · refine gt rfl (a1 rfl ?_)
      refine gt rfl (a1 (v := (B (decide (p_ = 10)))) rfl ?_)
      refine un (a1 (v := (B (decide (p_ = 10)))) rfl ?_)
      refine dnil ?_
      exact hX _ (.putEq (by rw [hc1]; rfl) (.skip _ _ (.skip _ _ (.putEq (by rw [hc1]) (.refl _)) rfl) rfl))
  refine dnil ?_
  refine Sv.cond (b := ((decide (p_ = 9)) || (decide (p_ = 10)))) rfl (fun hc2 => ?_) (fun hc2 => ?_)
  · replace h := ifT hc2 h
    refine Sv.seq ?_
    refine Sv.region ?_
    refine un (a1 rfl ?_)
    refine dnil ?_
    refine Sv.ret ?_
    subst h
    exact ⟨_, .refl _, _, rfl, ⟨upd (fun _ => none) 0 (some (S [110, 111, 110, 101])), (fun _ => none), 0⟩, (S [110, 111, 110, 101]), weak_canon [] rfl List.nodup_nil (Nat.le_refl _) (fun b h => absurd h (Nat.not_lt_zero _)) (.cons rfl (avAs_free rfl) .nil) .nil, rfl, rfl, rfl, rfl⟩
  · replace h := ifF hc2 h
    refine Sv.skip ?_
    refine Sv.seq ?_
    refine Sv.seq ?_
    refine Sv.region ?_
    refine un (a1 rfl ?_)
    refine un (a1 (v := (B (decide (p_ = 38)))) rfl ?_)
    refine un (a1 rfl ?_)
    refine gjoin 3 (d := 14) (v := (B ((decide (p_ = 38)) || (decide (p_ = 44))))) (fun X hX => ?_) ?_
    · refine split2 (fun hc3 => ?_) (fun hc3 => ?_)
      · refine gs rfl rfl ?_
        refine gs rfl rfl ?_
        refine un (a1 (v := (B true)) rfl ?_)
        refine dnil ?_
        exact hX _ (.putEq (by rw [hc3]; rfl) (.skip _ _ (.skip _ _ (.putEq (by rw [hc3]) (.refl _)) rfl) rfl))
      · refine gt rfl (a1 rfl ?_)
        refine gt rfl (a1 (v := (B (decide (p_ = 44)))) rfl ?_)
        refine un (a1 (v := (B (decide (p_ = 44)))) rfl ?_)
        refine dnil ?_
        exact hX _ (.putEq (by rw [hc3]; rfl) (.skip _ _ (.skip _ _ (.putEq (by rw [hc3]) (.refl _)) rfl) rfl))
    refine dnil ?_
    refine Sv.cond (b := ((decide (p_ = 38)) || (decide (p_ = 44)))) rfl (fun hc4 => ?_) (fun hc4 => ?_)
    · replace h := ifT hc4 h
      refine Sv.seq ?_
      refine Sv.region ?_
      refine un (a1 rfl ?_)
      refine dnil ?_
      refine Sv.ret ?_
      subst h
      exact ⟨_, .refl _, _, rfl, ⟨upd (fun _ => none) 0 (some (S [110, 111, 114, 109, 97, 108])), (fun _ => none), 0⟩, (S [110, 111, 114, 109, 97, 108]), weak_canon [] rfl List.nodup_nil (Nat.le_refl _) (fun b h => absurd h (Nat.not_lt_zero _)) (.cons rfl (avAs_free rfl) .nil) .nil, rfl, rfl, rfl, rfl⟩
    · replace h := ifF hc4 h
      refine Sv.skip ?_
      refine Sv.seq ?_
      refine Sv.region ?_
      refine un (a1 rfl ?_)
      refine dnil ?_
      refine Sv.ret ?_
      subst h
      exact ⟨_, .refl _, _, rfl, ⟨upd (fun _ => none) 0 (some (S [97, 117, 116, 111])), (fun _ => none), 0⟩, (S [97, 117, 116, 111]), weak_canon [] rfl List.nodup_nil (Nat.le_refl _) (fun b h => absurd h (Nat.not_lt_zero _)) (.cons rfl (avAs_free rfl) .nil) .nil, rfl, rfl, rfl, rfl⟩
def a15 : AFunc := ⟨2, [(.tmp 4)], (.seq (.region [⟨(some 4), (.mov (.const (.c (.val (.int .i64 0))))), none⟩])
 (.seq (.region [⟨(some 5), (.mov (.tmp 0)), none⟩, ⟨(some 6), (.conv .u32 (.tmp 5)), none⟩, ⟨(some 7), (.mov (.tmp 1)), none⟩, ⟨(some 8), (.bin .mul (.const (.c (.val (.int .i64 8)))) (.tmp 7)), none⟩, ⟨(some 9), (.conv .u64 (.tmp 8)), none⟩, ⟨(some 10), (.bin .shr (.tmp 6) (.tmp 9)), none⟩, ⟨(some 11), (.conv .i64 (.tmp 10)), none⟩, ⟨(some 12), (.bin .rem (.tmp 11) (.const (.c (.val (.int .i64 256))))), none⟩, ⟨(some 4), (.mov (.tmp 12)), none⟩])
 .ret))⟩
set_option maxRecDepth 100000 in
theorem c15 : compFunc Tryd.prog 15 = some a15 := by kernel_rfl
def clerestoryref2_Byte_post (r : Int) : AV → Heap → Nat → Prop := fun v h' n' => v = (I r) ∧ (h' = (fun _ => none)) ∧ n' = 0
/-- clerestory/clerestoryref2.Byte -/
noncomputable def clerestoryref2_Byte (c_ : Int) (i_ : Int) : Option Int :=
  (shr? .u32 (wr .u32 c_) (wr .u64 (wi (8 * i_)))).bind fun r_ =>
  some ((wr .i64 r_).tmod 256)
theorem clerestoryref2_Byte_ok {mL : Int} {c_ : Int} {i_ : Int} {r : Int} (h : clerestoryref2_Byte c_ i_ = some r) : CPure Tryd.prog (GG mL) 15 [(I c_), (I i_)] (I r) := by
  refine acalls_of_sv hmix c15 (R := clerestoryref2_Byte_post r) ?_
  unfold clerestoryref2_Byte at h
  refine Sv.seq ?_
  refine Sv.region ?_
  refine un (a1 rfl ?_)
  refine dnil ?_
  refine Sv.seq ?_
  refine Sv.region ?_
  refine un (a1 rfl ?_)
  refine un (a1 (v := (.c (.val (.int .u32 (wr .u32 c_))))) rfl ?_)
  refine un (a1 rfl ?_)
  refine un (a1 (v := (I (wi (8 * i_)))) rfl ?_)
  refine un (a1 (v := (.c (.val (.int .u64 (wr .u64 (wi (8 * i_))))))) rfl ?_)
  obtain ⟨r_, hx1, h⟩ := bnd h
  refine un (a1 (v := (.c (.val (.int .u32 r_)))) (s_shr rfl rfl hx1) ?_)
  refine un (a1 (v := (I (wr .i64 r_))) rfl ?_)
  refine un (a1 (v := (I ((wr .i64 r_).tmod 256))) rfl ?_)
  refine un (a1 rfl ?_)
  refine dnil ?_
  refine Sv.ret ?_
  replace h := Option.some.inj h
  subst h
  exact ⟨_, .refl _, _, rfl, ⟨upd (fun _ => none) 0 (some (I ((wr .i64 r_).tmod 256))), (fun _ => none), 0⟩, (I ((wr .i64 r_).tmod 256)), weak_canon [] rfl List.nodup_nil (Nat.le_refl _) (fun b h => absurd h (Nat.not_lt_zero _)) (.cons rfl (avAs_free rfl) .nil) .nil, rfl, rfl, rfl, rfl⟩
def a20_c0 : ACode := (.region [⟨(some 8), (.mov (.tmp 4)), none⟩, ⟨(some 9), (.bin .sub (.tmp 8) (.const (.c (.val (.int .i64 1))))), none⟩, ⟨(some 4), (.mov (.tmp 9)), none⟩])
def a20_c1 : ACode := (.seq (.seq (.region [⟨(some 6), (.mov (.tmp 4)), none⟩, ⟨(some 7), (.bin .geq (.tmp 6) (.const (.c (.val (.int .i64 0))))), none⟩])
 (.cond (.tmp 7) .skip (.exit 0)))
 (.seq (.block 1 (.seq (.region [⟨(some 10), (.mov (.tmp 0)), none⟩, ⟨(some 11), (.mov (.tmp 4)), none⟩, ⟨(some 12), (.call 15 [(.tmp 10), (.tmp 11)]), none⟩, ⟨(some 5), (.mov (.tmp 12)), none⟩])
 (.seq (.region [⟨(some 13), (.mov (.tmp 4)), none⟩, ⟨(some 14), (.bin .gtr (.tmp 13) (.const (.c (.val (.int .i64 0))))), none⟩, ⟨(some 15), (.mov (.tmp 14)), none⟩, ⟨(some 16), (.mov (.tmp 5)), (some (15, false))⟩, ⟨(some 17), (.bin .lss (.tmp 16) (.const (.c (.val (.int .i64 255))))), (some (15, false))⟩, ⟨(some 18), (.pick (.tmp 15) (.const (.c (.val (.bool true)))) (.tmp 17)), none⟩])
 (.cond (.tmp 18) (.drawn (.fin [(⟨(some 19), (.mov (.tmp 3)), none⟩, (0, 0)), (⟨(some 20), (.mov (.tmp 5)), none⟩, (0, 1)), (⟨(some 21), (.bin .quo (.tmp 20) (.const (.c (.val (.int .i64 16))))), none⟩, (0, 2)), (⟨(some 22), (.mov (.tmp 5)), none⟩, (0, 3)), (⟨(some 23), (.bin .quo (.tmp 22) (.const (.c (.val (.int .i64 16))))), none⟩, (0, 4)), (⟨(some 24), (.bin .add (.tmp 23) (.const (.c (.val (.int .i64 1))))), none⟩, (0, 5)), (⟨(some 25), (.slStr (.const (.c (.str [48, 49, 50, 51, 52, 53, 54, 55, 56, 57, 97, 98, 99, 100, 101, 102]))) (some (.tmp 21)) (some (.tmp 24))), none⟩, (0, 6)), (⟨(some 26), (.bin .add (.tmp 19) (.tmp 25)), none⟩, (0, 7)), (⟨(some 27), (.mov (.tmp 5)), none⟩, (0, 8)), (⟨(some 28), (.bin .rem (.tmp 27) (.const (.c (.val (.int .i64 16))))), none⟩, (0, 9)), (⟨(some 29), (.mov (.tmp 5)), none⟩, (0, 10)), (⟨(some 30), (.bin .rem (.tmp 29) (.const (.c (.val (.int .i64 16))))), none⟩, (0, 11)), (⟨(some 31), (.bin .add (.tmp 30) (.const (.c (.val (.int .i64 1))))), none⟩, (0, 12)), (⟨(some 32), (.slStr (.const (.c (.str [48, 49, 50, 51, 52, 53, 54, 55, 56, 57, 97, 98, 99, 100, 101, 102]))) (some (.tmp 28)) (some (.tmp 31))), none⟩, (0, 13)), (⟨(some 33), (.bin .add (.tmp 26) (.tmp 32)), none⟩, (0, 14)), (⟨(some 3), (.mov (.tmp 33)), none⟩, (0, 15))])) .skip))))
 a20_c0))
def a20 : AFunc := ⟨1, [(.tmp 2)], (.seq (.region [⟨(some 2), (.mov (.const (.c (.str [])))), none⟩])
 (.seq (.region [⟨(some 3), (.mov (.const (.c (.str [35])))), none⟩])
 (.seq (.seq (.region [⟨(some 4), (.mov (.const (.c (.val (.int .i64 3))))), none⟩])
 (.block 0 (.loop a20_c1)))
 (.seq (.region [⟨(some 34), (.mov (.tmp 3)), none⟩, ⟨(some 2), (.mov (.tmp 34)), none⟩])
 .ret))))⟩
set_option maxRecDepth 100000 in
theorem c20 : compFunc Tryd.prog 20 = some a20 := by kernel_rfl
def clerestoryref2_ColorText_post (r : (List UInt8)) : AV → Heap → Nat → Prop := fun v h' n' => v = (S r) ∧ (h' = (fun _ => none)) ∧ n' = 0
noncomputable def clerestoryref2_ColorText_j3 (i_ : Int) (c_ : Int) (self : (List UInt8) → Int → Option (List UInt8)) (K0_ : (List UInt8) → Option (List UInt8)) (s_2 : (List UInt8)) : Option (List UInt8) :=
  self s_2 (wi (i_ - 1))
theorem clerestoryref2_ColorText_j3_ok {mL : Int} {Q : AExit → St → Prop} {i_ : Int} {c_ : Int} {self : (List UInt8) → Int → Option (List UInt8)} {K0_ : (List UInt8) → Option (List UInt8)} {s_2 : (List UInt8)} {o : (List UInt8)} (h : clerestoryref2_ColorText_j3 i_ c_ self K0_ s_2 = some o)
    (hself : ∀ (s_ : (List UInt8)) (i_ : Int), self s_ i_ = some o → ∀ s, Weak 0 s ⟨(upd (upd (upd (fun _ => none) 0 (some (I c_))) 3 (some (S s_))) 4 (some (I i_))), (fun _ => none), 0⟩ → (Q) .normal s)
    (hK0 : ∀ (s_1 : (List UInt8)), K0_ s_1 = some o → ∀ s, Weak 0 s ⟨(upd (fun _ => none) 3 (some (S s_1))), (fun _ => none), 0⟩ → Q (.exit 0) s)
    (hr : ∀ s, Ends a20.results 0 (clerestoryref2_ColorText_post o) .ret s → Q .ret s) :
    Sv Tryd.prog (GG mL) 0 a20_c0 Q ⟨(upd (upd (upd (fun _ => none) 0 (some (I c_))) 3 (some (S s_2))) 4 (some (I i_))), (fun _ => none), 0⟩ := by
  unfold clerestoryref2_ColorText_j3 at h
  refine Sv.region ?_
  refine un (a1 rfl ?_)
  refine un (a1 (v := (I (wi (i_ - 1)))) rfl ?_)
  refine un (a1 rfl ?_)
  refine dnil ?_
  exact hself s_2 (wi (i_ - 1)) h _ (weak_canon [] rfl (by decide) (by decide) (fun b h => absurd h (Nat.not_lt_zero _)) (.cons rfl (avAs_free rfl) (.cons rfl (avAs_free rfl) (.cons rfl (avAs_free rfl) .nil))) .nil)
noncomputable def clerestoryref2_ColorText_l0 (c_ : Int) (K0_ : (List UInt8) → Option (List UInt8)) : Nat → (List UInt8) → Int → Option (List UInt8)
  | 0, _, _ => none
  | k + 1, s_, i_ =>
    if decide (0 ≤ i_) then
      (clerestoryref2_Byte c_ i_).bind fun r_ =>
      if ((decide (0 < i_)) || (decide (r_ < 255))) then
        (sub? [48, 49, 50, 51, 52, 53, 54, 55, 56, 57, 97, 98, 99, 100, 101, 102] (wi (r_.tdiv 16)) (wi ((wi (r_.tdiv 16)) + 1))).bind fun r_1 =>
        (cat? s_ r_1).bind fun r_2 =>
        (sub? [48, 49, 50, 51, 52, 53, 54, 55, 56, 57, 97, 98, 99, 100, 101, 102] (r_.tmod 16) (wi ((r_.tmod 16) + 1))).bind fun r_3 =>
        (cat? r_2 r_3).bind fun r_4 =>
        clerestoryref2_ColorText_j3 i_ c_ (clerestoryref2_ColorText_l0 c_ K0_ k) K0_ r_4
      else
        clerestoryref2_ColorText_j3 i_ c_ (clerestoryref2_ColorText_l0 c_ K0_ k) K0_ s_
    else
      K0_ s_
theorem clerestoryref2_ColorText_l0_ok {mL : Int} {Q : AExit → St → Prop} {c_ : Int} {K0_ : (List UInt8) → Option (List UInt8)} {k : Nat} {s_ : (List UInt8)} {i_ : Int} {o : (List UInt8)} (h : clerestoryref2_ColorText_l0 c_ K0_ k s_ i_ = some o)
    (hK0 : ∀ (s_1 : (List UInt8)), K0_ s_1 = some o → ∀ s, Weak 0 s ⟨(upd (fun _ => none) 3 (some (S s_1))), (fun _ => none), 0⟩ → Q (.exit 0) s)
    (hr : ∀ s, Ends a20.results 0 (clerestoryref2_ColorText_post o) .ret s → Q .ret s) :
    Sv Tryd.prog (GG mL) 0 (.loop a20_c1) Q ⟨(upd (upd (upd (fun _ => none) 0 (some (I c_))) 3 (some (S s_))) 4 (some (I i_))), (fun _ => none), 0⟩ := by
  refine Sv.loop (I := fun k s => ∃ (s_ : (List UInt8)), ∃ (i_ : Int), clerestoryref2_ColorText_l0 c_ K0_ k s_ i_ = some o ∧ s = ⟨(upd (upd (upd (fun _ => none) 0 (some (I c_))) 3 (some (S s_))) 4 (some (I i_))), (fun _ => none), 0⟩) (fun k s hI => ?_) ⟨s_, i_, h, rfl⟩
  clear h
  clear i_ s_
  obtain ⟨s_, i_, h, rfl⟩ := hI
  cases k with
  | zero => cases h
  | succ k =>
  rw [clerestoryref2_ColorText_l0] at h
  have hself : ∀ (s_ : (List UInt8)) (i_ : Int), (clerestoryref2_ColorText_l0 c_ K0_ k) s_ i_ = some o → ∀ s, Weak 0 s ⟨(upd (upd (upd (fun _ => none) 0 (some (I c_))) 3 (some (S s_))) 4 (some (I i_))), (fun _ => none), 0⟩ → (AThen (fun s' => ∃ s'' k', Weak 0 s' s'' ∧ k' < k + 1 ∧ (fun k s => ∃ (s_ : (List UInt8)), ∃ (i_ : Int), clerestoryref2_ColorText_l0 c_ K0_ k s_ i_ = some o ∧ s = ⟨(upd (upd (upd (fun _ => none) 0 (some (I c_))) 3 (some (S s_))) 4 (some (I i_))), (fun _ => none), 0⟩) k' s'') Q) .normal s := fun s_ i_ h s hw => ⟨_, k, hw, Nat.lt_succ_self k, s_, i_, h, rfl⟩
  refine Sv.seq ?_
  refine Sv.seq ?_
  refine Sv.region ?_
  refine un (a1 rfl ?_)
  refine un (a1 (v := (B (decide (0 ≤ i_)))) rfl ?_)
  refine dnil ?_
  refine Sv.cond (b := decide (0 ≤ i_)) rfl (fun hc1 => ?_) (fun hc1 => ?_)
  · replace h := ifT hc1 h
    refine Sv.skip ?_
    refine Sv.seq ?_
    refine Sv.block ?_
    refine Sv.seq ?_
    refine Sv.region ?_
    refine un (a1 rfl ?_)
    refine un (a1 rfl ?_)
    obtain ⟨r_, hr1, h⟩ := bnd h
    refine un (ac_pure (clerestoryref2_Byte_ok hr1) rfl rfl rfl ?_)
    refine un (a1 rfl ?_)
    refine dnil ?_
    refine Sv.seq ?_
    refine Sv.region ?_
    refine un (a1 rfl ?_)
    refine un (a1 (v := (B (decide (0 < i_)))) rfl ?_)
    refine un (a1 rfl ?_)
    refine gjoin 3 (d := 18) (v := (B ((decide (0 < i_)) || (decide (r_ < 255))))) (fun X hX => ?_) ?_
    · refine split2 (fun hc2 => ?_) (fun hc2 => ?_)
      · refine gs rfl rfl ?_
        refine gs rfl rfl ?_
        refine un (a1 (v := (B true)) rfl ?_)
        refine dnil ?_
        exact hX _ (.putEq (by rw [hc2]; rfl) (.skip _ _ (.skip _ _ (.putEq (by rw [hc2]) (.refl _)) rfl) rfl))
      · refine gt rfl (a1 rfl ?_)
        refine gt rfl (a1 (v := (B (decide (r_ < 255)))) rfl ?_)
        refine un (a1 (v := (B (decide (r_ < 255)))) rfl ?_)
        refine dnil ?_
        exact hX _ (.putEq (by rw [hc2]; rfl) (.skip _ _ (.skip _ _ (.putEq (by rw [hc2]) (.refl _)) rfl) rfl))
    refine dnil ?_
    refine Sv.cond (b := ((decide (0 < i_)) || (decide (r_ < 255)))) rfl (fun hc3 => ?_) (fun hc3 => ?_)
    · replace h := ifT hc3 h
      refine Sv.drawn ?_
      refine un (a1 rfl ?_)
      refine un (a1 rfl ?_)
      refine un (a1 (v := (I (wi (r_.tdiv 16)))) rfl ?_)
      refine un (a1 rfl ?_)
      refine un (a1 (v := (I (wi (r_.tdiv 16)))) rfl ?_)
      refine un (a1 (v := (I (wi ((wi (r_.tdiv 16)) + 1)))) rfl ?_)
      obtain ⟨r_1, hx1, h⟩ := bnd h
      refine un (a1 (v := (S r_1)) (s_slStr rfl rfl rfl hx1) ?_)
      obtain ⟨r_2, hx2, h⟩ := bnd h
      refine un (a1 (v := (S r_2)) (s_cat rfl rfl hx2) ?_)
      refine un (a1 rfl ?_)
      refine un (a1 (v := (I (r_.tmod 16))) rfl ?_)
      refine un (a1 rfl ?_)
      refine un (a1 (v := (I (r_.tmod 16))) rfl ?_)
      refine un (a1 (v := (I (wi ((r_.tmod 16) + 1)))) rfl ?_)
      obtain ⟨r_3, hx3, h⟩ := bnd h
      refine un (a1 (v := (S r_3)) (s_slStr rfl rfl rfl hx3) ?_)
      obtain ⟨r_4, hx4, h⟩ := bnd h
      refine un (a1 (v := (S r_4)) (s_cat rfl rfl hx4) ?_)
      refine un (a1 rfl ?_)
      refine dnil ?_
      exact Sv.weak (weak_canon [] rfl (by decide) (by decide) (fun b h => absurd h (Nat.not_lt_zero _)) (.cons rfl (avAs_free rfl) (.cons rfl (avAs_free rfl) (.cons rfl (avAs_free rfl) .nil))) .nil) (clerestoryref2_ColorText_j3_ok h hself hK0 hr)
    · replace h := ifF hc3 h
      refine Sv.skip ?_
      exact Sv.weak (weak_canon [] rfl (by decide) (by decide) (fun b h => absurd h (Nat.not_lt_zero _)) (.cons rfl (avAs_free rfl) (.cons rfl (avAs_free rfl) (.cons rfl (avAs_free rfl) .nil))) .nil) (clerestoryref2_ColorText_j3_ok h hself hK0 hr)
  · replace h := ifF hc1 h
    refine Sv.exit ?_
    exact hK0 s_ h _ (weak_canon [] rfl (by decide) (by decide) (fun b h => absurd h (Nat.not_lt_zero _)) (.cons rfl (avAs_free rfl) .nil) .nil)
/-- clerestory/clerestoryref2.ColorText -/
noncomputable def clerestoryref2_ColorText (c_ : Int) : Option (List UInt8) :=
  lim fun kk => clerestoryref2_ColorText_l0 c_ (fun (s_1 : (List UInt8)) => 
      some s_1) kk [35] 3
theorem clerestoryref2_ColorText_ok {mL : Int} {c_ : Int} {r : (List UInt8)} (h : clerestoryref2_ColorText c_ = some r) : CPure Tryd.prog (GG mL) 20 [(I c_)] (S r) := by
  refine acalls_of_sv hmix c20 (R := clerestoryref2_ColorText_post r) ?_
  unfold clerestoryref2_ColorText at h
  refine Sv.seq ?_
  refine Sv.region ?_
  refine un (a1 rfl ?_)
  refine dnil ?_
  refine Sv.seq ?_
  refine Sv.region ?_
  refine un (a1 rfl ?_)
  refine dnil ?_
  refine Sv.seq ?_
  refine Sv.seq ?_
  refine Sv.region ?_
  refine un (a1 rfl ?_)
  refine dnil ?_
  refine Sv.block ?_
  obtain ⟨kk, h⟩ := lim_some h
  refine Sv.weak (weak_canon [] rfl (by decide) (by decide) (fun b h => absurd h (Nat.not_lt_zero _)) (.cons rfl (avAs_free rfl) (.cons rfl (avAs_free rfl) (.cons rfl (avAs_free rfl) .nil))) .nil) (clerestoryref2_ColorText_l0_ok h ?_ (fun s hs => hs))
  · intro s_1 h _ hw1
    refine Sv.weak hw1 ?_
    refine Sv.seq ?_
    refine Sv.region ?_
    refine un (a1 rfl ?_)
    refine un (a1 rfl ?_)
    refine dnil ?_
    refine Sv.ret ?_
    replace h := Option.some.inj h
    subst h
    exact ⟨_, .refl _, _, rfl, ⟨upd (fun _ => none) 0 (some (S s_1)), (fun _ => none), 0⟩, (S s_1), weak_canon [] rfl List.nodup_nil (Nat.le_refl _) (fun b h => absurd h (Nat.not_lt_zero _)) (.cons rfl (avAs_free rfl) .nil) .nil, rfl, rfl, rfl, rfl⟩
def a33_c0 : ACode := (.seq (.region [⟨(some 16), (.mov (.tmp 5)), none⟩, ⟨(some 4), (.mov (.tmp 16)), none⟩])
 .ret)
def a33 : AFunc := ⟨2, [(.tmp 4)], (.seq (.region [⟨(some 4), (.mov (.const (.c (.val (.int .i64 0))))), none⟩])
 (.seq (.region [⟨(some 6), (.mov (.tmp 0)), none⟩, ⟨(some 7), (.mov (.tmp 1)), none⟩, ⟨(some 8), (.bin .quo (.tmp 6) (.tmp 7)), none⟩, ⟨(some 5), (.mov (.tmp 8)), none⟩])
 (.seq (.seq (.region [⟨(some 9), (.mov (.tmp 5)), none⟩, ⟨(some 10), (.mov (.tmp 1)), none⟩, ⟨(some 11), (.bin .mul (.tmp 9) (.tmp 10)), none⟩, ⟨(some 12), (.mov (.tmp 0)), none⟩, ⟨(some 13), (.bin .gtr (.tmp 11) (.tmp 12)), none⟩])
 (.cond (.tmp 13) (.region [⟨(some 14), (.mov (.tmp 5)), none⟩, ⟨(some 15), (.bin .sub (.tmp 14) (.const (.c (.val (.int .i64 1))))), none⟩, ⟨(some 5), (.mov (.tmp 15)), none⟩]) .skip))
 a33_c0)))⟩
set_option maxRecDepth 100000 in
theorem c33 : compFunc Tryd.prog 33 = some a33 := by kernel_rfl
def clerestoryref2_Whole_post (r : Int) : AV → Heap → Nat → Prop := fun v h' n' => v = (I r) ∧ (h' = (fun _ => none)) ∧ n' = 0
noncomputable def clerestoryref2_Whole_j1 (q_ : Int) : Option Int :=
  some q_
theorem clerestoryref2_Whole_j1_ok {mL : Int} {q_ : Int} {o : Int} (h : clerestoryref2_Whole_j1 q_ = some o) :
    Sv Tryd.prog (GG mL) 0 a33_c0 (Ends a33.results 0 (clerestoryref2_Whole_post o)) ⟨(upd (fun _ => none) 5 (some (I q_))), (fun _ => none), 0⟩ := by
  unfold clerestoryref2_Whole_j1 at h
  refine Sv.seq ?_
  refine Sv.region ?_
  refine un (a1 rfl ?_)
  refine un (a1 rfl ?_)
  refine dnil ?_
  refine Sv.ret ?_
  replace h := Option.some.inj h
  subst h
  exact ⟨_, .refl _, _, rfl, ⟨upd (fun _ => none) 0 (some (I q_)), (fun _ => none), 0⟩, (I q_), weak_canon [] rfl List.nodup_nil (Nat.le_refl _) (fun b h => absurd h (Nat.not_lt_zero _)) (.cons rfl (avAs_free rfl) .nil) .nil, rfl, rfl, rfl, rfl⟩
/-- clerestory/clerestoryref2.Whole -/
noncomputable def clerestoryref2_Whole (n_ : Int) (by_ : Int) : Option Int :=
  (quo? .i64 n_ by_).bind fun r_ =>
  if decide (n_ < (wi (r_ * by_))) then
    clerestoryref2_Whole_j1 (wi (r_ - 1))
  else
    clerestoryref2_Whole_j1 r_
theorem clerestoryref2_Whole_ok {mL : Int} {n_ : Int} {by_ : Int} {r : Int} (h : clerestoryref2_Whole n_ by_ = some r) : CPure Tryd.prog (GG mL) 33 [(I n_), (I by_)] (I r) := by
  refine acalls_of_sv hmix c33 (R := clerestoryref2_Whole_post r) ?_
  unfold clerestoryref2_Whole at h
  refine Sv.seq ?_
  refine Sv.region ?_
  refine un (a1 rfl ?_)
  refine dnil ?_
  refine Sv.seq ?_
  refine Sv.region ?_
  refine un (a1 rfl ?_)
  refine un (a1 rfl ?_)
  obtain ⟨r_, hx1, h⟩ := bnd h
  refine un (a1 (v := (I r_)) (s_quo rfl rfl hx1) ?_)
  refine un (a1 rfl ?_)
  refine dnil ?_
  refine Sv.seq ?_
  refine Sv.seq ?_
  refine Sv.region ?_
  refine un (a1 rfl ?_)
  refine un (a1 rfl ?_)
  refine un (a1 (v := (I (wi (r_ * by_)))) rfl ?_)
  refine un (a1 rfl ?_)
  refine un (a1 (v := (B (decide (n_ < (wi (r_ * by_)))))) rfl ?_)
  refine dnil ?_
  refine Sv.cond (b := decide (n_ < (wi (r_ * by_)))) rfl (fun hc1 => ?_) (fun hc1 => ?_)
  · replace h := ifT hc1 h
    refine Sv.region ?_
    refine un (a1 rfl ?_)
    refine un (a1 (v := (I (wi (r_ - 1)))) rfl ?_)
    refine un (a1 rfl ?_)
    refine dnil ?_
    exact Sv.weak (weak_canon [] rfl (by decide) (by decide) (fun b h => absurd h (Nat.not_lt_zero _)) (.cons rfl (avAs_free rfl) .nil) .nil) (clerestoryref2_Whole_j1_ok h)
  · replace h := ifF hc1 h
    refine Sv.skip ?_
    exact Sv.weak (weak_canon [] rfl (by decide) (by decide) (fun b h => absurd h (Nat.not_lt_zero _)) (.cons rfl (avAs_free rfl) .nil) .nil) (clerestoryref2_Whole_j1_ok h)
def a54_c0 : ACode := (.seq (.region [⟨(some 17), (.mov (.tmp 3)), none⟩, ⟨(some 2), (.mov (.tmp 17)), none⟩])
 .ret)
def a54 : AFunc := ⟨1, [(.tmp 2)], (.seq (.region [⟨(some 2), (.mov (.const (.c (.str [])))), none⟩])
 (.seq (.region [⟨(some 4), (.mov (.tmp 0)), none⟩, ⟨(some 5), (.bin .rem (.tmp 4) (.const (.c (.val (.int .i64 10))))), none⟩, ⟨(some 6), (.bin .add (.const (.c (.val (.int .i64 48)))) (.tmp 5)), none⟩, ⟨(some 7), (.conv .u8 (.tmp 6)), none⟩, ⟨(some 8), (.bslice 1 [(.val (.int .u8 0))] 1 [(0, (.tmp 7))]), none⟩, ⟨(some 9), (.ofBytes (.tmp 8)), none⟩, ⟨(some 3), (.mov (.tmp 9)), none⟩])
 (.seq (.seq (.region [⟨(some 10), (.mov (.tmp 0)), none⟩, ⟨(some 11), (.bin .gtr (.tmp 10) (.const (.c (.val (.int .i64 9))))), none⟩])
 (.cond (.tmp 11) (.region [⟨(some 12), (.mov (.tmp 0)), none⟩, ⟨(some 13), (.bin .quo (.tmp 12) (.const (.c (.val (.int .i64 10))))), none⟩, ⟨(some 14), (.call 54 [(.tmp 13)]), none⟩, ⟨(some 15), (.mov (.tmp 3)), none⟩, ⟨(some 16), (.bin .add (.tmp 14) (.tmp 15)), none⟩, ⟨(some 3), (.mov (.tmp 16)), none⟩]) .skip))
 a54_c0)))⟩
set_option maxRecDepth 100000 in
theorem c54 : compFunc Tryd.prog 54 = some a54 := by kernel_rfl
def clerestoryref2_Digits_post (r : (List UInt8)) : AV → Heap → Nat → Prop := fun v h' n' => v = (S r) ∧ (h' = (fun _ => none)) ∧ n' = 0
def clerestoryref2_Digits_Rec (mL : Int) (recf : Int → Option (List UInt8)) : Prop := ∀ (n_ : Int) (r : (List UInt8)), recf n_ = some r → CPure Tryd.prog (GG mL) 54 [(I n_)] (S r)
noncomputable def clerestoryref2_Digits_j1 (s_ : (List UInt8)) : Option (List UInt8) :=
  some s_
theorem clerestoryref2_Digits_j1_ok {mL : Int} {s_ : (List UInt8)} {o : (List UInt8)} (h : clerestoryref2_Digits_j1 s_ = some o) :
    Sv Tryd.prog (GG mL) 0 a54_c0 (Ends a54.results 0 (clerestoryref2_Digits_post o)) ⟨(upd (fun _ => none) 3 (some (S s_))), (fun _ => none), 0⟩ := by
  unfold clerestoryref2_Digits_j1 at h
  refine Sv.seq ?_
  refine Sv.region ?_
  refine un (a1 rfl ?_)
  refine un (a1 rfl ?_)
  refine dnil ?_
  refine Sv.ret ?_
  replace h := Option.some.inj h
  subst h
  exact ⟨_, .refl _, _, rfl, ⟨upd (fun _ => none) 0 (some (S s_)), (fun _ => none), 0⟩, (S s_), weak_canon [] rfl List.nodup_nil (Nat.le_refl _) (fun b h => absurd h (Nat.not_lt_zero _)) (.cons rfl (avAs_free rfl) .nil) .nil, rfl, rfl, rfl, rfl⟩
/-- clerestory/clerestoryref2.Digits -/
noncomputable def clerestoryref2_Digits_r : Nat → Int → Option (List UInt8)
  | 0, _ => none
  | k + 1, n_ =>
    if decide (9 < n_) then
      ((clerestoryref2_Digits_r k) (wi (n_.tdiv 10))).bind fun r_ =>
      (cat? r_ (byts [(wr .u8 (wi (48 + (n_.tmod 10))))])).bind fun r_1 =>
      clerestoryref2_Digits_j1 r_1
    else
      clerestoryref2_Digits_j1 (byts [(wr .u8 (wi (48 + (n_.tmod 10))))])
noncomputable def clerestoryref2_Digits (n_ : Int) : Option (List UInt8) :=
  lim fun kr => clerestoryref2_Digits_r kr n_
theorem clerestoryref2_Digits_r_ok {mL : Int} (k : Nat) : clerestoryref2_Digits_Rec mL (clerestoryref2_Digits_r k) := by
  induction k with
  | zero => intro n_ r h; cases h
  | succ k hrec =>
  intro n_ r h
  refine acalls_of_sv hmix c54 (R := clerestoryref2_Digits_post r) ?_
  rw [clerestoryref2_Digits_r] at h
  refine Sv.seq ?_
  refine Sv.region ?_
  refine un (a1 rfl ?_)
  refine dnil ?_
  refine Sv.seq ?_
  refine Sv.region ?_
  refine un (a1 rfl ?_)
  refine un (a1 (v := (I (n_.tmod 10))) rfl ?_)
  refine un (a1 (v := (I (wi (48 + (n_.tmod 10))))) rfl ?_)
  refine un (a1 (v := (.c (.val (.int .u8 (wr .u8 (wi (48 + (n_.tmod 10)))))))) rfl ?_)
  refine un (a2v (v := (lstV false 0 1 [(wr .u8 (wi (48 + (n_.tmod 10))))].length)) (h' := upd _ 0 (lstB false 1 ([(wr .u8 (wi (48 + (n_.tmod 10))))].map (eK .u8)))) (n' := 1) rfl rfl (fun h => by cases h) ?_)
  refine un (a1 (v := (S (byts [(wr .u8 (wi (48 + (n_.tmod 10))))]))) (s_ofBytes (xs := [(wr .u8 (wi (48 + (n_.tmod 10))))]) rfl (slc_lst rfl (List.length_map _).symm (map_nil_of (fun h => by cases h)))) ?_)
  refine un (a1 rfl ?_)
  refine dnil ?_
  refine Sv.seq ?_
  refine Sv.seq ?_
  refine Sv.region ?_
  refine un (a1 rfl ?_)
  refine un (a1 (v := (B (decide (9 < n_)))) rfl ?_)
  refine dnil ?_
  refine Sv.cond (b := decide (9 < n_)) rfl (fun hc1 => ?_) (fun hc1 => ?_)
  · replace h := ifT hc1 h
    refine Sv.region ?_
    refine un (a1 rfl ?_)
    refine un (a1 (v := (I (wi (n_.tdiv 10)))) rfl ?_)
    obtain ⟨r_, hr1, h⟩ := bnd h
    refine un (ac_pure (hrec (wi (n_.tdiv 10)) _ hr1) rfl rfl rfl ?_)
    refine un (a1 rfl ?_)
    obtain ⟨r_1, hx1, h⟩ := bnd h
    refine un (a1 (v := (S r_1)) (s_cat rfl rfl hx1) ?_)
    refine un (a1 rfl ?_)
    refine dnil ?_
    exact Sv.weak (weak_canon [] rfl (by decide) (by decide) (fun b h => absurd h (Nat.not_lt_zero _)) (.cons rfl (avAs_free rfl) .nil) .nil) (clerestoryref2_Digits_j1_ok h)
  · replace h := ifF hc1 h
    refine Sv.skip ?_
    exact Sv.weak (weak_canon [] rfl (by decide) (by decide) (fun b h => absurd h (Nat.not_lt_zero _)) (.cons rfl (avAs_free rfl) .nil) .nil) (clerestoryref2_Digits_j1_ok h)
theorem clerestoryref2_Digits_ok {mL : Int} {n_ : Int} {r : (List UInt8)} (h : clerestoryref2_Digits n_ = some r) : CPure Tryd.prog (GG mL) 54 [(I n_)] (S r) := by
  unfold clerestoryref2_Digits at h
  obtain ⟨k, h⟩ := lim_some h
  exact clerestoryref2_Digits_r_ok k n_  r h
def a32_c0 : ACode := (.seq (.seq (.region [⟨(some 27), (.mov (.tmp 7)), none⟩, ⟨(some 28), (.mov (.tmp 7)), none⟩, ⟨(some 29), (.lenS (.tmp 28)), none⟩, ⟨(some 30), (.bin .sub (.tmp 29) (.const (.c (.val (.int .i64 1))))), none⟩, ⟨(some 31), (.idxS (.tmp 27) (.tmp 30)), none⟩, ⟨(some 32), (.bin .eql (.tmp 31) (.const (.c (.val (.int .u8 48))))), none⟩])
 (.cond (.tmp 32) .skip (.exit 0)))
 (.block 1 (.region [⟨(some 33), (.mov (.tmp 7)), none⟩, ⟨(some 34), (.mov (.tmp 7)), none⟩, ⟨(some 35), (.lenS (.tmp 34)), none⟩, ⟨(some 36), (.bin .sub (.tmp 35) (.const (.c (.val (.int .i64 1))))), none⟩, ⟨(some 37), (.slStr (.tmp 33) none (some (.tmp 36))), none⟩, ⟨(some 7), (.mov (.tmp 37)), none⟩])))
def a32_c2 : ACode := (.seq (.region [⟨(some 46), (.mov (.tmp 5)), none⟩, ⟨(some 47), (.faddr 1 (.tmp 1)), none⟩, ⟨(some 48), (.load false 1 (.tmp 47)), none⟩, ⟨(some 49), (.bin .add (.tmp 46) (.tmp 48)), none⟩, ⟨(some 2), (.mov (.tmp 49)), none⟩])
 .ret)
def a32_c1 : ACode := (.seq (.seq (.region [⟨(some 42), (.mov (.tmp 3)), none⟩, ⟨(some 43), (.bin .lss (.tmp 42) (.const (.c (.val (.int .i64 0))))), none⟩])
 (.cond (.tmp 43) (.region [⟨(some 44), (.mov (.tmp 5)), none⟩, ⟨(some 45), (.bin .add (.const (.c (.str [45]))) (.tmp 44)), none⟩, ⟨(some 5), (.mov (.tmp 45)), none⟩]) .skip))
 a32_c2)
def a32 : AFunc := ⟨1, [(.tmp 2)], (.seq (.region [⟨(some 1), (.box (.tmp 0)), none⟩, ⟨(some 2), (.mov (.const (.c (.str [])))), none⟩])
 (.seq (.region [⟨(some 8), (.faddr 0 (.tmp 1)), none⟩, ⟨(some 9), (.load false 1 (.tmp 8)), none⟩, ⟨(some 10), (.mm false [(.tmp 9), (.const (.c (.val (.int .i64 1000000000))))]), none⟩, ⟨(some 11), (.mm true [(.const (.c (.val (.int .i64 (-1000000000))))), (.tmp 10)]), none⟩, ⟨(some 3), (.mov (.tmp 11)), none⟩])
 (.seq (.region [⟨(some 12), (.mov (.tmp 3)), none⟩, ⟨(some 13), (.mov (.tmp 3)), none⟩, ⟨(some 14), (.bin .sub (.const (.c (.val (.int .i64 0)))) (.tmp 13)), none⟩, ⟨(some 15), (.mm true [(.tmp 12), (.tmp 14)]), none⟩, ⟨(some 4), (.mov (.tmp 15)), none⟩])
 (.seq (.region [⟨(some 16), (.mov (.tmp 4)), none⟩, ⟨(some 17), (.bin .quo (.tmp 16) (.const (.c (.val (.int .i64 1000))))), none⟩, ⟨(some 18), (.call 54 [(.tmp 17)]), none⟩, ⟨(some 5), (.mov (.tmp 18)), none⟩])
 (.seq (.region [⟨(some 19), (.mov (.tmp 4)), none⟩, ⟨(some 20), (.bin .rem (.tmp 19) (.const (.c (.val (.int .i64 1000))))), none⟩, ⟨(some 6), (.mov (.tmp 20)), none⟩])
 (.seq (.seq (.region [⟨(some 21), (.mov (.tmp 6)), none⟩, ⟨(some 22), (.bin .gtr (.tmp 21) (.const (.c (.val (.int .i64 0))))), none⟩])
 (.cond (.tmp 22) (.seq (.region [⟨(some 23), (.mov (.tmp 6)), none⟩, ⟨(some 24), (.bin .add (.const (.c (.val (.int .i64 1000)))) (.tmp 23)), none⟩, ⟨(some 25), (.call 54 [(.tmp 24)]), none⟩, ⟨(some 26), (.slStr (.tmp 25) (some (.const (.c (.val (.int .i64 1))))) none), none⟩, ⟨(some 7), (.mov (.tmp 26)), none⟩])
 (.seq (.block 0 (.loop a32_c0))
 (.region [⟨(some 38), (.mov (.tmp 5)), none⟩, ⟨(some 39), (.bin .add (.tmp 38) (.const (.c (.str [46])))), none⟩, ⟨(some 40), (.mov (.tmp 7)), none⟩, ⟨(some 41), (.bin .add (.tmp 39) (.tmp 40)), none⟩, ⟨(some 5), (.mov (.tmp 41)), none⟩]))) .skip))
 a32_c1))))))⟩
set_option maxRecDepth 100000 in
theorem c32 : compFunc Tryd.prog 32 = some a32 := by kernel_rfl
def clerestoryref2_DimText_post (r : (List UInt8)) : AV → Heap → Nat → Prop := fun v h' n' => v = (S r) ∧ (h' = (fun _ => none)) ∧ n' = 0
noncomputable def clerestoryref2_DimText_j2 (d_ : TSDim) (s_1 : (List UInt8)) : Option (List UInt8) :=
  (cat? s_1 d_.Unit).bind fun r_1 =>
  some r_1
theorem clerestoryref2_DimText_j2_ok {mL : Int} {d_ : TSDim} {s_1 : (List UInt8)} {o : (List UInt8)} (h : clerestoryref2_DimText_j2 d_ s_1 = some o) :
    Sv Tryd.prog (GG mL) 0 a32_c2 (Ends a32.results 0 (clerestoryref2_DimText_post o)) ⟨(upd (upd (fun _ => none) 1 (some (.c (.ref 0 2 0 0)))) 5 (some (S s_1))), (upd (fun _ => none) 0 (some (.cells 2 [[cI d_.Num, .str d_.Unit]]))), 1⟩ := by
  unfold clerestoryref2_DimText_j2 at h
  refine Sv.seq ?_
  refine Sv.region ?_
  refine un (a1 rfl ?_)
  refine un (a1 (v := (.c (.ref 0 2 0 1))) rfl ?_)
  refine un (a1 (v := (S d_.Unit)) rfl ?_)
  obtain ⟨r_1, hx1, h⟩ := bnd h
  refine un (a1 (v := (S r_1)) (s_cat rfl rfl hx1) ?_)
  refine un (a1 rfl ?_)
  refine dnil ?_
  refine Sv.ret ?_
  replace h := Option.some.inj h
  subst h
  exact ⟨_, .refl _, _, rfl, ⟨upd (fun _ => none) 0 (some (S r_1)), (fun _ => none), 0⟩, (S r_1), weak_canon [] rfl List.nodup_nil (Nat.le_refl _) (fun b h => absurd h (Nat.not_lt_zero _)) (.cons rfl (avAs_free rfl) .nil) .nil, rfl, rfl, rfl, rfl⟩
noncomputable def clerestoryref2_DimText_j1 (d_ : TSDim) (s_ : (List UInt8)) : Option (List UInt8) :=
  if decide ((mx (-1000000000) (mn d_.Num 1000000000)) < 0) then
    (cat? [45] s_).bind fun r_2 =>
    clerestoryref2_DimText_j2 d_ r_2
  else
    clerestoryref2_DimText_j2 d_ s_
theorem clerestoryref2_DimText_j1_ok {mL : Int} {d_ : TSDim} {s_ : (List UInt8)} {o : (List UInt8)} (h : clerestoryref2_DimText_j1 d_ s_ = some o) :
    Sv Tryd.prog (GG mL) 0 a32_c1 (Ends a32.results 0 (clerestoryref2_DimText_post o)) ⟨(upd (upd (upd (fun _ => none) 1 (some (.c (.ref 0 2 0 0)))) 3 (some (I (mx (-1000000000) (mn d_.Num 1000000000))))) 5 (some (S s_))), (upd (fun _ => none) 0 (some (.cells 2 [[cI d_.Num, .str d_.Unit]]))), 1⟩ := by
  unfold clerestoryref2_DimText_j1 at h
  refine Sv.seq ?_
  refine Sv.seq ?_
  refine Sv.region ?_
  refine un (a1 rfl ?_)
  refine un (a1 (v := (B (decide ((mx (-1000000000) (mn d_.Num 1000000000)) < 0)))) rfl ?_)
  refine dnil ?_
  refine Sv.cond (b := decide ((mx (-1000000000) (mn d_.Num 1000000000)) < 0)) rfl (fun hc1 => ?_) (fun hc1 => ?_)
  · replace h := ifT hc1 h
    refine Sv.region ?_
    refine un (a1 rfl ?_)
    obtain ⟨r_2, hx2, h⟩ := bnd h
    refine un (a1 (v := (S r_2)) (s_cat rfl rfl hx2) ?_)
    refine un (a1 rfl ?_)
    refine dnil ?_
    exact Sv.weak (weak_canon [0] rfl (by decide) (by decide) (fun b h => absurd h (Nat.not_lt_zero _)) (.cons rfl (avAs_free rfl) (.cons rfl (.c (.ref rfl (by decide))) .nil)) (.box (by decide) rfl (blkAs_cells (.cons (.same rfl) (.cons (.same rfl) .nil))) .nil)) (clerestoryref2_DimText_j2_ok h)
  · replace h := ifF hc1 h
    refine Sv.skip ?_
    exact Sv.weak (weak_canon [0] rfl (by decide) (by decide) (fun b h => absurd h (Nat.not_lt_zero _)) (.cons rfl (avAs_free rfl) (.cons rfl (.c (.ref rfl (by decide))) .nil)) (.box (by decide) rfl (blkAs_cells (.cons (.same rfl) (.cons (.same rfl) .nil))) .nil)) (clerestoryref2_DimText_j2_ok h)
noncomputable def clerestoryref2_DimText_l2 (d_ : TSDim) (r_ : (List UInt8)) (K0_ : (List UInt8) → Option (List UInt8)) : Nat → (List UInt8) → Option (List UInt8)
  | 0, _ => none
  | k + 1, t_ =>
    (at? t_ (wi ((t_.length : Int) - 1))).bind fun c_ =>
    if decide ((c_.toNat : Int) = 48) then
      (sub? t_ 0 (wi ((t_.length : Int) - 1))).bind fun r_5 =>
      (clerestoryref2_DimText_l2 d_ r_ K0_ k) r_5
    else
      K0_ t_
theorem clerestoryref2_DimText_l2_ok {mL : Int} {Q : AExit → St → Prop} {d_ : TSDim} {r_ : (List UInt8)} {K0_ : (List UInt8) → Option (List UInt8)} {k : Nat} {t_ : (List UInt8)} {o : (List UInt8)} (h : clerestoryref2_DimText_l2 d_ r_ K0_ k t_ = some o)
    (hK0 : ∀ (t_1 : (List UInt8)), K0_ t_1 = some o → ∀ s, Weak 0 s ⟨(upd (upd (upd (upd (fun _ => none) 1 (some (.c (.ref 0 2 0 0)))) 3 (some (I (mx (-1000000000) (mn d_.Num 1000000000))))) 5 (some (S r_))) 7 (some (S t_1))), (upd (fun _ => none) 0 (some (.cells 2 [[cI d_.Num, .str d_.Unit]]))), 1⟩ → Q (.exit 0) s)
    (hr : ∀ s, Ends a32.results 0 (clerestoryref2_DimText_post o) .ret s → Q .ret s) :
    Sv Tryd.prog (GG mL) 0 (.loop a32_c0) Q ⟨(upd (upd (upd (upd (fun _ => none) 1 (some (.c (.ref 0 2 0 0)))) 3 (some (I (mx (-1000000000) (mn d_.Num 1000000000))))) 5 (some (S r_))) 7 (some (S t_))), (upd (fun _ => none) 0 (some (.cells 2 [[cI d_.Num, .str d_.Unit]]))), 1⟩ := by
  refine Sv.loop (I := fun k s => ∃ (t_ : (List UInt8)), clerestoryref2_DimText_l2 d_ r_ K0_ k t_ = some o ∧ s = ⟨(upd (upd (upd (upd (fun _ => none) 1 (some (.c (.ref 0 2 0 0)))) 3 (some (I (mx (-1000000000) (mn d_.Num 1000000000))))) 5 (some (S r_))) 7 (some (S t_))), (upd (fun _ => none) 0 (some (.cells 2 [[cI d_.Num, .str d_.Unit]]))), 1⟩) (fun k s hI => ?_) ⟨t_, h, rfl⟩
  clear h
  clear t_
  obtain ⟨t_, h, rfl⟩ := hI
  cases k with
  | zero => cases h
  | succ k =>
  rw [clerestoryref2_DimText_l2] at h
  have hself : ∀ (t_ : (List UInt8)), (clerestoryref2_DimText_l2 d_ r_ K0_ k) t_ = some o → ∀ s, Weak 0 s ⟨(upd (upd (upd (upd (fun _ => none) 1 (some (.c (.ref 0 2 0 0)))) 3 (some (I (mx (-1000000000) (mn d_.Num 1000000000))))) 5 (some (S r_))) 7 (some (S t_))), (upd (fun _ => none) 0 (some (.cells 2 [[cI d_.Num, .str d_.Unit]]))), 1⟩ → (AThen (fun s' => ∃ s'' k', Weak 0 s' s'' ∧ k' < k + 1 ∧ (fun k s => ∃ (t_ : (List UInt8)), clerestoryref2_DimText_l2 d_ r_ K0_ k t_ = some o ∧ s = ⟨(upd (upd (upd (upd (fun _ => none) 1 (some (.c (.ref 0 2 0 0)))) 3 (some (I (mx (-1000000000) (mn d_.Num 1000000000))))) 5 (some (S r_))) 7 (some (S t_))), (upd (fun _ => none) 0 (some (.cells 2 [[cI d_.Num, .str d_.Unit]]))), 1⟩) k' s'') Q) .normal s := fun t_ h s hw => ⟨_, k, hw, Nat.lt_succ_self k, t_, h, rfl⟩
  refine Sv.seq ?_
  refine Sv.seq ?_
  refine Sv.region ?_
  refine un (a1 rfl ?_)
  refine un (a1 rfl ?_)
  refine un (a1 (v := (I (t_.length : Int))) rfl ?_)
  refine un (a1 (v := (I (wi ((t_.length : Int) - 1)))) rfl ?_)
  obtain ⟨c_, hx4, h⟩ := bnd h
  refine un (a1 (v := (.c (.val (.int .u8 (c_.toNat : Int))))) (s_idxS rfl rfl hx4) ?_)
  refine un (a1 (v := (B (decide ((c_.toNat : Int) = 48)))) rfl ?_)
  refine dnil ?_
  refine Sv.cond (b := decide ((c_.toNat : Int) = 48)) rfl (fun hc3 => ?_) (fun hc3 => ?_)
  · replace h := ifT hc3 h
    refine Sv.skip ?_
    refine Sv.block ?_
    refine Sv.region ?_
    refine un (a1 rfl ?_)
    refine un (a1 rfl ?_)
    refine un (a1 (v := (I (t_.length : Int))) rfl ?_)
    refine un (a1 (v := (I (wi ((t_.length : Int) - 1)))) rfl ?_)
    obtain ⟨r_5, hx5, h⟩ := bnd h
    refine un (a1 (v := (S r_5)) (s_slStr rfl rfl rfl hx5) ?_)
    refine un (a1 rfl ?_)
    refine dnil ?_
    exact hself r_5 h _ (weak_canon [0] rfl (by decide) (by decide) (fun b h => absurd h (Nat.not_lt_zero _)) (.cons rfl (avAs_free rfl) (.cons rfl (avAs_free rfl) (.cons rfl (avAs_free rfl) (.cons rfl (.c (.ref rfl (by decide))) .nil)))) (.box (by decide) rfl (blkAs_cells (.cons (.same rfl) (.cons (.same rfl) .nil))) .nil))
  · replace h := ifF hc3 h
    refine Sv.exit ?_
    exact hK0 t_ h _ (weak_canon [0] rfl (by decide) (by decide) (fun b h => absurd h (Nat.not_lt_zero _)) (.cons rfl (avAs_free rfl) (.cons rfl (avAs_free rfl) (.cons rfl (avAs_free rfl) (.cons rfl (.c (.ref rfl (by decide))) .nil)))) (.box (by decide) rfl (blkAs_cells (.cons (.same rfl) (.cons (.same rfl) .nil))) .nil))
/-- clerestory/clerestoryref2.DimText -/
noncomputable def clerestoryref2_DimText (d_ : TSDim) : Option (List UInt8) :=
  letIn (wi ((mx (mx (-1000000000) (mn d_.Num 1000000000)) (wi (0 - (mx (-1000000000) (mn d_.Num 1000000000))))).tdiv 1000)) fun v17 : Int =>
  (clerestoryref2_Digits v17).bind fun r_ =>
  letIn ((mx (mx (-1000000000) (mn d_.Num 1000000000)) (wi (0 - (mx (-1000000000) (mn d_.Num 1000000000))))).tmod 1000) fun v20 : Int =>
  if decide (0 < v20) then
    (clerestoryref2_Digits (wi (1000 + v20))).bind fun r_3 =>
    (sub? r_3 1 (r_3.length : Int)).bind fun r_4 =>
    lim fun kk => clerestoryref2_DimText_l2 d_ r_ (fun (t_1 : (List UInt8)) => 
        (cat? r_ [46]).bind fun r_6 =>
        (cat? r_6 t_1).bind fun r_7 =>
        clerestoryref2_DimText_j1 d_ r_7) kk r_4
  else
    clerestoryref2_DimText_j1 d_ r_
theorem clerestoryref2_DimText_ok {mL : Int} {d_ : TSDim} {r : (List UInt8)} (h : clerestoryref2_DimText d_ = some r) : CPure Tryd.prog (GG mL) 32 [(.agg [cI d_.Num, .str d_.Unit])] (S r) := by
  refine acalls_of_sv hmix c32 (R := clerestoryref2_DimText_post r) ?_
  unfold clerestoryref2_DimText at h
  refine Sv.seq ?_
  refine Sv.region ?_
  refine un (a2v (v := (.c (.ref 0 2 0 0))) (h' := upd _ 0 (some (.cells 2 [[cI d_.Num, .str d_.Unit]]))) (n' := 1) rfl rfl (fun h => by cases h) ?_)
  refine un (a1 rfl ?_)
  refine dnil ?_
  refine Sv.seq ?_
  refine Sv.region ?_
  refine un (a1 (v := (.c (.ref 0 2 0 0))) rfl ?_)
  refine un (a1 (v := (I d_.Num)) rfl ?_)
  refine un (a1 (v := (I (mn d_.Num 1000000000))) (s_mn rfl rfl) ?_)
  refine un (a1 (v := (I (mx (-1000000000) (mn d_.Num 1000000000)))) (s_mx rfl rfl) ?_)
  refine un (a1 rfl ?_)
  refine dnil ?_
  refine Sv.seq ?_
  refine Sv.region ?_
  refine un (a1 rfl ?_)
  refine un (a1 rfl ?_)
  refine un (a1 (v := (I (wi (0 - (mx (-1000000000) (mn d_.Num 1000000000)))))) rfl ?_)
  refine un (a1 (v := (I (mx (mx (-1000000000) (mn d_.Num 1000000000)) (wi (0 - (mx (-1000000000) (mn d_.Num 1000000000))))))) (s_mx rfl rfl) ?_)
  refine un (a1 rfl ?_)
  refine dnil ?_
  refine Sv.seq ?_
  refine Sv.region ?_
  refine un (a1 rfl ?_)
  obtain ⟨v17, hv17⟩ : ∃ v17 : Int, v17 = (wi ((mx (mx (-1000000000) (mn d_.Num 1000000000)) (wi (0 - (mx (-1000000000) (mn d_.Num 1000000000))))).tdiv 1000)) := ⟨_, rfl⟩
  replace h := letAt hv17 h
  refine un (a1 (v := (I v17)) (by rw [hv17]; rfl) ?_)
  clear hv17
  obtain ⟨r_, hr1, h⟩ := bnd h
  refine un (ac_pure (clerestoryref2_Digits_ok hr1) rfl rfl rfl ?_)
  refine un (a1 rfl ?_)
  refine dnil ?_
  refine Sv.seq ?_
  refine Sv.region ?_
  refine un (a1 rfl ?_)
  obtain ⟨v20, hv20⟩ : ∃ v20 : Int, v20 = ((mx (mx (-1000000000) (mn d_.Num 1000000000)) (wi (0 - (mx (-1000000000) (mn d_.Num 1000000000))))).tmod 1000) := ⟨_, rfl⟩
  replace h := letAt hv20 h
  refine un (a1 (v := (I v20)) (by rw [hv20]; rfl) ?_)
  clear hv20
  refine un (a1 rfl ?_)
  refine dnil ?_
  refine Sv.seq ?_
  refine Sv.seq ?_
  refine Sv.region ?_
  refine un (a1 rfl ?_)
  refine un (a1 (v := (B (decide (0 < v20)))) rfl ?_)
  refine dnil ?_
  refine Sv.cond (b := decide (0 < v20)) rfl (fun hc2 => ?_) (fun hc2 => ?_)
  · replace h := ifT hc2 h
    refine Sv.seq ?_
    refine Sv.region ?_
    refine un (a1 rfl ?_)
    refine un (a1 (v := (I (wi (1000 + v20)))) rfl ?_)
    obtain ⟨r_3, hr2, h⟩ := bnd h
    refine un (ac_pure (clerestoryref2_Digits_ok hr2) rfl rfl rfl ?_)
    obtain ⟨r_4, hx3, h⟩ := bnd h
    refine un (a1 (v := (S r_4)) (s_slStr rfl rfl rfl hx3) ?_)
    refine un (a1 rfl ?_)
    refine dnil ?_
    refine Sv.seq ?_
    refine Sv.block ?_
    obtain ⟨kk, h⟩ := lim_some h
    refine Sv.weak (weak_canon [0] rfl (by decide) (by decide) (fun b h => absurd h (Nat.not_lt_zero _)) (.cons rfl (avAs_free rfl) (.cons rfl (avAs_free rfl) (.cons rfl (avAs_free rfl) (.cons rfl (.c (.ref rfl (by decide))) .nil)))) (.box (by decide) rfl (blkAs_cells (.cons (.same rfl) (.cons (.same rfl) .nil))) .nil)) (clerestoryref2_DimText_l2_ok h ?_ (fun s hs => hs))
    · intro t_1 h _ hw1
      refine Sv.weak hw1 ?_
      refine Sv.region ?_
      refine un (a1 rfl ?_)
      obtain ⟨r_6, hx6, h⟩ := bnd h
      refine un (a1 (v := (S r_6)) (s_cat rfl rfl hx6) ?_)
      refine un (a1 rfl ?_)
      obtain ⟨r_7, hx7, h⟩ := bnd h
      refine un (a1 (v := (S r_7)) (s_cat rfl rfl hx7) ?_)
      refine un (a1 rfl ?_)
      refine dnil ?_
      exact Sv.weak (weak_canon [0] rfl (by decide) (by decide) (fun b h => absurd h (Nat.not_lt_zero _)) (.cons rfl (avAs_free rfl) (.cons rfl (avAs_free rfl) (.cons rfl (.c (.ref rfl (by decide))) .nil))) (.box (by decide) rfl (blkAs_cells (.cons (.same rfl) (.cons (.same rfl) .nil))) .nil)) (clerestoryref2_DimText_j1_ok h)
  · replace h := ifF hc2 h
    refine Sv.skip ?_
    exact Sv.weak (weak_canon [0] rfl (by decide) (by decide) (fun b h => absurd h (Nat.not_lt_zero _)) (.cons rfl (avAs_free rfl) (.cons rfl (avAs_free rfl) (.cons rfl (.c (.ref rfl (by decide))) .nil))) (.box (by decide) rfl (blkAs_cells (.cons (.same rfl) (.cons (.same rfl) .nil))) .nil)) (clerestoryref2_DimText_j1_ok h)
def a11 : AFunc := ⟨2, [(.tmp 4)], (.seq (.region [⟨(some 3), (.box (.tmp 1)), none⟩, ⟨(some 4), (.mov (.const (.c (.str [])))), none⟩])
 (.seq (.seq (.region [⟨(some 5), (.faddr 0 (.tmp 3)), none⟩, ⟨(some 6), (.load false 1 (.tmp 5)), none⟩, ⟨(some 7), (.bin .eql (.tmp 6) (.const (.c (.val (.int .i64 1))))), none⟩])
 (.cond (.tmp 7) (.seq (.drawn (.fin [(⟨(some 8), (.mov (.tmp 0)), none⟩, (0, 0)), (⟨(some 10), (.faddr 1 (.tmp 3)), none⟩, (0, 2)), (⟨(some 11), (.load false 1 (.tmp 10)), none⟩, (0, 3)), (⟨(some 9), (.call 30 [(.tmp 8)]), none⟩, (1, 1)), (⟨(some 12), (.iaddr 1 (.tmp 9) (.tmp 11)), none⟩, (0, 4)), (⟨(some 13), (.load false 1 (.tmp 12)), none⟩, (0, 5)), (⟨(some 4), (.mov (.tmp 13)), none⟩, (0, 6))]))
 .ret) .skip))
 (.seq (.seq (.region [⟨(some 14), (.faddr 0 (.tmp 3)), none⟩, ⟨(some 15), (.load false 1 (.tmp 14)), none⟩, ⟨(some 16), (.bin .eql (.tmp 15) (.const (.c (.val (.int .i64 6))))), none⟩])
 (.cond (.tmp 16) (.seq (.region [⟨(some 17), (.mov (.tmp 0)), none⟩, ⟨(some 18), (.call 31 [(.tmp 17)]), none⟩, ⟨(some 4), (.mov (.tmp 18)), none⟩])
 .ret) .skip))
 (.seq (.seq (.region [⟨(some 19), (.faddr 0 (.tmp 3)), none⟩, ⟨(some 20), (.load false 1 (.tmp 19)), none⟩, ⟨(some 21), (.bin .eql (.tmp 20) (.const (.c (.val (.int .i64 5))))), none⟩])
 (.cond (.tmp 21) (.seq (.region [⟨(some 22), (.faddr 1 (.tmp 3)), none⟩, ⟨(some 23), (.load false 1 (.tmp 22)), none⟩, ⟨(some 24), (.call 20 [(.tmp 23)]), none⟩, ⟨(some 4), (.mov (.tmp 24)), none⟩])
 .ret) .skip))
 (.seq (.seq (.region [⟨(some 25), (.faddr 0 (.tmp 3)), none⟩, ⟨(some 26), (.load false 1 (.tmp 25)), none⟩, ⟨(some 27), (.bin .eql (.tmp 26) (.const (.c (.val (.int .i64 2))))), none⟩])
 (.cond (.tmp 27) (.seq (.region [⟨(some 28), (.faddr 1 (.tmp 3)), none⟩, ⟨(some 29), (.load false 1 (.tmp 28)), none⟩, ⟨(some 30), (.bin .mul (.tmp 29) (.const (.c (.val (.int .i64 1000))))), none⟩, ⟨(some 31), (.bin .sub (.const (.c (.val (.int .i64 0)))) (.tmp 30)), none⟩, ⟨(some 32), (.call 33 [(.tmp 31), (.const (.c (.val (.int .i64 64))))]), none⟩, ⟨(some 33), (.bin .sub (.const (.c (.val (.int .i64 0)))) (.tmp 32)), none⟩, ⟨(some 34), (.build [(.val (.int .i64 0)), (.str [])] [(0, (1, (.tmp 33))), (1, (1, (.const (.c (.str [112, 120])))))]), none⟩, ⟨(some 35), (.call 32 [(.tmp 34)]), none⟩, ⟨(some 4), (.mov (.tmp 35)), none⟩])
 .ret) .skip))
 (.seq (.seq (.region [⟨(some 36), (.faddr 0 (.tmp 3)), none⟩, ⟨(some 37), (.load false 1 (.tmp 36)), none⟩, ⟨(some 38), (.bin .eql (.tmp 37) (.const (.c (.val (.int .i64 3))))), none⟩])
 (.cond (.tmp 38) (.seq (.region [⟨(some 39), (.faddr 1 (.tmp 3)), none⟩, ⟨(some 40), (.load false 1 (.tmp 39)), none⟩, ⟨(some 41), (.bin .mul (.const (.c (.val (.int .i64 10)))) (.tmp 40)), none⟩, ⟨(some 42), (.build [(.val (.int .i64 0)), (.str [])] [(0, (1, (.tmp 41))), (1, (1, (.const (.c (.str [37])))))]), none⟩, ⟨(some 43), (.call 32 [(.tmp 42)]), none⟩, ⟨(some 4), (.mov (.tmp 43)), none⟩])
 .ret) .skip))
 (.seq (.region [⟨(some 44), (.faddr 1 (.tmp 3)), none⟩, ⟨(some 45), (.load false 1 (.tmp 44)), none⟩, ⟨(some 46), (.build [(.val (.int .i64 0)), (.str [])] [(0, (1, (.tmp 45)))]), none⟩, ⟨(some 47), (.call 32 [(.tmp 46)]), none⟩, ⟨(some 4), (.mov (.tmp 47)), none⟩])
 .ret)))))))⟩
set_option maxRecDepth 100000 in
theorem c11 : compFunc Tryd.prog 11 = some a11 := by kernel_rfl
def clerestoryref2_ValText_post (r : (List UInt8)) : AV → Heap → Nat → Prop := fun v h' n' => v = (S r) ∧ (h' = (fun _ => none)) ∧ n' = 0
/-- clerestory/clerestoryref2.ValText -/
noncomputable def clerestoryref2_ValText (p_ : Int) (v_ : TVal) : Option (List UInt8) :=
  if decide (v_.Kind = 1) then
    (clerestoryref2_PropKeys p_).bind fun r_ =>
    (at? r_ v_.N).bind fun x_ =>
    some x_
  else
    if decide (v_.Kind = 6) then
      some (clerestoryref2_PropAuto p_)
    else
      if decide (v_.Kind = 5) then
        (clerestoryref2_ColorText v_.N).bind fun r_1 =>
        some r_1
      else
        if decide (v_.Kind = 2) then
          (clerestoryref2_Whole (wi (0 - (wi (v_.N * 1000)))) 64).bind fun r_2 =>
          (clerestoryref2_DimText (⟨(wi (0 - r_2)), [112, 120]⟩ : TSDim)).bind fun r_3 =>
          some r_3
        else
          if decide (v_.Kind = 3) then
            (clerestoryref2_DimText (⟨(wi (10 * v_.N)), [37]⟩ : TSDim)).bind fun r_4 =>
            some r_4
          else
            (clerestoryref2_DimText (⟨v_.N, []⟩ : TSDim)).bind fun r_5 =>
            some r_5
theorem clerestoryref2_ValText_ok {mL : Int} {p_ : Int} {v_ : TVal} {r : (List UInt8)} (h : clerestoryref2_ValText p_ v_ = some r) : CPure Tryd.prog (GG mL) 11 [(I p_), (.agg [cI v_.Kind, cI v_.N])] (S r) := by
  refine acalls_of_sv hmix c11 (R := clerestoryref2_ValText_post r) ?_
  unfold clerestoryref2_ValText at h
  refine Sv.seq ?_
  refine Sv.region ?_
  refine un (a2v (v := (.c (.ref 0 2 0 0))) (h' := upd _ 0 (some (.cells 2 [[cI v_.Kind, cI v_.N]]))) (n' := 1) rfl rfl (fun h => by cases h) ?_)
  refine un (a1 rfl ?_)
  refine dnil ?_
  refine Sv.seq ?_
  refine Sv.seq ?_
  refine Sv.region ?_
  refine un (a1 (v := (.c (.ref 0 2 0 0))) rfl ?_)
  refine un (a1 (v := (I v_.Kind)) rfl ?_)
  refine un (a1 (v := (B (decide (v_.Kind = 1)))) rfl ?_)
  refine dnil ?_
  refine Sv.cond (b := decide (v_.Kind = 1)) rfl (fun hc1 => ?_) (fun hc1 => ?_)
  · replace h := ifT hc1 h
    refine Sv.seq ?_
    refine Sv.drawn ?_
    refine un (a1 rfl ?_)
    refine un (a1 (v := (.c (.ref 0 2 0 1))) rfl ?_)
    refine un (a1 (v := (I v_.N)) rfl ?_)
    obtain ⟨r_, hr1, h⟩ := bnd h
    refine un (ac_gen (bs := []) («as» := [(I p_)]) (h2 := _) (h1 := (fun _ => none)) (clerestoryref2_PropKeys_ok hr1) rfl (.cons (avAs_free rfl) .nil) (hsub_refl _) (.nil _) (fun _ => rfl) (by decide) (by decide) (.cons (avAs_free rfl) .nil) .nil ?_)
    rintro _ _ _ hn ⟨z_, hz_, rfl, rfl, rfl⟩
    refine ⟨.inl rfl, (upd (rem [] _) 1 (lstB z_ 1 (r_.map eStr))), fun hbd => (m3_cons (m3_row rfl (fr_map fun _ => rfl)) (m3_rem (in_nil _) (.cons (by decide) .nil) hbd)), (lstV z_ 1 1 r_.length), 2, (by cases z_ <;> rfl), rfl, ?_⟩
    obtain ⟨x_, hx1, h⟩ := bnd h
    refine un (a1 (v := (.c (.ref 1 1 v_.N.toNat 0))) (s_iaddrL rfl rfl hz_ hx1) ?_)
    refine un (a1 (v := (S x_)) (s_loadL (z := z_) (e := eStr) rfl rfl hz_ hx1 rfl rfl) ?_)
    refine un (a1 rfl ?_)
    refine dnil ?_
    refine Sv.ret ?_
    replace h := Option.some.inj h
    subst h
    exact ⟨_, .refl _, _, rfl, ⟨upd (fun _ => none) 0 (some (S x_)), (fun _ => none), 0⟩, (S x_), weak_canon [] rfl List.nodup_nil (Nat.le_refl _) (fun b h => absurd h (Nat.not_lt_zero _)) (.cons rfl (avAs_free rfl) .nil) .nil, rfl, rfl, rfl, rfl⟩
  · replace h := ifF hc1 h
    refine Sv.skip ?_
    refine Sv.seq ?_
    refine Sv.seq ?_
    refine Sv.region ?_
    refine un (a1 (v := (.c (.ref 0 2 0 0))) rfl ?_)
    refine un (a1 (v := (I v_.Kind)) rfl ?_)
    refine un (a1 (v := (B (decide (v_.Kind = 6)))) rfl ?_)
    refine dnil ?_
    refine Sv.cond (b := decide (v_.Kind = 6)) rfl (fun hc2 => ?_) (fun hc2 => ?_)
    · replace h := ifT hc2 h
      refine Sv.seq ?_
      refine Sv.region ?_
      refine un (a1 rfl ?_)
      refine un (ac_pure (clerestoryref2_PropAuto_ok (mL := mL) p_) rfl rfl rfl ?_)
      refine un (a1 rfl ?_)
      refine dnil ?_
      refine Sv.ret ?_
      replace h := Option.some.inj h
      subst h
      exact ⟨_, .refl _, _, rfl, ⟨upd (fun _ => none) 0 (some (S (clerestoryref2_PropAuto p_))), (fun _ => none), 0⟩, (S (clerestoryref2_PropAuto p_)), weak_canon [] rfl List.nodup_nil (Nat.le_refl _) (fun b h => absurd h (Nat.not_lt_zero _)) (.cons rfl (avAs_free rfl) .nil) .nil, rfl, rfl, rfl, rfl⟩
    · replace h := ifF hc2 h
      refine Sv.skip ?_
      refine Sv.seq ?_
      refine Sv.seq ?_
      refine Sv.region ?_
      refine un (a1 (v := (.c (.ref 0 2 0 0))) rfl ?_)
      refine un (a1 (v := (I v_.Kind)) rfl ?_)
      refine un (a1 (v := (B (decide (v_.Kind = 5)))) rfl ?_)
      refine dnil ?_
      refine Sv.cond (b := decide (v_.Kind = 5)) rfl (fun hc3 => ?_) (fun hc3 => ?_)
      · replace h := ifT hc3 h
        refine Sv.seq ?_
        refine Sv.region ?_
        refine un (a1 (v := (.c (.ref 0 2 0 1))) rfl ?_)
        refine un (a1 (v := (I v_.N)) rfl ?_)
        obtain ⟨r_1, hr2, h⟩ := bnd h
        refine un (ac_pure (clerestoryref2_ColorText_ok hr2) rfl rfl rfl ?_)
        refine un (a1 rfl ?_)
        refine dnil ?_
        refine Sv.ret ?_
        replace h := Option.some.inj h
        subst h
        exact ⟨_, .refl _, _, rfl, ⟨upd (fun _ => none) 0 (some (S r_1)), (fun _ => none), 0⟩, (S r_1), weak_canon [] rfl List.nodup_nil (Nat.le_refl _) (fun b h => absurd h (Nat.not_lt_zero _)) (.cons rfl (avAs_free rfl) .nil) .nil, rfl, rfl, rfl, rfl⟩
      · replace h := ifF hc3 h
        refine Sv.skip ?_
        refine Sv.seq ?_
        refine Sv.seq ?_
        refine Sv.region ?_
        refine un (a1 (v := (.c (.ref 0 2 0 0))) rfl ?_)
        refine un (a1 (v := (I v_.Kind)) rfl ?_)
        refine un (a1 (v := (B (decide (v_.Kind = 2)))) rfl ?_)
        refine dnil ?_
        refine Sv.cond (b := decide (v_.Kind = 2)) rfl (fun hc4 => ?_) (fun hc4 => ?_)
        · replace h := ifT hc4 h
          refine Sv.seq ?_
          refine Sv.region ?_
          refine un (a1 (v := (.c (.ref 0 2 0 1))) rfl ?_)
          refine un (a1 (v := (I v_.N)) rfl ?_)
          refine un (a1 (v := (I (wi (v_.N * 1000)))) rfl ?_)
          refine un (a1 (v := (I (wi (0 - (wi (v_.N * 1000)))))) rfl ?_)
          obtain ⟨r_2, hr3, h⟩ := bnd h
          refine un (ac_pure (clerestoryref2_Whole_ok hr3) rfl rfl rfl ?_)
          refine un (a1 (v := (I (wi (0 - r_2)))) rfl ?_)
          refine un (a1 (v := (.agg [cI (wi (0 - r_2)), .str [112, 120]])) rfl ?_)
          obtain ⟨r_3, hr4, h⟩ := bnd h
          refine un (ac_pure (clerestoryref2_DimText_ok hr4) rfl rfl rfl ?_)
          refine un (a1 rfl ?_)
          refine dnil ?_
          refine Sv.ret ?_
          replace h := Option.some.inj h
          subst h
          exact ⟨_, .refl _, _, rfl, ⟨upd (fun _ => none) 0 (some (S r_3)), (fun _ => none), 0⟩, (S r_3), weak_canon [] rfl List.nodup_nil (Nat.le_refl _) (fun b h => absurd h (Nat.not_lt_zero _)) (.cons rfl (avAs_free rfl) .nil) .nil, rfl, rfl, rfl, rfl⟩
        · replace h := ifF hc4 h
          refine Sv.skip ?_
          refine Sv.seq ?_
          refine Sv.seq ?_
          refine Sv.region ?_
          refine un (a1 (v := (.c (.ref 0 2 0 0))) rfl ?_)
          refine un (a1 (v := (I v_.Kind)) rfl ?_)
          refine un (a1 (v := (B (decide (v_.Kind = 3)))) rfl ?_)
          refine dnil ?_
          refine Sv.cond (b := decide (v_.Kind = 3)) rfl (fun hc5 => ?_) (fun hc5 => ?_)
          · replace h := ifT hc5 h
            refine Sv.seq ?_
            refine Sv.region ?_
            refine un (a1 (v := (.c (.ref 0 2 0 1))) rfl ?_)
            refine un (a1 (v := (I v_.N)) rfl ?_)
            refine un (a1 (v := (I (wi (10 * v_.N)))) rfl ?_)
            refine un (a1 (v := (.agg [cI (wi (10 * v_.N)), .str [37]])) rfl ?_)
            obtain ⟨r_4, hr5, h⟩ := bnd h
            refine un (ac_pure (clerestoryref2_DimText_ok hr5) rfl rfl rfl ?_)
            refine un (a1 rfl ?_)
            refine dnil ?_
            refine Sv.ret ?_
            replace h := Option.some.inj h
            subst h
            exact ⟨_, .refl _, _, rfl, ⟨upd (fun _ => none) 0 (some (S r_4)), (fun _ => none), 0⟩, (S r_4), weak_canon [] rfl List.nodup_nil (Nat.le_refl _) (fun b h => absurd h (Nat.not_lt_zero _)) (.cons rfl (avAs_free rfl) .nil) .nil, rfl, rfl, rfl, rfl⟩
          · replace h := ifF hc5 h
            refine Sv.skip ?_
            refine Sv.seq ?_
            refine Sv.region ?_
            refine un (a1 (v := (.c (.ref 0 2 0 1))) rfl ?_)
            refine un (a1 (v := (I v_.N)) rfl ?_)
            refine un (a1 (v := (.agg [cI v_.N, .str []])) rfl ?_)
            obtain ⟨r_5, hr6, h⟩ := bnd h
            refine un (ac_pure (clerestoryref2_DimText_ok hr6) rfl rfl rfl ?_)
            refine un (a1 rfl ?_)
            refine dnil ?_
            refine Sv.ret ?_
            replace h := Option.some.inj h
            subst h
            exact ⟨_, .refl _, _, rfl, ⟨upd (fun _ => none) 0 (some (S r_5)), (fun _ => none), 0⟩, (S r_5), weak_canon [] rfl List.nodup_nil (Nat.le_refl _) (fun b h => absurd h (Nat.not_lt_zero _)) (.cons rfl (avAs_free rfl) .nil) .nil, rfl, rfl, rfl, rfl⟩
def a3_c0 : ACode := .ret
def a3 : AFunc := ⟨2, [(.tmp 4)], (.seq (.region [⟨(some 3), (.box (.tmp 1)), none⟩, ⟨(some 4), (.mov (.const (.c (.val (.bool false))))), none⟩])
 (.seq (.region [⟨(some 8), (.build [(.val (.int .i64 0)), (.val (.int .i64 0))] [(0, (1, (.const (.c (.val (.int .i64 5)))))), (1, (1, (.const (.c (.val (.int .i64 255))))))]), none⟩, ⟨(some 9), (.call 8 [(.const (.c (.val (.int .i64 35)))), (.tmp 8)]), none⟩, ⟨(some 5), (.mov (.tmp 9)), none⟩])
 (.seq (.region [⟨(some 11), (.mov (.tmp 0)), none⟩, ⟨(some 12), (.load true 2 (.tmp 3)), none⟩, ⟨(some 13), (.call 9 [(.tmp 11), (.tmp 12)]), none⟩, ⟨(some 10), (.mov (.tmp 13)), none⟩, ⟨(some 14), (.ext (.tmp 10) 0), none⟩, ⟨(some 15), (.ext (.tmp 10) 1), none⟩, ⟨(some 6), (.mov (.tmp 14)), none⟩, ⟨(some 7), (.mov (.tmp 15)), none⟩])
 (.seq (.seq (.region [⟨(some 16), (.mov (.tmp 0)), none⟩, ⟨(some 17), (.bin .lss (.tmp 16) (.const (.c (.val (.int .i64 0))))), none⟩, ⟨(some 18), (.mov (.tmp 17)), none⟩, ⟨(some 19), (.mov (.tmp 0)), (some (18, false))⟩, ⟨(some 20), (.bin .geq (.tmp 19) (.const (.c (.val (.int .i64 59))))), (some (18, false))⟩, ⟨(some 21), (.pick (.tmp 18) (.const (.c (.val (.bool true)))) (.tmp 20)), none⟩])
 (.cond (.tmp 21) (.seq (.region [⟨(some 22), (.mov (.tmp 5)), none⟩, ⟨(some 23), (.mov (.tmp 22)), none⟩, ⟨(some 24), (.mov (.tmp 6)), (some (23, true))⟩, ⟨(some 25), (.bin .eql (.tmp 24) (.const (.c (.str [])))), (some (23, true))⟩, ⟨(some 26), (.pick (.tmp 23) (.tmp 25) (.const (.c (.val (.bool false))))), none⟩, ⟨(some 27), (.mov (.tmp 26)), none⟩, ⟨(some 28), (.mov (.tmp 7)), (some (27, true))⟩, ⟨(some 29), (.bin .eql (.tmp 28) (.const (.c (.val (.int .i64 1))))), (some (27, true))⟩, ⟨(some 30), (.pick (.tmp 27) (.tmp 29) (.const (.c (.val (.bool false))))), none⟩, ⟨(some 4), (.mov (.tmp 30)), none⟩])
 .ret) .skip))
 (.seq (.seq (.region [⟨(some 31), (.mov (.tmp 0)), none⟩, ⟨(some 32), (.load true 2 (.tmp 3)), none⟩, ⟨(some 33), (.call 10 [(.tmp 31), (.tmp 32)]), none⟩, ⟨(some 34), (.un .not (.tmp 33)), none⟩])
 (.cond (.tmp 34) (.seq (.region [⟨(some 35), (.mov (.tmp 5)), none⟩, ⟨(some 36), (.mov (.tmp 35)), none⟩, ⟨(some 37), (.mov (.tmp 6)), (some (36, true))⟩, ⟨(some 38), (.bin .eql (.tmp 37) (.const (.c (.str [])))), (some (36, true))⟩, ⟨(some 39), (.pick (.tmp 36) (.tmp 38) (.const (.c (.val (.bool false))))), none⟩, ⟨(some 40), (.mov (.tmp 39)), none⟩, ⟨(some 41), (.mov (.tmp 7)), (some (40, true))⟩, ⟨(some 42), (.bin .eql (.tmp 41) (.const (.c (.val (.int .i64 3))))), (some (40, true))⟩, ⟨(some 43), (.pick (.tmp 40) (.tmp 42) (.const (.c (.val (.bool false))))), none⟩, ⟨(some 4), (.mov (.tmp 43)), none⟩])
 .ret) .skip))
 (.seq (.region [⟨(some 44), (.mov (.tmp 5)), none⟩, ⟨(some 45), (.mov (.tmp 44)), none⟩, ⟨(some 46), (.mov (.tmp 7)), (some (45, true))⟩, ⟨(some 47), (.bin .eql (.tmp 46) (.const (.c (.val (.int .i64 0))))), (some (45, true))⟩, ⟨(some 48), (.pick (.tmp 45) (.tmp 47) (.const (.c (.val (.bool false))))), none⟩, ⟨(some 49), (.mov (.tmp 48)), none⟩, ⟨(some 50), (.mov (.tmp 6)), (some (49, true))⟩, ⟨(some 51), (.mov (.tmp 0)), (some (49, true))⟩, ⟨(some 52), (.load true 2 (.tmp 3)), (some (49, true))⟩, ⟨(some 53), (.call 11 [(.tmp 51), (.tmp 52)]), (some (49, true))⟩, ⟨(some 54), (.bin .eql (.tmp 50) (.tmp 53)), (some (49, true))⟩, ⟨(some 55), (.pick (.tmp 49) (.tmp 54) (.const (.c (.val (.bool false))))), none⟩, ⟨(some 4), (.mov (.tmp 55)), none⟩])
 a3_c0))))))⟩
set_option maxRecDepth 100000 in
theorem c3 : compFunc Tryd.prog 3 = some a3 := by kernel_rfl
def clerestorylaw2_PropTells_post (r : Bool) : AV → Heap → Nat → Prop := fun v h' n' => v = (B r) ∧ (h' = (fun _ => none)) ∧ n' = 0
noncomputable def clerestorylaw2_PropTells_j1 (v4 : Bool) : Option Bool :=
  some v4
theorem clerestorylaw2_PropTells_j1_ok {mL : Int} {v4 : Bool} {o : Bool} (h : clerestorylaw2_PropTells_j1 v4 = some o) :
    Sv Tryd.prog (GG mL) 0 a3_c0 (Ends a3.results 0 (clerestorylaw2_PropTells_post o)) ⟨(upd (fun _ => none) 4 (some (B v4))), (fun _ => none), 0⟩ := by
  unfold clerestorylaw2_PropTells_j1 at h
  refine Sv.ret ?_
  replace h := Option.some.inj h
  subst h
  exact ⟨_, .refl _, _, rfl, ⟨upd (fun _ => none) 0 (some (B v4)), (fun _ => none), 0⟩, (B v4), weak_canon [] rfl List.nodup_nil (Nat.le_refl _) (fun b h => absurd h (Nat.not_lt_zero _)) (.cons rfl (avAs_free rfl) .nil) .nil, rfl, rfl, rfl, rfl⟩
/-- clerestory/clerestorylaw2.PropTells -/
noncomputable def clerestorylaw2_PropTells (p_ : Int) (v_ : TVal) : Option Bool :=
  (prop_Fits 35 (⟨5, 255⟩ : TVal)).bind fun r_ =>
  (prop_Text p_ v_).bind fun r_1 =>
  if ((decide (p_ < 0)) || (decide (59 ≤ p_))) then
    some ((r_ && (decide (r_1.1 = []))) && (decide (r_1.2 = 1)))
  else
    (clerestoryref2_ValMay p_ v_).bind fun r_2 =>
    if (!r_2) then
      some ((r_ && (decide (r_1.1 = []))) && (decide (r_1.2 = 3)))
    else
      if (r_ && (decide (r_1.2 = 0))) then
        (clerestoryref2_ValText p_ v_).bind fun r_3 =>
        clerestorylaw2_PropTells_j1 (decide (r_1.1 = r_3))
      else
        clerestorylaw2_PropTells_j1 false
theorem clerestorylaw2_PropTells_ok {mL : Int} {p_ : Int} {v_ : TVal} {r : Bool} (h : clerestorylaw2_PropTells p_ v_ = some r) : CPure Tryd.prog (GG mL) 3 [(I p_), (.agg [cI v_.Kind, cI v_.N])] (B r) := by
  refine acalls_of_sv hmix c3 (R := clerestorylaw2_PropTells_post r) ?_
  unfold clerestorylaw2_PropTells at h
  refine Sv.seq ?_
  refine Sv.region ?_
  refine un (a2v (v := (.c (.ref 0 2 0 0))) (h' := upd _ 0 (some (.cells 2 [[cI v_.Kind, cI v_.N]]))) (n' := 1) rfl rfl (fun h => by cases h) ?_)
  refine un (a1 rfl ?_)
  refine dnil ?_
  refine Sv.seq ?_
  refine Sv.region ?_
  refine un (a1 (v := (.agg [cI 5, cI 255])) rfl ?_)
  obtain ⟨r_, hr1, h⟩ := bnd h
  refine un (ac_pure (prop_Fits_ok hr1) rfl rfl rfl ?_)
  refine un (a1 rfl ?_)
  refine dnil ?_
  refine Sv.seq ?_
  refine Sv.region ?_
  refine un (a1 rfl ?_)
  refine un (a1 (v := (.agg [cI v_.Kind, cI v_.N])) rfl ?_)
  obtain ⟨r_1, hr2, h⟩ := bnd h
  refine un (ac_pure (prop_Text_ok hr2) rfl rfl rfl ?_)
  refine un (a1 rfl ?_)
  refine un (a1 (v := (S r_1.1)) rfl ?_)
  refine un (a1 (v := (I r_1.2)) rfl ?_)
  refine un (a1 rfl ?_)
  refine un (a1 rfl ?_)
  refine dnil ?_
  refine Sv.seq ?_
  refine Sv.seq ?_
  refine Sv.region ?_
  refine un (a1 rfl ?_)
  refine un (a1 (v := (B (decide (p_ < 0)))) rfl ?_)
  refine un (a1 rfl ?_)
  refine gjoin 3 (d := 21) (v := (B ((decide (p_ < 0)) || (decide (59 ≤ p_))))) (fun X hX => ?_) ?_
  · refine split2 (fun hc1 => ?_) (fun hc1 => ?_)
    · refine gs rfl rfl ?_
      refine gs rfl rfl ?_
      refine un (a1 (v := (B true)) rfl ?_)
      refine dnil ?_
      exact hX _ (.putEq (by rw [hc1]; rfl) (.skip _ _ (.skip _ _ (.putEq (by rw [hc1]) (.refl _)) rfl) rfl))
    · refine gt rfl (a1 rfl ?_)
      refine gt rfl (a1 (v := (B (decide (59 ≤ p_)))) rfl ?_)
      refine un (a1 (v := (B (decide (59 ≤ p_)))) rfl ?_)
      refine dnil ?_
      exact hX _ (.putEq (by rw [hc1]; rfl) (.skip _ _ (.skip _ _ (.putEq (by rw [hc1]) (.refl _)) rfl) rfl))
  refine dnil ?_
  refine Sv.cond (b := ((decide (p_ < 0)) || (decide (59 ≤ p_)))) rfl (fun hc2 => ?_) (fun hc2 => ?_)
  · replace h := ifT hc2 h
    refine Sv.seq ?_
    refine Sv.region ?_
    refine un (a1 rfl ?_)
    refine un (a1 rfl ?_)
    refine gjoin 3 (d := 26) (v := (B (r_ && (decide (r_1.1 = []))))) (fun X hX => ?_) ?_
    · refine split2 (fun hc3 => ?_) (fun hc3 => ?_)
      · refine gt rfl (a1 rfl ?_)
        refine gt rfl (a1 (v := (B (decide (r_1.1 = [])))) rfl ?_)
        refine un (a1 (v := (B (decide (r_1.1 = [])))) rfl ?_)
        refine dnil ?_
        exact hX _ (.putEq (by rw [hc3]; rfl) (.skip _ _ (.skip _ _ (.putEq (by rw [hc3]) (.refl _)) rfl) rfl))
      · refine gs rfl rfl ?_
        refine gs rfl rfl ?_
        refine un (a1 (v := (B false)) rfl ?_)
        refine dnil ?_
        exact hX _ (.putEq (by rw [hc3]; rfl) (.skip _ _ (.skip _ _ (.putEq (by rw [hc3]) (.refl _)) rfl) rfl))
    refine un (a1 rfl ?_)
    refine gjoin 3 (d := 30) (v := (B ((r_ && (decide (r_1.1 = []))) && (decide (r_1.2 = 1))))) (fun X hX => ?_) ?_
    · refine split2 (fun hc4 => ?_) (fun hc4 => ?_)
      · refine gt rfl (a1 rfl ?_)
        refine gt rfl (a1 (v := (B (decide (r_1.2 = 1)))) rfl ?_)
        refine un (a1 (v := (B (decide (r_1.2 = 1)))) rfl ?_)
        refine dnil ?_
        exact hX _ (.putEq (by rw [hc4]; rfl) (.skip _ _ (.skip _ _ (.putEq (by rw [hc4]) (.refl _)) rfl) rfl))
      · refine gs rfl rfl ?_
        refine gs rfl rfl ?_
        refine un (a1 (v := (B false)) rfl ?_)
        refine dnil ?_
        exact hX _ (.putEq (by rw [hc4]; rfl) (.skip _ _ (.skip _ _ (.putEq (by rw [hc4]) (.refl _)) rfl) rfl))
    refine un (a1 rfl ?_)
    refine dnil ?_
    refine Sv.ret ?_
    replace h := Option.some.inj h
    subst h
    exact ⟨_, .refl _, _, rfl, ⟨upd (fun _ => none) 0 (some (B ((r_ && (decide (r_1.1 = []))) && (decide (r_1.2 = 1))))), (fun _ => none), 0⟩, (B ((r_ && (decide (r_1.1 = []))) && (decide (r_1.2 = 1)))), weak_canon [] rfl List.nodup_nil (Nat.le_refl _) (fun b h => absurd h (Nat.not_lt_zero _)) (.cons rfl (avAs_free rfl) .nil) .nil, rfl, rfl, rfl, rfl⟩
  · replace h := ifF hc2 h
    refine Sv.skip ?_
    refine Sv.seq ?_
    refine Sv.seq ?_
    refine Sv.region ?_
    refine un (a1 rfl ?_)
    refine un (a1 (v := (.agg [cI v_.Kind, cI v_.N])) rfl ?_)
    obtain ⟨r_2, hr3, h⟩ := bnd h
    refine un (ac_pure (clerestoryref2_ValMay_ok hr3) rfl rfl rfl ?_)
    refine un (a1 (v := (B (!r_2))) rfl ?_)
    refine dnil ?_
    refine Sv.cond (b := (!r_2)) rfl (fun hc5 => ?_) (fun hc5 => ?_)
    · replace h := ifT hc5 h
      refine Sv.seq ?_
      refine Sv.region ?_
      refine un (a1 rfl ?_)
      refine un (a1 rfl ?_)
      refine gjoin 3 (d := 39) (v := (B (r_ && (decide (r_1.1 = []))))) (fun X hX => ?_) ?_
      · refine split2 (fun hc6 => ?_) (fun hc6 => ?_)
        · refine gt rfl (a1 rfl ?_)
          refine gt rfl (a1 (v := (B (decide (r_1.1 = [])))) rfl ?_)
          refine un (a1 (v := (B (decide (r_1.1 = [])))) rfl ?_)
          refine dnil ?_
          exact hX _ (.putEq (by rw [hc6]; rfl) (.skip _ _ (.skip _ _ (.putEq (by rw [hc6]) (.refl _)) rfl) rfl))
        · refine gs rfl rfl ?_
          refine gs rfl rfl ?_
          refine un (a1 (v := (B false)) rfl ?_)
          refine dnil ?_
          exact hX _ (.putEq (by rw [hc6]; rfl) (.skip _ _ (.skip _ _ (.putEq (by rw [hc6]) (.refl _)) rfl) rfl))
      refine un (a1 rfl ?_)
      refine gjoin 3 (d := 43) (v := (B ((r_ && (decide (r_1.1 = []))) && (decide (r_1.2 = 3))))) (fun X hX => ?_) ?_
      · refine split2 (fun hc7 => ?_) (fun hc7 => ?_)
        · refine gt rfl (a1 rfl ?_)
          refine gt rfl (a1 (v := (B (decide (r_1.2 = 3)))) rfl ?_)
          refine un (a1 (v := (B (decide (r_1.2 = 3)))) rfl ?_)
          refine dnil ?_
          exact hX _ (.putEq (by rw [hc7]; rfl) (.skip _ _ (.skip _ _ (.putEq (by rw [hc7]) (.refl _)) rfl) rfl))
        · refine gs rfl rfl ?_
          refine gs rfl rfl ?_
          refine un (a1 (v := (B false)) rfl ?_)
          refine dnil ?_
          exact hX _ (.putEq (by rw [hc7]; rfl) (.skip _ _ (.skip _ _ (.putEq (by rw [hc7]) (.refl _)) rfl) rfl))
      refine un (a1 rfl ?_)
      refine dnil ?_
      refine Sv.ret ?_
      replace h := Option.some.inj h
      subst h
      exact ⟨_, .refl _, _, rfl, ⟨upd (fun _ => none) 0 (some (B ((r_ && (decide (r_1.1 = []))) && (decide (r_1.2 = 3))))), (fun _ => none), 0⟩, (B ((r_ && (decide (r_1.1 = []))) && (decide (r_1.2 = 3)))), weak_canon [] rfl List.nodup_nil (Nat.le_refl _) (fun b h => absurd h (Nat.not_lt_zero _)) (.cons rfl (avAs_free rfl) .nil) .nil, rfl, rfl, rfl, rfl⟩
    · replace h := ifF hc5 h
      refine Sv.skip ?_
      refine Sv.seq ?_
      refine Sv.region ?_
      refine un (a1 rfl ?_)
      refine un (a1 rfl ?_)
      refine gjoin 3 (d := 48) (v := (B (r_ && (decide (r_1.2 = 0))))) (fun X hX => ?_) ?_
      · refine split2 (fun hc8 => ?_) (fun hc8 => ?_)
        · refine gt rfl (a1 rfl ?_)
          refine gt rfl (a1 (v := (B (decide (r_1.2 = 0)))) rfl ?_)
          refine un (a1 (v := (B (decide (r_1.2 = 0)))) rfl ?_)
          refine dnil ?_
          exact hX _ (.putEq (by rw [hc8]; rfl) (.skip _ _ (.skip _ _ (.putEq (by rw [hc8]) (.refl _)) rfl) rfl))
        · refine gs rfl rfl ?_
          refine gs rfl rfl ?_
          refine un (a1 (v := (B false)) rfl ?_)
          refine dnil ?_
          exact hX _ (.putEq (by rw [hc8]; rfl) (.skip _ _ (.skip _ _ (.putEq (by rw [hc8]) (.refl _)) rfl) rfl))
      refine un (a1 rfl ?_)
      refine split2 (fun hc9 => ?_) (fun hc9 => ?_)
      · replace h := ifT hc9 h
        refine gt rfl (a1 rfl ?_)
        refine gt rfl (a1 rfl ?_)
        refine gt rfl (a1 (v := (.agg [cI v_.Kind, cI v_.N])) rfl ?_)
        obtain ⟨r_3, hr4, h⟩ := bnd h
        refine gt rfl (ac_pure (clerestoryref2_ValText_ok hr4) rfl rfl rfl ?_)
        refine gt rfl (a1 (v := (B (decide (r_1.1 = r_3)))) rfl ?_)
        refine un (a1 (v := (B (decide (r_1.1 = r_3)))) rfl ?_)
        refine un (a1 rfl ?_)
        refine dnil ?_
        exact Sv.weak (weak_canon [] rfl (by decide) (by decide) (fun b h => absurd h (Nat.not_lt_zero _)) (.cons rfl (avAs_free rfl) .nil) .nil) (clerestorylaw2_PropTells_j1_ok h)
      · replace h := ifF hc9 h
        refine gs rfl rfl ?_
        refine gs rfl rfl ?_
        refine gs rfl rfl ?_
        refine gs rfl rfl ?_
        refine gs rfl rfl ?_
        refine un (a1 (v := (B false)) rfl ?_)
        refine un (a1 rfl ?_)
        refine dnil ?_
        exact Sv.weak (weak_canon [] rfl (by decide) (by decide) (fun b h => absurd h (Nat.not_lt_zero _)) (.cons rfl (avAs_free rfl) .nil) .nil) (clerestorylaw2_PropTells_j1_ok h)
end Go.Proofs.YtmpdhpfimmahfaaDoorBv
