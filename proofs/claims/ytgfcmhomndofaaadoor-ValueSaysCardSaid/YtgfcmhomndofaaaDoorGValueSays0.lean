/- Printed by a program of mine (bgen.py): plain functions, and the walks that show that the code comes to what they answer. -/
import Derived.Test.YtgfcmhomndofaaaDoorRows
import Derived.Test.YtgfcmhomndofaaaDoorBv22
import Derived.Test.YtgfcmhomndofaaaDoorBv25
import Derived.Test.YtgfcmhomndofaaaDoorShelf
namespace Go.Proofs.YtgfcmhomndofaaaDoorBv
open Go
set_option linter.unusedVariables false
set_option maxRecDepth 100000
theorem hmix : Tryd.prog.follows .mixedOrders = true := by kernel_rfl
structure TJVal where
  Kind : Int
  N : Int
  S : (List UInt8)
def e_TJVal (x : TJVal) : List Cel := [cI x.Kind, cI x.N, .str x.S]
def g2_c : List Cel := [.val (.int .u64 1), .val (.int .u64 10), .val (.int .u64 100), .val (.int .u64 1000), .val (.int .u64 10000), .val (.int .u64 100000), .val (.int .u64 1000000), .val (.int .u64 10000000), .val (.int .u64 100000000), .val (.int .u64 1000000000), .val (.int .u64 10000000000), .val (.int .u64 100000000000), .val (.int .u64 1000000000000), .val (.int .u64 10000000000000), .val (.int .u64 100000000000000), .val (.int .u64 1000000000000000), .val (.int .u64 10000000000000000), .val (.int .u64 100000000000000000), .val (.int .u64 1000000000000000000), .val (.int .u64 10000000000000000000)]
def g3_c : List Cel := [.val (.int .u8 0), .val (.int .u8 1), .val (.int .u8 28), .val (.int .u8 2), .val (.int .u8 29), .val (.int .u8 14), .val (.int .u8 24), .val (.int .u8 3), .val (.int .u8 30), .val (.int .u8 22), .val (.int .u8 20), .val (.int .u8 15), .val (.int .u8 25), .val (.int .u8 17), .val (.int .u8 4), .val (.int .u8 8), .val (.int .u8 31), .val (.int .u8 27), .val (.int .u8 13), .val (.int .u8 23), .val (.int .u8 21), .val (.int .u8 19), .val (.int .u8 16), .val (.int .u8 7), .val (.int .u8 26), .val (.int .u8 12), .val (.int .u8 18), .val (.int .u8 6), .val (.int .u8 11), .val (.int .u8 5), .val (.int .u8 10), .val (.int .u8 9)]
def g4_c : List Cel := [.val (.int .u8 0), .val (.int .u8 1), .val (.int .u8 56), .val (.int .u8 2), .val (.int .u8 57), .val (.int .u8 49), .val (.int .u8 28), .val (.int .u8 3), .val (.int .u8 61), .val (.int .u8 58), .val (.int .u8 42), .val (.int .u8 50), .val (.int .u8 38), .val (.int .u8 29), .val (.int .u8 17), .val (.int .u8 4), .val (.int .u8 62), .val (.int .u8 47), .val (.int .u8 59), .val (.int .u8 36), .val (.int .u8 45), .val (.int .u8 43), .val (.int .u8 51), .val (.int .u8 22), .val (.int .u8 53), .val (.int .u8 39), .val (.int .u8 33), .val (.int .u8 30), .val (.int .u8 24), .val (.int .u8 18), .val (.int .u8 12), .val (.int .u8 5), .val (.int .u8 63), .val (.int .u8 55), .val (.int .u8 48), .val (.int .u8 27), .val (.int .u8 60), .val (.int .u8 41), .val (.int .u8 37), .val (.int .u8 16), .val (.int .u8 46), .val (.int .u8 35), .val (.int .u8 44), .val (.int .u8 21), .val (.int .u8 52), .val (.int .u8 32), .val (.int .u8 23), .val (.int .u8 11), .val (.int .u8 54), .val (.int .u8 26), .val (.int .u8 40), .val (.int .u8 15), .val (.int .u8 34), .val (.int .u8 20), .val (.int .u8 31), .val (.int .u8 10), .val (.int .u8 25), .val (.int .u8 14), .val (.int .u8 19), .val (.int .u8 9), .val (.int .u8 13), .val (.int .u8 8), .val (.int .u8 7), .val (.int .u8 6)]
/-- what the listed package variables hold -/
def GG : Glob := fun g => if g = 2 then g2_c else if g = 3 then g3_c else if g = 4 then g4_c else []
def a26 : AFunc := ⟨3, [(.tmp 6)], (.seq (.region [⟨(some 6), (.mov (.const (.c (.val (.bool false))))), none⟩])
 (.seq (.region [⟨(some 7), (.mov (.tmp 1)), none⟩, ⟨(some 8), (.mov (.tmp 0)), none⟩, ⟨(some 9), (.bin .leq (.tmp 7) (.tmp 8)), none⟩, ⟨(some 10), (.mov (.tmp 9)), none⟩, ⟨(some 11), (.mov (.tmp 0)), (some (10, true))⟩, ⟨(some 12), (.mov (.tmp 2)), (some (10, true))⟩, ⟨(some 13), (.bin .leq (.tmp 11) (.tmp 12)), (some (10, true))⟩, ⟨(some 14), (.pick (.tmp 10) (.tmp 13) (.const (.c (.val (.bool false))))), none⟩, ⟨(some 6), (.mov (.tmp 14)), none⟩])
 .ret))⟩
set_option maxRecDepth 100000 in
theorem c26 : compFunc Tryd.prog 26 = some a26 := by kernel_rfl
def clerestoryref4_Between_post (r : Bool) : AV → Heap → Nat → Prop := fun v h' n' => v = (B r) ∧ (h' = (fun _ => none)) ∧ n' = 0
/-- clerestory/clerestoryref4.Between -/
def clerestoryref4_Between (n_ : Int) (low : Int) (high : Int) : Bool :=
  ((decide (low ≤ n_)) && (decide (n_ ≤ high)))
theorem clerestoryref4_Between_ok (n_ : Int) (low : Int) (high : Int) : CPure Tryd.prog GG 26 [(I n_), (I low), (I high)] (B (clerestoryref4_Between n_ low high)) := by
  generalize h : clerestoryref4_Between n_ low high = o
  refine acalls_of_sv hmix c26 (R := clerestoryref4_Between_post o) ?_
  unfold clerestoryref4_Between at h
  refine Sv.seq ?_
  refine Sv.region ?_
  refine un (a1 rfl ?_)
  refine dnil ?_
  refine Sv.seq ?_
  refine Sv.region ?_
  refine un (a1 rfl ?_)
  refine un (a1 rfl ?_)
  refine un (a1 (v := (B (decide (low ≤ n_)))) rfl ?_)
  refine un (a1 rfl ?_)
  refine gjoin 4 (d := 14) (v := (B ((decide (low ≤ n_)) && (decide (n_ ≤ high))))) (fun X hX => ?_) ?_
  · refine split2 (fun hc1 => ?_) (fun hc1 => ?_)
    · refine gt rfl (a1 rfl ?_)
      refine gt rfl (a1 rfl ?_)
      refine gt rfl (a1 (v := (B (decide (n_ ≤ high)))) rfl ?_)
      refine un (a1 (v := (B (decide (n_ ≤ high)))) rfl ?_)
      refine dnil ?_
      exact hX _ (.putEq (by rw [hc1]; rfl) (.skip _ _ (.skip _ _ (.skip _ _ (.putEq (by rw [hc1]) (.refl _)) rfl) rfl) rfl))
    · refine gs rfl rfl ?_
      refine gs rfl rfl ?_
      refine gs rfl rfl ?_
      refine un (a1 (v := (B false)) rfl ?_)
      refine dnil ?_
      exact hX _ (.putEq (by rw [hc1]; rfl) (.skip _ _ (.skip _ _ (.skip _ _ (.putEq (by rw [hc1]) (.refl _)) rfl) rfl) rfl))
  refine un (a1 rfl ?_)
  refine dnil ?_
  refine Sv.ret ?_
  subst h
  exact ⟨_, .refl _, _, rfl, ⟨upd (fun _ => none) 0 (some (B ((decide (low ≤ n_)) && (decide (n_ ≤ high))))), (fun _ => none), 0⟩, (B ((decide (low ≤ n_)) && (decide (n_ ≤ high)))), weak_canon [] rfl List.nodup_nil (Nat.le_refl _) (fun b h => absurd h (Nat.not_lt_zero _)) (.cons rfl (avAs_free rfl) .nil) .nil, rfl, rfl, rfl, rfl⟩
def a12_c0 : ACode := (.seq (.region [⟨(some 66), (.load true 3 (.tmp 1)), none⟩, ⟨(some 67), (.load true 3 (.tmp 3)), none⟩, ⟨(some 68), (.eqs false true [.i, .i, .s] (.tmp 66) (.tmp 67)), none⟩, ⟨(some 2), (.mov (.tmp 68)), none⟩])
 .ret)
def a12 : AFunc := ⟨1, [(.tmp 2)], (.seq (.region [⟨(some 1), (.box (.tmp 0)), none⟩, ⟨(some 2), (.mov (.const (.c (.val (.bool false))))), none⟩])
 (.seq (.region [⟨(some 4), (.faddr 0 (.tmp 1)), none⟩, ⟨(some 5), (.load false 1 (.tmp 4)), none⟩, ⟨(some 6), (.build [(.val (.int .i64 0)), (.val (.int .i64 0)), (.str [])] [(0, (1, (.tmp 5)))]), none⟩, ⟨(some 3), (.box (.const (.agg [(.val (.int .i64 0)), (.val (.int .i64 0)), (.str [])]))), none⟩, ⟨none, (.store 3 (.tmp 3) (.tmp 6)), none⟩])
 (.seq (.seq (.region [⟨(some 7), (.faddr 0 (.tmp 1)), none⟩, ⟨(some 8), (.load false 1 (.tmp 7)), none⟩])
 (.block 0 (.seq (.region [⟨(some 10), (.bin .eql (.tmp 8) (.const (.c (.val (.int .i64 0))))), none⟩, ⟨(some 9), (.mov (.tmp 10)), none⟩])
 (.cond (.tmp 9) .skip (.seq (.region [⟨(some 12), (.bin .eql (.tmp 8) (.const (.c (.val (.int .i64 1))))), none⟩, ⟨(some 11), (.mov (.tmp 12)), none⟩])
 (.cond (.tmp 11) (.seq (.region [⟨(some 13), (.load true 3 (.tmp 1)), none⟩, ⟨(some 14), (.load true 3 (.tmp 3)), none⟩, ⟨(some 15), (.eqs false true [.i, .i, .s] (.tmp 13) (.tmp 14)), none⟩, ⟨(some 16), (.mov (.tmp 15)), none⟩, ⟨(some 17), (.load true 3 (.tmp 1)), (some (16, false))⟩, ⟨(some 18), (.build [(.val (.int .i64 0)), (.val (.int .i64 0)), (.str [])] [(0, (1, (.const (.c (.val (.int .i64 1)))))), (1, (1, (.const (.c (.val (.int .i64 1))))))]), (some (16, false))⟩, ⟨(some 19), (.eqs false true [.i, .i, .s] (.tmp 17) (.tmp 18)), (some (16, false))⟩, ⟨(some 20), (.pick (.tmp 16) (.const (.c (.val (.bool true)))) (.tmp 19)), none⟩, ⟨(some 2), (.mov (.tmp 20)), none⟩])
 .ret) (.seq (.region [⟨(some 22), (.bin .eql (.tmp 8) (.const (.c (.val (.int .i64 2))))), none⟩, ⟨(some 21), (.mov (.tmp 22)), none⟩])
 (.cond (.tmp 21) (.seq (.region [⟨(some 23), (.faddr 1 (.tmp 1)), none⟩, ⟨(some 24), (.load false 1 (.tmp 23)), none⟩, ⟨(some 25), (.faddr 1 (.tmp 3)), none⟩, ⟨none, (.store 1 (.tmp 25) (.tmp 24)), none⟩])
 (.seq (.region [⟨(some 26), (.load true 3 (.tmp 1)), none⟩, ⟨(some 27), (.load true 3 (.tmp 3)), none⟩, ⟨(some 28), (.eqs false true [.i, .i, .s] (.tmp 26) (.tmp 27)), none⟩, ⟨(some 29), (.mov (.tmp 28)), none⟩, ⟨(some 30), (.faddr 1 (.tmp 1)), (some (29, true))⟩, ⟨(some 31), (.load false 1 (.tmp 30)), (some (29, true))⟩, ⟨(some 32), (.call 26 [(.tmp 31), (.const (.c (.val (.int .i64 (-9007199254740992))))), (.const (.c (.val (.int .i64 9007199254740992))))]), (some (29, true))⟩, ⟨(some 33), (.pick (.tmp 29) (.tmp 32) (.const (.c (.val (.bool false))))), none⟩, ⟨(some 2), (.mov (.tmp 33)), none⟩])
 .ret)) (.seq (.region [⟨(some 35), (.bin .eql (.tmp 8) (.const (.c (.val (.int .i64 3))))), none⟩, ⟨(some 34), (.mov (.tmp 35)), none⟩])
 (.cond (.tmp 34) (.seq (.region [⟨(some 36), (.faddr 2 (.tmp 1)), none⟩, ⟨(some 37), (.load false 1 (.tmp 36)), none⟩, ⟨(some 38), (.faddr 2 (.tmp 3)), none⟩, ⟨none, (.store 1 (.tmp 38) (.tmp 37)), none⟩])
 (.seq (.region [⟨(some 39), (.load true 3 (.tmp 1)), none⟩, ⟨(some 40), (.load true 3 (.tmp 3)), none⟩, ⟨(some 41), (.eqs false true [.i, .i, .s] (.tmp 39) (.tmp 40)), none⟩, ⟨(some 42), (.mov (.tmp 41)), none⟩, ⟨(some 43), (.faddr 2 (.tmp 1)), (some (42, true))⟩, ⟨(some 44), (.load false 1 (.tmp 43)), (some (42, true))⟩, ⟨(some 45), (.lenS (.tmp 44)), (some (42, true))⟩, ⟨(some 46), (.bin .leq (.tmp 45) (.const (.c (.val (.int .i64 2000))))), (some (42, true))⟩, ⟨(some 47), (.pick (.tmp 42) (.tmp 46) (.const (.c (.val (.bool false))))), none⟩, ⟨(some 2), (.mov (.tmp 47)), none⟩])
 .ret)) (.seq (.region [⟨(some 49), (.bin .eql (.tmp 8) (.const (.c (.val (.int .i64 4))))), none⟩, ⟨(some 48), (.mov (.tmp 49)), none⟩])
 (.cond (.tmp 48) (.seq (.region [⟨(some 50), (.faddr 1 (.tmp 1)), none⟩, ⟨(some 51), (.load false 1 (.tmp 50)), none⟩, ⟨(some 52), (.faddr 1 (.tmp 3)), none⟩, ⟨none, (.store 1 (.tmp 52) (.tmp 51)), none⟩])
 (.seq (.region [⟨(some 53), (.load true 3 (.tmp 1)), none⟩, ⟨(some 54), (.load true 3 (.tmp 3)), none⟩, ⟨(some 55), (.eqs false true [.i, .i, .s] (.tmp 53) (.tmp 54)), none⟩, ⟨(some 56), (.mov (.tmp 55)), none⟩, ⟨(some 57), (.faddr 1 (.tmp 1)), (some (56, true))⟩, ⟨(some 58), (.load false 1 (.tmp 57)), (some (56, true))⟩, ⟨(some 59), (.bin .gtr (.tmp 58) (.const (.c (.val (.int .i64 (-1)))))), (some (56, true))⟩, ⟨(some 60), (.pick (.tmp 56) (.tmp 59) (.const (.c (.val (.bool false))))), none⟩, ⟨(some 2), (.mov (.tmp 60)), none⟩])
 .ret)) (.seq (.region [⟨(some 62), (.bin .eql (.tmp 8) (.const (.c (.val (.int .i64 5))))), none⟩, ⟨(some 61), (.mov (.tmp 62)), none⟩])
 (.cond (.tmp 61) (.region [⟨(some 63), (.faddr 2 (.tmp 1)), none⟩, ⟨(some 64), (.load false 1 (.tmp 63)), none⟩, ⟨(some 65), (.faddr 2 (.tmp 3)), none⟩, ⟨none, (.store 1 (.tmp 65) (.tmp 64)), none⟩]) (.seq (.region [⟨(some 2), (.mov (.const (.c (.val (.bool false))))), none⟩])
 .ret)))))))))))))))
 a12_c0)))⟩
set_option maxRecDepth 100000 in
theorem c12 : compFunc Tryd.prog 12 = some a12 := by kernel_rfl
def clerestoryref4_ValueRight_post (r : Bool) : AV → Heap → Nat → Prop := fun v h' n' => v = (B r) ∧ (h' = (fun _ => none)) ∧ n' = 0
def clerestoryref4_ValueRight_j1 (v_ : TJVal) (zero2 : (List UInt8)) : Bool :=
  letIn (decide (v_.Kind = v_.Kind) && (decide (v_.N = 0) && (decide (v_.S = zero2) && true))) fun v68 : Bool =>
  v68
theorem clerestoryref4_ValueRight_j1_ok {v_ : TJVal} {zero2 : (List UInt8)} {o : Bool} (h : clerestoryref4_ValueRight_j1 v_ zero2 = o) :
    Sv Tryd.prog GG 0 a12_c0 (Ends a12.results 0 (clerestoryref4_ValueRight_post o)) ⟨(upd (upd (fun _ => none) 1 (some (.c (.ref 0 3 0 0)))) 3 (some (.c (.ref 1 3 0 0)))), (upd (upd (fun _ => none) 0 (some (.cells 3 [[cI v_.Kind, cI v_.N, .str v_.S]]))) 1 (some (.cells 3 [[cI v_.Kind, cI 0, .str zero2]]))), 2⟩ := by
  unfold clerestoryref4_ValueRight_j1 at h
  refine Sv.seq ?_
  refine Sv.region ?_
  refine un (a1 (v := (.agg [cI v_.Kind, cI v_.N, .str v_.S])) rfl ?_)
  refine un (a1 (v := (.agg [cI v_.Kind, cI 0, .str zero2])) rfl ?_)
  obtain ⟨v68, hv68⟩ : ∃ v68 : Bool, v68 = (decide (v_.Kind = v_.Kind) && (decide (v_.N = 0) && (decide (v_.S = zero2) && true))) := ⟨_, rfl⟩
  replace h := letAt hv68 h
  refine un (a1 (v := (B v68)) (by rw [hv68]; rfl) ?_)
  clear hv68
  refine un (a1 rfl ?_)
  refine dnil ?_
  refine Sv.ret ?_
  subst h
  exact ⟨_, .refl _, _, rfl, ⟨upd (fun _ => none) 0 (some (B v68)), (fun _ => none), 0⟩, (B v68), weak_canon [] rfl List.nodup_nil (Nat.le_refl _) (fun b h => absurd h (Nat.not_lt_zero _)) (.cons rfl (avAs_free rfl) .nil) .nil, rfl, rfl, rfl, rfl⟩
/-- clerestory/clerestoryref4.ValueRight -/
def clerestoryref4_ValueRight (v_ : TJVal) : Bool :=
  if decide (v_.Kind = 0) then
    clerestoryref4_ValueRight_j1 v_ []
  else
    if decide (v_.Kind = 1) then
      letIn (decide (v_.Kind = v_.Kind) && (decide (v_.N = 0) && (decide (v_.S = []) && true))) fun v15 : Bool =>
      (v15 || (decide (v_.Kind = 1) && (decide (v_.N = 1) && (decide (v_.S = []) && true))))
    else
      if decide (v_.Kind = 2) then
        letIn (decide (v_.Kind = v_.Kind) && (decide (v_.N = v_.N) && (decide (v_.S = []) && true))) fun v28 : Bool =>
        (v28 && (clerestoryref4_Between v_.N (-9007199254740992) 9007199254740992))
      else
        if decide (v_.Kind = 3) then
          letIn (decide (v_.Kind = v_.Kind) && (decide (v_.N = 0) && (decide (v_.S = v_.S) && true))) fun v41 : Bool =>
          (v41 && (decide ((v_.S.length : Int) ≤ 2000)))
        else
          if decide (v_.Kind = 4) then
            letIn (decide (v_.Kind = v_.Kind) && (decide (v_.N = v_.N) && (decide (v_.S = []) && true))) fun v55 : Bool =>
            (v55 && (decide ((-1) < v_.N)))
          else
            if decide (v_.Kind = 5) then
              clerestoryref4_ValueRight_j1 v_ v_.S
            else
              false
theorem clerestoryref4_ValueRight_ok (v_ : TJVal) : CPure Tryd.prog GG 12 [(.agg [cI v_.Kind, cI v_.N, .str v_.S])] (B (clerestoryref4_ValueRight v_)) := by
  generalize h : clerestoryref4_ValueRight v_ = o
  refine acalls_of_sv hmix c12 (R := clerestoryref4_ValueRight_post o) ?_
  unfold clerestoryref4_ValueRight at h
  refine Sv.seq ?_
  refine Sv.region ?_
  refine un (a2v (v := (.c (.ref 0 3 0 0))) (h' := upd _ 0 (some (.cells 3 [[cI v_.Kind, cI v_.N, .str v_.S]]))) (n' := 1) rfl rfl (fun h => by cases h) ?_)
  refine un (a1 rfl ?_)
  refine dnil ?_
  refine Sv.seq ?_
  refine Sv.region ?_
  refine un (a1 (v := (.c (.ref 0 3 0 0))) rfl ?_)
  refine un (a1 (v := (I v_.Kind)) rfl ?_)
  refine un (a1 (v := (.agg [cI v_.Kind, cI 0, .str []])) rfl ?_)
  refine un (a2v (v := (.c (.ref 1 3 0 0))) (h' := upd _ 1 (some (.cells 3 [[cI 0, cI 0, .str []]]))) (n' := 2) rfl rfl (fun h => by cases h) ?_)
  refine un (a2n (h' := upd _ 1 (some (.cells 3 [[cI v_.Kind, cI 0, .str []]]))) (n' := 2) rfl rfl (fun h => by cases h) ?_)
  refine dnil ?_
  refine Sv.seq ?_
  refine Sv.seq ?_
  refine Sv.region ?_
  refine un (a1 (v := (.c (.ref 0 3 0 0))) rfl ?_)
  refine un (a1 (v := (I v_.Kind)) rfl ?_)
  refine dnil ?_
  refine Sv.block ?_
  refine Sv.seq ?_
  refine Sv.region ?_
  refine un (a1 (v := (B (decide (v_.Kind = 0)))) rfl ?_)
  refine un (a1 rfl ?_)
  refine dnil ?_
  refine Sv.cond (b := decide (v_.Kind = 0)) rfl (fun hc1 => ?_) (fun hc1 => ?_)
  · replace h := ifT hc1 h
    refine Sv.skip ?_
    exact Sv.weak (weak_canon [0, 1] rfl (by decide) (by decide) (fun b h => absurd h (Nat.not_lt_zero _)) (.cons rfl (.c (.ref rfl (by decide))) (.cons rfl (.c (.ref rfl (by decide))) .nil)) (.box (by decide) rfl (blkAs_cells (.cons (.same rfl) (.cons (.same rfl) (.cons (.same rfl) .nil)))) (.box (by decide) rfl (blkAs_cells (.cons (.same rfl) (.cons (.same rfl) (.cons (.same rfl) .nil)))) .nil))) (clerestoryref4_ValueRight_j1_ok h)
  · replace h := ifF hc1 h
    refine Sv.seq ?_
    refine Sv.region ?_
    refine un (a1 (v := (B (decide (v_.Kind = 1)))) rfl ?_)
    refine un (a1 rfl ?_)
    refine dnil ?_
    refine Sv.cond (b := decide (v_.Kind = 1)) rfl (fun hc2 => ?_) (fun hc2 => ?_)
    · replace h := ifT hc2 h
      refine Sv.seq ?_
      refine Sv.region ?_
      refine un (a1 (v := (.agg [cI v_.Kind, cI v_.N, .str v_.S])) rfl ?_)
      refine un (a1 (v := (.agg [cI v_.Kind, cI 0, .str []])) rfl ?_)
      obtain ⟨v15, hv15⟩ : ∃ v15 : Bool, v15 = (decide (v_.Kind = v_.Kind) && (decide (v_.N = 0) && (decide (v_.S = []) && true))) := ⟨_, rfl⟩
      replace h := letAt hv15 h
      refine un (a1 (v := (B v15)) (by rw [hv15]; rfl) ?_)
      clear hv15
      refine un (a1 rfl ?_)
      refine gjoin 4 (d := 20) (v := (B (v15 || (decide (v_.Kind = 1) && (decide (v_.N = 1) && (decide (v_.S = []) && true)))))) (fun X hX => ?_) ?_
      · refine split2 (fun hc3 => ?_) (fun hc3 => ?_)
        · refine gs rfl rfl ?_
          refine gs rfl rfl ?_
          refine gs rfl rfl ?_
          refine un (a1 (v := (B true)) rfl ?_)
          refine dnil ?_
          exact hX _ (.putEq (by rw [hc3]; rfl) (.skip _ _ (.skip _ _ (.skip _ _ (.putEq (by rw [hc3]) (.refl _)) rfl) rfl) rfl))
        · refine gt rfl (a1 (v := (.agg [cI v_.Kind, cI v_.N, .str v_.S])) rfl ?_)
          refine gt rfl (a1 (v := (.agg [cI 1, cI 1, .str []])) rfl ?_)
          refine gt rfl (a1 (v := (B (decide (v_.Kind = 1) && (decide (v_.N = 1) && (decide (v_.S = []) && true))))) rfl ?_)
          refine un (a1 (v := (B (decide (v_.Kind = 1) && (decide (v_.N = 1) && (decide (v_.S = []) && true))))) rfl ?_)
          refine dnil ?_
          exact hX _ (.putEq (by rw [hc3]; rfl) (.skip _ _ (.skip _ _ (.skip _ _ (.putEq (by rw [hc3]) (.refl _)) rfl) rfl) rfl))
      refine un (a1 rfl ?_)
      refine dnil ?_
      refine Sv.ret ?_
      subst h
      exact ⟨_, .refl _, _, rfl, ⟨upd (fun _ => none) 0 (some (B (v15 || (decide (v_.Kind = 1) && (decide (v_.N = 1) && (decide (v_.S = []) && true)))))), (fun _ => none), 0⟩, (B (v15 || (decide (v_.Kind = 1) && (decide (v_.N = 1) && (decide (v_.S = []) && true))))), weak_canon [] rfl List.nodup_nil (Nat.le_refl _) (fun b h => absurd h (Nat.not_lt_zero _)) (.cons rfl (avAs_free rfl) .nil) .nil, rfl, rfl, rfl, rfl⟩
    · replace h := ifF hc2 h
      refine Sv.seq ?_
      refine Sv.region ?_
      refine un (a1 (v := (B (decide (v_.Kind = 2)))) rfl ?_)
      refine un (a1 rfl ?_)
      refine dnil ?_
      refine Sv.cond (b := decide (v_.Kind = 2)) rfl (fun hc4 => ?_) (fun hc4 => ?_)
      · replace h := ifT hc4 h
        refine Sv.seq ?_
        refine Sv.region ?_
        refine un (a1 (v := (.c (.ref 0 3 0 1))) rfl ?_)
        refine un (a1 (v := (I v_.N)) rfl ?_)
        refine un (a1 (v := (.c (.ref 1 3 0 1))) rfl ?_)
        refine un (a2n (h' := upd _ 1 (some (.cells 3 [[cI v_.Kind, cI v_.N, .str []]]))) (n' := 2) rfl rfl (fun h => by cases h) ?_)
        refine dnil ?_
        refine Sv.seq ?_
        refine Sv.region ?_
        refine un (a1 (v := (.agg [cI v_.Kind, cI v_.N, .str v_.S])) rfl ?_)
        refine un (a1 (v := (.agg [cI v_.Kind, cI v_.N, .str []])) rfl ?_)
        obtain ⟨v28, hv28⟩ : ∃ v28 : Bool, v28 = (decide (v_.Kind = v_.Kind) && (decide (v_.N = v_.N) && (decide (v_.S = []) && true))) := ⟨_, rfl⟩
        replace h := letAt hv28 h
        refine un (a1 (v := (B v28)) (by rw [hv28]; rfl) ?_)
        clear hv28
        refine un (a1 rfl ?_)
        refine gjoin 4 (d := 33) (v := (B (v28 && (clerestoryref4_Between v_.N (-9007199254740992) 9007199254740992)))) (fun X hX => ?_) ?_
        · refine split2 (fun hc5 => ?_) (fun hc5 => ?_)
          · refine gt rfl (a1 (v := (.c (.ref 0 3 0 1))) rfl ?_)
            refine gt rfl (a1 (v := (I v_.N)) rfl ?_)
            refine gt rfl (ac_pure (clerestoryref4_Between_ok v_.N (-9007199254740992) 9007199254740992) rfl rfl rfl ?_)
            refine un (a1 (v := (B (clerestoryref4_Between v_.N (-9007199254740992) 9007199254740992))) rfl ?_)
            refine dnil ?_
            exact hX _ (.putEq (by rw [hc5]; rfl) (.skip _ _ (.skip _ _ (.skip _ _ (.putEq (by rw [hc5]) (.refl _)) rfl) rfl) rfl))
          · refine gs rfl rfl ?_
            refine gs rfl rfl ?_
            refine gs rfl rfl ?_
            refine un (a1 (v := (B false)) rfl ?_)
            refine dnil ?_
            exact hX _ (.putEq (by rw [hc5]; rfl) (.skip _ _ (.skip _ _ (.skip _ _ (.putEq (by rw [hc5]) (.refl _)) rfl) rfl) rfl))
        refine un (a1 rfl ?_)
        refine dnil ?_
        refine Sv.ret ?_
        subst h
        exact ⟨_, .refl _, _, rfl, ⟨upd (fun _ => none) 0 (some (B (v28 && (clerestoryref4_Between v_.N (-9007199254740992) 9007199254740992)))), (fun _ => none), 0⟩, (B (v28 && (clerestoryref4_Between v_.N (-9007199254740992) 9007199254740992))), weak_canon [] rfl List.nodup_nil (Nat.le_refl _) (fun b h => absurd h (Nat.not_lt_zero _)) (.cons rfl (avAs_free rfl) .nil) .nil, rfl, rfl, rfl, rfl⟩
      · replace h := ifF hc4 h
        refine Sv.seq ?_
        refine Sv.region ?_
        refine un (a1 (v := (B (decide (v_.Kind = 3)))) rfl ?_)
        refine un (a1 rfl ?_)
        refine dnil ?_
        refine Sv.cond (b := decide (v_.Kind = 3)) rfl (fun hc6 => ?_) (fun hc6 => ?_)
        · replace h := ifT hc6 h
          refine Sv.seq ?_
          refine Sv.region ?_
          refine un (a1 (v := (.c (.ref 0 3 0 2))) rfl ?_)
          refine un (a1 (v := (S v_.S)) rfl ?_)
          refine un (a1 (v := (.c (.ref 1 3 0 2))) rfl ?_)
          refine un (a2n (h' := upd _ 1 (some (.cells 3 [[cI v_.Kind, cI 0, .str v_.S]]))) (n' := 2) rfl rfl (fun h => by cases h) ?_)
          refine dnil ?_
          refine Sv.seq ?_
          refine Sv.region ?_
          refine un (a1 (v := (.agg [cI v_.Kind, cI v_.N, .str v_.S])) rfl ?_)
          refine un (a1 (v := (.agg [cI v_.Kind, cI 0, .str v_.S])) rfl ?_)
          obtain ⟨v41, hv41⟩ : ∃ v41 : Bool, v41 = (decide (v_.Kind = v_.Kind) && (decide (v_.N = 0) && (decide (v_.S = v_.S) && true))) := ⟨_, rfl⟩
          replace h := letAt hv41 h
          refine un (a1 (v := (B v41)) (by rw [hv41]; rfl) ?_)
          clear hv41
          refine un (a1 rfl ?_)
          refine gjoin 5 (d := 47) (v := (B (v41 && (decide ((v_.S.length : Int) ≤ 2000))))) (fun X hX => ?_) ?_
          · refine split2 (fun hc7 => ?_) (fun hc7 => ?_)
            · refine gt rfl (a1 (v := (.c (.ref 0 3 0 2))) rfl ?_)
              refine gt rfl (a1 (v := (S v_.S)) rfl ?_)
              refine gt rfl (a1 (v := (I (v_.S.length : Int))) rfl ?_)
              refine gt rfl (a1 (v := (B (decide ((v_.S.length : Int) ≤ 2000)))) rfl ?_)
              refine un (a1 (v := (B (decide ((v_.S.length : Int) ≤ 2000)))) rfl ?_)
              refine dnil ?_
              exact hX _ (.putEq (by rw [hc7]; rfl) (.skip _ _ (.skip _ _ (.skip _ _ (.skip _ _ (.putEq (by rw [hc7]) (.refl _)) rfl) rfl) rfl) rfl))
            · refine gs rfl rfl ?_
              refine gs rfl rfl ?_
              refine gs rfl rfl ?_
              refine gs rfl rfl ?_
              refine un (a1 (v := (B false)) rfl ?_)
              refine dnil ?_
              exact hX _ (.putEq (by rw [hc7]; rfl) (.skip _ _ (.skip _ _ (.skip _ _ (.skip _ _ (.putEq (by rw [hc7]) (.refl _)) rfl) rfl) rfl) rfl))
          refine un (a1 rfl ?_)
          refine dnil ?_
          refine Sv.ret ?_
          subst h
          exact ⟨_, .refl _, _, rfl, ⟨upd (fun _ => none) 0 (some (B (v41 && (decide ((v_.S.length : Int) ≤ 2000))))), (fun _ => none), 0⟩, (B (v41 && (decide ((v_.S.length : Int) ≤ 2000)))), weak_canon [] rfl List.nodup_nil (Nat.le_refl _) (fun b h => absurd h (Nat.not_lt_zero _)) (.cons rfl (avAs_free rfl) .nil) .nil, rfl, rfl, rfl, rfl⟩
        · replace h := ifF hc6 h
          refine Sv.seq ?_
          refine Sv.region ?_
          refine un (a1 (v := (B (decide (v_.Kind = 4)))) rfl ?_)
          refine un (a1 rfl ?_)
          refine dnil ?_
          refine Sv.cond (b := decide (v_.Kind = 4)) rfl (fun hc8 => ?_) (fun hc8 => ?_)
          · replace h := ifT hc8 h
            refine Sv.seq ?_
            refine Sv.region ?_
            refine un (a1 (v := (.c (.ref 0 3 0 1))) rfl ?_)
            refine un (a1 (v := (I v_.N)) rfl ?_)
            refine un (a1 (v := (.c (.ref 1 3 0 1))) rfl ?_)
            refine un (a2n (h' := upd _ 1 (some (.cells 3 [[cI v_.Kind, cI v_.N, .str []]]))) (n' := 2) rfl rfl (fun h => by cases h) ?_)
            refine dnil ?_
            refine Sv.seq ?_
            refine Sv.region ?_
            refine un (a1 (v := (.agg [cI v_.Kind, cI v_.N, .str v_.S])) rfl ?_)
            refine un (a1 (v := (.agg [cI v_.Kind, cI v_.N, .str []])) rfl ?_)
            obtain ⟨v55, hv55⟩ : ∃ v55 : Bool, v55 = (decide (v_.Kind = v_.Kind) && (decide (v_.N = v_.N) && (decide (v_.S = []) && true))) := ⟨_, rfl⟩
            replace h := letAt hv55 h
            refine un (a1 (v := (B v55)) (by rw [hv55]; rfl) ?_)
            clear hv55
            refine un (a1 rfl ?_)
            refine gjoin 4 (d := 60) (v := (B (v55 && (decide ((-1) < v_.N))))) (fun X hX => ?_) ?_
            · refine split2 (fun hc9 => ?_) (fun hc9 => ?_)
              · refine gt rfl (a1 (v := (.c (.ref 0 3 0 1))) rfl ?_)
                refine gt rfl (a1 (v := (I v_.N)) rfl ?_)
                refine gt rfl (a1 (v := (B (decide ((-1) < v_.N)))) rfl ?_)
                refine un (a1 (v := (B (decide ((-1) < v_.N)))) rfl ?_)
                refine dnil ?_
                exact hX _ (.putEq (by rw [hc9]; rfl) (.skip _ _ (.skip _ _ (.skip _ _ (.putEq (by rw [hc9]) (.refl _)) rfl) rfl) rfl))
              · refine gs rfl rfl ?_
                refine gs rfl rfl ?_
                refine gs rfl rfl ?_
                refine un (a1 (v := (B false)) rfl ?_)
                refine dnil ?_
                exact hX _ (.putEq (by rw [hc9]; rfl) (.skip _ _ (.skip _ _ (.skip _ _ (.putEq (by rw [hc9]) (.refl _)) rfl) rfl) rfl))
            refine un (a1 rfl ?_)
            refine dnil ?_
            refine Sv.ret ?_
            subst h
            exact ⟨_, .refl _, _, rfl, ⟨upd (fun _ => none) 0 (some (B (v55 && (decide ((-1) < v_.N))))), (fun _ => none), 0⟩, (B (v55 && (decide ((-1) < v_.N)))), weak_canon [] rfl List.nodup_nil (Nat.le_refl _) (fun b h => absurd h (Nat.not_lt_zero _)) (.cons rfl (avAs_free rfl) .nil) .nil, rfl, rfl, rfl, rfl⟩
          · replace h := ifF hc8 h
            refine Sv.seq ?_
            refine Sv.region ?_
            refine un (a1 (v := (B (decide (v_.Kind = 5)))) rfl ?_)
            refine un (a1 rfl ?_)
            refine dnil ?_
            refine Sv.cond (b := decide (v_.Kind = 5)) rfl (fun hc10 => ?_) (fun hc10 => ?_)
            · replace h := ifT hc10 h
              refine Sv.region ?_
              refine un (a1 (v := (.c (.ref 0 3 0 2))) rfl ?_)
              refine un (a1 (v := (S v_.S)) rfl ?_)
              refine un (a1 (v := (.c (.ref 1 3 0 2))) rfl ?_)
              refine un (a2n (h' := upd _ 1 (some (.cells 3 [[cI v_.Kind, cI 0, .str v_.S]]))) (n' := 2) rfl rfl (fun h => by cases h) ?_)
              refine dnil ?_
              exact Sv.weak (weak_canon [0, 1] rfl (by decide) (by decide) (fun b h => absurd h (Nat.not_lt_zero _)) (.cons rfl (.c (.ref rfl (by decide))) (.cons rfl (.c (.ref rfl (by decide))) .nil)) (.box (by decide) rfl (blkAs_cells (.cons (.same rfl) (.cons (.same rfl) (.cons (.same rfl) .nil)))) (.box (by decide) rfl (blkAs_cells (.cons (.same rfl) (.cons (.same rfl) (.cons (.same rfl) .nil)))) .nil))) (clerestoryref4_ValueRight_j1_ok h)
            · replace h := ifF hc10 h
              refine Sv.seq ?_
              refine Sv.region ?_
              refine un (a1 rfl ?_)
              refine dnil ?_
              refine Sv.ret ?_
              subst h
              exact ⟨_, .refl _, _, rfl, ⟨upd (fun _ => none) 0 (some (B false)), (fun _ => none), 0⟩, (B false), weak_canon [] rfl List.nodup_nil (Nat.le_refl _) (fun b h => absurd h (Nat.not_lt_zero _)) (.cons rfl (avAs_free rfl) .nil) .nil, rfl, rfl, rfl, rfl⟩
def a10 : AFunc := ⟨1, [(.cell true 3 2)], (.seq (.region [⟨(some 1), (.box (.tmp 0)), none⟩, ⟨(some 2), (.box (.const (.agg [(.val (.int .i64 0)), (.val (.int .i64 0)), (.str [])]))), none⟩])
 (.seq (.seq (.region [⟨(some 3), (.load true 3 (.tmp 1)), none⟩, ⟨(some 4), (.call 12 [(.tmp 3)]), none⟩])
 (.cond (.tmp 4) (.seq (.region [⟨(some 5), (.load true 3 (.tmp 1)), none⟩, ⟨none, (.store 3 (.tmp 2) (.tmp 5)), none⟩])
 .ret) .skip))
 (.seq (.region [⟨(some 6), (.build [(.val (.int .i64 0)), (.val (.int .i64 0)), (.str [])] []), none⟩, ⟨none, (.store 3 (.tmp 2) (.tmp 6)), none⟩])
 .ret)))⟩
set_option maxRecDepth 100000 in
theorem c10 : compFunc Tryd.prog 10 = some a10 := by kernel_rfl
def clerestoryref4_Taken_post (r : TJVal) : AV → Heap → Nat → Prop := fun v h' n' => v = (.agg [cI r.Kind, cI r.N, .str r.S]) ∧ (h' = (fun _ => none)) ∧ n' = 0
/-- clerestory/clerestoryref4.Taken -/
def clerestoryref4_Taken (v_ : TJVal) : TJVal :=
  if (clerestoryref4_ValueRight v_) then
    v_
  else
    (⟨0, 0, []⟩ : TJVal)
theorem clerestoryref4_Taken_ok (v_ : TJVal) : CPure Tryd.prog GG 10 [(.agg [cI v_.Kind, cI v_.N, .str v_.S])] (.agg [cI ((clerestoryref4_Taken v_).Kind), cI ((clerestoryref4_Taken v_).N), .str ((clerestoryref4_Taken v_).S)]) := by
  generalize h : clerestoryref4_Taken v_ = o
  refine acalls_of_sv hmix c10 (R := clerestoryref4_Taken_post o) ?_
  unfold clerestoryref4_Taken at h
  refine Sv.seq ?_
  refine Sv.region ?_
  refine un (a2v (v := (.c (.ref 0 3 0 0))) (h' := upd _ 0 (some (.cells 3 [[cI v_.Kind, cI v_.N, .str v_.S]]))) (n' := 1) rfl rfl (fun h => by cases h) ?_)
  refine un (a2v (v := (.c (.ref 1 3 0 0))) (h' := upd _ 1 (some (.cells 3 [[cI 0, cI 0, .str []]]))) (n' := 2) rfl rfl (fun h => by cases h) ?_)
  refine dnil ?_
  refine Sv.seq ?_
  refine Sv.seq ?_
  refine Sv.region ?_
  refine un (a1 (v := (.agg [cI v_.Kind, cI v_.N, .str v_.S])) rfl ?_)
  refine un (ac_pure (clerestoryref4_ValueRight_ok v_) rfl rfl rfl ?_)
  refine dnil ?_
  refine Sv.cond (b := (clerestoryref4_ValueRight v_)) rfl (fun hc1 => ?_) (fun hc1 => ?_)
  · replace h := ifT hc1 h
    refine Sv.seq ?_
    refine Sv.region ?_
    refine un (a1 (v := (.agg [cI v_.Kind, cI v_.N, .str v_.S])) rfl ?_)
    refine un (a2n (h' := upd _ 1 (some (.cells 3 [[cI v_.Kind, cI v_.N, .str v_.S]]))) (n' := 2) rfl rfl (fun h => by cases h) ?_)
    refine dnil ?_
    refine Sv.ret ?_
    subst h
    exact ⟨_, .refl _, _, rfl, ⟨upd (fun _ => none) 0 (some (.agg [cI v_.Kind, cI v_.N, .str v_.S])), (fun _ => none), 0⟩, (.agg [cI v_.Kind, cI v_.N, .str v_.S]), weak_canon [] rfl List.nodup_nil (Nat.le_refl _) (fun b h => absurd h (Nat.not_lt_zero _)) (.cons rfl (avAs_free rfl) .nil) .nil, rfl, rfl, rfl, rfl⟩
  · replace h := ifF hc1 h
    refine Sv.skip ?_
    refine Sv.seq ?_
    refine Sv.region ?_
    refine un (a1 (v := (.agg [cI 0, cI 0, .str []])) rfl ?_)
    refine un (a2n (h' := upd _ 1 (some (.cells 3 [[cI 0, cI 0, .str []]]))) (n' := 2) rfl rfl (fun h => by cases h) ?_)
    refine dnil ?_
    refine Sv.ret ?_
    subst h
    exact ⟨_, .refl _, _, rfl, ⟨upd (fun _ => none) 0 (some (.agg [cI 0, cI 0, .str []])), (fun _ => none), 0⟩, (.agg [cI 0, cI 0, .str []]), weak_canon [] rfl List.nodup_nil (Nat.le_refl _) (fun b h => absurd h (Nat.not_lt_zero _)) (.cons rfl (avAs_free rfl) .nil) .nil, rfl, rfl, rfl, rfl⟩
def a25 : AFunc := ⟨3, [(.tmp 6)], (.seq (.region [⟨(some 6), (.mov (.const (.c (.val (.bool false))))), none⟩])
 (.seq (.region [⟨(some 7), (.mov (.tmp 0)), none⟩, ⟨(some 8), (.mov (.tmp 1)), none⟩, ⟨(some 9), (.bin .geq (.tmp 7) (.tmp 8)), none⟩, ⟨(some 10), (.mov (.tmp 9)), none⟩, ⟨(some 11), (.mov (.tmp 0)), (some (10, true))⟩, ⟨(some 12), (.mov (.tmp 2)), (some (10, true))⟩, ⟨(some 13), (.bin .leq (.tmp 11) (.tmp 12)), (some (10, true))⟩, ⟨(some 14), (.pick (.tmp 10) (.tmp 13) (.const (.c (.val (.bool false))))), none⟩, ⟨(some 6), (.mov (.tmp 14)), none⟩])
 .ret))⟩
set_option maxRecDepth 100000 in
theorem c25 : compFunc Tryd.prog 25 = some a25 := by kernel_rfl
def value_within_post (r : Bool) : AV → Heap → Nat → Prop := fun v h' n' => v = (B r) ∧ (h' = (fun _ => none)) ∧ n' = 0
/-- clerestory/value.within -/
def value_within (n_ : Int) (low : Int) (high : Int) : Bool :=
  ((decide (low ≤ n_)) && (decide (n_ ≤ high)))
theorem value_within_ok (n_ : Int) (low : Int) (high : Int) : CPure Tryd.prog GG 25 [(I n_), (I low), (I high)] (B (value_within n_ low high)) := by
  generalize h : value_within n_ low high = o
  refine acalls_of_sv hmix c25 (R := value_within_post o) ?_
  unfold value_within at h
  refine Sv.seq ?_
  refine Sv.region ?_
  refine un (a1 rfl ?_)
  refine dnil ?_
  refine Sv.seq ?_
  refine Sv.region ?_
  refine un (a1 rfl ?_)
  refine un (a1 rfl ?_)
  refine un (a1 (v := (B (decide (low ≤ n_)))) rfl ?_)
  refine un (a1 rfl ?_)
  refine gjoin 4 (d := 14) (v := (B ((decide (low ≤ n_)) && (decide (n_ ≤ high))))) (fun X hX => ?_) ?_
  · refine split2 (fun hc1 => ?_) (fun hc1 => ?_)
    · refine gt rfl (a1 rfl ?_)
      refine gt rfl (a1 rfl ?_)
      refine gt rfl (a1 (v := (B (decide (n_ ≤ high)))) rfl ?_)
      refine un (a1 (v := (B (decide (n_ ≤ high)))) rfl ?_)
      refine dnil ?_
      exact hX _ (.putEq (by rw [hc1]; rfl) (.skip _ _ (.skip _ _ (.skip _ _ (.putEq (by rw [hc1]) (.refl _)) rfl) rfl) rfl))
    · refine gs rfl rfl ?_
      refine gs rfl rfl ?_
      refine gs rfl rfl ?_
      refine un (a1 (v := (B false)) rfl ?_)
      refine dnil ?_
      exact hX _ (.putEq (by rw [hc1]; rfl) (.skip _ _ (.skip _ _ (.skip _ _ (.putEq (by rw [hc1]) (.refl _)) rfl) rfl) rfl))
  refine un (a1 rfl ?_)
  refine dnil ?_
  refine Sv.ret ?_
  subst h
  exact ⟨_, .refl _, _, rfl, ⟨upd (fun _ => none) 0 (some (B ((decide (low ≤ n_)) && (decide (n_ ≤ high))))), (fun _ => none), 0⟩, (B ((decide (low ≤ n_)) && (decide (n_ ≤ high)))), weak_canon [] rfl List.nodup_nil (Nat.le_refl _) (fun b h => absurd h (Nat.not_lt_zero _)) (.cons rfl (avAs_free rfl) .nil) .nil, rfl, rfl, rfl, rfl⟩
def a11 : AFunc := ⟨1, [(.tmp 2)], (.seq (.region [⟨(some 1), (.box (.tmp 0)), none⟩, ⟨(some 2), (.mov (.const (.c (.val (.bool false))))), none⟩])
 (.seq (.seq (.region [⟨(some 3), (.faddr 0 (.tmp 1)), none⟩, ⟨(some 4), (.load false 1 (.tmp 3)), none⟩])
 (.block 0 (.seq (.region [⟨(some 6), (.bin .eql (.tmp 4) (.const (.c (.val (.int .i64 0))))), none⟩, ⟨(some 5), (.mov (.tmp 6)), none⟩])
 (.cond (.tmp 5) (.seq (.region [⟨(some 7), (.faddr 1 (.tmp 1)), none⟩, ⟨(some 8), (.load false 1 (.tmp 7)), none⟩, ⟨(some 9), (.bin .eql (.tmp 8) (.const (.c (.val (.int .i64 0))))), none⟩, ⟨(some 10), (.mov (.tmp 9)), none⟩, ⟨(some 11), (.faddr 2 (.tmp 1)), (some (10, true))⟩, ⟨(some 12), (.load false 1 (.tmp 11)), (some (10, true))⟩, ⟨(some 13), (.bin .eql (.tmp 12) (.const (.c (.str [])))), (some (10, true))⟩, ⟨(some 14), (.pick (.tmp 10) (.tmp 13) (.const (.c (.val (.bool false))))), none⟩, ⟨(some 2), (.mov (.tmp 14)), none⟩])
 .ret) (.seq (.region [⟨(some 16), (.bin .eql (.tmp 4) (.const (.c (.val (.int .i64 1))))), none⟩, ⟨(some 15), (.mov (.tmp 16)), none⟩])
 (.cond (.tmp 15) (.seq (.region [⟨(some 17), (.faddr 1 (.tmp 1)), none⟩, ⟨(some 18), (.load false 1 (.tmp 17)), none⟩, ⟨(some 19), (.call 25 [(.tmp 18), (.const (.c (.val (.int .i64 0)))), (.const (.c (.val (.int .i64 1))))]), none⟩, ⟨(some 20), (.mov (.tmp 19)), none⟩, ⟨(some 21), (.faddr 2 (.tmp 1)), (some (20, true))⟩, ⟨(some 22), (.load false 1 (.tmp 21)), (some (20, true))⟩, ⟨(some 23), (.bin .eql (.tmp 22) (.const (.c (.str [])))), (some (20, true))⟩, ⟨(some 24), (.pick (.tmp 20) (.tmp 23) (.const (.c (.val (.bool false))))), none⟩, ⟨(some 2), (.mov (.tmp 24)), none⟩])
 .ret) (.seq (.region [⟨(some 26), (.bin .eql (.tmp 4) (.const (.c (.val (.int .i64 2))))), none⟩, ⟨(some 25), (.mov (.tmp 26)), none⟩])
 (.cond (.tmp 25) (.seq (.region [⟨(some 27), (.faddr 1 (.tmp 1)), none⟩, ⟨(some 28), (.load false 1 (.tmp 27)), none⟩, ⟨(some 29), (.call 25 [(.tmp 28), (.const (.c (.val (.int .i64 (-9007199254740992))))), (.const (.c (.val (.int .i64 9007199254740992))))]), none⟩, ⟨(some 30), (.mov (.tmp 29)), none⟩, ⟨(some 31), (.faddr 2 (.tmp 1)), (some (30, true))⟩, ⟨(some 32), (.load false 1 (.tmp 31)), (some (30, true))⟩, ⟨(some 33), (.bin .eql (.tmp 32) (.const (.c (.str [])))), (some (30, true))⟩, ⟨(some 34), (.pick (.tmp 30) (.tmp 33) (.const (.c (.val (.bool false))))), none⟩, ⟨(some 2), (.mov (.tmp 34)), none⟩])
 .ret) (.seq (.region [⟨(some 36), (.bin .eql (.tmp 4) (.const (.c (.val (.int .i64 3))))), none⟩, ⟨(some 35), (.mov (.tmp 36)), none⟩])
 (.cond (.tmp 35) (.seq (.region [⟨(some 37), (.faddr 2 (.tmp 1)), none⟩, ⟨(some 38), (.load false 1 (.tmp 37)), none⟩, ⟨(some 39), (.lenS (.tmp 38)), none⟩, ⟨(some 40), (.bin .leq (.tmp 39) (.const (.c (.val (.int .i64 2000))))), none⟩, ⟨(some 41), (.mov (.tmp 40)), none⟩, ⟨(some 42), (.faddr 1 (.tmp 1)), (some (41, true))⟩, ⟨(some 43), (.load false 1 (.tmp 42)), (some (41, true))⟩, ⟨(some 44), (.bin .eql (.tmp 43) (.const (.c (.val (.int .i64 0))))), (some (41, true))⟩, ⟨(some 45), (.pick (.tmp 41) (.tmp 44) (.const (.c (.val (.bool false))))), none⟩, ⟨(some 2), (.mov (.tmp 45)), none⟩])
 .ret) (.seq (.region [⟨(some 47), (.bin .eql (.tmp 4) (.const (.c (.val (.int .i64 4))))), none⟩, ⟨(some 46), (.mov (.tmp 47)), none⟩])
 (.cond (.tmp 46) (.seq (.region [⟨(some 48), (.faddr 1 (.tmp 1)), none⟩, ⟨(some 49), (.load false 1 (.tmp 48)), none⟩, ⟨(some 50), (.bin .geq (.tmp 49) (.const (.c (.val (.int .i64 0))))), none⟩, ⟨(some 51), (.mov (.tmp 50)), none⟩, ⟨(some 52), (.faddr 2 (.tmp 1)), (some (51, true))⟩, ⟨(some 53), (.load false 1 (.tmp 52)), (some (51, true))⟩, ⟨(some 54), (.bin .eql (.tmp 53) (.const (.c (.str [])))), (some (51, true))⟩, ⟨(some 55), (.pick (.tmp 51) (.tmp 54) (.const (.c (.val (.bool false))))), none⟩, ⟨(some 2), (.mov (.tmp 55)), none⟩])
 .ret) (.seq (.region [⟨(some 57), (.bin .eql (.tmp 4) (.const (.c (.val (.int .i64 5))))), none⟩, ⟨(some 56), (.mov (.tmp 57)), none⟩])
 (.cond (.tmp 56) (.seq (.region [⟨(some 58), (.faddr 1 (.tmp 1)), none⟩, ⟨(some 59), (.load false 1 (.tmp 58)), none⟩, ⟨(some 60), (.bin .eql (.tmp 59) (.const (.c (.val (.int .i64 0))))), none⟩, ⟨(some 2), (.mov (.tmp 60)), none⟩])
 .ret) .skip))))))))))))))
 (.seq (.region [⟨(some 2), (.mov (.const (.c (.val (.bool false))))), none⟩])
 .ret)))⟩
set_option maxRecDepth 100000 in
theorem c11 : compFunc Tryd.prog 11 = some a11 := by kernel_rfl
def value_Check_post (r : Bool) : AV → Heap → Nat → Prop := fun v h' n' => v = (B r) ∧ (h' = (fun _ => none)) ∧ n' = 0
/-- clerestory/value.Check -/
def value_Check (v_ : TJVal) : Bool :=
  if decide (v_.Kind = 0) then
    ((decide (v_.N = 0)) && (decide (v_.S = [])))
  else
    if decide (v_.Kind = 1) then
      ((value_within v_.N 0 1) && (decide (v_.S = [])))
    else
      if decide (v_.Kind = 2) then
        ((value_within v_.N (-9007199254740992) 9007199254740992) && (decide (v_.S = [])))
      else
        if decide (v_.Kind = 3) then
          ((decide ((v_.S.length : Int) ≤ 2000)) && (decide (v_.N = 0)))
        else
          if decide (v_.Kind = 4) then
            ((decide (0 ≤ v_.N)) && (decide (v_.S = [])))
          else
            if decide (v_.Kind = 5) then
              decide (v_.N = 0)
            else
              false
theorem value_Check_ok (v_ : TJVal) : CPure Tryd.prog GG 11 [(.agg [cI v_.Kind, cI v_.N, .str v_.S])] (B (value_Check v_)) := by
  generalize h : value_Check v_ = o
  refine acalls_of_sv hmix c11 (R := value_Check_post o) ?_
  unfold value_Check at h
  refine Sv.seq ?_
  refine Sv.region ?_
  refine un (a2v (v := (.c (.ref 0 3 0 0))) (h' := upd _ 0 (some (.cells 3 [[cI v_.Kind, cI v_.N, .str v_.S]]))) (n' := 1) rfl rfl (fun h => by cases h) ?_)
  refine un (a1 rfl ?_)
  refine dnil ?_
  refine Sv.seq ?_
  refine Sv.seq ?_
  refine Sv.region ?_
  refine un (a1 (v := (.c (.ref 0 3 0 0))) rfl ?_)
  refine un (a1 (v := (I v_.Kind)) rfl ?_)
  refine dnil ?_
  refine Sv.block ?_
  refine Sv.seq ?_
  refine Sv.region ?_
  refine un (a1 (v := (B (decide (v_.Kind = 0)))) rfl ?_)
  refine un (a1 rfl ?_)
  refine dnil ?_
  refine Sv.cond (b := decide (v_.Kind = 0)) rfl (fun hc1 => ?_) (fun hc1 => ?_)
  · replace h := ifT hc1 h
    refine Sv.seq ?_
    refine Sv.region ?_
    refine un (a1 (v := (.c (.ref 0 3 0 1))) rfl ?_)
    refine un (a1 (v := (I v_.N)) rfl ?_)
    refine un (a1 (v := (B (decide (v_.N = 0)))) rfl ?_)
    refine un (a1 rfl ?_)
    refine gjoin 4 (d := 14) (v := (B ((decide (v_.N = 0)) && (decide (v_.S = []))))) (fun X hX => ?_) ?_
    · refine split2 (fun hc2 => ?_) (fun hc2 => ?_)
      · refine gt rfl (a1 (v := (.c (.ref 0 3 0 2))) rfl ?_)
        refine gt rfl (a1 (v := (S v_.S)) rfl ?_)
        refine gt rfl (a1 (v := (B (decide (v_.S = [])))) rfl ?_)
        refine un (a1 (v := (B (decide (v_.S = [])))) rfl ?_)
        refine dnil ?_
        exact hX _ (.putEq (by rw [hc2]; rfl) (.skip _ _ (.skip _ _ (.skip _ _ (.putEq (by rw [hc2]) (.refl _)) rfl) rfl) rfl))
      · refine gs rfl rfl ?_
        refine gs rfl rfl ?_
        refine gs rfl rfl ?_
        refine un (a1 (v := (B false)) rfl ?_)
        refine dnil ?_
        exact hX _ (.putEq (by rw [hc2]; rfl) (.skip _ _ (.skip _ _ (.skip _ _ (.putEq (by rw [hc2]) (.refl _)) rfl) rfl) rfl))
    refine un (a1 rfl ?_)
    refine dnil ?_
    refine Sv.ret ?_
    subst h
    exact ⟨_, .refl _, _, rfl, ⟨upd (fun _ => none) 0 (some (B ((decide (v_.N = 0)) && (decide (v_.S = []))))), (fun _ => none), 0⟩, (B ((decide (v_.N = 0)) && (decide (v_.S = [])))), weak_canon [] rfl List.nodup_nil (Nat.le_refl _) (fun b h => absurd h (Nat.not_lt_zero _)) (.cons rfl (avAs_free rfl) .nil) .nil, rfl, rfl, rfl, rfl⟩
  · replace h := ifF hc1 h
    refine Sv.seq ?_
    refine Sv.region ?_
    refine un (a1 (v := (B (decide (v_.Kind = 1)))) rfl ?_)
    refine un (a1 rfl ?_)
    refine dnil ?_
    refine Sv.cond (b := decide (v_.Kind = 1)) rfl (fun hc3 => ?_) (fun hc3 => ?_)
    · replace h := ifT hc3 h
      refine Sv.seq ?_
      refine Sv.region ?_
      refine un (a1 (v := (.c (.ref 0 3 0 1))) rfl ?_)
      refine un (a1 (v := (I v_.N)) rfl ?_)
      refine un (ac_pure (value_within_ok v_.N 0 1) rfl rfl rfl ?_)
      refine un (a1 rfl ?_)
      refine gjoin 4 (d := 24) (v := (B ((value_within v_.N 0 1) && (decide (v_.S = []))))) (fun X hX => ?_) ?_
      · refine split2 (fun hc4 => ?_) (fun hc4 => ?_)
        · refine gt rfl (a1 (v := (.c (.ref 0 3 0 2))) rfl ?_)
          refine gt rfl (a1 (v := (S v_.S)) rfl ?_)
          refine gt rfl (a1 (v := (B (decide (v_.S = [])))) rfl ?_)
          refine un (a1 (v := (B (decide (v_.S = [])))) rfl ?_)
          refine dnil ?_
          exact hX _ (.putEq (by rw [hc4]; rfl) (.skip _ _ (.skip _ _ (.skip _ _ (.putEq (by rw [hc4]) (.refl _)) rfl) rfl) rfl))
        · refine gs rfl rfl ?_
          refine gs rfl rfl ?_
          refine gs rfl rfl ?_
          refine un (a1 (v := (B false)) rfl ?_)
          refine dnil ?_
          exact hX _ (.putEq (by rw [hc4]; rfl) (.skip _ _ (.skip _ _ (.skip _ _ (.putEq (by rw [hc4]) (.refl _)) rfl) rfl) rfl))
      refine un (a1 rfl ?_)
      refine dnil ?_
      refine Sv.ret ?_
      subst h
      exact ⟨_, .refl _, _, rfl, ⟨upd (fun _ => none) 0 (some (B ((value_within v_.N 0 1) && (decide (v_.S = []))))), (fun _ => none), 0⟩, (B ((value_within v_.N 0 1) && (decide (v_.S = [])))), weak_canon [] rfl List.nodup_nil (Nat.le_refl _) (fun b h => absurd h (Nat.not_lt_zero _)) (.cons rfl (avAs_free rfl) .nil) .nil, rfl, rfl, rfl, rfl⟩
    · replace h := ifF hc3 h
      refine Sv.seq ?_
      refine Sv.region ?_
      refine un (a1 (v := (B (decide (v_.Kind = 2)))) rfl ?_)
      refine un (a1 rfl ?_)
      refine dnil ?_
      refine Sv.cond (b := decide (v_.Kind = 2)) rfl (fun hc5 => ?_) (fun hc5 => ?_)
      · replace h := ifT hc5 h
        refine Sv.seq ?_
        refine Sv.region ?_
        refine un (a1 (v := (.c (.ref 0 3 0 1))) rfl ?_)
        refine un (a1 (v := (I v_.N)) rfl ?_)
        refine un (ac_pure (value_within_ok v_.N (-9007199254740992) 9007199254740992) rfl rfl rfl ?_)
        refine un (a1 rfl ?_)
        refine gjoin 4 (d := 34) (v := (B ((value_within v_.N (-9007199254740992) 9007199254740992) && (decide (v_.S = []))))) (fun X hX => ?_) ?_
        · refine split2 (fun hc6 => ?_) (fun hc6 => ?_)
          · refine gt rfl (a1 (v := (.c (.ref 0 3 0 2))) rfl ?_)
            refine gt rfl (a1 (v := (S v_.S)) rfl ?_)
            refine gt rfl (a1 (v := (B (decide (v_.S = [])))) rfl ?_)
            refine un (a1 (v := (B (decide (v_.S = [])))) rfl ?_)
            refine dnil ?_
            exact hX _ (.putEq (by rw [hc6]; rfl) (.skip _ _ (.skip _ _ (.skip _ _ (.putEq (by rw [hc6]) (.refl _)) rfl) rfl) rfl))
          · refine gs rfl rfl ?_
            refine gs rfl rfl ?_
            refine gs rfl rfl ?_
            refine un (a1 (v := (B false)) rfl ?_)
            refine dnil ?_
            exact hX _ (.putEq (by rw [hc6]; rfl) (.skip _ _ (.skip _ _ (.skip _ _ (.putEq (by rw [hc6]) (.refl _)) rfl) rfl) rfl))
        refine un (a1 rfl ?_)
        refine dnil ?_
        refine Sv.ret ?_
        subst h
        exact ⟨_, .refl _, _, rfl, ⟨upd (fun _ => none) 0 (some (B ((value_within v_.N (-9007199254740992) 9007199254740992) && (decide (v_.S = []))))), (fun _ => none), 0⟩, (B ((value_within v_.N (-9007199254740992) 9007199254740992) && (decide (v_.S = [])))), weak_canon [] rfl List.nodup_nil (Nat.le_refl _) (fun b h => absurd h (Nat.not_lt_zero _)) (.cons rfl (avAs_free rfl) .nil) .nil, rfl, rfl, rfl, rfl⟩
      · replace h := ifF hc5 h
        refine Sv.seq ?_
        refine Sv.region ?_
        refine un (a1 (v := (B (decide (v_.Kind = 3)))) rfl ?_)
        refine un (a1 rfl ?_)
        refine dnil ?_
        refine Sv.cond (b := decide (v_.Kind = 3)) rfl (fun hc7 => ?_) (fun hc7 => ?_)
        · replace h := ifT hc7 h
          refine Sv.seq ?_
          refine Sv.region ?_
          refine un (a1 (v := (.c (.ref 0 3 0 2))) rfl ?_)
          refine un (a1 (v := (S v_.S)) rfl ?_)
          refine un (a1 (v := (I (v_.S.length : Int))) rfl ?_)
          refine un (a1 (v := (B (decide ((v_.S.length : Int) ≤ 2000)))) rfl ?_)
          refine un (a1 rfl ?_)
          refine gjoin 4 (d := 45) (v := (B ((decide ((v_.S.length : Int) ≤ 2000)) && (decide (v_.N = 0))))) (fun X hX => ?_) ?_
          · refine split2 (fun hc8 => ?_) (fun hc8 => ?_)
            · refine gt rfl (a1 (v := (.c (.ref 0 3 0 1))) rfl ?_)
              refine gt rfl (a1 (v := (I v_.N)) rfl ?_)
              refine gt rfl (a1 (v := (B (decide (v_.N = 0)))) rfl ?_)
              refine un (a1 (v := (B (decide (v_.N = 0)))) rfl ?_)
              refine dnil ?_
              exact hX _ (.putEq (by rw [hc8]; rfl) (.skip _ _ (.skip _ _ (.skip _ _ (.putEq (by rw [hc8]) (.refl _)) rfl) rfl) rfl))
            · refine gs rfl rfl ?_
              refine gs rfl rfl ?_
              refine gs rfl rfl ?_
              refine un (a1 (v := (B false)) rfl ?_)
              refine dnil ?_
              exact hX _ (.putEq (by rw [hc8]; rfl) (.skip _ _ (.skip _ _ (.skip _ _ (.putEq (by rw [hc8]) (.refl _)) rfl) rfl) rfl))
          refine un (a1 rfl ?_)
          refine dnil ?_
          refine Sv.ret ?_
          subst h
          exact ⟨_, .refl _, _, rfl, ⟨upd (fun _ => none) 0 (some (B ((decide ((v_.S.length : Int) ≤ 2000)) && (decide (v_.N = 0))))), (fun _ => none), 0⟩, (B ((decide ((v_.S.length : Int) ≤ 2000)) && (decide (v_.N = 0)))), weak_canon [] rfl List.nodup_nil (Nat.le_refl _) (fun b h => absurd h (Nat.not_lt_zero _)) (.cons rfl (avAs_free rfl) .nil) .nil, rfl, rfl, rfl, rfl⟩
        · replace h := ifF hc7 h
          refine Sv.seq ?_
          refine Sv.region ?_
          refine un (a1 (v := (B (decide (v_.Kind = 4)))) rfl ?_)
          refine un (a1 rfl ?_)
          refine dnil ?_
          refine Sv.cond (b := decide (v_.Kind = 4)) rfl (fun hc9 => ?_) (fun hc9 => ?_)
          · replace h := ifT hc9 h
            refine Sv.seq ?_
            refine Sv.region ?_
            refine un (a1 (v := (.c (.ref 0 3 0 1))) rfl ?_)
            refine un (a1 (v := (I v_.N)) rfl ?_)
            refine un (a1 (v := (B (decide (0 ≤ v_.N)))) rfl ?_)
            refine un (a1 rfl ?_)
            refine gjoin 4 (d := 55) (v := (B ((decide (0 ≤ v_.N)) && (decide (v_.S = []))))) (fun X hX => ?_) ?_
            · refine split2 (fun hc10 => ?_) (fun hc10 => ?_)
              · refine gt rfl (a1 (v := (.c (.ref 0 3 0 2))) rfl ?_)
                refine gt rfl (a1 (v := (S v_.S)) rfl ?_)
                refine gt rfl (a1 (v := (B (decide (v_.S = [])))) rfl ?_)
                refine un (a1 (v := (B (decide (v_.S = [])))) rfl ?_)
                refine dnil ?_
                exact hX _ (.putEq (by rw [hc10]; rfl) (.skip _ _ (.skip _ _ (.skip _ _ (.putEq (by rw [hc10]) (.refl _)) rfl) rfl) rfl))
              · refine gs rfl rfl ?_
                refine gs rfl rfl ?_
                refine gs rfl rfl ?_
                refine un (a1 (v := (B false)) rfl ?_)
                refine dnil ?_
                exact hX _ (.putEq (by rw [hc10]; rfl) (.skip _ _ (.skip _ _ (.skip _ _ (.putEq (by rw [hc10]) (.refl _)) rfl) rfl) rfl))
            refine un (a1 rfl ?_)
            refine dnil ?_
            refine Sv.ret ?_
            subst h
            exact ⟨_, .refl _, _, rfl, ⟨upd (fun _ => none) 0 (some (B ((decide (0 ≤ v_.N)) && (decide (v_.S = []))))), (fun _ => none), 0⟩, (B ((decide (0 ≤ v_.N)) && (decide (v_.S = [])))), weak_canon [] rfl List.nodup_nil (Nat.le_refl _) (fun b h => absurd h (Nat.not_lt_zero _)) (.cons rfl (avAs_free rfl) .nil) .nil, rfl, rfl, rfl, rfl⟩
          · replace h := ifF hc9 h
            refine Sv.seq ?_
            refine Sv.region ?_
            refine un (a1 (v := (B (decide (v_.Kind = 5)))) rfl ?_)
            refine un (a1 rfl ?_)
            refine dnil ?_
            refine Sv.cond (b := decide (v_.Kind = 5)) rfl (fun hc11 => ?_) (fun hc11 => ?_)
            · replace h := ifT hc11 h
              refine Sv.seq ?_
              refine Sv.region ?_
              refine un (a1 (v := (.c (.ref 0 3 0 1))) rfl ?_)
              refine un (a1 (v := (I v_.N)) rfl ?_)
              refine un (a1 (v := (B (decide (v_.N = 0)))) rfl ?_)
              refine un (a1 rfl ?_)
              refine dnil ?_
              refine Sv.ret ?_
              subst h
              exact ⟨_, .refl _, _, rfl, ⟨upd (fun _ => none) 0 (some (B (decide (v_.N = 0)))), (fun _ => none), 0⟩, (B (decide (v_.N = 0))), weak_canon [] rfl List.nodup_nil (Nat.le_refl _) (fun b h => absurd h (Nat.not_lt_zero _)) (.cons rfl (avAs_free rfl) .nil) .nil, rfl, rfl, rfl, rfl⟩
            · replace h := ifF hc11 h
              refine Sv.skip ?_
              refine Sv.seq ?_
              refine Sv.region ?_
              refine un (a1 rfl ?_)
              refine dnil ?_
              refine Sv.ret ?_
              subst h
              exact ⟨_, .refl _, _, rfl, ⟨upd (fun _ => none) 0 (some (B false)), (fun _ => none), 0⟩, (B false), weak_canon [] rfl List.nodup_nil (Nat.le_refl _) (fun b h => absurd h (Nat.not_lt_zero _)) (.cons rfl (avAs_free rfl) .nil) .nil, rfl, rfl, rfl, rfl⟩
def a27 : AFunc := ⟨1, [(.cell true 3 2)], (.seq (.region [⟨(some 1), (.box (.tmp 0)), none⟩, ⟨(some 2), (.box (.const (.agg [(.val (.int .i64 0)), (.val (.int .i64 0)), (.str [])]))), none⟩])
 (.seq (.seq (.region [⟨(some 3), (.load true 3 (.tmp 1)), none⟩, ⟨(some 4), (.call 11 [(.tmp 3)]), none⟩, ⟨(some 5), (.un .not (.tmp 4)), none⟩])
 (.cond (.tmp 5) (.seq (.region [⟨(some 6), (.build [(.val (.int .i64 0)), (.val (.int .i64 0)), (.str [])] []), none⟩, ⟨none, (.store 3 (.tmp 2) (.tmp 6)), none⟩])
 .ret) .skip))
 (.seq (.region [⟨(some 7), (.load true 3 (.tmp 1)), none⟩, ⟨none, (.store 3 (.tmp 2) (.tmp 7)), none⟩])
 .ret)))⟩
set_option maxRecDepth 100000 in
theorem c27 : compFunc Tryd.prog 27 = some a27 := by kernel_rfl
def value_right_post (r : TJVal) : AV → Heap → Nat → Prop := fun v h' n' => v = (.agg [cI r.Kind, cI r.N, .str r.S]) ∧ (h' = (fun _ => none)) ∧ n' = 0
/-- clerestory/value.right -/
def value_right (v_ : TJVal) : TJVal :=
  if (!(value_Check v_)) then
    (⟨0, 0, []⟩ : TJVal)
  else
    v_
theorem value_right_ok (v_ : TJVal) : CPure Tryd.prog GG 27 [(.agg [cI v_.Kind, cI v_.N, .str v_.S])] (.agg [cI ((value_right v_).Kind), cI ((value_right v_).N), .str ((value_right v_).S)]) := by
  generalize h : value_right v_ = o
  refine acalls_of_sv hmix c27 (R := value_right_post o) ?_
  unfold value_right at h
  refine Sv.seq ?_
  refine Sv.region ?_
  refine un (a2v (v := (.c (.ref 0 3 0 0))) (h' := upd _ 0 (some (.cells 3 [[cI v_.Kind, cI v_.N, .str v_.S]]))) (n' := 1) rfl rfl (fun h => by cases h) ?_)
  refine un (a2v (v := (.c (.ref 1 3 0 0))) (h' := upd _ 1 (some (.cells 3 [[cI 0, cI 0, .str []]]))) (n' := 2) rfl rfl (fun h => by cases h) ?_)
  refine dnil ?_
  refine Sv.seq ?_
  refine Sv.seq ?_
  refine Sv.region ?_
  refine un (a1 (v := (.agg [cI v_.Kind, cI v_.N, .str v_.S])) rfl ?_)
  refine un (ac_pure (value_Check_ok v_) rfl rfl rfl ?_)
  refine un (a1 (v := (B (!(value_Check v_)))) rfl ?_)
  refine dnil ?_
  refine Sv.cond (b := (!(value_Check v_))) rfl (fun hc1 => ?_) (fun hc1 => ?_)
  · replace h := ifT hc1 h
    refine Sv.seq ?_
    refine Sv.region ?_
    refine un (a1 (v := (.agg [cI 0, cI 0, .str []])) rfl ?_)
    refine un (a2n (h' := upd _ 1 (some (.cells 3 [[cI 0, cI 0, .str []]]))) (n' := 2) rfl rfl (fun h => by cases h) ?_)
    refine dnil ?_
    refine Sv.ret ?_
    subst h
    exact ⟨_, .refl _, _, rfl, ⟨upd (fun _ => none) 0 (some (.agg [cI 0, cI 0, .str []])), (fun _ => none), 0⟩, (.agg [cI 0, cI 0, .str []]), weak_canon [] rfl List.nodup_nil (Nat.le_refl _) (fun b h => absurd h (Nat.not_lt_zero _)) (.cons rfl (avAs_free rfl) .nil) .nil, rfl, rfl, rfl, rfl⟩
  · replace h := ifF hc1 h
    refine Sv.skip ?_
    refine Sv.seq ?_
    refine Sv.region ?_
    refine un (a1 (v := (.agg [cI v_.Kind, cI v_.N, .str v_.S])) rfl ?_)
    refine un (a2n (h' := upd _ 1 (some (.cells 3 [[cI v_.Kind, cI v_.N, .str v_.S]]))) (n' := 2) rfl rfl (fun h => by cases h) ?_)
    refine dnil ?_
    refine Sv.ret ?_
    subst h
    exact ⟨_, .refl _, _, rfl, ⟨upd (fun _ => none) 0 (some (.agg [cI v_.Kind, cI v_.N, .str v_.S])), (fun _ => none), 0⟩, (.agg [cI v_.Kind, cI v_.N, .str v_.S]), weak_canon [] rfl List.nodup_nil (Nat.le_refl _) (fun b h => absurd h (Nat.not_lt_zero _)) (.cons rfl (avAs_free rfl) .nil) .nil, rfl, rfl, rfl, rfl⟩
def a13_c0 : ACode := (.cond (.tmp 9) (.seq (.region [⟨(some 12), (.faddr 1 (.tmp 1)), none⟩, ⟨(some 13), (.load false 1 (.tmp 12)), none⟩, ⟨(some 14), (.bin .neq (.tmp 13) (.const (.c (.val (.int .i64 0))))), none⟩, ⟨(some 2), (.mov (.tmp 14)), none⟩])
 .ret) (.seq (.region [⟨(some 16), (.bin .eql (.tmp 6) (.const (.c (.val (.int .i64 3))))), none⟩, ⟨(some 15), (.mov (.tmp 16)), none⟩])
 (.cond (.tmp 15) (.seq (.region [⟨(some 17), (.faddr 2 (.tmp 1)), none⟩, ⟨(some 18), (.load false 1 (.tmp 17)), none⟩, ⟨(some 19), (.bin .neq (.tmp 18) (.const (.c (.str [])))), none⟩, ⟨(some 2), (.mov (.tmp 19)), none⟩])
 .ret) .skip)))
def a13_c1 : ACode := (.seq (.region [⟨(some 2), (.mov (.const (.c (.val (.bool true))))), none⟩])
 .ret)
def a13 : AFunc := ⟨1, [(.tmp 2)], (.seq (.region [⟨(some 1), (.box (.tmp 0)), none⟩, ⟨(some 2), (.mov (.const (.c (.val (.bool false))))), none⟩])
 (.seq (.seq (.region [⟨(some 3), (.load true 3 (.tmp 1)), none⟩, ⟨(some 4), (.call 27 [(.tmp 3)]), none⟩, ⟨none, (.store 3 (.tmp 1) (.tmp 4)), none⟩])
 (.seq (.region [⟨(some 5), (.faddr 0 (.tmp 1)), none⟩, ⟨(some 6), (.load false 1 (.tmp 5)), none⟩])
 (.block 0 (.seq (.region [⟨(some 8), (.bin .eql (.tmp 6) (.const (.c (.val (.int .i64 0))))), none⟩, ⟨(some 7), (.mov (.tmp 8)), none⟩])
 (.cond (.tmp 7) (.seq (.region [⟨(some 2), (.mov (.const (.c (.val (.bool false))))), none⟩])
 .ret) (.seq (.seq (.region [⟨(some 10), (.bin .eql (.tmp 6) (.const (.c (.val (.int .i64 1))))), none⟩, ⟨(some 9), (.mov (.tmp 10)), none⟩])
 (.cond (.tmp 9) .skip (.region [⟨(some 11), (.bin .eql (.tmp 6) (.const (.c (.val (.int .i64 2))))), none⟩, ⟨(some 9), (.mov (.tmp 11)), none⟩])))
 a13_c0))))))
 a13_c1))⟩
set_option maxRecDepth 100000 in
theorem c13 : compFunc Tryd.prog 13 = some a13 := by kernel_rfl
def value_Truth_post (r : Bool) : AV → Heap → Nat → Prop := fun v h' n' => v = (B r) ∧ (h' = (fun _ => none)) ∧ n' = 0
abbrev value_Truth_q0 (o : Bool) : AExit → St → Prop := AThen (Sv Tryd.prog GG 0 a13_c1 (Ends a13.results 0 (value_Truth_post o))) (Ends a13.results 0 (value_Truth_post o))
abbrev value_Truth_q1 (o : Bool) : AExit → St → Prop := ABlock 0 (value_Truth_q0 o)
def value_Truth_j1 (v_ : TJVal) (v9 : Bool) : Bool :=
  if v9 then
    (!decide ((value_right v_).N = 0))
  else
    if decide ((value_right v_).Kind = 3) then
      (!decide ((value_right v_).S = []))
    else
      true
theorem value_Truth_j1_ok {v_ : TJVal} {v9 : Bool} {o : Bool} (h : value_Truth_j1 v_ v9 = o) :
    Sv Tryd.prog GG 0 a13_c0 (value_Truth_q1 o) ⟨(upd (upd (upd (fun _ => none) 1 (some (.c (.ref 0 3 0 0)))) 6 (some (I ((value_right v_).Kind)))) 9 (some (B v9))), (upd (fun _ => none) 0 (some (.cells 3 [[cI ((value_right v_).Kind), cI ((value_right v_).N), .str ((value_right v_).S)]]))), 1⟩ := by
  unfold value_Truth_j1 at h
  refine Sv.cond (b := v9) rfl (fun hc2 => ?_) (fun hc2 => ?_)
  · replace h := ifT hc2 h
    refine Sv.seq ?_
    refine Sv.region ?_
    refine un (a1 (v := (.c (.ref 0 3 0 1))) rfl ?_)
    refine un (a1 (v := (I ((value_right v_).N))) rfl ?_)
    refine un (a1 (v := (B (!decide ((value_right v_).N = 0)))) rfl ?_)
    refine un (a1 rfl ?_)
    refine dnil ?_
    refine Sv.ret ?_
    subst h
    exact ⟨_, .refl _, _, rfl, ⟨upd (fun _ => none) 0 (some (B (!decide ((value_right v_).N = 0)))), (fun _ => none), 0⟩, (B (!decide ((value_right v_).N = 0))), weak_canon [] rfl List.nodup_nil (Nat.le_refl _) (fun b h => absurd h (Nat.not_lt_zero _)) (.cons rfl (avAs_free rfl) .nil) .nil, rfl, rfl, rfl, rfl⟩
  · replace h := ifF hc2 h
    refine Sv.seq ?_
    refine Sv.region ?_
    refine un (a1 (v := (B (decide ((value_right v_).Kind = 3)))) rfl ?_)
    refine un (a1 rfl ?_)
    refine dnil ?_
    refine Sv.cond (b := decide ((value_right v_).Kind = 3)) rfl (fun hc3 => ?_) (fun hc3 => ?_)
    · replace h := ifT hc3 h
      refine Sv.seq ?_
      refine Sv.region ?_
      refine un (a1 (v := (.c (.ref 0 3 0 2))) rfl ?_)
      refine un (a1 (v := (S ((value_right v_).S))) rfl ?_)
      refine un (a1 (v := (B (!decide ((value_right v_).S = [])))) rfl ?_)
      refine un (a1 rfl ?_)
      refine dnil ?_
      refine Sv.ret ?_
      subst h
      exact ⟨_, .refl _, _, rfl, ⟨upd (fun _ => none) 0 (some (B (!decide ((value_right v_).S = [])))), (fun _ => none), 0⟩, (B (!decide ((value_right v_).S = []))), weak_canon [] rfl List.nodup_nil (Nat.le_refl _) (fun b h => absurd h (Nat.not_lt_zero _)) (.cons rfl (avAs_free rfl) .nil) .nil, rfl, rfl, rfl, rfl⟩
    · replace h := ifF hc3 h
      refine Sv.skip ?_
      refine Sv.seq ?_
      refine Sv.region ?_
      refine un (a1 rfl ?_)
      refine dnil ?_
      refine Sv.ret ?_
      subst h
      exact ⟨_, .refl _, _, rfl, ⟨upd (fun _ => none) 0 (some (B true)), (fun _ => none), 0⟩, (B true), weak_canon [] rfl List.nodup_nil (Nat.le_refl _) (fun b h => absurd h (Nat.not_lt_zero _)) (.cons rfl (avAs_free rfl) .nil) .nil, rfl, rfl, rfl, rfl⟩
/-- clerestory/value.Truth -/
def value_Truth (v_ : TJVal) : Bool :=
  if decide ((value_right v_).Kind = 0) then
    false
  else
    if decide ((value_right v_).Kind = 1) then
      value_Truth_j1 v_ (decide ((value_right v_).Kind = 1))
    else
      value_Truth_j1 v_ (decide ((value_right v_).Kind = 2))
theorem value_Truth_ok (v_ : TJVal) : CPure Tryd.prog GG 13 [(.agg [cI v_.Kind, cI v_.N, .str v_.S])] (B (value_Truth v_)) := by
  generalize h : value_Truth v_ = o
  refine acalls_of_sv hmix c13 (R := value_Truth_post o) ?_
  unfold value_Truth at h
  refine Sv.seq ?_
  refine Sv.region ?_
  refine un (a2v (v := (.c (.ref 0 3 0 0))) (h' := upd _ 0 (some (.cells 3 [[cI v_.Kind, cI v_.N, .str v_.S]]))) (n' := 1) rfl rfl (fun h => by cases h) ?_)
  refine un (a1 rfl ?_)
  refine dnil ?_
  refine Sv.seq ?_
  refine Sv.seq ?_
  refine Sv.region ?_
  refine un (a1 (v := (.agg [cI v_.Kind, cI v_.N, .str v_.S])) rfl ?_)
  refine un (ac_pure (value_right_ok v_) rfl rfl rfl ?_)
  refine un (a2n (h' := upd _ 0 (some (.cells 3 [[cI ((value_right v_).Kind), cI ((value_right v_).N), .str ((value_right v_).S)]]))) (n' := 1) rfl rfl (fun h => by cases h) ?_)
  refine dnil ?_
  refine Sv.seq ?_
  refine Sv.region ?_
  refine un (a1 (v := (.c (.ref 0 3 0 0))) rfl ?_)
  refine un (a1 (v := (I ((value_right v_).Kind))) rfl ?_)
  refine dnil ?_
  refine Sv.block ?_
  refine Sv.seq ?_
  refine Sv.region ?_
  refine un (a1 (v := (B (decide ((value_right v_).Kind = 0)))) rfl ?_)
  refine un (a1 rfl ?_)
  refine dnil ?_
  refine Sv.cond (b := decide ((value_right v_).Kind = 0)) rfl (fun hc1 => ?_) (fun hc1 => ?_)
  · replace h := ifT hc1 h
    refine Sv.seq ?_
    refine Sv.region ?_
    refine un (a1 rfl ?_)
    refine dnil ?_
    refine Sv.ret ?_
    subst h
    exact ⟨_, .refl _, _, rfl, ⟨upd (fun _ => none) 0 (some (B false)), (fun _ => none), 0⟩, (B false), weak_canon [] rfl List.nodup_nil (Nat.le_refl _) (fun b h => absurd h (Nat.not_lt_zero _)) (.cons rfl (avAs_free rfl) .nil) .nil, rfl, rfl, rfl, rfl⟩
  · replace h := ifF hc1 h
    refine Sv.seq ?_
    refine Sv.seq ?_
    refine Sv.region ?_
    refine un (a1 (v := (B (decide ((value_right v_).Kind = 1)))) rfl ?_)
    refine un (a1 rfl ?_)
    refine dnil ?_
    refine Sv.cond (b := decide ((value_right v_).Kind = 1)) rfl (fun hc4 => ?_) (fun hc4 => ?_)
    · replace h := ifT hc4 h
      refine Sv.skip ?_
      exact Sv.weak (weak_canon [0] rfl (by decide) (by decide) (fun b h => absurd h (Nat.not_lt_zero _)) (.cons rfl (avAs_free rfl) (.cons rfl (avAs_free rfl) (.cons rfl (.c (.ref rfl (by decide))) .nil))) (.box (by decide) rfl (blkAs_cells (.cons (.same rfl) (.cons (.same rfl) (.cons (.same rfl) .nil)))) .nil)) (value_Truth_j1_ok h)
    · replace h := ifF hc4 h
      refine Sv.region ?_
      refine un (a1 (v := (B (decide ((value_right v_).Kind = 2)))) rfl ?_)
      refine un (a1 rfl ?_)
      refine dnil ?_
      exact Sv.weak (weak_canon [0] rfl (by decide) (by decide) (fun b h => absurd h (Nat.not_lt_zero _)) (.cons rfl (avAs_free rfl) (.cons rfl (avAs_free rfl) (.cons rfl (.c (.ref rfl (by decide))) .nil))) (.box (by decide) rfl (blkAs_cells (.cons (.same rfl) (.cons (.same rfl) (.cons (.same rfl) .nil)))) .nil)) (value_Truth_j1_ok h)
def a14 : AFunc := ⟨1, [(.tmp 2)], (.seq (.region [⟨(some 1), (.box (.tmp 0)), none⟩, ⟨(some 2), (.mov (.const (.c (.val (.bool false))))), none⟩])
 (.seq (.region [⟨(some 3), (.load true 3 (.tmp 1)), none⟩, ⟨(some 4), (.call 10 [(.tmp 3)]), none⟩, ⟨none, (.store 3 (.tmp 1) (.tmp 4)), none⟩])
 (.seq (.region [⟨(some 5), (.faddr 0 (.tmp 1)), none⟩, ⟨(some 6), (.load false 1 (.tmp 5)), none⟩, ⟨(some 7), (.bin .gtr (.tmp 6) (.const (.c (.val (.int .i64 3))))), none⟩, ⟨(some 8), (.mov (.tmp 7)), none⟩, ⟨(some 9), (.faddr 0 (.tmp 1)), (some (8, false))⟩, ⟨(some 10), (.load false 1 (.tmp 9)), (some (8, false))⟩, ⟨(some 11), (.bin .gtr (.tmp 10) (.const (.c (.val (.int .i64 0))))), (some (8, false))⟩, ⟨(some 12), (.mov (.tmp 11)), (some (8, false))⟩, ⟨(some 13), (.faddr 1 (.tmp 1)), (some (12, true))⟩, ⟨(some 14), (.load false 1 (.tmp 13)), (some (12, true))⟩, ⟨(some 15), (.bin .neq (.tmp 14) (.const (.c (.val (.int .i64 0))))), (some (12, true))⟩, ⟨(some 16), (.mov (.tmp 15)), (some (12, true))⟩, ⟨(some 17), (.faddr 2 (.tmp 1)), (some (16, false))⟩, ⟨(some 18), (.load false 1 (.tmp 17)), (some (16, false))⟩, ⟨(some 19), (.bin .neq (.tmp 18) (.const (.c (.str [])))), (some (16, false))⟩, ⟨(some 20), (.pick (.tmp 16) (.const (.c (.val (.bool true)))) (.tmp 19)), (some (12, true))⟩, ⟨(some 21), (.pick (.tmp 12) (.tmp 20) (.const (.c (.val (.bool false))))), (some (8, false))⟩, ⟨(some 22), (.pick (.tmp 8) (.const (.c (.val (.bool true)))) (.tmp 21)), none⟩, ⟨(some 2), (.mov (.tmp 22)), none⟩])
 .ret)))⟩
set_option maxRecDepth 100000 in
theorem c14 : compFunc Tryd.prog 14 = some a14 := by kernel_rfl
def clerestoryref4_IsTrue_post (r : Bool) : AV → Heap → Nat → Prop := fun v h' n' => v = (B r) ∧ (h' = (fun _ => none)) ∧ n' = 0
/-- clerestory/clerestoryref4.IsTrue -/
def clerestoryref4_IsTrue (v_ : TJVal) : Bool :=
  ((decide (3 < (clerestoryref4_Taken v_).Kind)) || ((decide (0 < (clerestoryref4_Taken v_).Kind)) && ((!decide ((clerestoryref4_Taken v_).N = 0)) || (!decide ((clerestoryref4_Taken v_).S = [])))))
theorem clerestoryref4_IsTrue_ok (v_ : TJVal) : CPure Tryd.prog GG 14 [(.agg [cI v_.Kind, cI v_.N, .str v_.S])] (B (clerestoryref4_IsTrue v_)) := by
  generalize h : clerestoryref4_IsTrue v_ = o
  refine acalls_of_sv hmix c14 (R := clerestoryref4_IsTrue_post o) ?_
  unfold clerestoryref4_IsTrue at h
  refine Sv.seq ?_
  refine Sv.region ?_
  refine un (a2v (v := (.c (.ref 0 3 0 0))) (h' := upd _ 0 (some (.cells 3 [[cI v_.Kind, cI v_.N, .str v_.S]]))) (n' := 1) rfl rfl (fun h => by cases h) ?_)
  refine un (a1 rfl ?_)
  refine dnil ?_
  refine Sv.seq ?_
  refine Sv.region ?_
  refine un (a1 (v := (.agg [cI v_.Kind, cI v_.N, .str v_.S])) rfl ?_)
  refine un (ac_pure (clerestoryref4_Taken_ok v_) rfl rfl rfl ?_)
  refine un (a2n (h' := upd _ 0 (some (.cells 3 [[cI ((clerestoryref4_Taken v_).Kind), cI ((clerestoryref4_Taken v_).N), .str ((clerestoryref4_Taken v_).S)]]))) (n' := 1) rfl rfl (fun h => by cases h) ?_)
  refine dnil ?_
  refine Sv.seq ?_
  refine Sv.region ?_
  refine un (a1 (v := (.c (.ref 0 3 0 0))) rfl ?_)
  refine un (a1 (v := (I ((clerestoryref4_Taken v_).Kind))) rfl ?_)
  refine un (a1 (v := (B (decide (3 < (clerestoryref4_Taken v_).Kind)))) rfl ?_)
  refine un (a1 rfl ?_)
  refine gjoin 14 (d := 22) (v := (B ((decide (3 < (clerestoryref4_Taken v_).Kind)) || ((decide (0 < (clerestoryref4_Taken v_).Kind)) && ((!decide ((clerestoryref4_Taken v_).N = 0)) || (!decide ((clerestoryref4_Taken v_).S = []))))))) (fun X hX => ?_) ?_
  · refine split2 (fun hc3 => ?_) (fun hc3 => ?_)
    · refine gs rfl rfl ?_
      refine gs rfl rfl ?_
      refine gs rfl rfl ?_
      refine gs rfl rfl ?_
      refine gu rfl ?_
      refine gu rfl ?_
      refine gu rfl ?_
      refine gu rfl ?_
      refine gu rfl ?_
      refine gu rfl ?_
      refine gu rfl ?_
      refine gu rfl ?_
      refine gs rfl rfl ?_
      refine un (a1 (v := (B true)) rfl ?_)
      refine dnil ?_
      exact hX _ (.putEq (by rw [hc3]; rfl) (.skip _ _ (.skip _ _ (.skip _ _ (.skip _ _ (.skip _ _ (.skip _ _ (.skip _ _ (.skip _ _ (.skip _ _ (.skip _ _ (.skip _ _ (.skip _ _ (.skip _ _ (.putEq (by rw [hc3]) (.refl _)) rfl) rfl) rfl) rfl) rfl) rfl) rfl) rfl) rfl) rfl) rfl) rfl) rfl))
    · refine gt rfl (a1 (v := (.c (.ref 0 3 0 0))) rfl ?_)
      refine gt rfl (a1 (v := (I ((clerestoryref4_Taken v_).Kind))) rfl ?_)
      refine gt rfl (a1 (v := (B (decide (0 < (clerestoryref4_Taken v_).Kind)))) rfl ?_)
      refine gt rfl (a1 rfl ?_)
      refine gjoin 9 (d := 21) (v := (B ((decide (0 < (clerestoryref4_Taken v_).Kind)) && ((!decide ((clerestoryref4_Taken v_).N = 0)) || (!decide ((clerestoryref4_Taken v_).S = [])))))) (fun X hX => ?_) ?_
      · refine split2 (fun hc2 => ?_) (fun hc2 => ?_)
        · refine gt rfl (a1 (v := (.c (.ref 0 3 0 1))) rfl ?_)
          refine gt rfl (a1 (v := (I ((clerestoryref4_Taken v_).N))) rfl ?_)
          refine gt rfl (a1 (v := (B (!decide ((clerestoryref4_Taken v_).N = 0)))) rfl ?_)
          refine gt rfl (a1 rfl ?_)
          refine gjoin 4 (d := 20) (v := (B ((!decide ((clerestoryref4_Taken v_).N = 0)) || (!decide ((clerestoryref4_Taken v_).S = []))))) (fun X hX => ?_) ?_
          · refine split2 (fun hc1 => ?_) (fun hc1 => ?_)
            · refine gs rfl rfl ?_
              refine gs rfl rfl ?_
              refine gs rfl rfl ?_
              refine gt rfl (a1 (v := (B true)) rfl ?_)
              refine dnil ?_
              exact hX _ (.putEq (by rw [hc1]; rfl) (.skip _ _ (.skip _ _ (.skip _ _ (.putEq (by rw [hc1]) (.refl _)) rfl) rfl) rfl))
            · refine gt rfl (a1 (v := (.c (.ref 0 3 0 2))) rfl ?_)
              refine gt rfl (a1 (v := (S ((clerestoryref4_Taken v_).S))) rfl ?_)
              refine gt rfl (a1 (v := (B (!decide ((clerestoryref4_Taken v_).S = [])))) rfl ?_)
              refine gt rfl (a1 (v := (B (!decide ((clerestoryref4_Taken v_).S = [])))) rfl ?_)
              refine dnil ?_
              exact hX _ (.putEq (by rw [hc1]; rfl) (.skip _ _ (.skip _ _ (.skip _ _ (.putEq (by rw [hc1]) (.refl _)) rfl) rfl) rfl))
          refine gt rfl (a1 (v := (B ((!decide ((clerestoryref4_Taken v_).N = 0)) || (!decide ((clerestoryref4_Taken v_).S = []))))) rfl ?_)
          refine dnil ?_
          exact hX _ (.putEq (by rw [hc2]; rfl) (.skip _ _ (.skip _ _ (.skip _ _ (.skip _ _ (.skip _ _ (.putEq (by rw [hc2]) (.refl _)) rfl) rfl) rfl) rfl) rfl))
        · refine gs rfl rfl ?_
          refine gs rfl rfl ?_
          refine gs rfl rfl ?_
          refine gs rfl rfl ?_
          refine gu rfl ?_
          refine gu rfl ?_
          refine gu rfl ?_
          refine gs rfl rfl ?_
          refine gt rfl (a1 (v := (B false)) rfl ?_)
          refine dnil ?_
          exact hX _ (.putEq (by rw [hc2]; rfl) (.skip _ _ (.skip _ _ (.skip _ _ (.skip _ _ (.skip _ _ (.skip _ _ (.skip _ _ (.skip _ _ (.putEq (by rw [hc2]) (.refl _)) rfl) rfl) rfl) rfl) rfl) rfl) rfl) rfl))
      refine un (a1 (v := (B ((decide (0 < (clerestoryref4_Taken v_).Kind)) && ((!decide ((clerestoryref4_Taken v_).N = 0)) || (!decide ((clerestoryref4_Taken v_).S = [])))))) rfl ?_)
      refine dnil ?_
      exact hX _ (.putEq (by rw [hc3]; rfl) (.skip _ _ (.skip _ _ (.skip _ _ (.skip _ _ (.skip _ _ (.putEq (by rw [hc3]) (.refl _)) rfl) rfl) rfl) rfl) rfl))
  refine un (a1 rfl ?_)
  refine dnil ?_
  refine Sv.ret ?_
  subst h
  exact ⟨_, .refl _, _, rfl, ⟨upd (fun _ => none) 0 (some (B ((decide (3 < (clerestoryref4_Taken v_).Kind)) || ((decide (0 < (clerestoryref4_Taken v_).Kind)) && ((!decide ((clerestoryref4_Taken v_).N = 0)) || (!decide ((clerestoryref4_Taken v_).S = []))))))), (fun _ => none), 0⟩, (B ((decide (3 < (clerestoryref4_Taken v_).Kind)) || ((decide (0 < (clerestoryref4_Taken v_).Kind)) && ((!decide ((clerestoryref4_Taken v_).N = 0)) || (!decide ((clerestoryref4_Taken v_).S = [])))))), weak_canon [] rfl List.nodup_nil (Nat.le_refl _) (fun b h => absurd h (Nat.not_lt_zero _)) (.cons rfl (avAs_free rfl) .nil) .nil, rfl, rfl, rfl, rfl⟩
def a15 : AFunc := ⟨2, [(.tmp 4)], (.seq (.region [⟨(some 2), (.box (.tmp 0)), none⟩, ⟨(some 3), (.box (.tmp 1)), none⟩, ⟨(some 4), (.mov (.const (.c (.val (.bool false))))), none⟩])
 (.seq (.drawn (.fin [(⟨(some 5), (.load true 3 (.tmp 2)), none⟩, (0, 0)), (⟨(some 7), (.load true 3 (.tmp 3)), none⟩, (0, 2)), (⟨(some 6), (.call 27 [(.tmp 5)]), none⟩, (1, 1)), (⟨(some 8), (.call 27 [(.tmp 7)]), none⟩, (2, 3)), (⟨(some 9), (.eqs false true [.i, .i, .s] (.tmp 6) (.tmp 8)), none⟩, (0, 4)), (⟨(some 4), (.mov (.tmp 9)), none⟩, (0, 5))]))
 .ret))⟩
set_option maxRecDepth 100000 in
theorem c15 : compFunc Tryd.prog 15 = some a15 := by kernel_rfl
def value_Same_post (r : Bool) : AV → Heap → Nat → Prop := fun v h' n' => v = (B r) ∧ (h' = (fun _ => none)) ∧ n' = 0
/-- clerestory/value.Same -/
def value_Same (a_ : TJVal) (b_ : TJVal) : Bool :=
  letIn (decide ((value_right a_).Kind = (value_right b_).Kind) && (decide ((value_right a_).N = (value_right b_).N) && (decide ((value_right a_).S = (value_right b_).S) && true))) fun v9 : Bool =>
  v9
theorem value_Same_ok (a_ : TJVal) (b_ : TJVal) : CPure Tryd.prog GG 15 [(.agg [cI a_.Kind, cI a_.N, .str a_.S]), (.agg [cI b_.Kind, cI b_.N, .str b_.S])] (B (value_Same a_ b_)) := by
  generalize h : value_Same a_ b_ = o
  refine acalls_of_sv hmix c15 (R := value_Same_post o) ?_
  unfold value_Same at h
  refine Sv.seq ?_
  refine Sv.region ?_
  refine un (a2v (v := (.c (.ref 0 3 0 0))) (h' := upd _ 0 (some (.cells 3 [[cI a_.Kind, cI a_.N, .str a_.S]]))) (n' := 1) rfl rfl (fun h => by cases h) ?_)
  refine un (a2v (v := (.c (.ref 1 3 0 0))) (h' := upd _ 1 (some (.cells 3 [[cI b_.Kind, cI b_.N, .str b_.S]]))) (n' := 2) rfl rfl (fun h => by cases h) ?_)
  refine un (a1 rfl ?_)
  refine dnil ?_
  refine Sv.seq ?_
  refine Sv.drawn ?_
  refine un (a1 (v := (.agg [cI a_.Kind, cI a_.N, .str a_.S])) rfl ?_)
  refine un (a1 (v := (.agg [cI b_.Kind, cI b_.N, .str b_.S])) rfl ?_)
  refine un (ac_pure (value_right_ok a_) rfl rfl rfl ?_)
  refine un (ac_pure (value_right_ok b_) rfl rfl rfl ?_)
  obtain ⟨v9, hv9⟩ : ∃ v9 : Bool, v9 = (decide ((value_right a_).Kind = (value_right b_).Kind) && (decide ((value_right a_).N = (value_right b_).N) && (decide ((value_right a_).S = (value_right b_).S) && true))) := ⟨_, rfl⟩
  replace h := letAt hv9 h
  refine un (a1 (v := (B v9)) (by rw [hv9]; rfl) ?_)
  clear hv9
  refine un (a1 rfl ?_)
  refine dnil ?_
  refine Sv.ret ?_
  subst h
  exact ⟨_, .refl _, _, rfl, ⟨upd (fun _ => none) 0 (some (B v9)), (fun _ => none), 0⟩, (B v9), weak_canon [] rfl List.nodup_nil (Nat.le_refl _) (fun b h => absurd h (Nat.not_lt_zero _)) (.cons rfl (avAs_free rfl) .nil) .nil, rfl, rfl, rfl, rfl⟩
def a16 : AFunc := ⟨1, [(.tmp 2)], (.seq (.region [⟨(some 1), (.box (.tmp 0)), none⟩, ⟨(some 2), (.mov (.const (.c (.str [])))), none⟩])
 (.seq (.region [⟨(some 3), (.build [(.str []), (.str []), (.str []), (.str []), (.str []), (.str [])] [(0, (1, (.const (.c (.str [110, 117, 108, 108]))))), (1, (1, (.const (.c (.str [98, 111, 111, 108]))))), (2, (1, (.const (.c (.str [110, 117, 109, 98, 101, 114]))))), (3, (1, (.const (.c (.str [116, 101, 120, 116]))))), (4, (1, (.const (.c (.str [114, 101, 102]))))), (5, (1, (.const (.c (.str [99, 97, 108, 108])))))]), none⟩, ⟨(some 4), (.load true 3 (.tmp 1)), none⟩, ⟨(some 5), (.call 27 [(.tmp 4)]), none⟩, ⟨(some 6), (.fld false 0 1 (.tmp 5)), none⟩, ⟨(some 7), (.idxA false 6 1 (.tmp 3) (.tmp 6)), none⟩, ⟨(some 2), (.mov (.tmp 7)), none⟩])
 .ret))⟩
set_option maxRecDepth 100000 in
theorem c16 : compFunc Tryd.prog 16 = some a16 := by kernel_rfl
def value_Kind_post (r : (List UInt8)) : AV → Heap → Nat → Prop := fun v h' n' => v = (S r) ∧ (h' = (fun _ => none)) ∧ n' = 0
def value_Kind_t0 : List (List UInt8) := [[110, 117, 108, 108], [98, 111, 111, 108], [110, 117, 109, 98, 101, 114], [116, 101, 120, 116], [114, 101, 102], [99, 97, 108, 108]]
/-- clerestory/value.Kind -/
noncomputable def value_Kind (v_ : TJVal) : Option (List UInt8) :=
  (at? value_Kind_t0 ((value_right v_).Kind)).bind fun x_ =>
  some x_
theorem value_Kind_ok {v_ : TJVal} {r : (List UInt8)} (h : value_Kind v_ = some r) : CPure Tryd.prog GG 16 [(.agg [cI v_.Kind, cI v_.N, .str v_.S])] (S r) := by
  refine acalls_of_sv hmix c16 (R := value_Kind_post r) ?_
  unfold value_Kind at h
  refine Sv.seq ?_
  refine Sv.region ?_
  refine un (a2v (v := (.c (.ref 0 3 0 0))) (h' := upd _ 0 (some (.cells 3 [[cI v_.Kind, cI v_.N, .str v_.S]]))) (n' := 1) rfl rfl (fun h => by cases h) ?_)
  refine un (a1 rfl ?_)
  refine dnil ?_
  refine Sv.seq ?_
  refine Sv.region ?_
  refine un (a1 (v := (.agg [.str [110, 117, 108, 108], .str [98, 111, 111, 108], .str [110, 117, 109, 98, 101, 114], .str [116, 101, 120, 116], .str [114, 101, 102], .str [99, 97, 108, 108]])) rfl ?_)
  refine un (a1 (v := (.agg [cI v_.Kind, cI v_.N, .str v_.S])) rfl ?_)
  refine un (ac_pure (value_right_ok v_) rfl rfl rfl ?_)
  refine un (a1 (v := (I ((value_right v_).Kind))) rfl ?_)
  obtain ⟨x_, hx1, h⟩ := bnd h
  refine un (a1 (v := (S x_)) (s_idxA (L := value_Kind_t0) (v := fun q => (S q)) rfl rfl rfl (.cons rfl (.cons rfl (.cons rfl (.cons rfl (.cons rfl (.cons rfl .nil)))))) hx1) ?_)
  refine un (a1 rfl ?_)
  refine dnil ?_
  refine Sv.ret ?_
  replace h := Option.some.inj h
  subst h
  exact ⟨_, .refl _, _, rfl, ⟨upd (fun _ => none) 0 (some (S x_)), (fun _ => none), 0⟩, (S x_), weak_canon [] rfl List.nodup_nil (Nat.le_refl _) (fun b h => absurd h (Nat.not_lt_zero _)) (.cons rfl (avAs_free rfl) .nil) .nil, rfl, rfl, rfl, rfl⟩
def a37 : AFunc := ⟨1, [(.tmp 2)], (.seq (.region [⟨(some 2), (.mov (.const (.c (.str [])))), none⟩])
 (.seq (.seq (.region [⟨(some 3), (.mov (.tmp 0)), none⟩])
 (.cond (.tmp 3) (.seq (.region [⟨(some 2), (.mov (.const (.c (.str [116, 114, 117, 101])))), none⟩])
 .ret) .skip))
 (.seq (.region [⟨(some 2), (.mov (.const (.c (.str [102, 97, 108, 115, 101])))), none⟩])
 .ret)))⟩
set_option maxRecDepth 100000 in
theorem c37 : compFunc Tryd.prog 37 = some a37 := by kernel_rfl
def internal_strconv_FormatBool_post (r : (List UInt8)) : AV → Heap → Nat → Prop := fun v h' n' => v = (S r) ∧ (h' = (fun _ => none)) ∧ n' = 0
/-- internal/strconv.FormatBool -/
def internal_strconv_FormatBool (b_ : Bool) : (List UInt8) :=
  if b_ then
    [116, 114, 117, 101]
  else
    [102, 97, 108, 115, 101]
theorem internal_strconv_FormatBool_ok (b_ : Bool) : CPure Tryd.prog GG 37 [(B b_)] (S (internal_strconv_FormatBool b_)) := by
  generalize h : internal_strconv_FormatBool b_ = o
  refine acalls_of_sv hmix c37 (R := internal_strconv_FormatBool_post o) ?_
  unfold internal_strconv_FormatBool at h
  refine Sv.seq ?_
  refine Sv.region ?_
  refine un (a1 rfl ?_)
  refine dnil ?_
  refine Sv.seq ?_
  refine Sv.seq ?_
  refine Sv.region ?_
  refine un (a1 rfl ?_)
  refine dnil ?_
  refine Sv.cond (b := b_) rfl (fun hc1 => ?_) (fun hc1 => ?_)
  · replace h := ifT hc1 h
    refine Sv.seq ?_
    refine Sv.region ?_
    refine un (a1 rfl ?_)
    refine dnil ?_
    refine Sv.ret ?_
    subst h
    exact ⟨_, .refl _, _, rfl, ⟨upd (fun _ => none) 0 (some (S [116, 114, 117, 101])), (fun _ => none), 0⟩, (S [116, 114, 117, 101]), weak_canon [] rfl List.nodup_nil (Nat.le_refl _) (fun b h => absurd h (Nat.not_lt_zero _)) (.cons rfl (avAs_free rfl) .nil) .nil, rfl, rfl, rfl, rfl⟩
  · replace h := ifF hc1 h
    refine Sv.skip ?_
    refine Sv.seq ?_
    refine Sv.region ?_
    refine un (a1 rfl ?_)
    refine dnil ?_
    refine Sv.ret ?_
    subst h
    exact ⟨_, .refl _, _, rfl, ⟨upd (fun _ => none) 0 (some (S [102, 97, 108, 115, 101])), (fun _ => none), 0⟩, (S [102, 97, 108, 115, 101]), weak_canon [] rfl List.nodup_nil (Nat.le_refl _) (fun b h => absurd h (Nat.not_lt_zero _)) (.cons rfl (avAs_free rfl) .nil) .nil, rfl, rfl, rfl, rfl⟩
def a28 : AFunc := ⟨1, [(.tmp 2)], (.seq (.region [⟨(some 2), (.mov (.const (.c (.str [])))), none⟩])
 (.seq (.region [⟨(some 3), (.mov (.tmp 0)), none⟩, ⟨(some 4), (.call 37 [(.tmp 3)]), none⟩, ⟨(some 2), (.mov (.tmp 4)), none⟩])
 .ret))⟩
set_option maxRecDepth 100000 in
theorem c28 : compFunc Tryd.prog 28 = some a28 := by kernel_rfl
def strconv_FormatBool_post (r : (List UInt8)) : AV → Heap → Nat → Prop := fun v h' n' => v = (S r) ∧ (h' = (fun _ => none)) ∧ n' = 0
/-- strconv.FormatBool -/
def strconv_FormatBool (b_ : Bool) : (List UInt8) :=
  (internal_strconv_FormatBool b_)
theorem strconv_FormatBool_ok (b_ : Bool) : CPure Tryd.prog GG 28 [(B b_)] (S (strconv_FormatBool b_)) := by
  generalize h : strconv_FormatBool b_ = o
  refine acalls_of_sv hmix c28 (R := strconv_FormatBool_post o) ?_
  unfold strconv_FormatBool at h
  refine Sv.seq ?_
  refine Sv.region ?_
  refine un (a1 rfl ?_)
  refine dnil ?_
  refine Sv.seq ?_
  refine Sv.region ?_
  refine un (a1 rfl ?_)
  refine un (ac_pure (internal_strconv_FormatBool_ok b_) rfl rfl rfl ?_)
  refine un (a1 rfl ?_)
  refine dnil ?_
  refine Sv.ret ?_
  subst h
  exact ⟨_, .refl _, _, rfl, ⟨upd (fun _ => none) 0 (some (S (internal_strconv_FormatBool b_))), (fun _ => none), 0⟩, (S (internal_strconv_FormatBool b_)), weak_canon [] rfl List.nodup_nil (Nat.le_refl _) (fun b h => absurd h (Nat.not_lt_zero _)) (.cons rfl (avAs_free rfl) .nil) .nil, rfl, rfl, rfl, rfl⟩
noncomputable abbrev strconv_Itoa (i_ : Int) : Option (List UInt8) := itoa? i_
/-- strconv.Itoa, by the contract of the shelf -/
theorem strconv_Itoa_ok {i_ : Int} {r : (List UInt8)} (h : strconv_Itoa i_ = some r) : CPure Tryd.prog GG 29 [(I i_)] (S r) := itoa_ok (g := 2) Tryd.laysM171 (by kernel_rfl) (by kernel_rfl) h
def a17 : AFunc := ⟨1, [(.tmp 2)], (.seq (.region [⟨(some 1), (.box (.tmp 0)), none⟩, ⟨(some 2), (.mov (.const (.c (.str [])))), none⟩])
 (.seq (.seq (.region [⟨(some 3), (.load true 3 (.tmp 1)), none⟩, ⟨(some 4), (.call 27 [(.tmp 3)]), none⟩, ⟨none, (.store 3 (.tmp 1) (.tmp 4)), none⟩])
 (.seq (.region [⟨(some 5), (.faddr 0 (.tmp 1)), none⟩, ⟨(some 6), (.load false 1 (.tmp 5)), none⟩])
 (.block 0 (.seq (.region [⟨(some 8), (.bin .eql (.tmp 6) (.const (.c (.val (.int .i64 1))))), none⟩, ⟨(some 7), (.mov (.tmp 8)), none⟩])
 (.cond (.tmp 7) (.seq (.region [⟨(some 9), (.faddr 1 (.tmp 1)), none⟩, ⟨(some 10), (.load false 1 (.tmp 9)), none⟩, ⟨(some 11), (.bin .eql (.tmp 10) (.const (.c (.val (.int .i64 1))))), none⟩, ⟨(some 12), (.call 28 [(.tmp 11)]), none⟩, ⟨(some 2), (.mov (.tmp 12)), none⟩])
 .ret) (.seq (.region [⟨(some 14), (.bin .eql (.tmp 6) (.const (.c (.val (.int .i64 2))))), none⟩, ⟨(some 13), (.mov (.tmp 14)), none⟩])
 (.cond (.tmp 13) (.seq (.region [⟨(some 15), (.faddr 1 (.tmp 1)), none⟩, ⟨(some 16), (.load false 1 (.tmp 15)), none⟩, ⟨(some 17), (.call 29 [(.tmp 16)]), none⟩, ⟨(some 2), (.mov (.tmp 17)), none⟩])
 .ret) (.seq (.region [⟨(some 19), (.bin .eql (.tmp 6) (.const (.c (.val (.int .i64 3))))), none⟩, ⟨(some 18), (.mov (.tmp 19)), none⟩])
 (.cond (.tmp 18) (.seq (.region [⟨(some 20), (.faddr 2 (.tmp 1)), none⟩, ⟨(some 21), (.load false 1 (.tmp 20)), none⟩, ⟨(some 2), (.mov (.tmp 21)), none⟩])
 .ret) (.seq (.region [⟨(some 23), (.bin .eql (.tmp 6) (.const (.c (.val (.int .i64 4))))), none⟩, ⟨(some 22), (.mov (.tmp 23)), none⟩])
 (.cond (.tmp 22) (.seq (.region [⟨(some 2), (.mov (.const (.c (.str [91, 114, 101, 102, 93])))), none⟩])
 .ret) (.seq (.region [⟨(some 25), (.bin .eql (.tmp 6) (.const (.c (.val (.int .i64 5))))), none⟩, ⟨(some 24), (.mov (.tmp 25)), none⟩])
 (.cond (.tmp 24) (.seq (.region [⟨(some 26), (.faddr 2 (.tmp 1)), none⟩, ⟨(some 27), (.load false 1 (.tmp 26)), none⟩, ⟨(some 28), (.bin .add (.const (.c (.str [91, 99, 97, 108, 108, 32]))) (.tmp 27)), none⟩, ⟨(some 29), (.bin .add (.tmp 28) (.const (.c (.str [93])))), none⟩, ⟨(some 2), (.mov (.tmp 29)), none⟩])
 .ret) .skip)))))))))))))
 (.seq (.region [⟨(some 2), (.mov (.const (.c (.str [110, 117, 108, 108])))), none⟩])
 .ret)))⟩
set_option maxRecDepth 100000 in
theorem c17 : compFunc Tryd.prog 17 = some a17 := by kernel_rfl
def value_Text_post (r : (List UInt8)) : AV → Heap → Nat → Prop := fun v h' n' => v = (S r) ∧ (h' = (fun _ => none)) ∧ n' = 0
/-- clerestory/value.Text -/
noncomputable def value_Text (v_ : TJVal) : Option (List UInt8) :=
  if decide ((value_right v_).Kind = 1) then
    some (strconv_FormatBool (decide ((value_right v_).N = 1)))
  else
    if decide ((value_right v_).Kind = 2) then
      (strconv_Itoa ((value_right v_).N)).bind fun r_ =>
      some r_
    else
      if decide ((value_right v_).Kind = 3) then
        some ((value_right v_).S)
      else
        if decide ((value_right v_).Kind = 4) then
          some [91, 114, 101, 102, 93]
        else
          if decide ((value_right v_).Kind = 5) then
            (cat? [91, 99, 97, 108, 108, 32] ((value_right v_).S)).bind fun r_1 =>
            (cat? r_1 [93]).bind fun r_2 =>
            some r_2
          else
            some [110, 117, 108, 108]
theorem value_Text_ok {v_ : TJVal} {r : (List UInt8)} (h : value_Text v_ = some r) : CPure Tryd.prog GG 17 [(.agg [cI v_.Kind, cI v_.N, .str v_.S])] (S r) := by
  refine acalls_of_sv hmix c17 (R := value_Text_post r) ?_
  unfold value_Text at h
  refine Sv.seq ?_
  refine Sv.region ?_
  refine un (a2v (v := (.c (.ref 0 3 0 0))) (h' := upd _ 0 (some (.cells 3 [[cI v_.Kind, cI v_.N, .str v_.S]]))) (n' := 1) rfl rfl (fun h => by cases h) ?_)
  refine un (a1 rfl ?_)
  refine dnil ?_
  refine Sv.seq ?_
  refine Sv.seq ?_
  refine Sv.region ?_
  refine un (a1 (v := (.agg [cI v_.Kind, cI v_.N, .str v_.S])) rfl ?_)
  refine un (ac_pure (value_right_ok v_) rfl rfl rfl ?_)
  refine un (a2n (h' := upd _ 0 (some (.cells 3 [[cI ((value_right v_).Kind), cI ((value_right v_).N), .str ((value_right v_).S)]]))) (n' := 1) rfl rfl (fun h => by cases h) ?_)
  refine dnil ?_
  refine Sv.seq ?_
  refine Sv.region ?_
  refine un (a1 (v := (.c (.ref 0 3 0 0))) rfl ?_)
  refine un (a1 (v := (I ((value_right v_).Kind))) rfl ?_)
  refine dnil ?_
  refine Sv.block ?_
  refine Sv.seq ?_
  refine Sv.region ?_
  refine un (a1 (v := (B (decide ((value_right v_).Kind = 1)))) rfl ?_)
  refine un (a1 rfl ?_)
  refine dnil ?_
  refine Sv.cond (b := decide ((value_right v_).Kind = 1)) rfl (fun hc1 => ?_) (fun hc1 => ?_)
  · replace h := ifT hc1 h
    refine Sv.seq ?_
    refine Sv.region ?_
    refine un (a1 (v := (.c (.ref 0 3 0 1))) rfl ?_)
    refine un (a1 (v := (I ((value_right v_).N))) rfl ?_)
    refine un (a1 (v := (B (decide ((value_right v_).N = 1)))) rfl ?_)
    refine un (ac_pure (strconv_FormatBool_ok (decide ((value_right v_).N = 1))) rfl rfl rfl ?_)
    refine un (a1 rfl ?_)
    refine dnil ?_
    refine Sv.ret ?_
    replace h := Option.some.inj h
    subst h
    exact ⟨_, .refl _, _, rfl, ⟨upd (fun _ => none) 0 (some (S (strconv_FormatBool (decide ((value_right v_).N = 1))))), (fun _ => none), 0⟩, (S (strconv_FormatBool (decide ((value_right v_).N = 1)))), weak_canon [] rfl List.nodup_nil (Nat.le_refl _) (fun b h => absurd h (Nat.not_lt_zero _)) (.cons rfl (avAs_free rfl) .nil) .nil, rfl, rfl, rfl, rfl⟩
  · replace h := ifF hc1 h
    refine Sv.seq ?_
    refine Sv.region ?_
    refine un (a1 (v := (B (decide ((value_right v_).Kind = 2)))) rfl ?_)
    refine un (a1 rfl ?_)
    refine dnil ?_
    refine Sv.cond (b := decide ((value_right v_).Kind = 2)) rfl (fun hc2 => ?_) (fun hc2 => ?_)
    · replace h := ifT hc2 h
      refine Sv.seq ?_
      refine Sv.region ?_
      refine un (a1 (v := (.c (.ref 0 3 0 1))) rfl ?_)
      refine un (a1 (v := (I ((value_right v_).N))) rfl ?_)
      obtain ⟨r_, hr1, h⟩ := bnd h
      refine un (ac_pure (strconv_Itoa_ok hr1) rfl rfl rfl ?_)
      refine un (a1 rfl ?_)
      refine dnil ?_
      refine Sv.ret ?_
      replace h := Option.some.inj h
      subst h
      exact ⟨_, .refl _, _, rfl, ⟨upd (fun _ => none) 0 (some (S r_)), (fun _ => none), 0⟩, (S r_), weak_canon [] rfl List.nodup_nil (Nat.le_refl _) (fun b h => absurd h (Nat.not_lt_zero _)) (.cons rfl (avAs_free rfl) .nil) .nil, rfl, rfl, rfl, rfl⟩
    · replace h := ifF hc2 h
      refine Sv.seq ?_
      refine Sv.region ?_
      refine un (a1 (v := (B (decide ((value_right v_).Kind = 3)))) rfl ?_)
      refine un (a1 rfl ?_)
      refine dnil ?_
      refine Sv.cond (b := decide ((value_right v_).Kind = 3)) rfl (fun hc3 => ?_) (fun hc3 => ?_)
      · replace h := ifT hc3 h
        refine Sv.seq ?_
        refine Sv.region ?_
        refine un (a1 (v := (.c (.ref 0 3 0 2))) rfl ?_)
        refine un (a1 (v := (S ((value_right v_).S))) rfl ?_)
        refine un (a1 rfl ?_)
        refine dnil ?_
        refine Sv.ret ?_
        replace h := Option.some.inj h
        subst h
        exact ⟨_, .refl _, _, rfl, ⟨upd (fun _ => none) 0 (some (S ((value_right v_).S))), (fun _ => none), 0⟩, (S ((value_right v_).S)), weak_canon [] rfl List.nodup_nil (Nat.le_refl _) (fun b h => absurd h (Nat.not_lt_zero _)) (.cons rfl (avAs_free rfl) .nil) .nil, rfl, rfl, rfl, rfl⟩
      · replace h := ifF hc3 h
        refine Sv.seq ?_
        refine Sv.region ?_
        refine un (a1 (v := (B (decide ((value_right v_).Kind = 4)))) rfl ?_)
        refine un (a1 rfl ?_)
        refine dnil ?_
        refine Sv.cond (b := decide ((value_right v_).Kind = 4)) rfl (fun hc4 => ?_) (fun hc4 => ?_)
        · replace h := ifT hc4 h
          refine Sv.seq ?_
          refine Sv.region ?_
          refine un (a1 rfl ?_)
          refine dnil ?_
          refine Sv.ret ?_
          replace h := Option.some.inj h
          subst h
          exact ⟨_, .refl _, _, rfl, ⟨upd (fun _ => none) 0 (some (S [91, 114, 101, 102, 93])), (fun _ => none), 0⟩, (S [91, 114, 101, 102, 93]), weak_canon [] rfl List.nodup_nil (Nat.le_refl _) (fun b h => absurd h (Nat.not_lt_zero _)) (.cons rfl (avAs_free rfl) .nil) .nil, rfl, rfl, rfl, rfl⟩
        · replace h := ifF hc4 h
          refine Sv.seq ?_
          refine Sv.region ?_
          refine un (a1 (v := (B (decide ((value_right v_).Kind = 5)))) rfl ?_)
          refine un (a1 rfl ?_)
          refine dnil ?_
          refine Sv.cond (b := decide ((value_right v_).Kind = 5)) rfl (fun hc5 => ?_) (fun hc5 => ?_)
          · replace h := ifT hc5 h
            refine Sv.seq ?_
            refine Sv.region ?_
            refine un (a1 (v := (.c (.ref 0 3 0 2))) rfl ?_)
            refine un (a1 (v := (S ((value_right v_).S))) rfl ?_)
            obtain ⟨r_1, hx1, h⟩ := bnd h
            refine un (a1 (v := (S r_1)) (s_cat rfl rfl hx1) ?_)
            obtain ⟨r_2, hx2, h⟩ := bnd h
            refine un (a1 (v := (S r_2)) (s_cat rfl rfl hx2) ?_)
            refine un (a1 rfl ?_)
            refine dnil ?_
            refine Sv.ret ?_
            replace h := Option.some.inj h
            subst h
            exact ⟨_, .refl _, _, rfl, ⟨upd (fun _ => none) 0 (some (S r_2)), (fun _ => none), 0⟩, (S r_2), weak_canon [] rfl List.nodup_nil (Nat.le_refl _) (fun b h => absurd h (Nat.not_lt_zero _)) (.cons rfl (avAs_free rfl) .nil) .nil, rfl, rfl, rfl, rfl⟩
          · replace h := ifF hc5 h
            refine Sv.skip ?_
            refine Sv.seq ?_
            refine Sv.region ?_
            refine un (a1 rfl ?_)
            refine dnil ?_
            refine Sv.ret ?_
            replace h := Option.some.inj h
            subst h
            exact ⟨_, .refl _, _, rfl, ⟨upd (fun _ => none) 0 (some (S [110, 117, 108, 108])), (fun _ => none), 0⟩, (S [110, 117, 108, 108]), weak_canon [] rfl List.nodup_nil (Nat.le_refl _) (fun b h => absurd h (Nat.not_lt_zero _)) (.cons rfl (avAs_free rfl) .nil) .nil, rfl, rfl, rfl, rfl⟩
def a30 : AFunc := ⟨1, [(.tmp 2)], (.seq (.region [⟨(some 2), (.mov (.const (.c (.str [])))), none⟩])
 (.seq (.seq (.region [⟨(some 3), (.mov (.tmp 0)), none⟩, ⟨(some 4), (.bin .lss (.tmp 3) (.const (.c (.val (.int .i64 10))))), none⟩])
 (.cond (.tmp 4) (.seq (.region [⟨(some 5), (.mov (.tmp 0)), none⟩, ⟨(some 6), (.mov (.tmp 0)), none⟩, ⟨(some 7), (.bin .add (.tmp 6) (.const (.c (.val (.int .i64 1))))), none⟩, ⟨(some 8), (.slStr (.const (.c (.str [48, 49, 50, 51, 52, 53, 54, 55, 56, 57]))) (some (.tmp 5)) (some (.tmp 7))), none⟩, ⟨(some 2), (.mov (.tmp 8)), none⟩])
 .ret) .skip))
 (.seq (.region [⟨(some 9), (.mov (.tmp 0)), none⟩, ⟨(some 10), (.bin .quo (.tmp 9) (.const (.c (.val (.int .i64 10))))), none⟩, ⟨(some 11), (.call 30 [(.tmp 10)]), none⟩, ⟨(some 12), (.mov (.tmp 0)), none⟩, ⟨(some 13), (.bin .rem (.tmp 12) (.const (.c (.val (.int .i64 10))))), none⟩, ⟨(some 14), (.call 30 [(.tmp 13)]), none⟩, ⟨(some 15), (.bin .add (.tmp 11) (.tmp 14)), none⟩, ⟨(some 2), (.mov (.tmp 15)), none⟩])
 .ret)))⟩
set_option maxRecDepth 100000 in
theorem c30 : compFunc Tryd.prog 30 = some a30 := by kernel_rfl
def clerestoryref4_Digits_post (r : (List UInt8)) : AV → Heap → Nat → Prop := fun v h' n' => v = (S r) ∧ (h' = (fun _ => none)) ∧ n' = 0
def clerestoryref4_Digits_Rec (recf : Int → Option (List UInt8)) : Prop := ∀ (n_ : Int) (r : (List UInt8)), recf n_ = some r → CPure Tryd.prog GG 30 [(I n_)] (S r)
/-- clerestory/clerestoryref4.Digits -/
noncomputable def clerestoryref4_Digits_r : Nat → Int → Option (List UInt8)
  | 0, _ => none
  | k + 1, n_ =>
    if decide (n_ < 10) then
      (sub? [48, 49, 50, 51, 52, 53, 54, 55, 56, 57] n_ (wi (n_ + 1))).bind fun r_ =>
      some r_
    else
      ((clerestoryref4_Digits_r k) (wi (n_.tdiv 10))).bind fun r_1 =>
      ((clerestoryref4_Digits_r k) (n_.tmod 10)).bind fun r_2 =>
      (cat? r_1 r_2).bind fun r_3 =>
      some r_3
noncomputable def clerestoryref4_Digits (n_ : Int) : Option (List UInt8) :=
  lim fun kr => clerestoryref4_Digits_r kr n_
theorem clerestoryref4_Digits_r_ok (k : Nat) : clerestoryref4_Digits_Rec (clerestoryref4_Digits_r k) := by
  induction k with
  | zero => intro n_ r h; cases h
  | succ k hrec =>
  intro n_ r h
  refine acalls_of_sv hmix c30 (R := clerestoryref4_Digits_post r) ?_
  rw [clerestoryref4_Digits_r] at h
  refine Sv.seq ?_
  refine Sv.region ?_
  refine un (a1 rfl ?_)
  refine dnil ?_
  refine Sv.seq ?_
  refine Sv.seq ?_
  refine Sv.region ?_
  refine un (a1 rfl ?_)
  refine un (a1 (v := (B (decide (n_ < 10)))) rfl ?_)
  refine dnil ?_
  refine Sv.cond (b := decide (n_ < 10)) rfl (fun hc1 => ?_) (fun hc1 => ?_)
  · replace h := ifT hc1 h
    refine Sv.seq ?_
    refine Sv.region ?_
    refine un (a1 rfl ?_)
    refine un (a1 rfl ?_)
    refine un (a1 (v := (I (wi (n_ + 1)))) rfl ?_)
    obtain ⟨r_, hx1, h⟩ := bnd h
    refine un (a1 (v := (S r_)) (s_slStr rfl rfl rfl hx1) ?_)
    refine un (a1 rfl ?_)
    refine dnil ?_
    refine Sv.ret ?_
    replace h := Option.some.inj h
    subst h
    exact ⟨_, .refl _, _, rfl, ⟨upd (fun _ => none) 0 (some (S r_)), (fun _ => none), 0⟩, (S r_), weak_canon [] rfl List.nodup_nil (Nat.le_refl _) (fun b h => absurd h (Nat.not_lt_zero _)) (.cons rfl (avAs_free rfl) .nil) .nil, rfl, rfl, rfl, rfl⟩
  · replace h := ifF hc1 h
    refine Sv.skip ?_
    refine Sv.seq ?_
    refine Sv.region ?_
    refine un (a1 rfl ?_)
    refine un (a1 (v := (I (wi (n_.tdiv 10)))) rfl ?_)
    obtain ⟨r_1, hr1, h⟩ := bnd h
    refine un (ac_pure (hrec (wi (n_.tdiv 10)) _ hr1) rfl rfl rfl ?_)
    refine un (a1 rfl ?_)
    refine un (a1 (v := (I (n_.tmod 10))) rfl ?_)
    obtain ⟨r_2, hr2, h⟩ := bnd h
    refine un (ac_pure (hrec (n_.tmod 10) _ hr2) rfl rfl rfl ?_)
    obtain ⟨r_3, hx2, h⟩ := bnd h
    refine un (a1 (v := (S r_3)) (s_cat rfl rfl hx2) ?_)
    refine un (a1 rfl ?_)
    refine dnil ?_
    refine Sv.ret ?_
    replace h := Option.some.inj h
    subst h
    exact ⟨_, .refl _, _, rfl, ⟨upd (fun _ => none) 0 (some (S r_3)), (fun _ => none), 0⟩, (S r_3), weak_canon [] rfl List.nodup_nil (Nat.le_refl _) (fun b h => absurd h (Nat.not_lt_zero _)) (.cons rfl (avAs_free rfl) .nil) .nil, rfl, rfl, rfl, rfl⟩
theorem clerestoryref4_Digits_ok {n_ : Int} {r : (List UInt8)} (h : clerestoryref4_Digits n_ = some r) : CPure Tryd.prog GG 30 [(I n_)] (S r) := by
  unfold clerestoryref4_Digits at h
  obtain ⟨k, h⟩ := lim_some h
  exact clerestoryref4_Digits_r_ok k n_  r h
def a18 : AFunc := ⟨1, [(.tmp 2)], (.seq (.region [⟨(some 1), (.box (.tmp 0)), none⟩, ⟨(some 2), (.mov (.const (.c (.str [])))), none⟩])
 (.seq (.region [⟨(some 3), (.load true 3 (.tmp 1)), none⟩, ⟨(some 4), (.call 10 [(.tmp 3)]), none⟩, ⟨none, (.store 3 (.tmp 1) (.tmp 4)), none⟩])
 (.seq (.seq (.region [⟨(some 5), (.faddr 0 (.tmp 1)), none⟩, ⟨(some 6), (.load false 1 (.tmp 5)), none⟩])
 (.block 0 (.seq (.region [⟨(some 8), (.bin .eql (.tmp 6) (.const (.c (.val (.int .i64 1))))), none⟩, ⟨(some 7), (.mov (.tmp 8)), none⟩])
 (.cond (.tmp 7) (.seq (.seq (.region [⟨(some 9), (.faddr 1 (.tmp 1)), none⟩, ⟨(some 10), (.load false 1 (.tmp 9)), none⟩, ⟨(some 11), (.bin .eql (.tmp 10) (.const (.c (.val (.int .i64 0))))), none⟩])
 (.cond (.tmp 11) (.seq (.region [⟨(some 2), (.mov (.const (.c (.str [102, 97, 108, 115, 101])))), none⟩])
 .ret) .skip))
 (.seq (.region [⟨(some 2), (.mov (.const (.c (.str [116, 114, 117, 101])))), none⟩])
 .ret)) (.seq (.region [⟨(some 13), (.bin .eql (.tmp 6) (.const (.c (.val (.int .i64 2))))), none⟩, ⟨(some 12), (.mov (.tmp 13)), none⟩])
 (.cond (.tmp 12) (.seq (.seq (.region [⟨(some 14), (.faddr 1 (.tmp 1)), none⟩, ⟨(some 15), (.load false 1 (.tmp 14)), none⟩, ⟨(some 16), (.bin .lss (.tmp 15) (.const (.c (.val (.int .i64 0))))), none⟩])
 (.cond (.tmp 16) (.seq (.region [⟨(some 17), (.faddr 1 (.tmp 1)), none⟩, ⟨(some 18), (.load false 1 (.tmp 17)), none⟩, ⟨(some 19), (.un .neg (.tmp 18)), none⟩, ⟨(some 20), (.call 30 [(.tmp 19)]), none⟩, ⟨(some 21), (.bin .add (.const (.c (.str [45]))) (.tmp 20)), none⟩, ⟨(some 2), (.mov (.tmp 21)), none⟩])
 .ret) .skip))
 (.seq (.region [⟨(some 22), (.faddr 1 (.tmp 1)), none⟩, ⟨(some 23), (.load false 1 (.tmp 22)), none⟩, ⟨(some 24), (.call 30 [(.tmp 23)]), none⟩, ⟨(some 2), (.mov (.tmp 24)), none⟩])
 .ret)) (.seq (.region [⟨(some 26), (.bin .eql (.tmp 6) (.const (.c (.val (.int .i64 3))))), none⟩, ⟨(some 25), (.mov (.tmp 26)), none⟩])
 (.cond (.tmp 25) (.seq (.region [⟨(some 27), (.faddr 2 (.tmp 1)), none⟩, ⟨(some 28), (.load false 1 (.tmp 27)), none⟩, ⟨(some 2), (.mov (.tmp 28)), none⟩])
 .ret) (.seq (.region [⟨(some 30), (.bin .eql (.tmp 6) (.const (.c (.val (.int .i64 4))))), none⟩, ⟨(some 29), (.mov (.tmp 30)), none⟩])
 (.cond (.tmp 29) (.seq (.region [⟨(some 2), (.mov (.const (.c (.str [91, 114, 101, 102, 93])))), none⟩])
 .ret) (.seq (.region [⟨(some 32), (.bin .eql (.tmp 6) (.const (.c (.val (.int .i64 5))))), none⟩, ⟨(some 31), (.mov (.tmp 32)), none⟩])
 (.cond (.tmp 31) (.seq (.region [⟨(some 33), (.faddr 2 (.tmp 1)), none⟩, ⟨(some 34), (.load false 1 (.tmp 33)), none⟩, ⟨(some 35), (.bin .add (.const (.c (.str [91, 99, 97, 108, 108, 32]))) (.tmp 34)), none⟩, ⟨(some 36), (.bin .add (.tmp 35) (.const (.c (.str [93])))), none⟩, ⟨(some 2), (.mov (.tmp 36)), none⟩])
 .ret) .skip))))))))))))
 (.seq (.region [⟨(some 2), (.mov (.const (.c (.str [110, 117, 108, 108])))), none⟩])
 .ret))))⟩
set_option maxRecDepth 100000 in
theorem c18 : compFunc Tryd.prog 18 = some a18 := by kernel_rfl
def clerestoryref4_Shown_post (r : (List UInt8)) : AV → Heap → Nat → Prop := fun v h' n' => v = (S r) ∧ (h' = (fun _ => none)) ∧ n' = 0
/-- clerestory/clerestoryref4.Shown -/
noncomputable def clerestoryref4_Shown (v_ : TJVal) : Option (List UInt8) :=
  if decide ((clerestoryref4_Taken v_).Kind = 1) then
    if decide ((clerestoryref4_Taken v_).N = 0) then
      some [102, 97, 108, 115, 101]
    else
      some [116, 114, 117, 101]
  else
    if decide ((clerestoryref4_Taken v_).Kind = 2) then
      if decide ((clerestoryref4_Taken v_).N < 0) then
        (clerestoryref4_Digits (wi (0 - (clerestoryref4_Taken v_).N))).bind fun r_ =>
        (cat? [45] r_).bind fun r_1 =>
        some r_1
      else
        (clerestoryref4_Digits ((clerestoryref4_Taken v_).N)).bind fun r_2 =>
        some r_2
    else
      if decide ((clerestoryref4_Taken v_).Kind = 3) then
        some ((clerestoryref4_Taken v_).S)
      else
        if decide ((clerestoryref4_Taken v_).Kind = 4) then
          some [91, 114, 101, 102, 93]
        else
          if decide ((clerestoryref4_Taken v_).Kind = 5) then
            (cat? [91, 99, 97, 108, 108, 32] ((clerestoryref4_Taken v_).S)).bind fun r_3 =>
            (cat? r_3 [93]).bind fun r_4 =>
            some r_4
          else
            some [110, 117, 108, 108]
theorem clerestoryref4_Shown_ok {v_ : TJVal} {r : (List UInt8)} (h : clerestoryref4_Shown v_ = some r) : CPure Tryd.prog GG 18 [(.agg [cI v_.Kind, cI v_.N, .str v_.S])] (S r) := by
  refine acalls_of_sv hmix c18 (R := clerestoryref4_Shown_post r) ?_
  unfold clerestoryref4_Shown at h
  refine Sv.seq ?_
  refine Sv.region ?_
  refine un (a2v (v := (.c (.ref 0 3 0 0))) (h' := upd _ 0 (some (.cells 3 [[cI v_.Kind, cI v_.N, .str v_.S]]))) (n' := 1) rfl rfl (fun h => by cases h) ?_)
  refine un (a1 rfl ?_)
  refine dnil ?_
  refine Sv.seq ?_
  refine Sv.region ?_
  refine un (a1 (v := (.agg [cI v_.Kind, cI v_.N, .str v_.S])) rfl ?_)
  refine un (ac_pure (clerestoryref4_Taken_ok v_) rfl rfl rfl ?_)
  refine un (a2n (h' := upd _ 0 (some (.cells 3 [[cI ((clerestoryref4_Taken v_).Kind), cI ((clerestoryref4_Taken v_).N), .str ((clerestoryref4_Taken v_).S)]]))) (n' := 1) rfl rfl (fun h => by cases h) ?_)
  refine dnil ?_
  refine Sv.seq ?_
  refine Sv.seq ?_
  refine Sv.region ?_
  refine un (a1 (v := (.c (.ref 0 3 0 0))) rfl ?_)
  refine un (a1 (v := (I ((clerestoryref4_Taken v_).Kind))) rfl ?_)
  refine dnil ?_
  refine Sv.block ?_
  refine Sv.seq ?_
  refine Sv.region ?_
  refine un (a1 (v := (B (decide ((clerestoryref4_Taken v_).Kind = 1)))) rfl ?_)
  refine un (a1 rfl ?_)
  refine dnil ?_
  refine Sv.cond (b := decide ((clerestoryref4_Taken v_).Kind = 1)) rfl (fun hc1 => ?_) (fun hc1 => ?_)
  · replace h := ifT hc1 h
    refine Sv.seq ?_
    refine Sv.seq ?_
    refine Sv.region ?_
    refine un (a1 (v := (.c (.ref 0 3 0 1))) rfl ?_)
    refine un (a1 (v := (I ((clerestoryref4_Taken v_).N))) rfl ?_)
    refine un (a1 (v := (B (decide ((clerestoryref4_Taken v_).N = 0)))) rfl ?_)
    refine dnil ?_
    refine Sv.cond (b := decide ((clerestoryref4_Taken v_).N = 0)) rfl (fun hc2 => ?_) (fun hc2 => ?_)
    · replace h := ifT hc2 h
      refine Sv.seq ?_
      refine Sv.region ?_
      refine un (a1 rfl ?_)
      refine dnil ?_
      refine Sv.ret ?_
      replace h := Option.some.inj h
      subst h
      exact ⟨_, .refl _, _, rfl, ⟨upd (fun _ => none) 0 (some (S [102, 97, 108, 115, 101])), (fun _ => none), 0⟩, (S [102, 97, 108, 115, 101]), weak_canon [] rfl List.nodup_nil (Nat.le_refl _) (fun b h => absurd h (Nat.not_lt_zero _)) (.cons rfl (avAs_free rfl) .nil) .nil, rfl, rfl, rfl, rfl⟩
    · replace h := ifF hc2 h
      refine Sv.skip ?_
      refine Sv.seq ?_
      refine Sv.region ?_
      refine un (a1 rfl ?_)
      refine dnil ?_
      refine Sv.ret ?_
      replace h := Option.some.inj h
      subst h
      exact ⟨_, .refl _, _, rfl, ⟨upd (fun _ => none) 0 (some (S [116, 114, 117, 101])), (fun _ => none), 0⟩, (S [116, 114, 117, 101]), weak_canon [] rfl List.nodup_nil (Nat.le_refl _) (fun b h => absurd h (Nat.not_lt_zero _)) (.cons rfl (avAs_free rfl) .nil) .nil, rfl, rfl, rfl, rfl⟩
  · replace h := ifF hc1 h
    refine Sv.seq ?_
    refine Sv.region ?_
    refine un (a1 (v := (B (decide ((clerestoryref4_Taken v_).Kind = 2)))) rfl ?_)
    refine un (a1 rfl ?_)
    refine dnil ?_
    refine Sv.cond (b := decide ((clerestoryref4_Taken v_).Kind = 2)) rfl (fun hc3 => ?_) (fun hc3 => ?_)
    · replace h := ifT hc3 h
      refine Sv.seq ?_
      refine Sv.seq ?_
      refine Sv.region ?_
      refine un (a1 (v := (.c (.ref 0 3 0 1))) rfl ?_)
      refine un (a1 (v := (I ((clerestoryref4_Taken v_).N))) rfl ?_)
      refine un (a1 (v := (B (decide ((clerestoryref4_Taken v_).N < 0)))) rfl ?_)
      refine dnil ?_
      refine Sv.cond (b := decide ((clerestoryref4_Taken v_).N < 0)) rfl (fun hc4 => ?_) (fun hc4 => ?_)
      · replace h := ifT hc4 h
        refine Sv.seq ?_
        refine Sv.region ?_
        refine un (a1 (v := (.c (.ref 0 3 0 1))) rfl ?_)
        refine un (a1 (v := (I ((clerestoryref4_Taken v_).N))) rfl ?_)
        refine un (a1 (v := (I (wi (0 - (clerestoryref4_Taken v_).N)))) rfl ?_)
        obtain ⟨r_, hr1, h⟩ := bnd h
        refine un (ac_pure (clerestoryref4_Digits_ok hr1) rfl rfl rfl ?_)
        obtain ⟨r_1, hx1, h⟩ := bnd h
        refine un (a1 (v := (S r_1)) (s_cat rfl rfl hx1) ?_)
        refine un (a1 rfl ?_)
        refine dnil ?_
        refine Sv.ret ?_
        replace h := Option.some.inj h
        subst h
        exact ⟨_, .refl _, _, rfl, ⟨upd (fun _ => none) 0 (some (S r_1)), (fun _ => none), 0⟩, (S r_1), weak_canon [] rfl List.nodup_nil (Nat.le_refl _) (fun b h => absurd h (Nat.not_lt_zero _)) (.cons rfl (avAs_free rfl) .nil) .nil, rfl, rfl, rfl, rfl⟩
      · replace h := ifF hc4 h
        refine Sv.skip ?_
        refine Sv.seq ?_
        refine Sv.region ?_
        refine un (a1 (v := (.c (.ref 0 3 0 1))) rfl ?_)
        refine un (a1 (v := (I ((clerestoryref4_Taken v_).N))) rfl ?_)
        obtain ⟨r_2, hr2, h⟩ := bnd h
        refine un (ac_pure (clerestoryref4_Digits_ok hr2) rfl rfl rfl ?_)
        refine un (a1 rfl ?_)
        refine dnil ?_
        refine Sv.ret ?_
        replace h := Option.some.inj h
        subst h
        exact ⟨_, .refl _, _, rfl, ⟨upd (fun _ => none) 0 (some (S r_2)), (fun _ => none), 0⟩, (S r_2), weak_canon [] rfl List.nodup_nil (Nat.le_refl _) (fun b h => absurd h (Nat.not_lt_zero _)) (.cons rfl (avAs_free rfl) .nil) .nil, rfl, rfl, rfl, rfl⟩
    · replace h := ifF hc3 h
      refine Sv.seq ?_
      refine Sv.region ?_
      refine un (a1 (v := (B (decide ((clerestoryref4_Taken v_).Kind = 3)))) rfl ?_)
      refine un (a1 rfl ?_)
      refine dnil ?_
      refine Sv.cond (b := decide ((clerestoryref4_Taken v_).Kind = 3)) rfl (fun hc5 => ?_) (fun hc5 => ?_)
      · replace h := ifT hc5 h
        refine Sv.seq ?_
        refine Sv.region ?_
        refine un (a1 (v := (.c (.ref 0 3 0 2))) rfl ?_)
        refine un (a1 (v := (S ((clerestoryref4_Taken v_).S))) rfl ?_)
        refine un (a1 rfl ?_)
        refine dnil ?_
        refine Sv.ret ?_
        replace h := Option.some.inj h
        subst h
        exact ⟨_, .refl _, _, rfl, ⟨upd (fun _ => none) 0 (some (S ((clerestoryref4_Taken v_).S))), (fun _ => none), 0⟩, (S ((clerestoryref4_Taken v_).S)), weak_canon [] rfl List.nodup_nil (Nat.le_refl _) (fun b h => absurd h (Nat.not_lt_zero _)) (.cons rfl (avAs_free rfl) .nil) .nil, rfl, rfl, rfl, rfl⟩
      · replace h := ifF hc5 h
        refine Sv.seq ?_
        refine Sv.region ?_
        refine un (a1 (v := (B (decide ((clerestoryref4_Taken v_).Kind = 4)))) rfl ?_)
        refine un (a1 rfl ?_)
        refine dnil ?_
        refine Sv.cond (b := decide ((clerestoryref4_Taken v_).Kind = 4)) rfl (fun hc6 => ?_) (fun hc6 => ?_)
        · replace h := ifT hc6 h
          refine Sv.seq ?_
          refine Sv.region ?_
          refine un (a1 rfl ?_)
          refine dnil ?_
          refine Sv.ret ?_
          replace h := Option.some.inj h
          subst h
          exact ⟨_, .refl _, _, rfl, ⟨upd (fun _ => none) 0 (some (S [91, 114, 101, 102, 93])), (fun _ => none), 0⟩, (S [91, 114, 101, 102, 93]), weak_canon [] rfl List.nodup_nil (Nat.le_refl _) (fun b h => absurd h (Nat.not_lt_zero _)) (.cons rfl (avAs_free rfl) .nil) .nil, rfl, rfl, rfl, rfl⟩
        · replace h := ifF hc6 h
          refine Sv.seq ?_
          refine Sv.region ?_
          refine un (a1 (v := (B (decide ((clerestoryref4_Taken v_).Kind = 5)))) rfl ?_)
          refine un (a1 rfl ?_)
          refine dnil ?_
          refine Sv.cond (b := decide ((clerestoryref4_Taken v_).Kind = 5)) rfl (fun hc7 => ?_) (fun hc7 => ?_)
          · replace h := ifT hc7 h
            refine Sv.seq ?_
            refine Sv.region ?_
            refine un (a1 (v := (.c (.ref 0 3 0 2))) rfl ?_)
            refine un (a1 (v := (S ((clerestoryref4_Taken v_).S))) rfl ?_)
            obtain ⟨r_3, hx2, h⟩ := bnd h
            refine un (a1 (v := (S r_3)) (s_cat rfl rfl hx2) ?_)
            obtain ⟨r_4, hx3, h⟩ := bnd h
            refine un (a1 (v := (S r_4)) (s_cat rfl rfl hx3) ?_)
            refine un (a1 rfl ?_)
            refine dnil ?_
            refine Sv.ret ?_
            replace h := Option.some.inj h
            subst h
            exact ⟨_, .refl _, _, rfl, ⟨upd (fun _ => none) 0 (some (S r_4)), (fun _ => none), 0⟩, (S r_4), weak_canon [] rfl List.nodup_nil (Nat.le_refl _) (fun b h => absurd h (Nat.not_lt_zero _)) (.cons rfl (avAs_free rfl) .nil) .nil, rfl, rfl, rfl, rfl⟩
          · replace h := ifF hc7 h
            refine Sv.skip ?_
            refine Sv.seq ?_
            refine Sv.region ?_
            refine un (a1 rfl ?_)
            refine dnil ?_
            refine Sv.ret ?_
            replace h := Option.some.inj h
            subst h
            exact ⟨_, .refl _, _, rfl, ⟨upd (fun _ => none) 0 (some (S [110, 117, 108, 108])), (fun _ => none), 0⟩, (S [110, 117, 108, 108]), weak_canon [] rfl List.nodup_nil (Nat.le_refl _) (fun b h => absurd h (Nat.not_lt_zero _)) (.cons rfl (avAs_free rfl) .nil) .nil, rfl, rfl, rfl, rfl⟩
def a4_c0 : ACode := .ret
def a4 : AFunc := ⟨2, [(.tmp 4)], (.seq (.region [⟨(some 2), (.box (.tmp 0)), none⟩, ⟨(some 3), (.box (.tmp 1)), none⟩, ⟨(some 4), (.mov (.const (.c (.val (.bool false))))), none⟩])
 (.seq (.region [⟨(some 7), (.load true 3 (.tmp 2)), none⟩, ⟨(some 8), (.call 10 [(.tmp 7)]), none⟩, ⟨(some 5), (.box (.const (.agg [(.val (.int .i64 0)), (.val (.int .i64 0)), (.str [])]))), none⟩, ⟨none, (.store 3 (.tmp 5) (.tmp 8)), none⟩])
 (.seq (.region [⟨(some 9), (.bslice 1 [(.str [])] 6 [(0, (.const (.c (.str [110, 117, 108, 108])))), (1, (.const (.c (.str [98, 111, 111, 108])))), (2, (.const (.c (.str [110, 117, 109, 98, 101, 114])))), (3, (.const (.c (.str [116, 101, 120, 116])))), (4, (.const (.c (.str [114, 101, 102])))), (5, (.const (.c (.str [99, 97, 108, 108]))))]), none⟩, ⟨(some 6), (.mov (.tmp 9)), none⟩])
 (.seq (.drawn (.fin [(⟨(some 10), (.load true 3 (.tmp 2)), none⟩, (0, 0)), (⟨(some 12), (.load true 3 (.tmp 2)), none⟩, (0, 2)), (⟨(some 11), (.call 11 [(.tmp 10)]), none⟩, (1, 1)), (⟨(some 13), (.call 12 [(.tmp 12)]), none⟩, (1, 3)), (⟨(some 14), (.eqs false false [.b] (.tmp 11) (.tmp 13)), none⟩, (0, 4)), (⟨(some 15), (.mov (.tmp 14)), none⟩, (0, 5)), (⟨(some 16), (.load true 3 (.tmp 2)), (some (15, true))⟩, (0, 6)), (⟨(some 18), (.load true 3 (.tmp 2)), (some (15, true))⟩, (0, 8)), (⟨(some 17), (.call 13 [(.tmp 16)]), (some (15, true))⟩, (1, 7)), (⟨(some 19), (.call 14 [(.tmp 18)]), (some (15, true))⟩, (1, 9)), (⟨(some 20), (.eqs false false [.b] (.tmp 17) (.tmp 19)), (some (15, true))⟩, (0, 10)), (⟨(some 21), (.pick (.tmp 15) (.tmp 20) (.const (.c (.val (.bool false))))), none⟩, (0, 11)), (⟨(some 22), (.mov (.tmp 21)), none⟩, (0, 12)), (⟨(some 23), (.load true 3 (.tmp 2)), (some (22, true))⟩, (0, 13)), (⟨(some 24), (.load true 3 (.tmp 3)), (some (22, true))⟩, (0, 14)), (⟨(some 26), (.load true 3 (.tmp 5)), (some (22, true))⟩, (0, 16)), (⟨(some 27), (.load true 3 (.tmp 3)), (some (22, true))⟩, (0, 17)), (⟨(some 25), (.call 15 [(.tmp 23), (.tmp 24)]), (some (22, true))⟩, (1, 15)), (⟨(some 28), (.call 10 [(.tmp 27)]), (some (22, true))⟩, (1, 18)), (⟨(some 29), (.eqs false true [.i, .i, .s] (.tmp 26) (.tmp 28)), (some (22, true))⟩, (0, 19)), (⟨(some 30), (.eqs false false [.b] (.tmp 25) (.tmp 29)), (some (22, true))⟩, (0, 20)), (⟨(some 31), (.pick (.tmp 22) (.tmp 30) (.const (.c (.val (.bool false))))), none⟩, (0, 21)), (⟨(some 32), (.mov (.tmp 31)), none⟩, (0, 22)), (⟨(some 33), (.load true 3 (.tmp 2)), (some (32, true))⟩, (0, 23)), (⟨(some 35), (.mov (.tmp 6)), (some (32, true))⟩, (0, 25)), (⟨(some 36), (.faddr 0 (.tmp 5)), (some (32, true))⟩, (0, 26)), (⟨(some 37), (.load false 1 (.tmp 36)), (some (32, true))⟩, (0, 27)), (⟨(some 38), (.iaddr 1 (.tmp 35) (.tmp 37)), (some (32, true))⟩, (0, 28)), (⟨(some 39), (.load false 1 (.tmp 38)), (some (32, true))⟩, (0, 29)), (⟨(some 34), (.call 16 [(.tmp 33)]), (some (32, true))⟩, (1, 24)), (⟨(some 40), (.bin .eql (.tmp 34) (.tmp 39)), (some (32, true))⟩, (0, 30)), (⟨(some 41), (.pick (.tmp 32) (.tmp 40) (.const (.c (.val (.bool false))))), none⟩, (0, 31)), (⟨(some 42), (.mov (.tmp 41)), none⟩, (0, 32)), (⟨(some 43), (.load true 3 (.tmp 2)), (some (42, true))⟩, (0, 33)), (⟨(some 45), (.load true 3 (.tmp 2)), (some (42, true))⟩, (0, 35)), (⟨(some 44), (.call 17 [(.tmp 43)]), (some (42, true))⟩, (1, 34)), (⟨(some 46), (.call 18 [(.tmp 45)]), (some (42, true))⟩, (1, 36)), (⟨(some 47), (.bin .eql (.tmp 44) (.tmp 46)), (some (42, true))⟩, (0, 37)), (⟨(some 48), (.pick (.tmp 42) (.tmp 47) (.const (.c (.val (.bool false))))), none⟩, (0, 38)), (⟨(some 4), (.mov (.tmp 48)), none⟩, (0, 39))]))
 a4_c0))))⟩
set_option maxRecDepth 100000 in
theorem c4 : compFunc Tryd.prog 4 = some a4 := by kernel_rfl
def clerestorylaw4_ValueSays_post (r : Bool) : AV → Heap → Nat → Prop := fun v h' n' => v = (B r) ∧ (h' = (fun _ => none)) ∧ n' = 0
def clerestorylaw4_ValueSays_t0 : List (List UInt8) := [[110, 117, 108, 108], [98, 111, 111, 108], [110, 117, 109, 98, 101, 114], [116, 101, 120, 116], [114, 101, 102], [99, 97, 108, 108]]
noncomputable def clerestorylaw4_ValueSays_j1 (v4 : Bool) : Option Bool :=
  some v4
theorem clerestorylaw4_ValueSays_j1_ok {v4 : Bool} {o : Bool} (h : clerestorylaw4_ValueSays_j1 v4 = some o) :
    Sv Tryd.prog GG 0 a4_c0 (Ends a4.results 0 (clerestorylaw4_ValueSays_post o)) ⟨(upd (fun _ => none) 4 (some (B v4))), (fun _ => none), 0⟩ := by
  unfold clerestorylaw4_ValueSays_j1 at h
  refine Sv.ret ?_
  replace h := Option.some.inj h
  subst h
  exact ⟨_, .refl _, _, rfl, ⟨upd (fun _ => none) 0 (some (B v4)), (fun _ => none), 0⟩, (B v4), weak_canon [] rfl List.nodup_nil (Nat.le_refl _) (fun b h => absurd h (Nat.not_lt_zero _)) (.cons rfl (avAs_free rfl) .nil) .nil, rfl, rfl, rfl, rfl⟩
/-- clerestory/clerestorylaw4.ValueSays -/
noncomputable def clerestorylaw4_ValueSays (a_ : TJVal) (b_ : TJVal) : Option Bool :=
  if (((((value_Check a_) == (clerestoryref4_ValueRight a_)) && true) && (((value_Truth a_) == (clerestoryref4_IsTrue a_)) && true)) && (((value_Same a_ b_) == (decide ((clerestoryref4_Taken a_).Kind = (clerestoryref4_Taken b_).Kind) && (decide ((clerestoryref4_Taken a_).N = (clerestoryref4_Taken b_).N) && (decide ((clerestoryref4_Taken a_).S = (clerestoryref4_Taken b_).S) && true)))) && true)) then
    (at? clerestorylaw4_ValueSays_t0 ((clerestoryref4_Taken a_).Kind)).bind fun x_ =>
    (value_Kind a_).bind fun r_ =>
    if decide (r_ = x_) then
      (value_Text a_).bind fun r_1 =>
      (clerestoryref4_Shown a_).bind fun r_2 =>
      clerestorylaw4_ValueSays_j1 (decide (r_1 = r_2))
    else
      clerestorylaw4_ValueSays_j1 false
  else
    clerestorylaw4_ValueSays_j1 false
theorem clerestorylaw4_ValueSays_ok {a_ : TJVal} {b_ : TJVal} {r : Bool} (h : clerestorylaw4_ValueSays a_ b_ = some r) : CPure Tryd.prog GG 4 [(.agg [cI a_.Kind, cI a_.N, .str a_.S]), (.agg [cI b_.Kind, cI b_.N, .str b_.S])] (B r) := by
  refine acalls_of_sv hmix c4 (R := clerestorylaw4_ValueSays_post r) ?_
  unfold clerestorylaw4_ValueSays at h
  refine Sv.seq ?_
  refine Sv.region ?_
  refine un (a2v (v := (.c (.ref 0 3 0 0))) (h' := upd _ 0 (some (.cells 3 [[cI a_.Kind, cI a_.N, .str a_.S]]))) (n' := 1) rfl rfl (fun h => by cases h) ?_)
  refine un (a2v (v := (.c (.ref 1 3 0 0))) (h' := upd _ 1 (some (.cells 3 [[cI b_.Kind, cI b_.N, .str b_.S]]))) (n' := 2) rfl rfl (fun h => by cases h) ?_)
  refine un (a1 rfl ?_)
  refine dnil ?_
  refine Sv.seq ?_
  refine Sv.region ?_
  refine un (a1 (v := (.agg [cI a_.Kind, cI a_.N, .str a_.S])) rfl ?_)
  refine un (ac_pure (clerestoryref4_Taken_ok a_) rfl rfl rfl ?_)
  refine un (a2v (v := (.c (.ref 2 3 0 0))) (h' := upd _ 2 (some (.cells 3 [[cI 0, cI 0, .str []]]))) (n' := 3) rfl rfl (fun h => by cases h) ?_)
  refine un (a2n (h' := upd _ 2 (some (.cells 3 [[cI ((clerestoryref4_Taken a_).Kind), cI ((clerestoryref4_Taken a_).N), .str ((clerestoryref4_Taken a_).S)]]))) (n' := 3) rfl rfl (fun h => by cases h) ?_)
  refine dnil ?_
  refine Sv.seq ?_
  refine Sv.region ?_
  refine un (a2v (v := (lstV false 3 1 clerestorylaw4_ValueSays_t0.length)) (h' := upd _ 3 (lstB false 1 (clerestorylaw4_ValueSays_t0.map eStr))) (n' := 4) rfl rfl (fun h => by cases h) ?_)
  refine un (a1 rfl ?_)
  refine dnil ?_
  refine Sv.seq ?_
  refine Sv.drawn ?_
  refine un (a1 (v := (.agg [cI a_.Kind, cI a_.N, .str a_.S])) rfl ?_)
  refine un (a1 (v := (.agg [cI a_.Kind, cI a_.N, .str a_.S])) rfl ?_)
  refine un (ac_pure (value_Check_ok a_) rfl rfl rfl ?_)
  refine un (ac_pure (clerestoryref4_ValueRight_ok a_) rfl rfl rfl ?_)
  refine un (a1 (v := (B (((value_Check a_) == (clerestoryref4_ValueRight a_)) && true))) rfl ?_)
  refine un (a1 rfl ?_)
  refine gjoin 6 (d := 21) (v := (B ((((value_Check a_) == (clerestoryref4_ValueRight a_)) && true) && (((value_Truth a_) == (clerestoryref4_IsTrue a_)) && true)))) (fun X hX => ?_) ?_
  · refine split2 (fun hc1 => ?_) (fun hc1 => ?_)
    · refine gt rfl (a1 (v := (.agg [cI a_.Kind, cI a_.N, .str a_.S])) rfl ?_)
      refine gt rfl (a1 (v := (.agg [cI a_.Kind, cI a_.N, .str a_.S])) rfl ?_)
      refine gt rfl (ac_pure (value_Truth_ok a_) rfl rfl rfl ?_)
      refine gt rfl (ac_pure (clerestoryref4_IsTrue_ok a_) rfl rfl rfl ?_)
      refine gt rfl (a1 (v := (B (((value_Truth a_) == (clerestoryref4_IsTrue a_)) && true))) rfl ?_)
      refine un (a1 (v := (B (((value_Truth a_) == (clerestoryref4_IsTrue a_)) && true))) rfl ?_)
      refine dnil ?_
      exact hX _ (.putEq (by rw [hc1]; rfl) (.skip _ _ (.skip _ _ (.skip _ _ (.skip _ _ (.skip _ _ (.putEq (by rw [hc1]) (.refl _)) rfl) rfl) rfl) rfl) rfl))
    · refine gs rfl rfl ?_
      refine gs rfl rfl ?_
      refine gs rfl rfl ?_
      refine gs rfl rfl ?_
      refine gs rfl rfl ?_
      refine un (a1 (v := (B false)) rfl ?_)
      refine dnil ?_
      exact hX _ (.putEq (by rw [hc1]; rfl) (.skip _ _ (.skip _ _ (.skip _ _ (.skip _ _ (.skip _ _ (.putEq (by rw [hc1]) (.refl _)) rfl) rfl) rfl) rfl) rfl))
  refine un (a1 rfl ?_)
  refine gjoin 9 (d := 31) (v := (B (((((value_Check a_) == (clerestoryref4_ValueRight a_)) && true) && (((value_Truth a_) == (clerestoryref4_IsTrue a_)) && true)) && (((value_Same a_ b_) == (decide ((clerestoryref4_Taken a_).Kind = (clerestoryref4_Taken b_).Kind) && (decide ((clerestoryref4_Taken a_).N = (clerestoryref4_Taken b_).N) && (decide ((clerestoryref4_Taken a_).S = (clerestoryref4_Taken b_).S) && true)))) && true)))) (fun X hX => ?_) ?_
  · refine split2 (fun hc2 => ?_) (fun hc2 => ?_)
    · refine gt rfl (a1 (v := (.agg [cI a_.Kind, cI a_.N, .str a_.S])) rfl ?_)
      refine gt rfl (a1 (v := (.agg [cI b_.Kind, cI b_.N, .str b_.S])) rfl ?_)
      refine gt rfl (a1 (v := (.agg [cI ((clerestoryref4_Taken a_).Kind), cI ((clerestoryref4_Taken a_).N), .str ((clerestoryref4_Taken a_).S)])) rfl ?_)
      refine gt rfl (a1 (v := (.agg [cI b_.Kind, cI b_.N, .str b_.S])) rfl ?_)
      refine gt rfl (ac_pure (value_Same_ok a_ b_) rfl rfl rfl ?_)
      refine gt rfl (ac_pure (clerestoryref4_Taken_ok b_) rfl rfl rfl ?_)
      refine gt rfl (a1 (v := (B (decide ((clerestoryref4_Taken a_).Kind = (clerestoryref4_Taken b_).Kind) && (decide ((clerestoryref4_Taken a_).N = (clerestoryref4_Taken b_).N) && (decide ((clerestoryref4_Taken a_).S = (clerestoryref4_Taken b_).S) && true))))) rfl ?_)
      refine gt rfl (a1 (v := (B (((value_Same a_ b_) == (decide ((clerestoryref4_Taken a_).Kind = (clerestoryref4_Taken b_).Kind) && (decide ((clerestoryref4_Taken a_).N = (clerestoryref4_Taken b_).N) && (decide ((clerestoryref4_Taken a_).S = (clerestoryref4_Taken b_).S) && true)))) && true))) rfl ?_)
      refine un (a1 (v := (B (((value_Same a_ b_) == (decide ((clerestoryref4_Taken a_).Kind = (clerestoryref4_Taken b_).Kind) && (decide ((clerestoryref4_Taken a_).N = (clerestoryref4_Taken b_).N) && (decide ((clerestoryref4_Taken a_).S = (clerestoryref4_Taken b_).S) && true)))) && true))) rfl ?_)
      refine dnil ?_
      exact hX _ (.putEq (by rw [hc2]; rfl) (.skip _ _ (.skip _ _ (.skip _ _ (.skip _ _ (.skip _ _ (.skip _ _ (.skip _ _ (.skip _ _ (.putEq (by rw [hc2]) (.refl _)) rfl) rfl) rfl) rfl) rfl) rfl) rfl) rfl))
    · refine gs rfl rfl ?_
      refine gs rfl rfl ?_
      refine gs rfl rfl ?_
      refine gs rfl rfl ?_
      refine gs rfl rfl ?_
      refine gs rfl rfl ?_
      refine gs rfl rfl ?_
      refine gs rfl rfl ?_
      refine un (a1 (v := (B false)) rfl ?_)
      refine dnil ?_
      exact hX _ (.putEq (by rw [hc2]; rfl) (.skip _ _ (.skip _ _ (.skip _ _ (.skip _ _ (.skip _ _ (.skip _ _ (.skip _ _ (.skip _ _ (.putEq (by rw [hc2]) (.refl _)) rfl) rfl) rfl) rfl) rfl) rfl) rfl) rfl))
  refine un (a1 rfl ?_)
  refine split2 (fun hc3 => ?_) (fun hc3 => ?_)
  · replace h := ifT hc3 h
    refine gt rfl (a1 (v := (.agg [cI a_.Kind, cI a_.N, .str a_.S])) rfl ?_)
    refine gt rfl (a1 rfl ?_)
    refine gt rfl (a1 (v := (.c (.ref 2 3 0 0))) rfl ?_)
    refine gt rfl (a1 (v := (I ((clerestoryref4_Taken a_).Kind))) rfl ?_)
    obtain ⟨x_, hx1, h⟩ := bnd h
    refine gt rfl (a1 (v := (.c (.ref 3 1 ((clerestoryref4_Taken a_).Kind).toNat 0))) (s_iaddrL rfl rfl (fun h => by cases h) hx1) ?_)
    refine gt rfl (a1 (v := (S x_)) (s_loadL (z := false) (e := eStr) rfl rfl (fun h => by cases h) hx1 rfl rfl) ?_)
    obtain ⟨r_, hr1, h⟩ := bnd h
    refine gt rfl (ac_pure (value_Kind_ok hr1) rfl rfl rfl ?_)
    refine gt rfl (a1 (v := (B (decide (r_ = x_)))) rfl ?_)
    refine un (a1 (v := (B (decide (r_ = x_)))) rfl ?_)
    refine un (a1 rfl ?_)
    refine split2 (fun hc4 => ?_) (fun hc4 => ?_)
    · replace h := ifT hc4 h
      refine gt rfl (a1 (v := (.agg [cI a_.Kind, cI a_.N, .str a_.S])) rfl ?_)
      refine gt rfl (a1 (v := (.agg [cI a_.Kind, cI a_.N, .str a_.S])) rfl ?_)
      obtain ⟨r_1, hr2, h⟩ := bnd h
      refine gt rfl (ac_pure (value_Text_ok hr2) rfl rfl rfl ?_)
      obtain ⟨r_2, hr3, h⟩ := bnd h
      refine gt rfl (ac_pure (clerestoryref4_Shown_ok hr3) rfl rfl rfl ?_)
      refine gt rfl (a1 (v := (B (decide (r_1 = r_2)))) rfl ?_)
      refine un (a1 (v := (B (decide (r_1 = r_2)))) rfl ?_)
      refine un (a1 rfl ?_)
      refine dnil ?_
      exact Sv.weak (weak_canon [] rfl (by decide) (by decide) (fun b h => absurd h (Nat.not_lt_zero _)) (.cons rfl (avAs_free rfl) .nil) .nil) (clerestorylaw4_ValueSays_j1_ok h)
    · replace h := ifF hc4 h
      refine gs rfl rfl ?_
      refine gs rfl rfl ?_
      refine gs rfl rfl ?_
      refine gs rfl rfl ?_
      refine gs rfl rfl ?_
      refine un (a1 (v := (B false)) rfl ?_)
      refine un (a1 rfl ?_)
      refine dnil ?_
      exact Sv.weak (weak_canon [] rfl (by decide) (by decide) (fun b h => absurd h (Nat.not_lt_zero _)) (.cons rfl (avAs_free rfl) .nil) .nil) (clerestorylaw4_ValueSays_j1_ok h)
  · replace h := ifF hc3 h
    refine gs rfl rfl ?_
    refine gs rfl rfl ?_
    refine gs rfl rfl ?_
    refine gs rfl rfl ?_
    refine gs rfl rfl ?_
    refine gs rfl rfl ?_
    refine gs rfl rfl ?_
    refine gs rfl rfl ?_
    refine un (a1 (v := (B false)) rfl ?_)
    refine un (a1 rfl ?_)
    refine gs rfl rfl ?_
    refine gs rfl rfl ?_
    refine gs rfl rfl ?_
    refine gs rfl rfl ?_
    refine gs rfl rfl ?_
    refine un (a1 (v := (B false)) rfl ?_)
    refine un (a1 rfl ?_)
    refine dnil ?_
    exact Sv.weak (weak_canon [] rfl (by decide) (by decide) (fun b h => absurd h (Nat.not_lt_zero _)) (.cons rfl (avAs_free rfl) .nil) .nil) (clerestorylaw4_ValueSays_j1_ok h)
end Go.Proofs.YtgfcmhomndofaaaDoorBv
