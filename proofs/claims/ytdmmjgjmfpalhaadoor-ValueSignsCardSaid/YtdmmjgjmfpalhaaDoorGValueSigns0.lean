/- Printed by a program of mine (bgen.py): plain functions, and the walks that show that the code comes to what they answer. -/
import Derived.Test.YtdmmjgjmfpalhaaDoorRows
import Derived.Test.YtdmmjgjmfpalhaaDoorBv22
import Derived.Test.YtdmmjgjmfpalhaaDoorBv26
import Derived.Test.YtdmmjgjmfpalhaaDoorShelf
namespace Go.Proofs.YtdmmjgjmfpalhaaDoorBv
open Go
set_option linter.unusedVariables false
set_option maxRecDepth 100000
theorem hmix : Tryd.prog.follows .mixedOrders = true := by kernel_rfl
structure TJVal where
  Kind : Int
  N : Int
  S : (List UInt8)
def e_TJVal (x : TJVal) : List Cel := [cI x.Kind, cI x.N, .str x.S]
def g5_c : List Cel := [.val (.int .u64 1), .val (.int .u64 10), .val (.int .u64 100), .val (.int .u64 1000), .val (.int .u64 10000), .val (.int .u64 100000), .val (.int .u64 1000000), .val (.int .u64 10000000), .val (.int .u64 100000000), .val (.int .u64 1000000000), .val (.int .u64 10000000000), .val (.int .u64 100000000000), .val (.int .u64 1000000000000), .val (.int .u64 10000000000000), .val (.int .u64 100000000000000), .val (.int .u64 1000000000000000), .val (.int .u64 10000000000000000), .val (.int .u64 100000000000000000), .val (.int .u64 1000000000000000000), .val (.int .u64 10000000000000000000)]
def g8_c : List Cel := [.val (.int .u8 0), .val (.int .u8 1), .val (.int .u8 28), .val (.int .u8 2), .val (.int .u8 29), .val (.int .u8 14), .val (.int .u8 24), .val (.int .u8 3), .val (.int .u8 30), .val (.int .u8 22), .val (.int .u8 20), .val (.int .u8 15), .val (.int .u8 25), .val (.int .u8 17), .val (.int .u8 4), .val (.int .u8 8), .val (.int .u8 31), .val (.int .u8 27), .val (.int .u8 13), .val (.int .u8 23), .val (.int .u8 21), .val (.int .u8 19), .val (.int .u8 16), .val (.int .u8 7), .val (.int .u8 26), .val (.int .u8 12), .val (.int .u8 18), .val (.int .u8 6), .val (.int .u8 11), .val (.int .u8 5), .val (.int .u8 10), .val (.int .u8 9)]
def g9_c : List Cel := [.val (.int .u8 0), .val (.int .u8 1), .val (.int .u8 56), .val (.int .u8 2), .val (.int .u8 57), .val (.int .u8 49), .val (.int .u8 28), .val (.int .u8 3), .val (.int .u8 61), .val (.int .u8 58), .val (.int .u8 42), .val (.int .u8 50), .val (.int .u8 38), .val (.int .u8 29), .val (.int .u8 17), .val (.int .u8 4), .val (.int .u8 62), .val (.int .u8 47), .val (.int .u8 59), .val (.int .u8 36), .val (.int .u8 45), .val (.int .u8 43), .val (.int .u8 51), .val (.int .u8 22), .val (.int .u8 53), .val (.int .u8 39), .val (.int .u8 33), .val (.int .u8 30), .val (.int .u8 24), .val (.int .u8 18), .val (.int .u8 12), .val (.int .u8 5), .val (.int .u8 63), .val (.int .u8 55), .val (.int .u8 48), .val (.int .u8 27), .val (.int .u8 60), .val (.int .u8 41), .val (.int .u8 37), .val (.int .u8 16), .val (.int .u8 46), .val (.int .u8 35), .val (.int .u8 44), .val (.int .u8 21), .val (.int .u8 52), .val (.int .u8 32), .val (.int .u8 23), .val (.int .u8 11), .val (.int .u8 54), .val (.int .u8 26), .val (.int .u8 40), .val (.int .u8 15), .val (.int .u8 34), .val (.int .u8 20), .val (.int .u8 31), .val (.int .u8 10), .val (.int .u8 25), .val (.int .u8 14), .val (.int .u8 19), .val (.int .u8 9), .val (.int .u8 13), .val (.int .u8 8), .val (.int .u8 7), .val (.int .u8 6)]
/-- what the listed package variables hold -/
def GG : Glob := fun g => if g = 5 then g5_c else if g = 8 then g8_c else if g = 9 then g9_c else []
def a91 : AFunc := ⟨3, [(.tmp 6)], (.seq (.region [⟨(some 6), (.mov (.const (.c (.val (.bool false))))), none⟩])
 (.seq (.region [⟨(some 7), (.mov (.tmp 0)), none⟩, ⟨(some 8), (.mov (.tmp 1)), none⟩, ⟨(some 9), (.bin .geq (.tmp 7) (.tmp 8)), none⟩, ⟨(some 10), (.mov (.tmp 9)), none⟩, ⟨(some 11), (.mov (.tmp 0)), (some (10, true))⟩, ⟨(some 12), (.mov (.tmp 2)), (some (10, true))⟩, ⟨(some 13), (.bin .leq (.tmp 11) (.tmp 12)), (some (10, true))⟩, ⟨(some 14), (.pick (.tmp 10) (.tmp 13) (.const (.c (.val (.bool false))))), none⟩, ⟨(some 6), (.mov (.tmp 14)), none⟩])
 .ret))⟩
set_option maxRecDepth 100000 in
theorem c91 : compFunc Tryd.prog 91 = some a91 := by kernel_rfl
def value_within_post (r : Bool) : AV → Heap → Nat → Prop := fun v h' n' => v = (B r) ∧ (h' = (fun _ => none)) ∧ n' = 0
/-- clerestory/value.within -/
def value_within (n_ : Int) (low : Int) (high : Int) : Bool :=
  ((decide (low ≤ n_)) && (decide (n_ ≤ high)))
theorem value_within_ok (n_ : Int) (low : Int) (high : Int) : CPure Tryd.prog GG 91 [(I n_), (I low), (I high)] (B (value_within n_ low high)) := by
  generalize h : value_within n_ low high = o
  refine acalls_of_sv hmix c91 (R := value_within_post o) ?_
  unfold value_within at h
  refine Sv.seq ?_
  refine Sv.region ?_
  refine un (a1 rfl ?_)
  refine dnil ?_
  refine Sv.seq ?_
  refine Sv.region ?_
  refine un (a1 rfl ?_)
  refine un (a1 rfl ?_)
  refine un (a1 (v := (B (decide (low ≤ n_)))) rfl ?_)
  refine un (a1 rfl ?_)
  refine gjoin 4 (d := 14) (v := (B ((decide (low ≤ n_)) && (decide (n_ ≤ high))))) (fun X hX => ?_) ?_
  · refine split2 (fun hc1 => ?_) (fun hc1 => ?_)
    · refine gt rfl (a1 rfl ?_)
      refine gt rfl (a1 rfl ?_)
      refine gt rfl (a1 (v := (B (decide (n_ ≤ high)))) rfl ?_)
      refine un (a1 (v := (B (decide (n_ ≤ high)))) rfl ?_)
      refine dnil ?_
      exact hX _ (.putEq (by rw [hc1]; rfl) (.skip _ _ (.skip _ _ (.skip _ _ (.putEq (by rw [hc1]) (.refl _)) rfl) rfl) rfl))
    · refine gs rfl rfl ?_
      refine gs rfl rfl ?_
      refine gs rfl rfl ?_
      refine un (a1 (v := (B false)) rfl ?_)
      refine dnil ?_
      exact hX _ (.putEq (by rw [hc1]; rfl) (.skip _ _ (.skip _ _ (.skip _ _ (.putEq (by rw [hc1]) (.refl _)) rfl) rfl) rfl))
  refine un (a1 rfl ?_)
  refine dnil ?_
  refine Sv.ret ?_
  subst h
  exact ⟨_, .refl _, _, rfl, ⟨upd (fun _ => none) 0 (some (B ((decide (low ≤ n_)) && (decide (n_ ≤ high))))), (fun _ => none), 0⟩, (B ((decide (low ≤ n_)) && (decide (n_ ≤ high)))), weak_canon [] rfl List.nodup_nil (Nat.le_refl _) (fun b h => absurd h (Nat.not_lt_zero _)) (.cons rfl (avAs_free rfl) .nil) .nil, rfl, rfl, rfl, rfl⟩
def a90 : AFunc := ⟨1, [(.tmp 2)], (.seq (.region [⟨(some 1), (.box (.tmp 0)), none⟩, ⟨(some 2), (.mov (.const (.c (.val (.bool false))))), none⟩])
 (.seq (.seq (.region [⟨(some 3), (.faddr 0 (.tmp 1)), none⟩, ⟨(some 4), (.load false 1 (.tmp 3)), none⟩])
 (.block 0 (.seq (.region [⟨(some 6), (.bin .eql (.tmp 4) (.const (.c (.val (.int .i64 0))))), none⟩, ⟨(some 5), (.mov (.tmp 6)), none⟩])
 (.cond (.tmp 5) (.seq (.region [⟨(some 7), (.faddr 1 (.tmp 1)), none⟩, ⟨(some 8), (.load false 1 (.tmp 7)), none⟩, ⟨(some 9), (.bin .eql (.tmp 8) (.const (.c (.val (.int .i64 0))))), none⟩, ⟨(some 10), (.mov (.tmp 9)), none⟩, ⟨(some 11), (.faddr 2 (.tmp 1)), (some (10, true))⟩, ⟨(some 12), (.load false 1 (.tmp 11)), (some (10, true))⟩, ⟨(some 13), (.bin .eql (.tmp 12) (.const (.c (.str [])))), (some (10, true))⟩, ⟨(some 14), (.pick (.tmp 10) (.tmp 13) (.const (.c (.val (.bool false))))), none⟩, ⟨(some 2), (.mov (.tmp 14)), none⟩])
 .ret) (.seq (.region [⟨(some 16), (.bin .eql (.tmp 4) (.const (.c (.val (.int .i64 1))))), none⟩, ⟨(some 15), (.mov (.tmp 16)), none⟩])
 (.cond (.tmp 15) (.seq (.region [⟨(some 17), (.faddr 1 (.tmp 1)), none⟩, ⟨(some 18), (.load false 1 (.tmp 17)), none⟩, ⟨(some 19), (.call 91 [(.tmp 18), (.const (.c (.val (.int .i64 0)))), (.const (.c (.val (.int .i64 1))))]), none⟩, ⟨(some 20), (.mov (.tmp 19)), none⟩, ⟨(some 21), (.faddr 2 (.tmp 1)), (some (20, true))⟩, ⟨(some 22), (.load false 1 (.tmp 21)), (some (20, true))⟩, ⟨(some 23), (.bin .eql (.tmp 22) (.const (.c (.str [])))), (some (20, true))⟩, ⟨(some 24), (.pick (.tmp 20) (.tmp 23) (.const (.c (.val (.bool false))))), none⟩, ⟨(some 2), (.mov (.tmp 24)), none⟩])
 .ret) (.seq (.region [⟨(some 26), (.bin .eql (.tmp 4) (.const (.c (.val (.int .i64 2))))), none⟩, ⟨(some 25), (.mov (.tmp 26)), none⟩])
 (.cond (.tmp 25) (.seq (.region [⟨(some 27), (.faddr 1 (.tmp 1)), none⟩, ⟨(some 28), (.load false 1 (.tmp 27)), none⟩, ⟨(some 29), (.call 91 [(.tmp 28), (.const (.c (.val (.int .i64 (-9007199254740992))))), (.const (.c (.val (.int .i64 9007199254740992))))]), none⟩, ⟨(some 30), (.mov (.tmp 29)), none⟩, ⟨(some 31), (.faddr 2 (.tmp 1)), (some (30, true))⟩, ⟨(some 32), (.load false 1 (.tmp 31)), (some (30, true))⟩, ⟨(some 33), (.bin .eql (.tmp 32) (.const (.c (.str [])))), (some (30, true))⟩, ⟨(some 34), (.pick (.tmp 30) (.tmp 33) (.const (.c (.val (.bool false))))), none⟩, ⟨(some 2), (.mov (.tmp 34)), none⟩])
 .ret) (.seq (.region [⟨(some 36), (.bin .eql (.tmp 4) (.const (.c (.val (.int .i64 3))))), none⟩, ⟨(some 35), (.mov (.tmp 36)), none⟩])
 (.cond (.tmp 35) (.seq (.region [⟨(some 37), (.faddr 2 (.tmp 1)), none⟩, ⟨(some 38), (.load false 1 (.tmp 37)), none⟩, ⟨(some 39), (.lenS (.tmp 38)), none⟩, ⟨(some 40), (.bin .leq (.tmp 39) (.const (.c (.val (.int .i64 2000))))), none⟩, ⟨(some 41), (.mov (.tmp 40)), none⟩, ⟨(some 42), (.faddr 1 (.tmp 1)), (some (41, true))⟩, ⟨(some 43), (.load false 1 (.tmp 42)), (some (41, true))⟩, ⟨(some 44), (.bin .eql (.tmp 43) (.const (.c (.val (.int .i64 0))))), (some (41, true))⟩, ⟨(some 45), (.pick (.tmp 41) (.tmp 44) (.const (.c (.val (.bool false))))), none⟩, ⟨(some 2), (.mov (.tmp 45)), none⟩])
 .ret) (.seq (.region [⟨(some 47), (.bin .eql (.tmp 4) (.const (.c (.val (.int .i64 4))))), none⟩, ⟨(some 46), (.mov (.tmp 47)), none⟩])
 (.cond (.tmp 46) (.seq (.region [⟨(some 48), (.faddr 1 (.tmp 1)), none⟩, ⟨(some 49), (.load false 1 (.tmp 48)), none⟩, ⟨(some 50), (.bin .geq (.tmp 49) (.const (.c (.val (.int .i64 0))))), none⟩, ⟨(some 51), (.mov (.tmp 50)), none⟩, ⟨(some 52), (.faddr 2 (.tmp 1)), (some (51, true))⟩, ⟨(some 53), (.load false 1 (.tmp 52)), (some (51, true))⟩, ⟨(some 54), (.bin .eql (.tmp 53) (.const (.c (.str [])))), (some (51, true))⟩, ⟨(some 55), (.pick (.tmp 51) (.tmp 54) (.const (.c (.val (.bool false))))), none⟩, ⟨(some 2), (.mov (.tmp 55)), none⟩])
 .ret) (.seq (.region [⟨(some 57), (.bin .eql (.tmp 4) (.const (.c (.val (.int .i64 5))))), none⟩, ⟨(some 56), (.mov (.tmp 57)), none⟩])
 (.cond (.tmp 56) (.seq (.region [⟨(some 58), (.faddr 1 (.tmp 1)), none⟩, ⟨(some 59), (.load false 1 (.tmp 58)), none⟩, ⟨(some 60), (.bin .eql (.tmp 59) (.const (.c (.val (.int .i64 0))))), none⟩, ⟨(some 2), (.mov (.tmp 60)), none⟩])
 .ret) .skip))))))))))))))
 (.seq (.region [⟨(some 2), (.mov (.const (.c (.val (.bool false))))), none⟩])
 .ret)))⟩
set_option maxRecDepth 100000 in
theorem c90 : compFunc Tryd.prog 90 = some a90 := by kernel_rfl
def value_Check_post (r : Bool) : AV → Heap → Nat → Prop := fun v h' n' => v = (B r) ∧ (h' = (fun _ => none)) ∧ n' = 0
/-- clerestory/value.Check -/
def value_Check (v_ : TJVal) : Bool :=
  if decide (v_.Kind = 0) then
    ((decide (v_.N = 0)) && (decide (v_.S = [])))
  else
    if decide (v_.Kind = 1) then
      ((value_within v_.N 0 1) && (decide (v_.S = [])))
    else
      if decide (v_.Kind = 2) then
        ((value_within v_.N (-9007199254740992) 9007199254740992) && (decide (v_.S = [])))
      else
        if decide (v_.Kind = 3) then
          ((decide ((v_.S.length : Int) ≤ 2000)) && (decide (v_.N = 0)))
        else
          if decide (v_.Kind = 4) then
            ((decide (0 ≤ v_.N)) && (decide (v_.S = [])))
          else
            if decide (v_.Kind = 5) then
              decide (v_.N = 0)
            else
              false
theorem value_Check_ok (v_ : TJVal) : CPure Tryd.prog GG 90 [(.agg [cI v_.Kind, cI v_.N, .str v_.S])] (B (value_Check v_)) := by
  generalize h : value_Check v_ = o
  refine acalls_of_sv hmix c90 (R := value_Check_post o) ?_
  unfold value_Check at h
  refine Sv.seq ?_
  refine Sv.region ?_
  refine un (a2v (v := (.c (.ref 0 3 0 0))) (h' := upd _ 0 (some (.cells 3 [[cI v_.Kind, cI v_.N, .str v_.S]]))) (n' := 1) rfl rfl (fun h => by cases h) ?_)
  refine un (a1 rfl ?_)
  refine dnil ?_
  refine Sv.seq ?_
  refine Sv.seq ?_
  refine Sv.region ?_
  refine un (a1 (v := (.c (.ref 0 3 0 0))) rfl ?_)
  refine un (a1 (v := (I v_.Kind)) rfl ?_)
  refine dnil ?_
  refine Sv.block ?_
  refine Sv.seq ?_
  refine Sv.region ?_
  refine un (a1 (v := (B (decide (v_.Kind = 0)))) rfl ?_)
  refine un (a1 rfl ?_)
  refine dnil ?_
  refine Sv.cond (b := decide (v_.Kind = 0)) rfl (fun hc1 => ?_) (fun hc1 => ?_)
  · replace h := ifT hc1 h
    refine Sv.seq ?_
    refine Sv.region ?_
    refine un (a1 (v := (.c (.ref 0 3 0 1))) rfl ?_)
    refine un (a1 (v := (I v_.N)) rfl ?_)
    refine un (a1 (v := (B (decide (v_.N = 0)))) rfl ?_)
    refine un (a1 rfl ?_)
    refine gjoin 4 (d := 14) (v := (B ((decide (v_.N = 0)) && (decide (v_.S = []))))) (fun X hX => ?_) ?_
    · refine split2 (fun hc2 => ?_) (fun hc2 => ?_)
      · refine gt rfl (a1 (v := (.c (.ref 0 3 0 2))) rfl ?_)
        refine gt rfl (a1 (v := (S v_.S)) rfl ?_)
        refine gt rfl (a1 (v := (B (decide (v_.S = [])))) rfl ?_)
        refine un (a1 (v := (B (decide (v_.S = [])))) rfl ?_)
        refine dnil ?_
        exact hX _ (.putEq (by rw [hc2]; rfl) (.skip _ _ (.skip _ _ (.skip _ _ (.putEq (by rw [hc2]) (.refl _)) rfl) rfl) rfl))
      · refine gs rfl rfl ?_
        refine gs rfl rfl ?_
        refine gs rfl rfl ?_
        refine un (a1 (v := (B false)) rfl ?_)
        refine dnil ?_
        exact hX _ (.putEq (by rw [hc2]; rfl) (.skip _ _ (.skip _ _ (.skip _ _ (.putEq (by rw [hc2]) (.refl _)) rfl) rfl) rfl))
    refine un (a1 rfl ?_)
    refine dnil ?_
    refine Sv.ret ?_
    subst h
    exact ⟨_, .refl _, _, rfl, ⟨upd (fun _ => none) 0 (some (B ((decide (v_.N = 0)) && (decide (v_.S = []))))), (fun _ => none), 0⟩, (B ((decide (v_.N = 0)) && (decide (v_.S = [])))), weak_canon [] rfl List.nodup_nil (Nat.le_refl _) (fun b h => absurd h (Nat.not_lt_zero _)) (.cons rfl (avAs_free rfl) .nil) .nil, rfl, rfl, rfl, rfl⟩
  · replace h := ifF hc1 h
    refine Sv.seq ?_
    refine Sv.region ?_
    refine un (a1 (v := (B (decide (v_.Kind = 1)))) rfl ?_)
    refine un (a1 rfl ?_)
    refine dnil ?_
    refine Sv.cond (b := decide (v_.Kind = 1)) rfl (fun hc3 => ?_) (fun hc3 => ?_)
    · replace h := ifT hc3 h
      refine Sv.seq ?_
      refine Sv.region ?_
      refine un (a1 (v := (.c (.ref 0 3 0 1))) rfl ?_)
      refine un (a1 (v := (I v_.N)) rfl ?_)
      refine un (ac_pure (value_within_ok v_.N 0 1) rfl rfl rfl ?_)
      refine un (a1 rfl ?_)
      refine gjoin 4 (d := 24) (v := (B ((value_within v_.N 0 1) && (decide (v_.S = []))))) (fun X hX => ?_) ?_
      · refine split2 (fun hc4 => ?_) (fun hc4 => ?_)
        · refine gt rfl (a1 (v := (.c (.ref 0 3 0 2))) rfl ?_)
          refine gt rfl (a1 (v := (S v_.S)) rfl ?_)
          refine gt rfl (a1 (v := (B (decide (v_.S = [])))) rfl ?_)
          refine un (a1 (v := (B (decide (v_.S = [])))) rfl ?_)
          refine dnil ?_
          exact hX _ (.putEq (by rw [hc4]; rfl) (.skip _ _ (.skip _ _ (.skip _ _ (.putEq (by rw [hc4]) (.refl _)) rfl) rfl) rfl))
        · refine gs rfl rfl ?_
          refine gs rfl rfl ?_
          refine gs rfl rfl ?_
          refine un (a1 (v := (B false)) rfl ?_)
          refine dnil ?_
          exact hX _ (.putEq (by rw [hc4]; rfl) (.skip _ _ (.skip _ _ (.skip _ _ (.putEq (by rw [hc4]) (.refl _)) rfl) rfl) rfl))
      refine un (a1 rfl ?_)
      refine dnil ?_
      refine Sv.ret ?_
      subst h
      exact ⟨_, .refl _, _, rfl, ⟨upd (fun _ => none) 0 (some (B ((value_within v_.N 0 1) && (decide (v_.S = []))))), (fun _ => none), 0⟩, (B ((value_within v_.N 0 1) && (decide (v_.S = [])))), weak_canon [] rfl List.nodup_nil (Nat.le_refl _) (fun b h => absurd h (Nat.not_lt_zero _)) (.cons rfl (avAs_free rfl) .nil) .nil, rfl, rfl, rfl, rfl⟩
    · replace h := ifF hc3 h
      refine Sv.seq ?_
      refine Sv.region ?_
      refine un (a1 (v := (B (decide (v_.Kind = 2)))) rfl ?_)
      refine un (a1 rfl ?_)
      refine dnil ?_
      refine Sv.cond (b := decide (v_.Kind = 2)) rfl (fun hc5 => ?_) (fun hc5 => ?_)
      · replace h := ifT hc5 h
        refine Sv.seq ?_
        refine Sv.region ?_
        refine un (a1 (v := (.c (.ref 0 3 0 1))) rfl ?_)
        refine un (a1 (v := (I v_.N)) rfl ?_)
        refine un (ac_pure (value_within_ok v_.N (-9007199254740992) 9007199254740992) rfl rfl rfl ?_)
        refine un (a1 rfl ?_)
        refine gjoin 4 (d := 34) (v := (B ((value_within v_.N (-9007199254740992) 9007199254740992) && (decide (v_.S = []))))) (fun X hX => ?_) ?_
        · refine split2 (fun hc6 => ?_) (fun hc6 => ?_)
          · refine gt rfl (a1 (v := (.c (.ref 0 3 0 2))) rfl ?_)
            refine gt rfl (a1 (v := (S v_.S)) rfl ?_)
            refine gt rfl (a1 (v := (B (decide (v_.S = [])))) rfl ?_)
            refine un (a1 (v := (B (decide (v_.S = [])))) rfl ?_)
            refine dnil ?_
            exact hX _ (.putEq (by rw [hc6]; rfl) (.skip _ _ (.skip _ _ (.skip _ _ (.putEq (by rw [hc6]) (.refl _)) rfl) rfl) rfl))
          · refine gs rfl rfl ?_
            refine gs rfl rfl ?_
            refine gs rfl rfl ?_
            refine un (a1 (v := (B false)) rfl ?_)
            refine dnil ?_
            exact hX _ (.putEq (by rw [hc6]; rfl) (.skip _ _ (.skip _ _ (.skip _ _ (.putEq (by rw [hc6]) (.refl _)) rfl) rfl) rfl))
        refine un (a1 rfl ?_)
        refine dnil ?_
        refine Sv.ret ?_
        subst h
        exact ⟨_, .refl _, _, rfl, ⟨upd (fun _ => none) 0 (some (B ((value_within v_.N (-9007199254740992) 9007199254740992) && (decide (v_.S = []))))), (fun _ => none), 0⟩, (B ((value_within v_.N (-9007199254740992) 9007199254740992) && (decide (v_.S = [])))), weak_canon [] rfl List.nodup_nil (Nat.le_refl _) (fun b h => absurd h (Nat.not_lt_zero _)) (.cons rfl (avAs_free rfl) .nil) .nil, rfl, rfl, rfl, rfl⟩
      · replace h := ifF hc5 h
        refine Sv.seq ?_
        refine Sv.region ?_
        refine un (a1 (v := (B (decide (v_.Kind = 3)))) rfl ?_)
        refine un (a1 rfl ?_)
        refine dnil ?_
        refine Sv.cond (b := decide (v_.Kind = 3)) rfl (fun hc7 => ?_) (fun hc7 => ?_)
        · replace h := ifT hc7 h
          refine Sv.seq ?_
          refine Sv.region ?_
          refine un (a1 (v := (.c (.ref 0 3 0 2))) rfl ?_)
          refine un (a1 (v := (S v_.S)) rfl ?_)
          refine un (a1 (v := (I (v_.S.length : Int))) rfl ?_)
          refine un (a1 (v := (B (decide ((v_.S.length : Int) ≤ 2000)))) rfl ?_)
          refine un (a1 rfl ?_)
          refine gjoin 4 (d := 45) (v := (B ((decide ((v_.S.length : Int) ≤ 2000)) && (decide (v_.N = 0))))) (fun X hX => ?_) ?_
          · refine split2 (fun hc8 => ?_) (fun hc8 => ?_)
            · refine gt rfl (a1 (v := (.c (.ref 0 3 0 1))) rfl ?_)
              refine gt rfl (a1 (v := (I v_.N)) rfl ?_)
              refine gt rfl (a1 (v := (B (decide (v_.N = 0)))) rfl ?_)
              refine un (a1 (v := (B (decide (v_.N = 0)))) rfl ?_)
              refine dnil ?_
              exact hX _ (.putEq (by rw [hc8]; rfl) (.skip _ _ (.skip _ _ (.skip _ _ (.putEq (by rw [hc8]) (.refl _)) rfl) rfl) rfl))
            · refine gs rfl rfl ?_
              refine gs rfl rfl ?_
              refine gs rfl rfl ?_
              refine un (a1 (v := (B false)) rfl ?_)
              refine dnil ?_
              exact hX _ (.putEq (by rw [hc8]; rfl) (.skip _ _ (.skip _ _ (.skip _ _ (.putEq (by rw [hc8]) (.refl _)) rfl) rfl) rfl))
          refine un (a1 rfl ?_)
          refine dnil ?_
          refine Sv.ret ?_
          subst h
          exact ⟨_, .refl _, _, rfl, ⟨upd (fun _ => none) 0 (some (B ((decide ((v_.S.length : Int) ≤ 2000)) && (decide (v_.N = 0))))), (fun _ => none), 0⟩, (B ((decide ((v_.S.length : Int) ≤ 2000)) && (decide (v_.N = 0)))), weak_canon [] rfl List.nodup_nil (Nat.le_refl _) (fun b h => absurd h (Nat.not_lt_zero _)) (.cons rfl (avAs_free rfl) .nil) .nil, rfl, rfl, rfl, rfl⟩
        · replace h := ifF hc7 h
          refine Sv.seq ?_
          refine Sv.region ?_
          refine un (a1 (v := (B (decide (v_.Kind = 4)))) rfl ?_)
          refine un (a1 rfl ?_)
          refine dnil ?_
          refine Sv.cond (b := decide (v_.Kind = 4)) rfl (fun hc9 => ?_) (fun hc9 => ?_)
          · replace h := ifT hc9 h
            refine Sv.seq ?_
            refine Sv.region ?_
            refine un (a1 (v := (.c (.ref 0 3 0 1))) rfl ?_)
            refine un (a1 (v := (I v_.N)) rfl ?_)
            refine un (a1 (v := (B (decide (0 ≤ v_.N)))) rfl ?_)
            refine un (a1 rfl ?_)
            refine gjoin 4 (d := 55) (v := (B ((decide (0 ≤ v_.N)) && (decide (v_.S = []))))) (fun X hX => ?_) ?_
            · refine split2 (fun hc10 => ?_) (fun hc10 => ?_)
              · refine gt rfl (a1 (v := (.c (.ref 0 3 0 2))) rfl ?_)
                refine gt rfl (a1 (v := (S v_.S)) rfl ?_)
                refine gt rfl (a1 (v := (B (decide (v_.S = [])))) rfl ?_)
                refine un (a1 (v := (B (decide (v_.S = [])))) rfl ?_)
                refine dnil ?_
                exact hX _ (.putEq (by rw [hc10]; rfl) (.skip _ _ (.skip _ _ (.skip _ _ (.putEq (by rw [hc10]) (.refl _)) rfl) rfl) rfl))
              · refine gs rfl rfl ?_
                refine gs rfl rfl ?_
                refine gs rfl rfl ?_
                refine un (a1 (v := (B false)) rfl ?_)
                refine dnil ?_
                exact hX _ (.putEq (by rw [hc10]; rfl) (.skip _ _ (.skip _ _ (.skip _ _ (.putEq (by rw [hc10]) (.refl _)) rfl) rfl) rfl))
            refine un (a1 rfl ?_)
            refine dnil ?_
            refine Sv.ret ?_
            subst h
            exact ⟨_, .refl _, _, rfl, ⟨upd (fun _ => none) 0 (some (B ((decide (0 ≤ v_.N)) && (decide (v_.S = []))))), (fun _ => none), 0⟩, (B ((decide (0 ≤ v_.N)) && (decide (v_.S = [])))), weak_canon [] rfl List.nodup_nil (Nat.le_refl _) (fun b h => absurd h (Nat.not_lt_zero _)) (.cons rfl (avAs_free rfl) .nil) .nil, rfl, rfl, rfl, rfl⟩
          · replace h := ifF hc9 h
            refine Sv.seq ?_
            refine Sv.region ?_
            refine un (a1 (v := (B (decide (v_.Kind = 5)))) rfl ?_)
            refine un (a1 rfl ?_)
            refine dnil ?_
            refine Sv.cond (b := decide (v_.Kind = 5)) rfl (fun hc11 => ?_) (fun hc11 => ?_)
            · replace h := ifT hc11 h
              refine Sv.seq ?_
              refine Sv.region ?_
              refine un (a1 (v := (.c (.ref 0 3 0 1))) rfl ?_)
              refine un (a1 (v := (I v_.N)) rfl ?_)
              refine un (a1 (v := (B (decide (v_.N = 0)))) rfl ?_)
              refine un (a1 rfl ?_)
              refine dnil ?_
              refine Sv.ret ?_
              subst h
              exact ⟨_, .refl _, _, rfl, ⟨upd (fun _ => none) 0 (some (B (decide (v_.N = 0)))), (fun _ => none), 0⟩, (B (decide (v_.N = 0))), weak_canon [] rfl List.nodup_nil (Nat.le_refl _) (fun b h => absurd h (Nat.not_lt_zero _)) (.cons rfl (avAs_free rfl) .nil) .nil, rfl, rfl, rfl, rfl⟩
            · replace h := ifF hc11 h
              refine Sv.skip ?_
              refine Sv.seq ?_
              refine Sv.region ?_
              refine un (a1 rfl ?_)
              refine dnil ?_
              refine Sv.ret ?_
              subst h
              exact ⟨_, .refl _, _, rfl, ⟨upd (fun _ => none) 0 (some (B false)), (fun _ => none), 0⟩, (B false), weak_canon [] rfl List.nodup_nil (Nat.le_refl _) (fun b h => absurd h (Nat.not_lt_zero _)) (.cons rfl (avAs_free rfl) .nil) .nil, rfl, rfl, rfl, rfl⟩
def a42 : AFunc := ⟨1, [(.cell true 3 2)], (.seq (.region [⟨(some 1), (.box (.tmp 0)), none⟩, ⟨(some 2), (.box (.const (.agg [(.val (.int .i64 0)), (.val (.int .i64 0)), (.str [])]))), none⟩])
 (.seq (.seq (.region [⟨(some 3), (.load true 3 (.tmp 1)), none⟩, ⟨(some 4), (.call 90 [(.tmp 3)]), none⟩, ⟨(some 5), (.un .not (.tmp 4)), none⟩])
 (.cond (.tmp 5) (.seq (.region [⟨(some 6), (.build [(.val (.int .i64 0)), (.val (.int .i64 0)), (.str [])] []), none⟩, ⟨none, (.store 3 (.tmp 2) (.tmp 6)), none⟩])
 .ret) .skip))
 (.seq (.region [⟨(some 7), (.load true 3 (.tmp 1)), none⟩, ⟨none, (.store 3 (.tmp 2) (.tmp 7)), none⟩])
 .ret)))⟩
set_option maxRecDepth 100000 in
theorem c42 : compFunc Tryd.prog 42 = some a42 := by kernel_rfl
def value_right_post (r : TJVal) : AV → Heap → Nat → Prop := fun v h' n' => v = (.agg [cI r.Kind, cI r.N, .str r.S]) ∧ (h' = (fun _ => none)) ∧ n' = 0
/-- clerestory/value.right -/
def value_right (v_ : TJVal) : TJVal :=
  if (!(value_Check v_)) then
    (⟨0, 0, []⟩ : TJVal)
  else
    v_
theorem value_right_ok (v_ : TJVal) : CPure Tryd.prog GG 42 [(.agg [cI v_.Kind, cI v_.N, .str v_.S])] (.agg [cI ((value_right v_).Kind), cI ((value_right v_).N), .str ((value_right v_).S)]) := by
  generalize h : value_right v_ = o
  refine acalls_of_sv hmix c42 (R := value_right_post o) ?_
  unfold value_right at h
  refine Sv.seq ?_
  refine Sv.region ?_
  refine un (a2v (v := (.c (.ref 0 3 0 0))) (h' := upd _ 0 (some (.cells 3 [[cI v_.Kind, cI v_.N, .str v_.S]]))) (n' := 1) rfl rfl (fun h => by cases h) ?_)
  refine un (a2v (v := (.c (.ref 1 3 0 0))) (h' := upd _ 1 (some (.cells 3 [[cI 0, cI 0, .str []]]))) (n' := 2) rfl rfl (fun h => by cases h) ?_)
  refine dnil ?_
  refine Sv.seq ?_
  refine Sv.seq ?_
  refine Sv.region ?_
  refine un (a1 (v := (.agg [cI v_.Kind, cI v_.N, .str v_.S])) rfl ?_)
  refine un (ac_pure (value_Check_ok v_) rfl rfl rfl ?_)
  refine un (a1 (v := (B (!(value_Check v_)))) rfl ?_)
  refine dnil ?_
  refine Sv.cond (b := (!(value_Check v_))) rfl (fun hc1 => ?_) (fun hc1 => ?_)
  · replace h := ifT hc1 h
    refine Sv.seq ?_
    refine Sv.region ?_
    refine un (a1 (v := (.agg [cI 0, cI 0, .str []])) rfl ?_)
    refine un (a2n (h' := upd _ 1 (some (.cells 3 [[cI 0, cI 0, .str []]]))) (n' := 2) rfl rfl (fun h => by cases h) ?_)
    refine dnil ?_
    refine Sv.ret ?_
    subst h
    exact ⟨_, .refl _, _, rfl, ⟨upd (fun _ => none) 0 (some (.agg [cI 0, cI 0, .str []])), (fun _ => none), 0⟩, (.agg [cI 0, cI 0, .str []]), weak_canon [] rfl List.nodup_nil (Nat.le_refl _) (fun b h => absurd h (Nat.not_lt_zero _)) (.cons rfl (avAs_free rfl) .nil) .nil, rfl, rfl, rfl, rfl⟩
  · replace h := ifF hc1 h
    refine Sv.skip ?_
    refine Sv.seq ?_
    refine Sv.region ?_
    refine un (a1 (v := (.agg [cI v_.Kind, cI v_.N, .str v_.S])) rfl ?_)
    refine un (a2n (h' := upd _ 1 (some (.cells 3 [[cI v_.Kind, cI v_.N, .str v_.S]]))) (n' := 2) rfl rfl (fun h => by cases h) ?_)
    refine dnil ?_
    refine Sv.ret ?_
    subst h
    exact ⟨_, .refl _, _, rfl, ⟨upd (fun _ => none) 0 (some (.agg [cI v_.Kind, cI v_.N, .str v_.S])), (fun _ => none), 0⟩, (.agg [cI v_.Kind, cI v_.N, .str v_.S]), weak_canon [] rfl List.nodup_nil (Nat.le_refl _) (fun b h => absurd h (Nat.not_lt_zero _)) (.cons rfl (avAs_free rfl) .nil) .nil, rfl, rfl, rfl, rfl⟩
def a44_c0 : ACode := (.cond (.tmp 9) (.seq (.region [⟨(some 12), (.faddr 1 (.tmp 1)), none⟩, ⟨(some 13), (.load false 1 (.tmp 12)), none⟩, ⟨(some 14), (.bin .neq (.tmp 13) (.const (.c (.val (.int .i64 0))))), none⟩, ⟨(some 2), (.mov (.tmp 14)), none⟩])
 .ret) (.seq (.region [⟨(some 16), (.bin .eql (.tmp 6) (.const (.c (.val (.int .i64 3))))), none⟩, ⟨(some 15), (.mov (.tmp 16)), none⟩])
 (.cond (.tmp 15) (.seq (.region [⟨(some 17), (.faddr 2 (.tmp 1)), none⟩, ⟨(some 18), (.load false 1 (.tmp 17)), none⟩, ⟨(some 19), (.bin .neq (.tmp 18) (.const (.c (.str [])))), none⟩, ⟨(some 2), (.mov (.tmp 19)), none⟩])
 .ret) .skip)))
def a44_c1 : ACode := (.seq (.region [⟨(some 2), (.mov (.const (.c (.val (.bool true))))), none⟩])
 .ret)
def a44 : AFunc := ⟨1, [(.tmp 2)], (.seq (.region [⟨(some 1), (.box (.tmp 0)), none⟩, ⟨(some 2), (.mov (.const (.c (.val (.bool false))))), none⟩])
 (.seq (.seq (.region [⟨(some 3), (.load true 3 (.tmp 1)), none⟩, ⟨(some 4), (.call 42 [(.tmp 3)]), none⟩, ⟨none, (.store 3 (.tmp 1) (.tmp 4)), none⟩])
 (.seq (.region [⟨(some 5), (.faddr 0 (.tmp 1)), none⟩, ⟨(some 6), (.load false 1 (.tmp 5)), none⟩])
 (.block 0 (.seq (.region [⟨(some 8), (.bin .eql (.tmp 6) (.const (.c (.val (.int .i64 0))))), none⟩, ⟨(some 7), (.mov (.tmp 8)), none⟩])
 (.cond (.tmp 7) (.seq (.region [⟨(some 2), (.mov (.const (.c (.val (.bool false))))), none⟩])
 .ret) (.seq (.seq (.region [⟨(some 10), (.bin .eql (.tmp 6) (.const (.c (.val (.int .i64 1))))), none⟩, ⟨(some 9), (.mov (.tmp 10)), none⟩])
 (.cond (.tmp 9) .skip (.region [⟨(some 11), (.bin .eql (.tmp 6) (.const (.c (.val (.int .i64 2))))), none⟩, ⟨(some 9), (.mov (.tmp 11)), none⟩])))
 a44_c0))))))
 a44_c1))⟩
set_option maxRecDepth 100000 in
theorem c44 : compFunc Tryd.prog 44 = some a44 := by kernel_rfl
def value_Truth_post (r : Bool) : AV → Heap → Nat → Prop := fun v h' n' => v = (B r) ∧ (h' = (fun _ => none)) ∧ n' = 0
abbrev value_Truth_q0 (o : Bool) : AExit → St → Prop := AThen (Sv Tryd.prog GG 0 a44_c1 (Ends a44.results 0 (value_Truth_post o))) (Ends a44.results 0 (value_Truth_post o))
abbrev value_Truth_q1 (o : Bool) : AExit → St → Prop := ABlock 0 (value_Truth_q0 o)
def value_Truth_j1 (v_ : TJVal) (v9 : Bool) : Bool :=
  if v9 then
    (!decide ((value_right v_).N = 0))
  else
    if decide ((value_right v_).Kind = 3) then
      (!decide ((value_right v_).S = []))
    else
      true
theorem value_Truth_j1_ok {v_ : TJVal} {v9 : Bool} {o : Bool} (h : value_Truth_j1 v_ v9 = o) :
    Sv Tryd.prog GG 0 a44_c0 (value_Truth_q1 o) ⟨(upd (upd (upd (fun _ => none) 1 (some (.c (.ref 0 3 0 0)))) 6 (some (I ((value_right v_).Kind)))) 9 (some (B v9))), (upd (fun _ => none) 0 (some (.cells 3 [[cI ((value_right v_).Kind), cI ((value_right v_).N), .str ((value_right v_).S)]]))), 1⟩ := by
  unfold value_Truth_j1 at h
  refine Sv.cond (b := v9) rfl (fun hc2 => ?_) (fun hc2 => ?_)
  · replace h := ifT hc2 h
    refine Sv.seq ?_
    refine Sv.region ?_
    refine un (a1 (v := (.c (.ref 0 3 0 1))) rfl ?_)
    refine un (a1 (v := (I ((value_right v_).N))) rfl ?_)
    refine un (a1 (v := (B (!decide ((value_right v_).N = 0)))) rfl ?_)
    refine un (a1 rfl ?_)
    refine dnil ?_
    refine Sv.ret ?_
    subst h
    exact ⟨_, .refl _, _, rfl, ⟨upd (fun _ => none) 0 (some (B (!decide ((value_right v_).N = 0)))), (fun _ => none), 0⟩, (B (!decide ((value_right v_).N = 0))), weak_canon [] rfl List.nodup_nil (Nat.le_refl _) (fun b h => absurd h (Nat.not_lt_zero _)) (.cons rfl (avAs_free rfl) .nil) .nil, rfl, rfl, rfl, rfl⟩
  · replace h := ifF hc2 h
    refine Sv.seq ?_
    refine Sv.region ?_
    refine un (a1 (v := (B (decide ((value_right v_).Kind = 3)))) rfl ?_)
    refine un (a1 rfl ?_)
    refine dnil ?_
    refine Sv.cond (b := decide ((value_right v_).Kind = 3)) rfl (fun hc3 => ?_) (fun hc3 => ?_)
    · replace h := ifT hc3 h
      refine Sv.seq ?_
      refine Sv.region ?_
      refine un (a1 (v := (.c (.ref 0 3 0 2))) rfl ?_)
      refine un (a1 (v := (S ((value_right v_).S))) rfl ?_)
      refine un (a1 (v := (B (!decide ((value_right v_).S = [])))) rfl ?_)
      refine un (a1 rfl ?_)
      refine dnil ?_
      refine Sv.ret ?_
      subst h
      exact ⟨_, .refl _, _, rfl, ⟨upd (fun _ => none) 0 (some (B (!decide ((value_right v_).S = [])))), (fun _ => none), 0⟩, (B (!decide ((value_right v_).S = []))), weak_canon [] rfl List.nodup_nil (Nat.le_refl _) (fun b h => absurd h (Nat.not_lt_zero _)) (.cons rfl (avAs_free rfl) .nil) .nil, rfl, rfl, rfl, rfl⟩
    · replace h := ifF hc3 h
      refine Sv.skip ?_
      refine Sv.seq ?_
      refine Sv.region ?_
      refine un (a1 rfl ?_)
      refine dnil ?_
      refine Sv.ret ?_
      subst h
      exact ⟨_, .refl _, _, rfl, ⟨upd (fun _ => none) 0 (some (B true)), (fun _ => none), 0⟩, (B true), weak_canon [] rfl List.nodup_nil (Nat.le_refl _) (fun b h => absurd h (Nat.not_lt_zero _)) (.cons rfl (avAs_free rfl) .nil) .nil, rfl, rfl, rfl, rfl⟩
/-- clerestory/value.Truth -/
def value_Truth (v_ : TJVal) : Bool :=
  if decide ((value_right v_).Kind = 0) then
    false
  else
    if decide ((value_right v_).Kind = 1) then
      value_Truth_j1 v_ (decide ((value_right v_).Kind = 1))
    else
      value_Truth_j1 v_ (decide ((value_right v_).Kind = 2))
theorem value_Truth_ok (v_ : TJVal) : CPure Tryd.prog GG 44 [(.agg [cI v_.Kind, cI v_.N, .str v_.S])] (B (value_Truth v_)) := by
  generalize h : value_Truth v_ = o
  refine acalls_of_sv hmix c44 (R := value_Truth_post o) ?_
  unfold value_Truth at h
  refine Sv.seq ?_
  refine Sv.region ?_
  refine un (a2v (v := (.c (.ref 0 3 0 0))) (h' := upd _ 0 (some (.cells 3 [[cI v_.Kind, cI v_.N, .str v_.S]]))) (n' := 1) rfl rfl (fun h => by cases h) ?_)
  refine un (a1 rfl ?_)
  refine dnil ?_
  refine Sv.seq ?_
  refine Sv.seq ?_
  refine Sv.region ?_
  refine un (a1 (v := (.agg [cI v_.Kind, cI v_.N, .str v_.S])) rfl ?_)
  refine un (ac_pure (value_right_ok v_) rfl rfl rfl ?_)
  refine un (a2n (h' := upd _ 0 (some (.cells 3 [[cI ((value_right v_).Kind), cI ((value_right v_).N), .str ((value_right v_).S)]]))) (n' := 1) rfl rfl (fun h => by cases h) ?_)
  refine dnil ?_
  refine Sv.seq ?_
  refine Sv.region ?_
  refine un (a1 (v := (.c (.ref 0 3 0 0))) rfl ?_)
  refine un (a1 (v := (I ((value_right v_).Kind))) rfl ?_)
  refine dnil ?_
  refine Sv.block ?_
  refine Sv.seq ?_
  refine Sv.region ?_
  refine un (a1 (v := (B (decide ((value_right v_).Kind = 0)))) rfl ?_)
  refine un (a1 rfl ?_)
  refine dnil ?_
  refine Sv.cond (b := decide ((value_right v_).Kind = 0)) rfl (fun hc1 => ?_) (fun hc1 => ?_)
  · replace h := ifT hc1 h
    refine Sv.seq ?_
    refine Sv.region ?_
    refine un (a1 rfl ?_)
    refine dnil ?_
    refine Sv.ret ?_
    subst h
    exact ⟨_, .refl _, _, rfl, ⟨upd (fun _ => none) 0 (some (B false)), (fun _ => none), 0⟩, (B false), weak_canon [] rfl List.nodup_nil (Nat.le_refl _) (fun b h => absurd h (Nat.not_lt_zero _)) (.cons rfl (avAs_free rfl) .nil) .nil, rfl, rfl, rfl, rfl⟩
  · replace h := ifF hc1 h
    refine Sv.seq ?_
    refine Sv.seq ?_
    refine Sv.region ?_
    refine un (a1 (v := (B (decide ((value_right v_).Kind = 1)))) rfl ?_)
    refine un (a1 rfl ?_)
    refine dnil ?_
    refine Sv.cond (b := decide ((value_right v_).Kind = 1)) rfl (fun hc4 => ?_) (fun hc4 => ?_)
    · replace h := ifT hc4 h
      refine Sv.skip ?_
      exact Sv.weak (weak_canon [0] rfl (by decide) (by decide) (fun b h => absurd h (Nat.not_lt_zero _)) (.cons rfl (avAs_free rfl) (.cons rfl (avAs_free rfl) (.cons rfl (.c (.ref rfl (by decide))) .nil))) (.box (by decide) rfl (blkAs_cells (.cons (.same rfl) (.cons (.same rfl) (.cons (.same rfl) .nil)))) .nil)) (value_Truth_j1_ok h)
    · replace h := ifF hc4 h
      refine Sv.region ?_
      refine un (a1 (v := (B (decide ((value_right v_).Kind = 2)))) rfl ?_)
      refine un (a1 rfl ?_)
      refine dnil ?_
      exact Sv.weak (weak_canon [0] rfl (by decide) (by decide) (fun b h => absurd h (Nat.not_lt_zero _)) (.cons rfl (avAs_free rfl) (.cons rfl (avAs_free rfl) (.cons rfl (.c (.ref rfl (by decide))) .nil))) (.box (by decide) rfl (blkAs_cells (.cons (.same rfl) (.cons (.same rfl) (.cons (.same rfl) .nil)))) .nil)) (value_Truth_j1_ok h)
def a43 : AFunc := ⟨1, [(.cell true 3 2)], (.seq (.region [⟨(some 2), (.box (.const (.agg [(.val (.int .i64 0)), (.val (.int .i64 0)), (.str [])]))), none⟩])
 (.seq (.seq (.region [⟨(some 3), (.mov (.tmp 0)), none⟩])
 (.cond (.tmp 3) (.seq (.region [⟨(some 4), (.build [(.val (.int .i64 0)), (.val (.int .i64 0)), (.str [])] [(0, (1, (.const (.c (.val (.int .i64 1)))))), (1, (1, (.const (.c (.val (.int .i64 1))))))]), none⟩, ⟨none, (.store 3 (.tmp 2) (.tmp 4)), none⟩])
 .ret) .skip))
 (.seq (.region [⟨(some 5), (.build [(.val (.int .i64 0)), (.val (.int .i64 0)), (.str [])] [(0, (1, (.const (.c (.val (.int .i64 1))))))]), none⟩, ⟨none, (.store 3 (.tmp 2) (.tmp 5)), none⟩])
 .ret)))⟩
set_option maxRecDepth 100000 in
theorem c43 : compFunc Tryd.prog 43 = some a43 := by kernel_rfl
def value_truth_post (r : TJVal) : AV → Heap → Nat → Prop := fun v h' n' => v = (.agg [cI r.Kind, cI r.N, .str r.S]) ∧ (h' = (fun _ => none)) ∧ n' = 0
/-- clerestory/value.truth -/
def value_truth (is_ : Bool) : TJVal :=
  if is_ then
    (⟨1, 1, []⟩ : TJVal)
  else
    (⟨1, 0, []⟩ : TJVal)
theorem value_truth_ok (is_ : Bool) : CPure Tryd.prog GG 43 [(B is_)] (.agg [cI ((value_truth is_).Kind), cI ((value_truth is_).N), .str ((value_truth is_).S)]) := by
  generalize h : value_truth is_ = o
  refine acalls_of_sv hmix c43 (R := value_truth_post o) ?_
  unfold value_truth at h
  refine Sv.seq ?_
  refine Sv.region ?_
  refine un (a2v (v := (.c (.ref 0 3 0 0))) (h' := upd _ 0 (some (.cells 3 [[cI 0, cI 0, .str []]]))) (n' := 1) rfl rfl (fun h => by cases h) ?_)
  refine dnil ?_
  refine Sv.seq ?_
  refine Sv.seq ?_
  refine Sv.region ?_
  refine un (a1 rfl ?_)
  refine dnil ?_
  refine Sv.cond (b := is_) rfl (fun hc1 => ?_) (fun hc1 => ?_)
  · replace h := ifT hc1 h
    refine Sv.seq ?_
    refine Sv.region ?_
    refine un (a1 (v := (.agg [cI 1, cI 1, .str []])) rfl ?_)
    refine un (a2n (h' := upd _ 0 (some (.cells 3 [[cI 1, cI 1, .str []]]))) (n' := 1) rfl rfl (fun h => by cases h) ?_)
    refine dnil ?_
    refine Sv.ret ?_
    subst h
    exact ⟨_, .refl _, _, rfl, ⟨upd (fun _ => none) 0 (some (.agg [cI 1, cI 1, .str []])), (fun _ => none), 0⟩, (.agg [cI 1, cI 1, .str []]), weak_canon [] rfl List.nodup_nil (Nat.le_refl _) (fun b h => absurd h (Nat.not_lt_zero _)) (.cons rfl (avAs_free rfl) .nil) .nil, rfl, rfl, rfl, rfl⟩
  · replace h := ifF hc1 h
    refine Sv.skip ?_
    refine Sv.seq ?_
    refine Sv.region ?_
    refine un (a1 (v := (.agg [cI 1, cI 0, .str []])) rfl ?_)
    refine un (a2n (h' := upd _ 0 (some (.cells 3 [[cI 1, cI 0, .str []]]))) (n' := 1) rfl rfl (fun h => by cases h) ?_)
    refine dnil ?_
    refine Sv.ret ?_
    subst h
    exact ⟨_, .refl _, _, rfl, ⟨upd (fun _ => none) 0 (some (.agg [cI 1, cI 0, .str []])), (fun _ => none), 0⟩, (.agg [cI 1, cI 0, .str []]), weak_canon [] rfl List.nodup_nil (Nat.le_refl _) (fun b h => absurd h (Nat.not_lt_zero _)) (.cons rfl (avAs_free rfl) .nil) .nil, rfl, rfl, rfl, rfl⟩
def a45 : AFunc := ⟨2, [(.cell true 3 4), (.tmp 5)], (.seq (.region [⟨(some 4), (.box (.const (.agg [(.val (.int .i64 0)), (.val (.int .i64 0)), (.str [])]))), none⟩, ⟨(some 5), (.mov (.const (.c (.str [])))), none⟩])
 (.seq (.seq (.region [⟨(some 6), (.mov (.tmp 1)), none⟩, ⟨(some 7), (.un .not (.tmp 6)), none⟩, ⟨(some 8), (.mov (.tmp 7)), none⟩, ⟨(some 9), (.mov (.tmp 0)), (some (8, false))⟩, ⟨(some 10), (.call 91 [(.tmp 9), (.const (.c (.val (.int .i64 (-9007199254740992))))), (.const (.c (.val (.int .i64 9007199254740992))))]), (some (8, false))⟩, ⟨(some 11), (.un .not (.tmp 10)), (some (8, false))⟩, ⟨(some 12), (.pick (.tmp 8) (.const (.c (.val (.bool true)))) (.tmp 11)), none⟩])
 (.cond (.tmp 12) (.seq (.region [⟨(some 13), (.build [(.val (.int .i64 0)), (.val (.int .i64 0)), (.str [])] []), none⟩, ⟨none, (.store 3 (.tmp 4) (.tmp 13)), none⟩, ⟨(some 5), (.mov (.const (.c (.str [114, 97, 110, 103, 101])))), none⟩])
 .ret) .skip))
 (.seq (.region [⟨(some 14), (.mov (.tmp 0)), none⟩, ⟨(some 15), (.build [(.val (.int .i64 0)), (.val (.int .i64 0)), (.str [])] [(0, (1, (.const (.c (.val (.int .i64 2)))))), (1, (1, (.tmp 14)))]), none⟩, ⟨none, (.store 3 (.tmp 4) (.tmp 15)), none⟩, ⟨(some 5), (.mov (.const (.c (.str [])))), none⟩])
 .ret)))⟩
set_option maxRecDepth 100000 in
theorem c45 : compFunc Tryd.prog 45 = some a45 := by kernel_rfl
def value_number_post (r : (TJVal × (List UInt8))) : AV → Heap → Nat → Prop := fun v h' n' => v = (.tup [(.agg [cI r.1.Kind, cI r.1.N, .str r.1.S]), (S r.2)]) ∧ (h' = (fun _ => none)) ∧ n' = 0
/-- clerestory/value.number -/
def value_number (n_ : Int) (fits : Bool) : (TJVal × (List UInt8)) :=
  if ((!fits) || (!(value_within n_ (-9007199254740992) 9007199254740992))) then
    ((⟨0, 0, []⟩ : TJVal), [114, 97, 110, 103, 101])
  else
    ((⟨2, n_, []⟩ : TJVal), [])
theorem value_number_ok (n_ : Int) (fits : Bool) : CPure Tryd.prog GG 45 [(I n_), (B fits)] (.tup [(.agg [cI (((value_number n_ fits).1).Kind), cI (((value_number n_ fits).1).N), .str (((value_number n_ fits).1).S)]), (S ((value_number n_ fits).2))]) := by
  generalize h : value_number n_ fits = o
  refine acalls_of_sv hmix c45 (R := value_number_post o) ?_
  unfold value_number at h
  refine Sv.seq ?_
  refine Sv.region ?_
  refine un (a2v (v := (.c (.ref 0 3 0 0))) (h' := upd _ 0 (some (.cells 3 [[cI 0, cI 0, .str []]]))) (n' := 1) rfl rfl (fun h => by cases h) ?_)
  refine un (a1 rfl ?_)
  refine dnil ?_
  refine Sv.seq ?_
  refine Sv.seq ?_
  refine Sv.region ?_
  refine un (a1 rfl ?_)
  refine un (a1 (v := (B (!fits))) rfl ?_)
  refine un (a1 rfl ?_)
  refine gjoin 4 (d := 12) (v := (B ((!fits) || (!(value_within n_ (-9007199254740992) 9007199254740992))))) (fun X hX => ?_) ?_
  · refine split2 (fun hc1 => ?_) (fun hc1 => ?_)
    · refine gs rfl rfl ?_
      refine gs rfl rfl ?_
      refine gs rfl rfl ?_
      refine un (a1 (v := (B true)) rfl ?_)
      refine dnil ?_
      exact hX _ (.putEq (by rw [hc1]; rfl) (.skip _ _ (.skip _ _ (.skip _ _ (.putEq (by rw [hc1]) (.refl _)) rfl) rfl) rfl))
    · refine gt rfl (a1 rfl ?_)
      refine gt rfl (ac_pure (value_within_ok n_ (-9007199254740992) 9007199254740992) rfl rfl rfl ?_)
      refine gt rfl (a1 (v := (B (!(value_within n_ (-9007199254740992) 9007199254740992)))) rfl ?_)
      refine un (a1 (v := (B (!(value_within n_ (-9007199254740992) 9007199254740992)))) rfl ?_)
      refine dnil ?_
      exact hX _ (.putEq (by rw [hc1]; rfl) (.skip _ _ (.skip _ _ (.skip _ _ (.putEq (by rw [hc1]) (.refl _)) rfl) rfl) rfl))
  refine dnil ?_
  refine Sv.cond (b := ((!fits) || (!(value_within n_ (-9007199254740992) 9007199254740992)))) rfl (fun hc2 => ?_) (fun hc2 => ?_)
  · replace h := ifT hc2 h
    refine Sv.seq ?_
    refine Sv.region ?_
    refine un (a1 (v := (.agg [cI 0, cI 0, .str []])) rfl ?_)
    refine un (a2n (h' := upd _ 0 (some (.cells 3 [[cI 0, cI 0, .str []]]))) (n' := 1) rfl rfl (fun h => by cases h) ?_)
    refine un (a1 rfl ?_)
    refine dnil ?_
    refine Sv.ret ?_
    subst h
    exact ⟨_, .refl _, _, rfl, ⟨upd (fun _ => none) 0 (some (.tup [(.agg [cI 0, cI 0, .str []]), (S [114, 97, 110, 103, 101])])), (fun _ => none), 0⟩, (.tup [(.agg [cI 0, cI 0, .str []]), (S [114, 97, 110, 103, 101])]), weak_canon [] rfl List.nodup_nil (Nat.le_refl _) (fun b h => absurd h (Nat.not_lt_zero _)) (.cons rfl (avAs_tup (.cons (avAs_free rfl) (.cons (avAs_free rfl) .nil))) .nil) .nil, rfl, rfl, rfl, rfl⟩
  · replace h := ifF hc2 h
    refine Sv.skip ?_
    refine Sv.seq ?_
    refine Sv.region ?_
    refine un (a1 rfl ?_)
    refine un (a1 (v := (.agg [cI 2, cI n_, .str []])) rfl ?_)
    refine un (a2n (h' := upd _ 0 (some (.cells 3 [[cI 2, cI n_, .str []]]))) (n' := 1) rfl rfl (fun h => by cases h) ?_)
    refine un (a1 rfl ?_)
    refine dnil ?_
    refine Sv.ret ?_
    subst h
    exact ⟨_, .refl _, _, rfl, ⟨upd (fun _ => none) 0 (some (.tup [(.agg [cI 2, cI n_, .str []]), (S [])])), (fun _ => none), 0⟩, (.tup [(.agg [cI 2, cI n_, .str []]), (S [])]), weak_canon [] rfl List.nodup_nil (Nat.le_refl _) (fun b h => absurd h (Nat.not_lt_zero _)) (.cons rfl (avAs_tup (.cons (avAs_free rfl) (.cons (avAs_free rfl) .nil))) .nil) .nil, rfl, rfl, rfl, rfl⟩
def a14 : AFunc := ⟨2, [(.cell true 3 4), (.tmp 5)], (.seq (.region [⟨(some 3), (.box (.tmp 1)), none⟩, ⟨(some 4), (.box (.const (.agg [(.val (.int .i64 0)), (.val (.int .i64 0)), (.str [])]))), none⟩, ⟨(some 5), (.mov (.const (.c (.str [])))), none⟩])
 (.seq (.region [⟨(some 6), (.load true 3 (.tmp 3)), none⟩, ⟨(some 7), (.call 42 [(.tmp 6)]), none⟩, ⟨none, (.store 3 (.tmp 3) (.tmp 7)), none⟩])
 (.seq (.block 0 (.seq (.region [⟨(some 9), (.mov (.tmp 0)), none⟩, ⟨(some 10), (.bin .eql (.tmp 9) (.const (.c (.str [33])))), none⟩, ⟨(some 8), (.mov (.tmp 10)), none⟩])
 (.cond (.tmp 8) (.seq (.region [⟨(some 11), (.load true 3 (.tmp 3)), none⟩, ⟨(some 12), (.call 44 [(.tmp 11)]), none⟩, ⟨(some 13), (.un .not (.tmp 12)), none⟩, ⟨(some 14), (.call 43 [(.tmp 13)]), none⟩, ⟨none, (.store 3 (.tmp 4) (.tmp 14)), none⟩, ⟨(some 5), (.mov (.const (.c (.str [])))), none⟩])
 .ret) (.seq (.region [⟨(some 16), (.mov (.tmp 0)), none⟩, ⟨(some 17), (.bin .neq (.tmp 16) (.const (.c (.str [45])))), none⟩, ⟨(some 15), (.mov (.tmp 17)), none⟩])
 (.cond (.tmp 15) (.seq (.region [⟨(some 18), (.build [(.val (.int .i64 0)), (.val (.int .i64 0)), (.str [])] []), none⟩, ⟨none, (.store 3 (.tmp 4) (.tmp 18)), none⟩, ⟨(some 5), (.mov (.const (.c (.str [115, 105, 103, 110])))), none⟩])
 .ret) (.seq (.region [⟨(some 20), (.faddr 0 (.tmp 3)), none⟩, ⟨(some 21), (.load false 1 (.tmp 20)), none⟩, ⟨(some 22), (.bin .neq (.tmp 21) (.const (.c (.val (.int .i64 2))))), none⟩, ⟨(some 19), (.mov (.tmp 22)), none⟩])
 (.cond (.tmp 19) (.seq (.region [⟨(some 23), (.build [(.val (.int .i64 0)), (.val (.int .i64 0)), (.str [])] []), none⟩, ⟨none, (.store 3 (.tmp 4) (.tmp 23)), none⟩, ⟨(some 5), (.mov (.const (.c (.str [107, 105, 110, 100])))), none⟩])
 .ret) .skip)))))))
 (.seq (.region [⟨(some 24), (.faddr 1 (.tmp 3)), none⟩, ⟨(some 25), (.load false 1 (.tmp 24)), none⟩, ⟨(some 26), (.un .neg (.tmp 25)), none⟩, ⟨(some 27), (.call 45 [(.tmp 26), (.const (.c (.val (.bool true))))]), none⟩, ⟨(some 28), (.ext (.tmp 27) 0), none⟩, ⟨(some 29), (.ext (.tmp 27) 1), none⟩, ⟨none, (.store 3 (.tmp 4) (.tmp 28)), none⟩, ⟨(some 5), (.mov (.tmp 29)), none⟩])
 .ret))))⟩
set_option maxRecDepth 100000 in
theorem c14 : compFunc Tryd.prog 14 = some a14 := by kernel_rfl
def value_Unary_post (r : (TJVal × (List UInt8))) : AV → Heap → Nat → Prop := fun v h' n' => v = (.tup [(.agg [cI r.1.Kind, cI r.1.N, .str r.1.S]), (S r.2)]) ∧ (h' = (fun _ => none)) ∧ n' = 0
/-- clerestory/value.Unary -/
def value_Unary (sign : (List UInt8)) (v_ : TJVal) : (TJVal × (List UInt8)) :=
  if decide (sign = [33]) then
    ((value_truth (!(value_Truth (value_right v_)))), [])
  else
    if (!decide (sign = [45])) then
      ((⟨0, 0, []⟩ : TJVal), [115, 105, 103, 110])
    else
      if (!decide ((value_right v_).Kind = 2)) then
        ((⟨0, 0, []⟩ : TJVal), [107, 105, 110, 100])
      else
        (((value_number (wi (0 - (value_right v_).N)) true).1), (value_number (wi (0 - (value_right v_).N)) true).2)
theorem value_Unary_ok (sign : (List UInt8)) (v_ : TJVal) : CPure Tryd.prog GG 14 [(S sign), (.agg [cI v_.Kind, cI v_.N, .str v_.S])] (.tup [(.agg [cI (((value_Unary sign v_).1).Kind), cI (((value_Unary sign v_).1).N), .str (((value_Unary sign v_).1).S)]), (S ((value_Unary sign v_).2))]) := by
  generalize h : value_Unary sign v_ = o
  refine acalls_of_sv hmix c14 (R := value_Unary_post o) ?_
  unfold value_Unary at h
  refine Sv.seq ?_
  refine Sv.region ?_
  refine un (a2v (v := (.c (.ref 0 3 0 0))) (h' := upd _ 0 (some (.cells 3 [[cI v_.Kind, cI v_.N, .str v_.S]]))) (n' := 1) rfl rfl (fun h => by cases h) ?_)
  refine un (a2v (v := (.c (.ref 1 3 0 0))) (h' := upd _ 1 (some (.cells 3 [[cI 0, cI 0, .str []]]))) (n' := 2) rfl rfl (fun h => by cases h) ?_)
  refine un (a1 rfl ?_)
  refine dnil ?_
  refine Sv.seq ?_
  refine Sv.region ?_
  refine un (a1 (v := (.agg [cI v_.Kind, cI v_.N, .str v_.S])) rfl ?_)
  refine un (ac_pure (value_right_ok v_) rfl rfl rfl ?_)
  refine un (a2n (h' := upd _ 0 (some (.cells 3 [[cI ((value_right v_).Kind), cI ((value_right v_).N), .str ((value_right v_).S)]]))) (n' := 2) rfl rfl (fun h => by cases h) ?_)
  refine dnil ?_
  refine Sv.seq ?_
  refine Sv.block ?_
  refine Sv.seq ?_
  refine Sv.region ?_
  refine un (a1 rfl ?_)
  refine un (a1 (v := (B (decide (sign = [33])))) rfl ?_)
  refine un (a1 rfl ?_)
  refine dnil ?_
  refine Sv.cond (b := decide (sign = [33])) rfl (fun hc1 => ?_) (fun hc1 => ?_)
  · replace h := ifT hc1 h
    refine Sv.seq ?_
    refine Sv.region ?_
    refine un (a1 (v := (.agg [cI ((value_right v_).Kind), cI ((value_right v_).N), .str ((value_right v_).S)])) rfl ?_)
    refine un (ac_pure (value_Truth_ok (value_right v_)) rfl rfl rfl ?_)
    refine un (a1 (v := (B (!(value_Truth (value_right v_))))) rfl ?_)
    refine un (ac_pure (value_truth_ok (!(value_Truth (value_right v_)))) rfl rfl rfl ?_)
    refine un (a2n (h' := upd _ 1 (some (.cells 3 [[cI ((value_truth (!(value_Truth (value_right v_)))).Kind), cI ((value_truth (!(value_Truth (value_right v_)))).N), .str ((value_truth (!(value_Truth (value_right v_)))).S)]]))) (n' := 2) rfl rfl (fun h => by cases h) ?_)
    refine un (a1 rfl ?_)
    refine dnil ?_
    refine Sv.ret ?_
    subst h
    exact ⟨_, .refl _, _, rfl, ⟨upd (fun _ => none) 0 (some (.tup [(.agg [cI ((value_truth (!(value_Truth (value_right v_)))).Kind), cI ((value_truth (!(value_Truth (value_right v_)))).N), .str ((value_truth (!(value_Truth (value_right v_)))).S)]), (S [])])), (fun _ => none), 0⟩, (.tup [(.agg [cI ((value_truth (!(value_Truth (value_right v_)))).Kind), cI ((value_truth (!(value_Truth (value_right v_)))).N), .str ((value_truth (!(value_Truth (value_right v_)))).S)]), (S [])]), weak_canon [] rfl List.nodup_nil (Nat.le_refl _) (fun b h => absurd h (Nat.not_lt_zero _)) (.cons rfl (avAs_tup (.cons (avAs_free rfl) (.cons (avAs_free rfl) .nil))) .nil) .nil, rfl, rfl, rfl, rfl⟩
  · replace h := ifF hc1 h
    refine Sv.seq ?_
    refine Sv.region ?_
    refine un (a1 rfl ?_)
    refine un (a1 (v := (B (!decide (sign = [45])))) rfl ?_)
    refine un (a1 rfl ?_)
    refine dnil ?_
    refine Sv.cond (b := (!decide (sign = [45]))) rfl (fun hc2 => ?_) (fun hc2 => ?_)
    · replace h := ifT hc2 h
      refine Sv.seq ?_
      refine Sv.region ?_
      refine un (a1 (v := (.agg [cI 0, cI 0, .str []])) rfl ?_)
      refine un (a2n (h' := upd _ 1 (some (.cells 3 [[cI 0, cI 0, .str []]]))) (n' := 2) rfl rfl (fun h => by cases h) ?_)
      refine un (a1 rfl ?_)
      refine dnil ?_
      refine Sv.ret ?_
      subst h
      exact ⟨_, .refl _, _, rfl, ⟨upd (fun _ => none) 0 (some (.tup [(.agg [cI 0, cI 0, .str []]), (S [115, 105, 103, 110])])), (fun _ => none), 0⟩, (.tup [(.agg [cI 0, cI 0, .str []]), (S [115, 105, 103, 110])]), weak_canon [] rfl List.nodup_nil (Nat.le_refl _) (fun b h => absurd h (Nat.not_lt_zero _)) (.cons rfl (avAs_tup (.cons (avAs_free rfl) (.cons (avAs_free rfl) .nil))) .nil) .nil, rfl, rfl, rfl, rfl⟩
    · replace h := ifF hc2 h
      refine Sv.seq ?_
      refine Sv.region ?_
      refine un (a1 (v := (.c (.ref 0 3 0 0))) rfl ?_)
      refine un (a1 (v := (I ((value_right v_).Kind))) rfl ?_)
      refine un (a1 (v := (B (!decide ((value_right v_).Kind = 2)))) rfl ?_)
      refine un (a1 rfl ?_)
      refine dnil ?_
      refine Sv.cond (b := (!decide ((value_right v_).Kind = 2))) rfl (fun hc3 => ?_) (fun hc3 => ?_)
      · replace h := ifT hc3 h
        refine Sv.seq ?_
        refine Sv.region ?_
        refine un (a1 (v := (.agg [cI 0, cI 0, .str []])) rfl ?_)
        refine un (a2n (h' := upd _ 1 (some (.cells 3 [[cI 0, cI 0, .str []]]))) (n' := 2) rfl rfl (fun h => by cases h) ?_)
        refine un (a1 rfl ?_)
        refine dnil ?_
        refine Sv.ret ?_
        subst h
        exact ⟨_, .refl _, _, rfl, ⟨upd (fun _ => none) 0 (some (.tup [(.agg [cI 0, cI 0, .str []]), (S [107, 105, 110, 100])])), (fun _ => none), 0⟩, (.tup [(.agg [cI 0, cI 0, .str []]), (S [107, 105, 110, 100])]), weak_canon [] rfl List.nodup_nil (Nat.le_refl _) (fun b h => absurd h (Nat.not_lt_zero _)) (.cons rfl (avAs_tup (.cons (avAs_free rfl) (.cons (avAs_free rfl) .nil))) .nil) .nil, rfl, rfl, rfl, rfl⟩
      · replace h := ifF hc3 h
        refine Sv.skip ?_
        refine Sv.seq ?_
        refine Sv.region ?_
        refine un (a1 (v := (.c (.ref 0 3 0 1))) rfl ?_)
        refine un (a1 (v := (I ((value_right v_).N))) rfl ?_)
        refine un (a1 (v := (I (wi (0 - (value_right v_).N)))) rfl ?_)
        refine un (ac_pure (value_number_ok (wi (0 - (value_right v_).N)) true) rfl rfl rfl ?_)
        refine un (a1 (v := (.agg [cI (((value_number (wi (0 - (value_right v_).N)) true).1).Kind), cI (((value_number (wi (0 - (value_right v_).N)) true).1).N), .str (((value_number (wi (0 - (value_right v_).N)) true).1).S)])) rfl ?_)
        refine un (a1 (v := (S ((value_number (wi (0 - (value_right v_).N)) true).2))) rfl ?_)
        refine un (a2n (h' := upd _ 1 (some (.cells 3 [[cI (((value_number (wi (0 - (value_right v_).N)) true).1).Kind), cI (((value_number (wi (0 - (value_right v_).N)) true).1).N), .str (((value_number (wi (0 - (value_right v_).N)) true).1).S)]]))) (n' := 2) rfl rfl (fun h => by cases h) ?_)
        refine un (a1 rfl ?_)
        refine dnil ?_
        refine Sv.ret ?_
        subst h
        exact ⟨_, .refl _, _, rfl, ⟨upd (fun _ => none) 0 (some (.tup [(.agg [cI (((value_number (wi (0 - (value_right v_).N)) true).1).Kind), cI (((value_number (wi (0 - (value_right v_).N)) true).1).N), .str (((value_number (wi (0 - (value_right v_).N)) true).1).S)]), (S ((value_number (wi (0 - (value_right v_).N)) true).2))])), (fun _ => none), 0⟩, (.tup [(.agg [cI (((value_number (wi (0 - (value_right v_).N)) true).1).Kind), cI (((value_number (wi (0 - (value_right v_).N)) true).1).N), .str (((value_number (wi (0 - (value_right v_).N)) true).1).S)]), (S ((value_number (wi (0 - (value_right v_).N)) true).2))]), weak_canon [] rfl List.nodup_nil (Nat.le_refl _) (fun b h => absurd h (Nat.not_lt_zero _)) (.cons rfl (avAs_tup (.cons (avAs_free rfl) (.cons (avAs_free rfl) .nil))) .nil) .nil, rfl, rfl, rfl, rfl⟩
noncomputable abbrev math_bits_Mul64 (x_ : Int) (y_ : Int) : Option (Int × Int) := mul64? x_ y_
/-- math/bits.Mul64, by the contract of the shelf -/
theorem math_bits_Mul64_ok {x_ : Int} {y_ : Int} {r : (Int × Int)} (h : math_bits_Mul64 x_ y_ = some r) : CPure Tryd.prog GG 139 [(.c (.val (.int .u64 x_))), (.c (.val (.int .u64 y_)))] (.tup [(.c (.val (.int .u64 r.1))), (.c (.val (.int .u64 r.2)))]) := mul64_ok Tryd.lays264 h
def a92 : AFunc := ⟨2, [(.tmp 4), (.tmp 5)], (.seq (.region [⟨(some 4), (.mov (.const (.c (.val (.int .i64 0))))), none⟩, ⟨(some 5), (.mov (.const (.c (.val (.bool false))))), none⟩])
 (.seq (.region [⟨(some 9), (.mov (.tmp 0)), none⟩, ⟨(some 10), (.mov (.tmp 0)), none⟩, ⟨(some 11), (.un .neg (.tmp 10)), none⟩, ⟨(some 12), (.mm true [(.tmp 9), (.tmp 11)]), none⟩, ⟨(some 13), (.conv .u64 (.tmp 12)), none⟩, ⟨(some 14), (.mov (.tmp 1)), none⟩, ⟨(some 15), (.mov (.tmp 1)), none⟩, ⟨(some 16), (.un .neg (.tmp 15)), none⟩, ⟨(some 17), (.mm true [(.tmp 14), (.tmp 16)]), none⟩, ⟨(some 18), (.conv .u64 (.tmp 17)), none⟩, ⟨(some 19), (.call 139 [(.tmp 13), (.tmp 18)]), none⟩, ⟨(some 8), (.mov (.tmp 19)), none⟩, ⟨(some 20), (.ext (.tmp 8) 0), none⟩, ⟨(some 21), (.ext (.tmp 8) 1), none⟩, ⟨(some 6), (.mov (.tmp 20)), none⟩, ⟨(some 7), (.mov (.tmp 21)), none⟩])
 (.seq (.seq (.region [⟨(some 22), (.mov (.tmp 6)), none⟩, ⟨(some 23), (.bin .neq (.tmp 22) (.const (.c (.val (.int .u64 0))))), none⟩, ⟨(some 24), (.mov (.tmp 23)), none⟩, ⟨(some 25), (.mov (.tmp 7)), (some (24, false))⟩, ⟨(some 26), (.bin .gtr (.tmp 25) (.const (.c (.val (.int .u64 9007199254740992))))), (some (24, false))⟩, ⟨(some 27), (.pick (.tmp 24) (.const (.c (.val (.bool true)))) (.tmp 26)), none⟩])
 (.cond (.tmp 27) (.seq (.region [⟨(some 4), (.mov (.const (.c (.val (.int .i64 0))))), none⟩, ⟨(some 5), (.mov (.const (.c (.val (.bool false))))), none⟩])
 .ret) .skip))
 (.seq (.seq (.region [⟨(some 28), (.mov (.tmp 0)), none⟩, ⟨(some 29), (.bin .lss (.tmp 28) (.const (.c (.val (.int .i64 0))))), none⟩, ⟨(some 30), (.mov (.tmp 1)), none⟩, ⟨(some 31), (.bin .lss (.tmp 30) (.const (.c (.val (.int .i64 0))))), none⟩, ⟨(some 32), (.eqs true false [.b] (.tmp 29) (.tmp 31)), none⟩])
 (.cond (.tmp 32) (.seq (.region [⟨(some 33), (.mov (.tmp 7)), none⟩, ⟨(some 34), (.conv .i64 (.tmp 33)), none⟩, ⟨(some 35), (.un .neg (.tmp 34)), none⟩, ⟨(some 4), (.mov (.tmp 35)), none⟩, ⟨(some 5), (.mov (.const (.c (.val (.bool true))))), none⟩])
 .ret) .skip))
 (.seq (.region [⟨(some 36), (.mov (.tmp 7)), none⟩, ⟨(some 37), (.conv .i64 (.tmp 36)), none⟩, ⟨(some 4), (.mov (.tmp 37)), none⟩, ⟨(some 5), (.mov (.const (.c (.val (.bool true))))), none⟩])
 .ret)))))⟩
set_option maxRecDepth 100000 in
theorem c92 : compFunc Tryd.prog 92 = some a92 := by kernel_rfl
def value_product_post (r : (Int × Bool)) : AV → Heap → Nat → Prop := fun v h' n' => v = (.tup [(I r.1), (B r.2)]) ∧ (h' = (fun _ => none)) ∧ n' = 0
/-- clerestory/value.product -/
noncomputable def value_product (a_ : Int) (b_ : Int) : Option (Int × Bool) :=
  (math_bits_Mul64 (wr .u64 (mx a_ (wi (0 - a_)))) (wr .u64 (mx b_ (wi (0 - b_))))).bind fun r_ =>
  if ((!decide (r_.1 = 0)) || (decide (9007199254740992 < r_.2))) then
    some (0, false)
  else
    if (!((decide (a_ < 0) == decide (b_ < 0)) && true)) then
      some ((wi (0 - (wr .i64 r_.2))), true)
    else
      some ((wr .i64 r_.2), true)
theorem value_product_ok {a_ : Int} {b_ : Int} {r : (Int × Bool)} (h : value_product a_ b_ = some r) : CPure Tryd.prog GG 92 [(I a_), (I b_)] (.tup [(I r.1), (B r.2)]) := by
  refine acalls_of_sv hmix c92 (R := value_product_post r) ?_
  unfold value_product at h
  refine Sv.seq ?_
  refine Sv.region ?_
  refine un (a1 rfl ?_)
  refine un (a1 rfl ?_)
  refine dnil ?_
  refine Sv.seq ?_
  refine Sv.region ?_
  refine un (a1 rfl ?_)
  refine un (a1 rfl ?_)
  refine un (a1 (v := (I (wi (0 - a_)))) rfl ?_)
  refine un (a1 (v := (I (mx a_ (wi (0 - a_))))) (s_mx rfl rfl) ?_)
  refine un (a1 (v := (.c (.val (.int .u64 (wr .u64 (mx a_ (wi (0 - a_)))))))) rfl ?_)
  refine un (a1 rfl ?_)
  refine un (a1 rfl ?_)
  refine un (a1 (v := (I (wi (0 - b_)))) rfl ?_)
  refine un (a1 (v := (I (mx b_ (wi (0 - b_))))) (s_mx rfl rfl) ?_)
  refine un (a1 (v := (.c (.val (.int .u64 (wr .u64 (mx b_ (wi (0 - b_)))))))) rfl ?_)
  obtain ⟨r_, hr1, h⟩ := bnd h
  refine un (ac_pure (math_bits_Mul64_ok hr1) rfl rfl rfl ?_)
  refine un (a1 rfl ?_)
  refine un (a1 (v := (.c (.val (.int .u64 r_.1)))) rfl ?_)
  refine un (a1 (v := (.c (.val (.int .u64 r_.2)))) rfl ?_)
  refine un (a1 rfl ?_)
  refine un (a1 rfl ?_)
  refine dnil ?_
  refine Sv.seq ?_
  refine Sv.seq ?_
  refine Sv.region ?_
  refine un (a1 rfl ?_)
  refine un (a1 (v := (B (!decide (r_.1 = 0)))) rfl ?_)
  refine un (a1 rfl ?_)
  refine gjoin 3 (d := 27) (v := (B ((!decide (r_.1 = 0)) || (decide (9007199254740992 < r_.2))))) (fun X hX => ?_) ?_
  · refine split2 (fun hc1 => ?_) (fun hc1 => ?_)
    · refine gs rfl rfl ?_
      refine gs rfl rfl ?_
      refine un (a1 (v := (B true)) rfl ?_)
      refine dnil ?_
      exact hX _ (.putEq (by rw [hc1]; rfl) (.skip _ _ (.skip _ _ (.putEq (by rw [hc1]) (.refl _)) rfl) rfl))
    · refine gt rfl (a1 rfl ?_)
      refine gt rfl (a1 (v := (B (decide (9007199254740992 < r_.2)))) rfl ?_)
      refine un (a1 (v := (B (decide (9007199254740992 < r_.2)))) rfl ?_)
      refine dnil ?_
      exact hX _ (.putEq (by rw [hc1]; rfl) (.skip _ _ (.skip _ _ (.putEq (by rw [hc1]) (.refl _)) rfl) rfl))
  refine dnil ?_
  refine Sv.cond (b := ((!decide (r_.1 = 0)) || (decide (9007199254740992 < r_.2)))) rfl (fun hc2 => ?_) (fun hc2 => ?_)
  · replace h := ifT hc2 h
    refine Sv.seq ?_
    refine Sv.region ?_
    refine un (a1 rfl ?_)
    refine un (a1 rfl ?_)
    refine dnil ?_
    refine Sv.ret ?_
    replace h := Option.some.inj h
    subst h
    exact ⟨_, .refl _, _, rfl, ⟨upd (fun _ => none) 0 (some (.tup [(I 0), (B false)])), (fun _ => none), 0⟩, (.tup [(I 0), (B false)]), weak_canon [] rfl List.nodup_nil (Nat.le_refl _) (fun b h => absurd h (Nat.not_lt_zero _)) (.cons rfl (avAs_tup (.cons (avAs_free rfl) (.cons (avAs_free rfl) .nil))) .nil) .nil, rfl, rfl, rfl, rfl⟩
  · replace h := ifF hc2 h
    refine Sv.skip ?_
    refine Sv.seq ?_
    refine Sv.seq ?_
    refine Sv.region ?_
    refine un (a1 rfl ?_)
    refine un (a1 (v := (B (decide (a_ < 0)))) rfl ?_)
    refine un (a1 rfl ?_)
    refine un (a1 (v := (B (decide (b_ < 0)))) rfl ?_)
    refine un (a1 (v := (B (!((decide (a_ < 0) == decide (b_ < 0)) && true)))) rfl ?_)
    refine dnil ?_
    refine Sv.cond (b := (!((decide (a_ < 0) == decide (b_ < 0)) && true))) rfl (fun hc3 => ?_) (fun hc3 => ?_)
    · replace h := ifT hc3 h
      refine Sv.seq ?_
      refine Sv.region ?_
      refine un (a1 rfl ?_)
      refine un (a1 (v := (I (wr .i64 r_.2))) rfl ?_)
      refine un (a1 (v := (I (wi (0 - (wr .i64 r_.2))))) rfl ?_)
      refine un (a1 rfl ?_)
      refine un (a1 rfl ?_)
      refine dnil ?_
      refine Sv.ret ?_
      replace h := Option.some.inj h
      subst h
      exact ⟨_, .refl _, _, rfl, ⟨upd (fun _ => none) 0 (some (.tup [(I (wi (0 - (wr .i64 r_.2)))), (B true)])), (fun _ => none), 0⟩, (.tup [(I (wi (0 - (wr .i64 r_.2)))), (B true)]), weak_canon [] rfl List.nodup_nil (Nat.le_refl _) (fun b h => absurd h (Nat.not_lt_zero _)) (.cons rfl (avAs_tup (.cons (avAs_free rfl) (.cons (avAs_free rfl) .nil))) .nil) .nil, rfl, rfl, rfl, rfl⟩
    · replace h := ifF hc3 h
      refine Sv.skip ?_
      refine Sv.seq ?_
      refine Sv.region ?_
      refine un (a1 rfl ?_)
      refine un (a1 (v := (I (wr .i64 r_.2))) rfl ?_)
      refine un (a1 rfl ?_)
      refine un (a1 rfl ?_)
      refine dnil ?_
      refine Sv.ret ?_
      replace h := Option.some.inj h
      subst h
      exact ⟨_, .refl _, _, rfl, ⟨upd (fun _ => none) 0 (some (.tup [(I (wr .i64 r_.2)), (B true)])), (fun _ => none), 0⟩, (.tup [(I (wr .i64 r_.2)), (B true)]), weak_canon [] rfl List.nodup_nil (Nat.le_refl _) (fun b h => absurd h (Nat.not_lt_zero _)) (.cons rfl (avAs_tup (.cons (avAs_free rfl) (.cons (avAs_free rfl) .nil))) .nil) .nil, rfl, rfl, rfl, rfl⟩
def a46 : AFunc := ⟨3, [(.cell true 3 6), (.tmp 7)], (.seq (.region [⟨(some 6), (.box (.const (.agg [(.val (.int .i64 0)), (.val (.int .i64 0)), (.str [])]))), none⟩, ⟨(some 7), (.mov (.const (.c (.str [])))), none⟩])
 (.seq (.seq (.region [⟨(some 8), (.mov (.tmp 0)), none⟩])
 (.block 0 (.seq (.region [⟨(some 10), (.bin .eql (.tmp 8) (.const (.c (.str [43])))), none⟩, ⟨(some 9), (.mov (.tmp 10)), none⟩])
 (.cond (.tmp 9) (.seq (.region [⟨(some 11), (.mov (.tmp 1)), none⟩, ⟨(some 12), (.mov (.tmp 2)), none⟩, ⟨(some 13), (.bin .add (.tmp 11) (.tmp 12)), none⟩, ⟨(some 14), (.call 45 [(.tmp 13), (.const (.c (.val (.bool true))))]), none⟩, ⟨(some 15), (.ext (.tmp 14) 0), none⟩, ⟨(some 16), (.ext (.tmp 14) 1), none⟩, ⟨none, (.store 3 (.tmp 6) (.tmp 15)), none⟩, ⟨(some 7), (.mov (.tmp 16)), none⟩])
 .ret) (.seq (.region [⟨(some 18), (.bin .eql (.tmp 8) (.const (.c (.str [45])))), none⟩, ⟨(some 17), (.mov (.tmp 18)), none⟩])
 (.cond (.tmp 17) (.seq (.region [⟨(some 19), (.mov (.tmp 1)), none⟩, ⟨(some 20), (.mov (.tmp 2)), none⟩, ⟨(some 21), (.bin .sub (.tmp 19) (.tmp 20)), none⟩, ⟨(some 22), (.call 45 [(.tmp 21), (.const (.c (.val (.bool true))))]), none⟩, ⟨(some 23), (.ext (.tmp 22) 0), none⟩, ⟨(some 24), (.ext (.tmp 22) 1), none⟩, ⟨none, (.store 3 (.tmp 6) (.tmp 23)), none⟩, ⟨(some 7), (.mov (.tmp 24)), none⟩])
 .ret) (.seq (.region [⟨(some 26), (.bin .eql (.tmp 8) (.const (.c (.str [42])))), none⟩, ⟨(some 25), (.mov (.tmp 26)), none⟩])
 (.cond (.tmp 25) (.seq (.region [⟨(some 27), (.mov (.tmp 1)), none⟩, ⟨(some 28), (.mov (.tmp 2)), none⟩, ⟨(some 29), (.call 92 [(.tmp 27), (.tmp 28)]), none⟩, ⟨(some 30), (.ext (.tmp 29) 0), none⟩, ⟨(some 31), (.ext (.tmp 29) 1), none⟩, ⟨(some 32), (.call 45 [(.tmp 30), (.tmp 31)]), none⟩, ⟨(some 33), (.ext (.tmp 32) 0), none⟩, ⟨(some 34), (.ext (.tmp 32) 1), none⟩, ⟨none, (.store 3 (.tmp 6) (.tmp 33)), none⟩, ⟨(some 7), (.mov (.tmp 34)), none⟩])
 .ret) .skip))))))))
 (.seq (.seq (.region [⟨(some 35), (.mov (.tmp 2)), none⟩, ⟨(some 36), (.bin .eql (.tmp 35) (.const (.c (.val (.int .i64 0))))), none⟩])
 (.cond (.tmp 36) (.seq (.region [⟨(some 37), (.build [(.val (.int .i64 0)), (.val (.int .i64 0)), (.str [])] []), none⟩, ⟨none, (.store 3 (.tmp 6) (.tmp 37)), none⟩, ⟨(some 7), (.mov (.const (.c (.str [122, 101, 114, 111])))), none⟩])
 .ret) .skip))
 (.seq (.seq (.region [⟨(some 38), (.mov (.tmp 0)), none⟩, ⟨(some 39), (.bin .eql (.tmp 38) (.const (.c (.str [47])))), none⟩])
 (.cond (.tmp 39) (.seq (.region [⟨(some 40), (.mov (.tmp 1)), none⟩, ⟨(some 41), (.mov (.tmp 2)), none⟩, ⟨(some 42), (.bin .quo (.tmp 40) (.tmp 41)), none⟩, ⟨(some 43), (.call 45 [(.tmp 42), (.const (.c (.val (.bool true))))]), none⟩, ⟨(some 44), (.ext (.tmp 43) 0), none⟩, ⟨(some 45), (.ext (.tmp 43) 1), none⟩, ⟨none, (.store 3 (.tmp 6) (.tmp 44)), none⟩, ⟨(some 7), (.mov (.tmp 45)), none⟩])
 .ret) .skip))
 (.seq (.region [⟨(some 46), (.mov (.tmp 1)), none⟩, ⟨(some 47), (.mov (.tmp 2)), none⟩, ⟨(some 48), (.bin .rem (.tmp 46) (.tmp 47)), none⟩, ⟨(some 49), (.call 45 [(.tmp 48), (.const (.c (.val (.bool true))))]), none⟩, ⟨(some 50), (.ext (.tmp 49) 0), none⟩, ⟨(some 51), (.ext (.tmp 49) 1), none⟩, ⟨none, (.store 3 (.tmp 6) (.tmp 50)), none⟩, ⟨(some 7), (.mov (.tmp 51)), none⟩])
 .ret)))))⟩
set_option maxRecDepth 100000 in
theorem c46 : compFunc Tryd.prog 46 = some a46 := by kernel_rfl
def value_reckoned_post (r : (TJVal × (List UInt8))) : AV → Heap → Nat → Prop := fun v h' n' => v = (.tup [(.agg [cI r.1.Kind, cI r.1.N, .str r.1.S]), (S r.2)]) ∧ (h' = (fun _ => none)) ∧ n' = 0
/-- clerestory/value.reckoned -/
noncomputable def value_reckoned (sign : (List UInt8)) (a_ : Int) (b_ : Int) : Option (TJVal × (List UInt8)) :=
  if decide (sign = [43]) then
    some (((value_number (wi (a_ + b_)) true).1), (value_number (wi (a_ + b_)) true).2)
  else
    if decide (sign = [45]) then
      some (((value_number (wi (a_ - b_)) true).1), (value_number (wi (a_ - b_)) true).2)
    else
      if decide (sign = [42]) then
        (value_product a_ b_).bind fun r_ =>
        some (((value_number r_.1 r_.2).1), (value_number r_.1 r_.2).2)
      else
        if decide (b_ = 0) then
          some ((⟨0, 0, []⟩ : TJVal), [122, 101, 114, 111])
        else
          if decide (sign = [47]) then
            (quo? .i64 a_ b_).bind fun r_1 =>
            some (((value_number r_1 true).1), (value_number r_1 true).2)
          else
            (rem? .i64 a_ b_).bind fun r_2 =>
            some (((value_number r_2 true).1), (value_number r_2 true).2)
theorem value_reckoned_ok {sign : (List UInt8)} {a_ : Int} {b_ : Int} {r : (TJVal × (List UInt8))} (h : value_reckoned sign a_ b_ = some r) : CPure Tryd.prog GG 46 [(S sign), (I a_), (I b_)] (.tup [(.agg [cI r.1.Kind, cI r.1.N, .str r.1.S]), (S r.2)]) := by
  refine acalls_of_sv hmix c46 (R := value_reckoned_post r) ?_
  unfold value_reckoned at h
  refine Sv.seq ?_
  refine Sv.region ?_
  refine un (a2v (v := (.c (.ref 0 3 0 0))) (h' := upd _ 0 (some (.cells 3 [[cI 0, cI 0, .str []]]))) (n' := 1) rfl rfl (fun h => by cases h) ?_)
  refine un (a1 rfl ?_)
  refine dnil ?_
  refine Sv.seq ?_
  refine Sv.seq ?_
  refine Sv.region ?_
  refine un (a1 rfl ?_)
  refine dnil ?_
  refine Sv.block ?_
  refine Sv.seq ?_
  refine Sv.region ?_
  refine un (a1 (v := (B (decide (sign = [43])))) rfl ?_)
  refine un (a1 rfl ?_)
  refine dnil ?_
  refine Sv.cond (b := decide (sign = [43])) rfl (fun hc1 => ?_) (fun hc1 => ?_)
  · replace h := ifT hc1 h
    refine Sv.seq ?_
    refine Sv.region ?_
    refine un (a1 rfl ?_)
    refine un (a1 rfl ?_)
    refine un (a1 (v := (I (wi (a_ + b_)))) rfl ?_)
    refine un (ac_pure (value_number_ok (wi (a_ + b_)) true) rfl rfl rfl ?_)
    refine un (a1 (v := (.agg [cI (((value_number (wi (a_ + b_)) true).1).Kind), cI (((value_number (wi (a_ + b_)) true).1).N), .str (((value_number (wi (a_ + b_)) true).1).S)])) rfl ?_)
    refine un (a1 (v := (S ((value_number (wi (a_ + b_)) true).2))) rfl ?_)
    refine un (a2n (h' := upd _ 0 (some (.cells 3 [[cI (((value_number (wi (a_ + b_)) true).1).Kind), cI (((value_number (wi (a_ + b_)) true).1).N), .str (((value_number (wi (a_ + b_)) true).1).S)]]))) (n' := 1) rfl rfl (fun h => by cases h) ?_)
    refine un (a1 rfl ?_)
    refine dnil ?_
    refine Sv.ret ?_
    replace h := Option.some.inj h
    subst h
    exact ⟨_, .refl _, _, rfl, ⟨upd (fun _ => none) 0 (some (.tup [(.agg [cI (((value_number (wi (a_ + b_)) true).1).Kind), cI (((value_number (wi (a_ + b_)) true).1).N), .str (((value_number (wi (a_ + b_)) true).1).S)]), (S ((value_number (wi (a_ + b_)) true).2))])), (fun _ => none), 0⟩, (.tup [(.agg [cI (((value_number (wi (a_ + b_)) true).1).Kind), cI (((value_number (wi (a_ + b_)) true).1).N), .str (((value_number (wi (a_ + b_)) true).1).S)]), (S ((value_number (wi (a_ + b_)) true).2))]), weak_canon [] rfl List.nodup_nil (Nat.le_refl _) (fun b h => absurd h (Nat.not_lt_zero _)) (.cons rfl (avAs_tup (.cons (avAs_free rfl) (.cons (avAs_free rfl) .nil))) .nil) .nil, rfl, rfl, rfl, rfl⟩
  · replace h := ifF hc1 h
    refine Sv.seq ?_
    refine Sv.region ?_
    refine un (a1 (v := (B (decide (sign = [45])))) rfl ?_)
    refine un (a1 rfl ?_)
    refine dnil ?_
    refine Sv.cond (b := decide (sign = [45])) rfl (fun hc2 => ?_) (fun hc2 => ?_)
    · replace h := ifT hc2 h
      refine Sv.seq ?_
      refine Sv.region ?_
      refine un (a1 rfl ?_)
      refine un (a1 rfl ?_)
      refine un (a1 (v := (I (wi (a_ - b_)))) rfl ?_)
      refine un (ac_pure (value_number_ok (wi (a_ - b_)) true) rfl rfl rfl ?_)
      refine un (a1 (v := (.agg [cI (((value_number (wi (a_ - b_)) true).1).Kind), cI (((value_number (wi (a_ - b_)) true).1).N), .str (((value_number (wi (a_ - b_)) true).1).S)])) rfl ?_)
      refine un (a1 (v := (S ((value_number (wi (a_ - b_)) true).2))) rfl ?_)
      refine un (a2n (h' := upd _ 0 (some (.cells 3 [[cI (((value_number (wi (a_ - b_)) true).1).Kind), cI (((value_number (wi (a_ - b_)) true).1).N), .str (((value_number (wi (a_ - b_)) true).1).S)]]))) (n' := 1) rfl rfl (fun h => by cases h) ?_)
      refine un (a1 rfl ?_)
      refine dnil ?_
      refine Sv.ret ?_
      replace h := Option.some.inj h
      subst h
      exact ⟨_, .refl _, _, rfl, ⟨upd (fun _ => none) 0 (some (.tup [(.agg [cI (((value_number (wi (a_ - b_)) true).1).Kind), cI (((value_number (wi (a_ - b_)) true).1).N), .str (((value_number (wi (a_ - b_)) true).1).S)]), (S ((value_number (wi (a_ - b_)) true).2))])), (fun _ => none), 0⟩, (.tup [(.agg [cI (((value_number (wi (a_ - b_)) true).1).Kind), cI (((value_number (wi (a_ - b_)) true).1).N), .str (((value_number (wi (a_ - b_)) true).1).S)]), (S ((value_number (wi (a_ - b_)) true).2))]), weak_canon [] rfl List.nodup_nil (Nat.le_refl _) (fun b h => absurd h (Nat.not_lt_zero _)) (.cons rfl (avAs_tup (.cons (avAs_free rfl) (.cons (avAs_free rfl) .nil))) .nil) .nil, rfl, rfl, rfl, rfl⟩
    · replace h := ifF hc2 h
      refine Sv.seq ?_
      refine Sv.region ?_
      refine un (a1 (v := (B (decide (sign = [42])))) rfl ?_)
      refine un (a1 rfl ?_)
      refine dnil ?_
      refine Sv.cond (b := decide (sign = [42])) rfl (fun hc3 => ?_) (fun hc3 => ?_)
      · replace h := ifT hc3 h
        refine Sv.seq ?_
        refine Sv.region ?_
        refine un (a1 rfl ?_)
        refine un (a1 rfl ?_)
        obtain ⟨r_, hr1, h⟩ := bnd h
        refine un (ac_pure (value_product_ok hr1) rfl rfl rfl ?_)
        refine un (a1 (v := (I r_.1)) rfl ?_)
        refine un (a1 (v := (B r_.2)) rfl ?_)
        refine un (ac_pure (value_number_ok r_.1 r_.2) rfl rfl rfl ?_)
        refine un (a1 (v := (.agg [cI (((value_number r_.1 r_.2).1).Kind), cI (((value_number r_.1 r_.2).1).N), .str (((value_number r_.1 r_.2).1).S)])) rfl ?_)
        refine un (a1 (v := (S ((value_number r_.1 r_.2).2))) rfl ?_)
        refine un (a2n (h' := upd _ 0 (some (.cells 3 [[cI (((value_number r_.1 r_.2).1).Kind), cI (((value_number r_.1 r_.2).1).N), .str (((value_number r_.1 r_.2).1).S)]]))) (n' := 1) rfl rfl (fun h => by cases h) ?_)
        refine un (a1 rfl ?_)
        refine dnil ?_
        refine Sv.ret ?_
        replace h := Option.some.inj h
        subst h
        exact ⟨_, .refl _, _, rfl, ⟨upd (fun _ => none) 0 (some (.tup [(.agg [cI (((value_number r_.1 r_.2).1).Kind), cI (((value_number r_.1 r_.2).1).N), .str (((value_number r_.1 r_.2).1).S)]), (S ((value_number r_.1 r_.2).2))])), (fun _ => none), 0⟩, (.tup [(.agg [cI (((value_number r_.1 r_.2).1).Kind), cI (((value_number r_.1 r_.2).1).N), .str (((value_number r_.1 r_.2).1).S)]), (S ((value_number r_.1 r_.2).2))]), weak_canon [] rfl List.nodup_nil (Nat.le_refl _) (fun b h => absurd h (Nat.not_lt_zero _)) (.cons rfl (avAs_tup (.cons (avAs_free rfl) (.cons (avAs_free rfl) .nil))) .nil) .nil, rfl, rfl, rfl, rfl⟩
      · replace h := ifF hc3 h
        refine Sv.skip ?_
        refine Sv.seq ?_
        refine Sv.seq ?_
        refine Sv.region ?_
        refine un (a1 rfl ?_)
        refine un (a1 (v := (B (decide (b_ = 0)))) rfl ?_)
        refine dnil ?_
        refine Sv.cond (b := decide (b_ = 0)) rfl (fun hc4 => ?_) (fun hc4 => ?_)
        · replace h := ifT hc4 h
          refine Sv.seq ?_
          refine Sv.region ?_
          refine un (a1 (v := (.agg [cI 0, cI 0, .str []])) rfl ?_)
          refine un (a2n (h' := upd _ 0 (some (.cells 3 [[cI 0, cI 0, .str []]]))) (n' := 1) rfl rfl (fun h => by cases h) ?_)
          refine un (a1 rfl ?_)
          refine dnil ?_
          refine Sv.ret ?_
          replace h := Option.some.inj h
          subst h
          exact ⟨_, .refl _, _, rfl, ⟨upd (fun _ => none) 0 (some (.tup [(.agg [cI 0, cI 0, .str []]), (S [122, 101, 114, 111])])), (fun _ => none), 0⟩, (.tup [(.agg [cI 0, cI 0, .str []]), (S [122, 101, 114, 111])]), weak_canon [] rfl List.nodup_nil (Nat.le_refl _) (fun b h => absurd h (Nat.not_lt_zero _)) (.cons rfl (avAs_tup (.cons (avAs_free rfl) (.cons (avAs_free rfl) .nil))) .nil) .nil, rfl, rfl, rfl, rfl⟩
        · replace h := ifF hc4 h
          refine Sv.skip ?_
          refine Sv.seq ?_
          refine Sv.seq ?_
          refine Sv.region ?_
          refine un (a1 rfl ?_)
          refine un (a1 (v := (B (decide (sign = [47])))) rfl ?_)
          refine dnil ?_
          refine Sv.cond (b := decide (sign = [47])) rfl (fun hc5 => ?_) (fun hc5 => ?_)
          · replace h := ifT hc5 h
            refine Sv.seq ?_
            refine Sv.region ?_
            refine un (a1 rfl ?_)
            refine un (a1 rfl ?_)
            obtain ⟨r_1, hx1, h⟩ := bnd h
            refine un (a1 (v := (I r_1)) (s_quo rfl rfl hx1) ?_)
            refine un (ac_pure (value_number_ok r_1 true) rfl rfl rfl ?_)
            refine un (a1 (v := (.agg [cI (((value_number r_1 true).1).Kind), cI (((value_number r_1 true).1).N), .str (((value_number r_1 true).1).S)])) rfl ?_)
            refine un (a1 (v := (S ((value_number r_1 true).2))) rfl ?_)
            refine un (a2n (h' := upd _ 0 (some (.cells 3 [[cI (((value_number r_1 true).1).Kind), cI (((value_number r_1 true).1).N), .str (((value_number r_1 true).1).S)]]))) (n' := 1) rfl rfl (fun h => by cases h) ?_)
            refine un (a1 rfl ?_)
            refine dnil ?_
            refine Sv.ret ?_
            replace h := Option.some.inj h
            subst h
            exact ⟨_, .refl _, _, rfl, ⟨upd (fun _ => none) 0 (some (.tup [(.agg [cI (((value_number r_1 true).1).Kind), cI (((value_number r_1 true).1).N), .str (((value_number r_1 true).1).S)]), (S ((value_number r_1 true).2))])), (fun _ => none), 0⟩, (.tup [(.agg [cI (((value_number r_1 true).1).Kind), cI (((value_number r_1 true).1).N), .str (((value_number r_1 true).1).S)]), (S ((value_number r_1 true).2))]), weak_canon [] rfl List.nodup_nil (Nat.le_refl _) (fun b h => absurd h (Nat.not_lt_zero _)) (.cons rfl (avAs_tup (.cons (avAs_free rfl) (.cons (avAs_free rfl) .nil))) .nil) .nil, rfl, rfl, rfl, rfl⟩
          · replace h := ifF hc5 h
            refine Sv.skip ?_
            refine Sv.seq ?_
            refine Sv.region ?_
            refine un (a1 rfl ?_)
            refine un (a1 rfl ?_)
            obtain ⟨r_2, hx2, h⟩ := bnd h
            refine un (a1 (v := (I r_2)) (s_rem rfl rfl hx2) ?_)
            refine un (ac_pure (value_number_ok r_2 true) rfl rfl rfl ?_)
            refine un (a1 (v := (.agg [cI (((value_number r_2 true).1).Kind), cI (((value_number r_2 true).1).N), .str (((value_number r_2 true).1).S)])) rfl ?_)
            refine un (a1 (v := (S ((value_number r_2 true).2))) rfl ?_)
            refine un (a2n (h' := upd _ 0 (some (.cells 3 [[cI (((value_number r_2 true).1).Kind), cI (((value_number r_2 true).1).N), .str (((value_number r_2 true).1).S)]]))) (n' := 1) rfl rfl (fun h => by cases h) ?_)
            refine un (a1 rfl ?_)
            refine dnil ?_
            refine Sv.ret ?_
            replace h := Option.some.inj h
            subst h
            exact ⟨_, .refl _, _, rfl, ⟨upd (fun _ => none) 0 (some (.tup [(.agg [cI (((value_number r_2 true).1).Kind), cI (((value_number r_2 true).1).N), .str (((value_number r_2 true).1).S)]), (S ((value_number r_2 true).2))])), (fun _ => none), 0⟩, (.tup [(.agg [cI (((value_number r_2 true).1).Kind), cI (((value_number r_2 true).1).N), .str (((value_number r_2 true).1).S)]), (S ((value_number r_2 true).2))]), weak_canon [] rfl List.nodup_nil (Nat.le_refl _) (fun b h => absurd h (Nat.not_lt_zero _)) (.cons rfl (avAs_tup (.cons (avAs_free rfl) (.cons (avAs_free rfl) .nil))) .nil) .nil, rfl, rfl, rfl, rfl⟩
def a140 : AFunc := ⟨1, [(.tmp 2)], (.seq (.region [⟨(some 2), (.mov (.const (.c (.str [])))), none⟩])
 (.seq (.seq (.region [⟨(some 3), (.mov (.tmp 0)), none⟩])
 (.cond (.tmp 3) (.seq (.region [⟨(some 2), (.mov (.const (.c (.str [116, 114, 117, 101])))), none⟩])
 .ret) .skip))
 (.seq (.region [⟨(some 2), (.mov (.const (.c (.str [102, 97, 108, 115, 101])))), none⟩])
 .ret)))⟩
set_option maxRecDepth 100000 in
theorem c140 : compFunc Tryd.prog 140 = some a140 := by kernel_rfl
def internal_strconv_FormatBool_post (r : (List UInt8)) : AV → Heap → Nat → Prop := fun v h' n' => v = (S r) ∧ (h' = (fun _ => none)) ∧ n' = 0
/-- internal/strconv.FormatBool -/
def internal_strconv_FormatBool (b_ : Bool) : (List UInt8) :=
  if b_ then
    [116, 114, 117, 101]
  else
    [102, 97, 108, 115, 101]
theorem internal_strconv_FormatBool_ok (b_ : Bool) : CPure Tryd.prog GG 140 [(B b_)] (S (internal_strconv_FormatBool b_)) := by
  generalize h : internal_strconv_FormatBool b_ = o
  refine acalls_of_sv hmix c140 (R := internal_strconv_FormatBool_post o) ?_
  unfold internal_strconv_FormatBool at h
  refine Sv.seq ?_
  refine Sv.region ?_
  refine un (a1 rfl ?_)
  refine dnil ?_
  refine Sv.seq ?_
  refine Sv.seq ?_
  refine Sv.region ?_
  refine un (a1 rfl ?_)
  refine dnil ?_
  refine Sv.cond (b := b_) rfl (fun hc1 => ?_) (fun hc1 => ?_)
  · replace h := ifT hc1 h
    refine Sv.seq ?_
    refine Sv.region ?_
    refine un (a1 rfl ?_)
    refine dnil ?_
    refine Sv.ret ?_
    subst h
    exact ⟨_, .refl _, _, rfl, ⟨upd (fun _ => none) 0 (some (S [116, 114, 117, 101])), (fun _ => none), 0⟩, (S [116, 114, 117, 101]), weak_canon [] rfl List.nodup_nil (Nat.le_refl _) (fun b h => absurd h (Nat.not_lt_zero _)) (.cons rfl (avAs_free rfl) .nil) .nil, rfl, rfl, rfl, rfl⟩
  · replace h := ifF hc1 h
    refine Sv.skip ?_
    refine Sv.seq ?_
    refine Sv.region ?_
    refine un (a1 rfl ?_)
    refine dnil ?_
    refine Sv.ret ?_
    subst h
    exact ⟨_, .refl _, _, rfl, ⟨upd (fun _ => none) 0 (some (S [102, 97, 108, 115, 101])), (fun _ => none), 0⟩, (S [102, 97, 108, 115, 101]), weak_canon [] rfl List.nodup_nil (Nat.le_refl _) (fun b h => absurd h (Nat.not_lt_zero _)) (.cons rfl (avAs_free rfl) .nil) .nil, rfl, rfl, rfl, rfl⟩
def a93 : AFunc := ⟨1, [(.tmp 2)], (.seq (.region [⟨(some 2), (.mov (.const (.c (.str [])))), none⟩])
 (.seq (.region [⟨(some 3), (.mov (.tmp 0)), none⟩, ⟨(some 4), (.call 140 [(.tmp 3)]), none⟩, ⟨(some 2), (.mov (.tmp 4)), none⟩])
 .ret))⟩
set_option maxRecDepth 100000 in
theorem c93 : compFunc Tryd.prog 93 = some a93 := by kernel_rfl
def strconv_FormatBool_post (r : (List UInt8)) : AV → Heap → Nat → Prop := fun v h' n' => v = (S r) ∧ (h' = (fun _ => none)) ∧ n' = 0
/-- strconv.FormatBool -/
def strconv_FormatBool (b_ : Bool) : (List UInt8) :=
  (internal_strconv_FormatBool b_)
theorem strconv_FormatBool_ok (b_ : Bool) : CPure Tryd.prog GG 93 [(B b_)] (S (strconv_FormatBool b_)) := by
  generalize h : strconv_FormatBool b_ = o
  refine acalls_of_sv hmix c93 (R := strconv_FormatBool_post o) ?_
  unfold strconv_FormatBool at h
  refine Sv.seq ?_
  refine Sv.region ?_
  refine un (a1 rfl ?_)
  refine dnil ?_
  refine Sv.seq ?_
  refine Sv.region ?_
  refine un (a1 rfl ?_)
  refine un (ac_pure (internal_strconv_FormatBool_ok b_) rfl rfl rfl ?_)
  refine un (a1 rfl ?_)
  refine dnil ?_
  refine Sv.ret ?_
  subst h
  exact ⟨_, .refl _, _, rfl, ⟨upd (fun _ => none) 0 (some (S (internal_strconv_FormatBool b_))), (fun _ => none), 0⟩, (S (internal_strconv_FormatBool b_)), weak_canon [] rfl List.nodup_nil (Nat.le_refl _) (fun b h => absurd h (Nat.not_lt_zero _)) (.cons rfl (avAs_free rfl) .nil) .nil, rfl, rfl, rfl, rfl⟩
noncomputable abbrev strconv_Itoa (i_ : Int) : Option (List UInt8) := itoa? i_
/-- strconv.Itoa, by the contract of the shelf -/
theorem strconv_Itoa_ok {i_ : Int} {r : (List UInt8)} (h : strconv_Itoa i_ = some r) : CPure Tryd.prog GG 94 [(I i_)] (S r) := itoa_ok (g := 5) Tryd.laysM171 (by kernel_rfl) (by kernel_rfl) h
def a47 : AFunc := ⟨1, [(.tmp 2)], (.seq (.region [⟨(some 1), (.box (.tmp 0)), none⟩, ⟨(some 2), (.mov (.const (.c (.str [])))), none⟩])
 (.seq (.seq (.region [⟨(some 3), (.load true 3 (.tmp 1)), none⟩, ⟨(some 4), (.call 42 [(.tmp 3)]), none⟩, ⟨none, (.store 3 (.tmp 1) (.tmp 4)), none⟩])
 (.seq (.region [⟨(some 5), (.faddr 0 (.tmp 1)), none⟩, ⟨(some 6), (.load false 1 (.tmp 5)), none⟩])
 (.block 0 (.seq (.region [⟨(some 8), (.bin .eql (.tmp 6) (.const (.c (.val (.int .i64 1))))), none⟩, ⟨(some 7), (.mov (.tmp 8)), none⟩])
 (.cond (.tmp 7) (.seq (.region [⟨(some 9), (.faddr 1 (.tmp 1)), none⟩, ⟨(some 10), (.load false 1 (.tmp 9)), none⟩, ⟨(some 11), (.bin .eql (.tmp 10) (.const (.c (.val (.int .i64 1))))), none⟩, ⟨(some 12), (.call 93 [(.tmp 11)]), none⟩, ⟨(some 2), (.mov (.tmp 12)), none⟩])
 .ret) (.seq (.region [⟨(some 14), (.bin .eql (.tmp 6) (.const (.c (.val (.int .i64 2))))), none⟩, ⟨(some 13), (.mov (.tmp 14)), none⟩])
 (.cond (.tmp 13) (.seq (.region [⟨(some 15), (.faddr 1 (.tmp 1)), none⟩, ⟨(some 16), (.load false 1 (.tmp 15)), none⟩, ⟨(some 17), (.call 94 [(.tmp 16)]), none⟩, ⟨(some 2), (.mov (.tmp 17)), none⟩])
 .ret) (.seq (.region [⟨(some 19), (.bin .eql (.tmp 6) (.const (.c (.val (.int .i64 3))))), none⟩, ⟨(some 18), (.mov (.tmp 19)), none⟩])
 (.cond (.tmp 18) (.seq (.region [⟨(some 20), (.faddr 2 (.tmp 1)), none⟩, ⟨(some 21), (.load false 1 (.tmp 20)), none⟩, ⟨(some 2), (.mov (.tmp 21)), none⟩])
 .ret) (.seq (.region [⟨(some 23), (.bin .eql (.tmp 6) (.const (.c (.val (.int .i64 4))))), none⟩, ⟨(some 22), (.mov (.tmp 23)), none⟩])
 (.cond (.tmp 22) (.seq (.region [⟨(some 2), (.mov (.const (.c (.str [91, 114, 101, 102, 93])))), none⟩])
 .ret) (.seq (.region [⟨(some 25), (.bin .eql (.tmp 6) (.const (.c (.val (.int .i64 5))))), none⟩, ⟨(some 24), (.mov (.tmp 25)), none⟩])
 (.cond (.tmp 24) (.seq (.region [⟨(some 26), (.faddr 2 (.tmp 1)), none⟩, ⟨(some 27), (.load false 1 (.tmp 26)), none⟩, ⟨(some 28), (.bin .add (.const (.c (.str [91, 99, 97, 108, 108, 32]))) (.tmp 27)), none⟩, ⟨(some 29), (.bin .add (.tmp 28) (.const (.c (.str [93])))), none⟩, ⟨(some 2), (.mov (.tmp 29)), none⟩])
 .ret) .skip)))))))))))))
 (.seq (.region [⟨(some 2), (.mov (.const (.c (.str [110, 117, 108, 108])))), none⟩])
 .ret)))⟩
set_option maxRecDepth 100000 in
theorem c47 : compFunc Tryd.prog 47 = some a47 := by kernel_rfl
def value_Text_post (r : (List UInt8)) : AV → Heap → Nat → Prop := fun v h' n' => v = (S r) ∧ (h' = (fun _ => none)) ∧ n' = 0
/-- clerestory/value.Text -/
noncomputable def value_Text (v_ : TJVal) : Option (List UInt8) :=
  if decide ((value_right v_).Kind = 1) then
    some (strconv_FormatBool (decide ((value_right v_).N = 1)))
  else
    if decide ((value_right v_).Kind = 2) then
      (strconv_Itoa ((value_right v_).N)).bind fun r_ =>
      some r_
    else
      if decide ((value_right v_).Kind = 3) then
        some ((value_right v_).S)
      else
        if decide ((value_right v_).Kind = 4) then
          some [91, 114, 101, 102, 93]
        else
          if decide ((value_right v_).Kind = 5) then
            (cat? [91, 99, 97, 108, 108, 32] ((value_right v_).S)).bind fun r_1 =>
            (cat? r_1 [93]).bind fun r_2 =>
            some r_2
          else
            some [110, 117, 108, 108]
theorem value_Text_ok {v_ : TJVal} {r : (List UInt8)} (h : value_Text v_ = some r) : CPure Tryd.prog GG 47 [(.agg [cI v_.Kind, cI v_.N, .str v_.S])] (S r) := by
  refine acalls_of_sv hmix c47 (R := value_Text_post r) ?_
  unfold value_Text at h
  refine Sv.seq ?_
  refine Sv.region ?_
  refine un (a2v (v := (.c (.ref 0 3 0 0))) (h' := upd _ 0 (some (.cells 3 [[cI v_.Kind, cI v_.N, .str v_.S]]))) (n' := 1) rfl rfl (fun h => by cases h) ?_)
  refine un (a1 rfl ?_)
  refine dnil ?_
  refine Sv.seq ?_
  refine Sv.seq ?_
  refine Sv.region ?_
  refine un (a1 (v := (.agg [cI v_.Kind, cI v_.N, .str v_.S])) rfl ?_)
  refine un (ac_pure (value_right_ok v_) rfl rfl rfl ?_)
  refine un (a2n (h' := upd _ 0 (some (.cells 3 [[cI ((value_right v_).Kind), cI ((value_right v_).N), .str ((value_right v_).S)]]))) (n' := 1) rfl rfl (fun h => by cases h) ?_)
  refine dnil ?_
  refine Sv.seq ?_
  refine Sv.region ?_
  refine un (a1 (v := (.c (.ref 0 3 0 0))) rfl ?_)
  refine un (a1 (v := (I ((value_right v_).Kind))) rfl ?_)
  refine dnil ?_
  refine Sv.block ?_
  refine Sv.seq ?_
  refine Sv.region ?_
  refine un (a1 (v := (B (decide ((value_right v_).Kind = 1)))) rfl ?_)
  refine un (a1 rfl ?_)
  refine dnil ?_
  refine Sv.cond (b := decide ((value_right v_).Kind = 1)) rfl (fun hc1 => ?_) (fun hc1 => ?_)
  · replace h := ifT hc1 h
    refine Sv.seq ?_
    refine Sv.region ?_
    refine un (a1 (v := (.c (.ref 0 3 0 1))) rfl ?_)
    refine un (a1 (v := (I ((value_right v_).N))) rfl ?_)
    refine un (a1 (v := (B (decide ((value_right v_).N = 1)))) rfl ?_)
    refine un (ac_pure (strconv_FormatBool_ok (decide ((value_right v_).N = 1))) rfl rfl rfl ?_)
    refine un (a1 rfl ?_)
    refine dnil ?_
    refine Sv.ret ?_
    replace h := Option.some.inj h
    subst h
    exact ⟨_, .refl _, _, rfl, ⟨upd (fun _ => none) 0 (some (S (strconv_FormatBool (decide ((value_right v_).N = 1))))), (fun _ => none), 0⟩, (S (strconv_FormatBool (decide ((value_right v_).N = 1)))), weak_canon [] rfl List.nodup_nil (Nat.le_refl _) (fun b h => absurd h (Nat.not_lt_zero _)) (.cons rfl (avAs_free rfl) .nil) .nil, rfl, rfl, rfl, rfl⟩
  · replace h := ifF hc1 h
    refine Sv.seq ?_
    refine Sv.region ?_
    refine un (a1 (v := (B (decide ((value_right v_).Kind = 2)))) rfl ?_)
    refine un (a1 rfl ?_)
    refine dnil ?_
    refine Sv.cond (b := decide ((value_right v_).Kind = 2)) rfl (fun hc2 => ?_) (fun hc2 => ?_)
    · replace h := ifT hc2 h
      refine Sv.seq ?_
      refine Sv.region ?_
      refine un (a1 (v := (.c (.ref 0 3 0 1))) rfl ?_)
      refine un (a1 (v := (I ((value_right v_).N))) rfl ?_)
      obtain ⟨r_, hr1, h⟩ := bnd h
      refine un (ac_pure (strconv_Itoa_ok hr1) rfl rfl rfl ?_)
      refine un (a1 rfl ?_)
      refine dnil ?_
      refine Sv.ret ?_
      replace h := Option.some.inj h
      subst h
      exact ⟨_, .refl _, _, rfl, ⟨upd (fun _ => none) 0 (some (S r_)), (fun _ => none), 0⟩, (S r_), weak_canon [] rfl List.nodup_nil (Nat.le_refl _) (fun b h => absurd h (Nat.not_lt_zero _)) (.cons rfl (avAs_free rfl) .nil) .nil, rfl, rfl, rfl, rfl⟩
    · replace h := ifF hc2 h
      refine Sv.seq ?_
      refine Sv.region ?_
      refine un (a1 (v := (B (decide ((value_right v_).Kind = 3)))) rfl ?_)
      refine un (a1 rfl ?_)
      refine dnil ?_
      refine Sv.cond (b := decide ((value_right v_).Kind = 3)) rfl (fun hc3 => ?_) (fun hc3 => ?_)
      · replace h := ifT hc3 h
        refine Sv.seq ?_
        refine Sv.region ?_
        refine un (a1 (v := (.c (.ref 0 3 0 2))) rfl ?_)
        refine un (a1 (v := (S ((value_right v_).S))) rfl ?_)
        refine un (a1 rfl ?_)
        refine dnil ?_
        refine Sv.ret ?_
        replace h := Option.some.inj h
        subst h
        exact ⟨_, .refl _, _, rfl, ⟨upd (fun _ => none) 0 (some (S ((value_right v_).S))), (fun _ => none), 0⟩, (S ((value_right v_).S)), weak_canon [] rfl List.nodup_nil (Nat.le_refl _) (fun b h => absurd h (Nat.not_lt_zero _)) (.cons rfl (avAs_free rfl) .nil) .nil, rfl, rfl, rfl, rfl⟩
      · replace h := ifF hc3 h
        refine Sv.seq ?_
        refine Sv.region ?_
        refine un (a1 (v := (B (decide ((value_right v_).Kind = 4)))) rfl ?_)
        refine un (a1 rfl ?_)
        refine dnil ?_
        refine Sv.cond (b := decide ((value_right v_).Kind = 4)) rfl (fun hc4 => ?_) (fun hc4 => ?_)
        · replace h := ifT hc4 h
          refine Sv.seq ?_
          refine Sv.region ?_
          refine un (a1 rfl ?_)
          refine dnil ?_
          refine Sv.ret ?_
          replace h := Option.some.inj h
          subst h
          exact ⟨_, .refl _, _, rfl, ⟨upd (fun _ => none) 0 (some (S [91, 114, 101, 102, 93])), (fun _ => none), 0⟩, (S [91, 114, 101, 102, 93]), weak_canon [] rfl List.nodup_nil (Nat.le_refl _) (fun b h => absurd h (Nat.not_lt_zero _)) (.cons rfl (avAs_free rfl) .nil) .nil, rfl, rfl, rfl, rfl⟩
        · replace h := ifF hc4 h
          refine Sv.seq ?_
          refine Sv.region ?_
          refine un (a1 (v := (B (decide ((value_right v_).Kind = 5)))) rfl ?_)
          refine un (a1 rfl ?_)
          refine dnil ?_
          refine Sv.cond (b := decide ((value_right v_).Kind = 5)) rfl (fun hc5 => ?_) (fun hc5 => ?_)
          · replace h := ifT hc5 h
            refine Sv.seq ?_
            refine Sv.region ?_
            refine un (a1 (v := (.c (.ref 0 3 0 2))) rfl ?_)
            refine un (a1 (v := (S ((value_right v_).S))) rfl ?_)
            obtain ⟨r_1, hx1, h⟩ := bnd h
            refine un (a1 (v := (S r_1)) (s_cat rfl rfl hx1) ?_)
            obtain ⟨r_2, hx2, h⟩ := bnd h
            refine un (a1 (v := (S r_2)) (s_cat rfl rfl hx2) ?_)
            refine un (a1 rfl ?_)
            refine dnil ?_
            refine Sv.ret ?_
            replace h := Option.some.inj h
            subst h
            exact ⟨_, .refl _, _, rfl, ⟨upd (fun _ => none) 0 (some (S r_2)), (fun _ => none), 0⟩, (S r_2), weak_canon [] rfl List.nodup_nil (Nat.le_refl _) (fun b h => absurd h (Nat.not_lt_zero _)) (.cons rfl (avAs_free rfl) .nil) .nil, rfl, rfl, rfl, rfl⟩
          · replace h := ifF hc5 h
            refine Sv.skip ?_
            refine Sv.seq ?_
            refine Sv.region ?_
            refine un (a1 rfl ?_)
            refine dnil ?_
            refine Sv.ret ?_
            replace h := Option.some.inj h
            subst h
            exact ⟨_, .refl _, _, rfl, ⟨upd (fun _ => none) 0 (some (S [110, 117, 108, 108])), (fun _ => none), 0⟩, (S [110, 117, 108, 108]), weak_canon [] rfl List.nodup_nil (Nat.le_refl _) (fun b h => absurd h (Nat.not_lt_zero _)) (.cons rfl (avAs_free rfl) .nil) .nil, rfl, rfl, rfl, rfl⟩
def a95 : AFunc := ⟨1, [(.tmp 2)], (.seq (.region [⟨(some 2), (.mov (.const (.c (.val (.bool false))))), none⟩])
 (.seq (.region [⟨(some 3), (.mov (.tmp 0)), none⟩, ⟨(some 4), (.mov (.tmp 0)), none⟩, ⟨(some 5), (.bin .neq (.tmp 3) (.tmp 4)), none⟩, ⟨(some 2), (.mov (.tmp 5)), none⟩])
 .ret))⟩
set_option maxRecDepth 100000 in
theorem c95 : compFunc Tryd.prog 95 = some a95 := by kernel_rfl
def cmp_isNaN_int_post (r : Bool) : AV → Heap → Nat → Prop := fun v h' n' => v = (B r) ∧ (h' = (fun _ => none)) ∧ n' = 0
/-- cmp.isNaN(int) -/
def cmp_isNaN_int (x_ : Int) : Bool :=
  (!decide (x_ = x_))
theorem cmp_isNaN_int_ok (x_ : Int) : CPure Tryd.prog GG 95 [(I x_)] (B (cmp_isNaN_int x_)) := by
  generalize h : cmp_isNaN_int x_ = o
  refine acalls_of_sv hmix c95 (R := cmp_isNaN_int_post o) ?_
  unfold cmp_isNaN_int at h
  refine Sv.seq ?_
  refine Sv.region ?_
  refine un (a1 rfl ?_)
  refine dnil ?_
  refine Sv.seq ?_
  refine Sv.region ?_
  refine un (a1 rfl ?_)
  refine un (a1 rfl ?_)
  refine un (a1 (v := (B (!decide (x_ = x_)))) rfl ?_)
  refine un (a1 rfl ?_)
  refine dnil ?_
  refine Sv.ret ?_
  subst h
  exact ⟨_, .refl _, _, rfl, ⟨upd (fun _ => none) 0 (some (B (!decide (x_ = x_)))), (fun _ => none), 0⟩, (B (!decide (x_ = x_))), weak_canon [] rfl List.nodup_nil (Nat.le_refl _) (fun b h => absurd h (Nat.not_lt_zero _)) (.cons rfl (avAs_free rfl) .nil) .nil, rfl, rfl, rfl, rfl⟩
def a49 : AFunc := ⟨2, [(.tmp 4)], (.seq (.region [⟨(some 4), (.mov (.const (.c (.val (.int .i64 0))))), none⟩])
 (.seq (.region [⟨(some 7), (.mov (.tmp 0)), none⟩, ⟨(some 8), (.call 95 [(.tmp 7)]), none⟩, ⟨(some 5), (.mov (.tmp 8)), none⟩])
 (.seq (.region [⟨(some 9), (.mov (.tmp 1)), none⟩, ⟨(some 10), (.call 95 [(.tmp 9)]), none⟩, ⟨(some 6), (.mov (.tmp 10)), none⟩])
 (.seq (.seq (.region [⟨(some 11), (.mov (.tmp 5)), none⟩])
 (.cond (.tmp 11) (.seq (.seq (.region [⟨(some 12), (.mov (.tmp 6)), none⟩])
 (.cond (.tmp 12) (.seq (.region [⟨(some 4), (.mov (.const (.c (.val (.int .i64 0))))), none⟩])
 .ret) .skip))
 (.seq (.region [⟨(some 4), (.mov (.const (.c (.val (.int .i64 (-1)))))), none⟩])
 .ret)) .skip))
 (.seq (.seq (.region [⟨(some 13), (.mov (.tmp 6)), none⟩])
 (.cond (.tmp 13) (.seq (.region [⟨(some 4), (.mov (.const (.c (.val (.int .i64 1))))), none⟩])
 .ret) .skip))
 (.seq (.seq (.region [⟨(some 14), (.mov (.tmp 0)), none⟩, ⟨(some 15), (.mov (.tmp 1)), none⟩, ⟨(some 16), (.bin .lss (.tmp 14) (.tmp 15)), none⟩])
 (.cond (.tmp 16) (.seq (.region [⟨(some 4), (.mov (.const (.c (.val (.int .i64 (-1)))))), none⟩])
 .ret) .skip))
 (.seq (.seq (.region [⟨(some 17), (.mov (.tmp 0)), none⟩, ⟨(some 18), (.mov (.tmp 1)), none⟩, ⟨(some 19), (.bin .gtr (.tmp 17) (.tmp 18)), none⟩])
 (.cond (.tmp 19) (.seq (.region [⟨(some 4), (.mov (.const (.c (.val (.int .i64 1))))), none⟩])
 .ret) .skip))
 (.seq (.region [⟨(some 4), (.mov (.const (.c (.val (.int .i64 0))))), none⟩])
 .ret))))))))⟩
set_option maxRecDepth 100000 in
theorem c49 : compFunc Tryd.prog 49 = some a49 := by kernel_rfl
def cmp_Compare_int_post (r : Int) : AV → Heap → Nat → Prop := fun v h' n' => v = (I r) ∧ (h' = (fun _ => none)) ∧ n' = 0
/-- cmp.Compare(int) -/
def cmp_Compare_int (x_ : Int) (y_ : Int) : Int :=
  if (cmp_isNaN_int x_) then
    if (cmp_isNaN_int y_) then
      0
    else
      (-1)
  else
    if (cmp_isNaN_int y_) then
      1
    else
      if decide (x_ < y_) then
        (-1)
      else
        if decide (y_ < x_) then
          1
        else
          0
theorem cmp_Compare_int_ok (x_ : Int) (y_ : Int) : CPure Tryd.prog GG 49 [(I x_), (I y_)] (I (cmp_Compare_int x_ y_)) := by
  generalize h : cmp_Compare_int x_ y_ = o
  refine acalls_of_sv hmix c49 (R := cmp_Compare_int_post o) ?_
  unfold cmp_Compare_int at h
  refine Sv.seq ?_
  refine Sv.region ?_
  refine un (a1 rfl ?_)
  refine dnil ?_
  refine Sv.seq ?_
  refine Sv.region ?_
  refine un (a1 rfl ?_)
  refine un (ac_pure (cmp_isNaN_int_ok x_) rfl rfl rfl ?_)
  refine un (a1 rfl ?_)
  refine dnil ?_
  refine Sv.seq ?_
  refine Sv.region ?_
  refine un (a1 rfl ?_)
  refine un (ac_pure (cmp_isNaN_int_ok y_) rfl rfl rfl ?_)
  refine un (a1 rfl ?_)
  refine dnil ?_
  refine Sv.seq ?_
  refine Sv.seq ?_
  refine Sv.region ?_
  refine un (a1 rfl ?_)
  refine dnil ?_
  refine Sv.cond (b := (cmp_isNaN_int x_)) rfl (fun hc1 => ?_) (fun hc1 => ?_)
  · replace h := ifT hc1 h
    refine Sv.seq ?_
    refine Sv.seq ?_
    refine Sv.region ?_
    refine un (a1 rfl ?_)
    refine dnil ?_
    refine Sv.cond (b := (cmp_isNaN_int y_)) rfl (fun hc2 => ?_) (fun hc2 => ?_)
    · replace h := ifT hc2 h
      refine Sv.seq ?_
      refine Sv.region ?_
      refine un (a1 rfl ?_)
      refine dnil ?_
      refine Sv.ret ?_
      subst h
      exact ⟨_, .refl _, _, rfl, ⟨upd (fun _ => none) 0 (some (I 0)), (fun _ => none), 0⟩, (I 0), weak_canon [] rfl List.nodup_nil (Nat.le_refl _) (fun b h => absurd h (Nat.not_lt_zero _)) (.cons rfl (avAs_free rfl) .nil) .nil, rfl, rfl, rfl, rfl⟩
    · replace h := ifF hc2 h
      refine Sv.skip ?_
      refine Sv.seq ?_
      refine Sv.region ?_
      refine un (a1 rfl ?_)
      refine dnil ?_
      refine Sv.ret ?_
      subst h
      exact ⟨_, .refl _, _, rfl, ⟨upd (fun _ => none) 0 (some (I (-1))), (fun _ => none), 0⟩, (I (-1)), weak_canon [] rfl List.nodup_nil (Nat.le_refl _) (fun b h => absurd h (Nat.not_lt_zero _)) (.cons rfl (avAs_free rfl) .nil) .nil, rfl, rfl, rfl, rfl⟩
  · replace h := ifF hc1 h
    refine Sv.skip ?_
    refine Sv.seq ?_
    refine Sv.seq ?_
    refine Sv.region ?_
    refine un (a1 rfl ?_)
    refine dnil ?_
    refine Sv.cond (b := (cmp_isNaN_int y_)) rfl (fun hc3 => ?_) (fun hc3 => ?_)
    · replace h := ifT hc3 h
      refine Sv.seq ?_
      refine Sv.region ?_
      refine un (a1 rfl ?_)
      refine dnil ?_
      refine Sv.ret ?_
      subst h
      exact ⟨_, .refl _, _, rfl, ⟨upd (fun _ => none) 0 (some (I 1)), (fun _ => none), 0⟩, (I 1), weak_canon [] rfl List.nodup_nil (Nat.le_refl _) (fun b h => absurd h (Nat.not_lt_zero _)) (.cons rfl (avAs_free rfl) .nil) .nil, rfl, rfl, rfl, rfl⟩
    · replace h := ifF hc3 h
      refine Sv.skip ?_
      refine Sv.seq ?_
      refine Sv.seq ?_
      refine Sv.region ?_
      refine un (a1 rfl ?_)
      refine un (a1 rfl ?_)
      refine un (a1 (v := (B (decide (x_ < y_)))) rfl ?_)
      refine dnil ?_
      refine Sv.cond (b := decide (x_ < y_)) rfl (fun hc4 => ?_) (fun hc4 => ?_)
      · replace h := ifT hc4 h
        refine Sv.seq ?_
        refine Sv.region ?_
        refine un (a1 rfl ?_)
        refine dnil ?_
        refine Sv.ret ?_
        subst h
        exact ⟨_, .refl _, _, rfl, ⟨upd (fun _ => none) 0 (some (I (-1))), (fun _ => none), 0⟩, (I (-1)), weak_canon [] rfl List.nodup_nil (Nat.le_refl _) (fun b h => absurd h (Nat.not_lt_zero _)) (.cons rfl (avAs_free rfl) .nil) .nil, rfl, rfl, rfl, rfl⟩
      · replace h := ifF hc4 h
        refine Sv.skip ?_
        refine Sv.seq ?_
        refine Sv.seq ?_
        refine Sv.region ?_
        refine un (a1 rfl ?_)
        refine un (a1 rfl ?_)
        refine un (a1 (v := (B (decide (y_ < x_)))) rfl ?_)
        refine dnil ?_
        refine Sv.cond (b := decide (y_ < x_)) rfl (fun hc5 => ?_) (fun hc5 => ?_)
        · replace h := ifT hc5 h
          refine Sv.seq ?_
          refine Sv.region ?_
          refine un (a1 rfl ?_)
          refine dnil ?_
          refine Sv.ret ?_
          subst h
          exact ⟨_, .refl _, _, rfl, ⟨upd (fun _ => none) 0 (some (I 1)), (fun _ => none), 0⟩, (I 1), weak_canon [] rfl List.nodup_nil (Nat.le_refl _) (fun b h => absurd h (Nat.not_lt_zero _)) (.cons rfl (avAs_free rfl) .nil) .nil, rfl, rfl, rfl, rfl⟩
        · replace h := ifF hc5 h
          refine Sv.skip ?_
          refine Sv.seq ?_
          refine Sv.region ?_
          refine un (a1 rfl ?_)
          refine dnil ?_
          refine Sv.ret ?_
          subst h
          exact ⟨_, .refl _, _, rfl, ⟨upd (fun _ => none) 0 (some (I 0)), (fun _ => none), 0⟩, (I 0), weak_canon [] rfl List.nodup_nil (Nat.le_refl _) (fun b h => absurd h (Nat.not_lt_zero _)) (.cons rfl (avAs_free rfl) .nil) .nil, rfl, rfl, rfl, rfl⟩
def a48 : AFunc := ⟨2, [(.cell true 3 4)], (.seq (.region [⟨(some 4), (.box (.const (.agg [(.val (.int .i64 0)), (.val (.int .i64 0)), (.str [])]))), none⟩])
 (.seq (.seq (.region [⟨(some 5), (.mov (.tmp 0)), none⟩])
 (.block 0 (.seq (.region [⟨(some 7), (.bin .eql (.tmp 5) (.const (.c (.str [60])))), none⟩, ⟨(some 6), (.mov (.tmp 7)), none⟩])
 (.cond (.tmp 6) (.seq (.region [⟨(some 8), (.mov (.tmp 1)), none⟩, ⟨(some 9), (.bin .lss (.tmp 8) (.const (.c (.val (.int .i64 0))))), none⟩, ⟨(some 10), (.call 43 [(.tmp 9)]), none⟩, ⟨none, (.store 3 (.tmp 4) (.tmp 10)), none⟩])
 .ret) (.seq (.region [⟨(some 12), (.bin .eql (.tmp 5) (.const (.c (.str [60, 61])))), none⟩, ⟨(some 11), (.mov (.tmp 12)), none⟩])
 (.cond (.tmp 11) (.seq (.region [⟨(some 13), (.mov (.tmp 1)), none⟩, ⟨(some 14), (.bin .leq (.tmp 13) (.const (.c (.val (.int .i64 0))))), none⟩, ⟨(some 15), (.call 43 [(.tmp 14)]), none⟩, ⟨none, (.store 3 (.tmp 4) (.tmp 15)), none⟩])
 .ret) (.seq (.region [⟨(some 17), (.bin .eql (.tmp 5) (.const (.c (.str [62])))), none⟩, ⟨(some 16), (.mov (.tmp 17)), none⟩])
 (.cond (.tmp 16) (.seq (.region [⟨(some 18), (.mov (.tmp 1)), none⟩, ⟨(some 19), (.bin .gtr (.tmp 18) (.const (.c (.val (.int .i64 0))))), none⟩, ⟨(some 20), (.call 43 [(.tmp 19)]), none⟩, ⟨none, (.store 3 (.tmp 4) (.tmp 20)), none⟩])
 .ret) .skip))))))))
 (.seq (.region [⟨(some 21), (.mov (.tmp 1)), none⟩, ⟨(some 22), (.bin .geq (.tmp 21) (.const (.c (.val (.int .i64 0))))), none⟩, ⟨(some 23), (.call 43 [(.tmp 22)]), none⟩, ⟨none, (.store 3 (.tmp 4) (.tmp 23)), none⟩])
 .ret)))⟩
set_option maxRecDepth 100000 in
theorem c48 : compFunc Tryd.prog 48 = some a48 := by kernel_rfl
def value_ordered_post (r : TJVal) : AV → Heap → Nat → Prop := fun v h' n' => v = (.agg [cI r.Kind, cI r.N, .str r.S]) ∧ (h' = (fun _ => none)) ∧ n' = 0
/-- clerestory/value.ordered -/
def value_ordered (sign : (List UInt8)) (c_ : Int) : TJVal :=
  if decide (sign = [60]) then
    (value_truth (decide (c_ < 0)))
  else
    if decide (sign = [60, 61]) then
      (value_truth (decide (c_ ≤ 0)))
    else
      if decide (sign = [62]) then
        (value_truth (decide (0 < c_)))
      else
        (value_truth (decide (0 ≤ c_)))
theorem value_ordered_ok (sign : (List UInt8)) (c_ : Int) : CPure Tryd.prog GG 48 [(S sign), (I c_)] (.agg [cI ((value_ordered sign c_).Kind), cI ((value_ordered sign c_).N), .str ((value_ordered sign c_).S)]) := by
  generalize h : value_ordered sign c_ = o
  refine acalls_of_sv hmix c48 (R := value_ordered_post o) ?_
  unfold value_ordered at h
  refine Sv.seq ?_
  refine Sv.region ?_
  refine un (a2v (v := (.c (.ref 0 3 0 0))) (h' := upd _ 0 (some (.cells 3 [[cI 0, cI 0, .str []]]))) (n' := 1) rfl rfl (fun h => by cases h) ?_)
  refine dnil ?_
  refine Sv.seq ?_
  refine Sv.seq ?_
  refine Sv.region ?_
  refine un (a1 rfl ?_)
  refine dnil ?_
  refine Sv.block ?_
  refine Sv.seq ?_
  refine Sv.region ?_
  refine un (a1 (v := (B (decide (sign = [60])))) rfl ?_)
  refine un (a1 rfl ?_)
  refine dnil ?_
  refine Sv.cond (b := decide (sign = [60])) rfl (fun hc1 => ?_) (fun hc1 => ?_)
  · replace h := ifT hc1 h
    refine Sv.seq ?_
    refine Sv.region ?_
    refine un (a1 rfl ?_)
    refine un (a1 (v := (B (decide (c_ < 0)))) rfl ?_)
    refine un (ac_pure (value_truth_ok (decide (c_ < 0))) rfl rfl rfl ?_)
    refine un (a2n (h' := upd _ 0 (some (.cells 3 [[cI ((value_truth (decide (c_ < 0))).Kind), cI ((value_truth (decide (c_ < 0))).N), .str ((value_truth (decide (c_ < 0))).S)]]))) (n' := 1) rfl rfl (fun h => by cases h) ?_)
    refine dnil ?_
    refine Sv.ret ?_
    subst h
    exact ⟨_, .refl _, _, rfl, ⟨upd (fun _ => none) 0 (some (.agg [cI ((value_truth (decide (c_ < 0))).Kind), cI ((value_truth (decide (c_ < 0))).N), .str ((value_truth (decide (c_ < 0))).S)])), (fun _ => none), 0⟩, (.agg [cI ((value_truth (decide (c_ < 0))).Kind), cI ((value_truth (decide (c_ < 0))).N), .str ((value_truth (decide (c_ < 0))).S)]), weak_canon [] rfl List.nodup_nil (Nat.le_refl _) (fun b h => absurd h (Nat.not_lt_zero _)) (.cons rfl (avAs_free rfl) .nil) .nil, rfl, rfl, rfl, rfl⟩
  · replace h := ifF hc1 h
    refine Sv.seq ?_
    refine Sv.region ?_
    refine un (a1 (v := (B (decide (sign = [60, 61])))) rfl ?_)
    refine un (a1 rfl ?_)
    refine dnil ?_
    refine Sv.cond (b := decide (sign = [60, 61])) rfl (fun hc2 => ?_) (fun hc2 => ?_)
    · replace h := ifT hc2 h
      refine Sv.seq ?_
      refine Sv.region ?_
      refine un (a1 rfl ?_)
      refine un (a1 (v := (B (decide (c_ ≤ 0)))) rfl ?_)
      refine un (ac_pure (value_truth_ok (decide (c_ ≤ 0))) rfl rfl rfl ?_)
      refine un (a2n (h' := upd _ 0 (some (.cells 3 [[cI ((value_truth (decide (c_ ≤ 0))).Kind), cI ((value_truth (decide (c_ ≤ 0))).N), .str ((value_truth (decide (c_ ≤ 0))).S)]]))) (n' := 1) rfl rfl (fun h => by cases h) ?_)
      refine dnil ?_
      refine Sv.ret ?_
      subst h
      exact ⟨_, .refl _, _, rfl, ⟨upd (fun _ => none) 0 (some (.agg [cI ((value_truth (decide (c_ ≤ 0))).Kind), cI ((value_truth (decide (c_ ≤ 0))).N), .str ((value_truth (decide (c_ ≤ 0))).S)])), (fun _ => none), 0⟩, (.agg [cI ((value_truth (decide (c_ ≤ 0))).Kind), cI ((value_truth (decide (c_ ≤ 0))).N), .str ((value_truth (decide (c_ ≤ 0))).S)]), weak_canon [] rfl List.nodup_nil (Nat.le_refl _) (fun b h => absurd h (Nat.not_lt_zero _)) (.cons rfl (avAs_free rfl) .nil) .nil, rfl, rfl, rfl, rfl⟩
    · replace h := ifF hc2 h
      refine Sv.seq ?_
      refine Sv.region ?_
      refine un (a1 (v := (B (decide (sign = [62])))) rfl ?_)
      refine un (a1 rfl ?_)
      refine dnil ?_
      refine Sv.cond (b := decide (sign = [62])) rfl (fun hc3 => ?_) (fun hc3 => ?_)
      · replace h := ifT hc3 h
        refine Sv.seq ?_
        refine Sv.region ?_
        refine un (a1 rfl ?_)
        refine un (a1 (v := (B (decide (0 < c_)))) rfl ?_)
        refine un (ac_pure (value_truth_ok (decide (0 < c_))) rfl rfl rfl ?_)
        refine un (a2n (h' := upd _ 0 (some (.cells 3 [[cI ((value_truth (decide (0 < c_))).Kind), cI ((value_truth (decide (0 < c_))).N), .str ((value_truth (decide (0 < c_))).S)]]))) (n' := 1) rfl rfl (fun h => by cases h) ?_)
        refine dnil ?_
        refine Sv.ret ?_
        subst h
        exact ⟨_, .refl _, _, rfl, ⟨upd (fun _ => none) 0 (some (.agg [cI ((value_truth (decide (0 < c_))).Kind), cI ((value_truth (decide (0 < c_))).N), .str ((value_truth (decide (0 < c_))).S)])), (fun _ => none), 0⟩, (.agg [cI ((value_truth (decide (0 < c_))).Kind), cI ((value_truth (decide (0 < c_))).N), .str ((value_truth (decide (0 < c_))).S)]), weak_canon [] rfl List.nodup_nil (Nat.le_refl _) (fun b h => absurd h (Nat.not_lt_zero _)) (.cons rfl (avAs_free rfl) .nil) .nil, rfl, rfl, rfl, rfl⟩
      · replace h := ifF hc3 h
        refine Sv.skip ?_
        refine Sv.seq ?_
        refine Sv.region ?_
        refine un (a1 rfl ?_)
        refine un (a1 (v := (B (decide (0 ≤ c_)))) rfl ?_)
        refine un (ac_pure (value_truth_ok (decide (0 ≤ c_))) rfl rfl rfl ?_)
        refine un (a2n (h' := upd _ 0 (some (.cells 3 [[cI ((value_truth (decide (0 ≤ c_))).Kind), cI ((value_truth (decide (0 ≤ c_))).N), .str ((value_truth (decide (0 ≤ c_))).S)]]))) (n' := 1) rfl rfl (fun h => by cases h) ?_)
        refine dnil ?_
        refine Sv.ret ?_
        subst h
        exact ⟨_, .refl _, _, rfl, ⟨upd (fun _ => none) 0 (some (.agg [cI ((value_truth (decide (0 ≤ c_))).Kind), cI ((value_truth (decide (0 ≤ c_))).N), .str ((value_truth (decide (0 ≤ c_))).S)])), (fun _ => none), 0⟩, (.agg [cI ((value_truth (decide (0 ≤ c_))).Kind), cI ((value_truth (decide (0 ≤ c_))).N), .str ((value_truth (decide (0 ≤ c_))).S)]), weak_canon [] rfl List.nodup_nil (Nat.le_refl _) (fun b h => absurd h (Nat.not_lt_zero _)) (.cons rfl (avAs_free rfl) .nil) .nil, rfl, rfl, rfl, rfl⟩
noncomputable abbrev strings_Compare (a_ : (List UInt8)) (b_ : (List UInt8)) : Option Int := compareS? a_ b_
/-- strings.Compare, by the contract of the shelf -/
theorem strings_Compare_ok {a_ : (List UInt8)} {b_ : (List UInt8)} {r : Int} (h : strings_Compare a_ b_ = some r) : CPure Tryd.prog GG 50 [(S a_), (S b_)] (I r) := compareS_ok Tryd.lays106 h
def a15_c2 : ACode := (.cond (.tmp 83) (.seq (.block 2 (.seq (.region [⟨(some 89), (.mov (.tmp 8)), none⟩, ⟨(some 88), (.mov (.tmp 89)), none⟩])
 (.cond (.tmp 88) (.seq (.region [⟨(some 90), (.mov (.tmp 0)), none⟩, ⟨(some 91), (.faddr 1 (.tmp 4)), none⟩, ⟨(some 92), (.load false 1 (.tmp 91)), none⟩, ⟨(some 93), (.faddr 1 (.tmp 5)), none⟩, ⟨(some 94), (.load false 1 (.tmp 93)), none⟩, ⟨(some 95), (.call 49 [(.tmp 92), (.tmp 94)]), none⟩, ⟨(some 96), (.call 48 [(.tmp 90), (.tmp 95)]), none⟩, ⟨none, (.store 3 (.tmp 6) (.tmp 96)), none⟩, ⟨(some 7), (.mov (.const (.c (.str [])))), none⟩])
 .ret) (.seq (.region [⟨(some 98), (.mov (.tmp 9)), none⟩, ⟨(some 97), (.mov (.tmp 98)), none⟩])
 (.cond (.tmp 97) (.seq (.region [⟨(some 99), (.mov (.tmp 0)), none⟩, ⟨(some 100), (.faddr 2 (.tmp 4)), none⟩, ⟨(some 101), (.load false 1 (.tmp 100)), none⟩, ⟨(some 102), (.faddr 2 (.tmp 5)), none⟩, ⟨(some 103), (.load false 1 (.tmp 102)), none⟩, ⟨(some 104), (.call 50 [(.tmp 101), (.tmp 103)]), none⟩, ⟨(some 105), (.call 48 [(.tmp 99), (.tmp 104)]), none⟩, ⟨none, (.store 3 (.tmp 6) (.tmp 105)), none⟩, ⟨(some 7), (.mov (.const (.c (.str [])))), none⟩])
 .ret) .skip)))))
 (.seq (.region [⟨(some 106), (.build [(.val (.int .i64 0)), (.val (.int .i64 0)), (.str [])] []), none⟩, ⟨none, (.store 3 (.tmp 6) (.tmp 106)), none⟩, ⟨(some 7), (.mov (.const (.c (.str [107, 105, 110, 100])))), none⟩])
 .ret)) .skip)
def a15_c1 : ACode := (.cond (.tmp 42) (.seq (.block 1 (.seq (.region [⟨(some 49), (.mov (.tmp 8)), none⟩, ⟨(some 48), (.mov (.tmp 49)), none⟩])
 (.cond (.tmp 48) (.seq (.region [⟨(some 50), (.mov (.tmp 0)), none⟩, ⟨(some 51), (.faddr 1 (.tmp 4)), none⟩, ⟨(some 52), (.load false 1 (.tmp 51)), none⟩, ⟨(some 53), (.faddr 1 (.tmp 5)), none⟩, ⟨(some 54), (.load false 1 (.tmp 53)), none⟩, ⟨(some 55), (.call 46 [(.tmp 50), (.tmp 52), (.tmp 54)]), none⟩, ⟨(some 56), (.ext (.tmp 55) 0), none⟩, ⟨(some 57), (.ext (.tmp 55) 1), none⟩, ⟨none, (.store 3 (.tmp 6) (.tmp 56)), none⟩, ⟨(some 7), (.mov (.tmp 57)), none⟩])
 .ret) (.seq (.region [⟨(some 59), (.mov (.tmp 0)), none⟩, ⟨(some 60), (.bin .eql (.tmp 59) (.const (.c (.str [43])))), none⟩, ⟨(some 61), (.mov (.tmp 60)), none⟩, ⟨(some 62), (.faddr 0 (.tmp 4)), (some (61, true))⟩, ⟨(some 63), (.load false 1 (.tmp 62)), (some (61, true))⟩, ⟨(some 64), (.bin .eql (.tmp 63) (.const (.c (.val (.int .i64 3))))), (some (61, true))⟩, ⟨(some 65), (.mov (.tmp 64)), (some (61, true))⟩, ⟨(some 66), (.faddr 0 (.tmp 5)), (some (65, false))⟩, ⟨(some 67), (.load false 1 (.tmp 66)), (some (65, false))⟩, ⟨(some 68), (.bin .eql (.tmp 67) (.const (.c (.val (.int .i64 3))))), (some (65, false))⟩, ⟨(some 69), (.pick (.tmp 65) (.const (.c (.val (.bool true)))) (.tmp 68)), (some (61, true))⟩, ⟨(some 70), (.pick (.tmp 61) (.tmp 69) (.const (.c (.val (.bool false))))), none⟩, ⟨(some 58), (.mov (.tmp 70)), none⟩])
 (.cond (.tmp 58) (.seq (.drawn (.fin [(⟨(some 71), (.load true 3 (.tmp 4)), none⟩, (0, 0)), (⟨(some 73), (.load true 3 (.tmp 5)), none⟩, (0, 2)), (⟨(some 72), (.call 47 [(.tmp 71)]), none⟩, (1, 1)), (⟨(some 74), (.call 47 [(.tmp 73)]), none⟩, (2, 3)), (⟨(some 75), (.bin .add (.tmp 72) (.tmp 74)), none⟩, (0, 4)), (⟨(some 10), (.mov (.tmp 75)), none⟩, (0, 5))]))
 (.seq (.seq (.region [⟨(some 76), (.mov (.tmp 10)), none⟩, ⟨(some 77), (.lenS (.tmp 76)), none⟩, ⟨(some 78), (.bin .gtr (.tmp 77) (.const (.c (.val (.int .i64 2000))))), none⟩])
 (.cond (.tmp 78) (.seq (.region [⟨(some 79), (.build [(.val (.int .i64 0)), (.val (.int .i64 0)), (.str [])] []), none⟩, ⟨none, (.store 3 (.tmp 6) (.tmp 79)), none⟩, ⟨(some 7), (.mov (.const (.c (.str [108, 97, 114, 103, 101])))), none⟩])
 .ret) .skip))
 (.seq (.region [⟨(some 80), (.mov (.tmp 10)), none⟩, ⟨(some 81), (.build [(.val (.int .i64 0)), (.val (.int .i64 0)), (.str [])] [(0, (1, (.const (.c (.val (.int .i64 3)))))), (2, (1, (.tmp 80)))]), none⟩, ⟨none, (.store 3 (.tmp 6) (.tmp 81)), none⟩, ⟨(some 7), (.mov (.const (.c (.str [])))), none⟩])
 .ret))) .skip)))))
 (.seq (.region [⟨(some 82), (.build [(.val (.int .i64 0)), (.val (.int .i64 0)), (.str [])] []), none⟩, ⟨none, (.store 3 (.tmp 6) (.tmp 82)), none⟩, ⟨(some 7), (.mov (.const (.c (.str [107, 105, 110, 100])))), none⟩])
 .ret)) (.seq (.seq (.region [⟨(some 84), (.bin .eql (.tmp 31) (.const (.c (.str [60])))), none⟩, ⟨(some 83), (.mov (.tmp 84)), none⟩])
 (.cond (.tmp 83) .skip (.seq (.region [⟨(some 85), (.bin .eql (.tmp 31) (.const (.c (.str [60, 61])))), none⟩, ⟨(some 83), (.mov (.tmp 85)), none⟩])
 (.cond (.tmp 83) .skip (.seq (.region [⟨(some 86), (.bin .eql (.tmp 31) (.const (.c (.str [62])))), none⟩, ⟨(some 83), (.mov (.tmp 86)), none⟩])
 (.cond (.tmp 83) .skip (.region [⟨(some 87), (.bin .eql (.tmp 31) (.const (.c (.str [62, 61])))), none⟩, ⟨(some 83), (.mov (.tmp 87)), none⟩])))))))
 a15_c2))
def a15_c0 : ACode := (.cond (.tmp 32) (.seq (.region [⟨(some 35), (.load true 3 (.tmp 4)), none⟩, ⟨(some 36), (.load true 3 (.tmp 5)), none⟩, ⟨(some 37), (.eqs false true [.i, .i, .s] (.tmp 35) (.tmp 36)), none⟩, ⟨(some 38), (.mov (.tmp 0)), none⟩, ⟨(some 39), (.bin .eql (.tmp 38) (.const (.c (.str [61, 61])))), none⟩, ⟨(some 40), (.eqs false false [.b] (.tmp 37) (.tmp 39)), none⟩, ⟨(some 41), (.call 43 [(.tmp 40)]), none⟩, ⟨none, (.store 3 (.tmp 6) (.tmp 41)), none⟩, ⟨(some 7), (.mov (.const (.c (.str [])))), none⟩])
 .ret) (.seq (.seq (.region [⟨(some 43), (.bin .eql (.tmp 31) (.const (.c (.str [43])))), none⟩, ⟨(some 42), (.mov (.tmp 43)), none⟩])
 (.cond (.tmp 42) .skip (.seq (.region [⟨(some 44), (.bin .eql (.tmp 31) (.const (.c (.str [45])))), none⟩, ⟨(some 42), (.mov (.tmp 44)), none⟩])
 (.cond (.tmp 42) .skip (.seq (.region [⟨(some 45), (.bin .eql (.tmp 31) (.const (.c (.str [42])))), none⟩, ⟨(some 42), (.mov (.tmp 45)), none⟩])
 (.cond (.tmp 42) .skip (.seq (.region [⟨(some 46), (.bin .eql (.tmp 31) (.const (.c (.str [47])))), none⟩, ⟨(some 42), (.mov (.tmp 46)), none⟩])
 (.cond (.tmp 42) .skip (.region [⟨(some 47), (.bin .eql (.tmp 31) (.const (.c (.str [37])))), none⟩, ⟨(some 42), (.mov (.tmp 47)), none⟩])))))))))
 a15_c1))
def a15_c3 : ACode := (.seq (.region [⟨(some 107), (.build [(.val (.int .i64 0)), (.val (.int .i64 0)), (.str [])] []), none⟩, ⟨none, (.store 3 (.tmp 6) (.tmp 107)), none⟩, ⟨(some 7), (.mov (.const (.c (.str [115, 105, 103, 110])))), none⟩])
 .ret)
def a15 : AFunc := ⟨3, [(.cell true 3 6), (.tmp 7)], (.seq (.region [⟨(some 4), (.box (.tmp 1)), none⟩, ⟨(some 5), (.box (.tmp 2)), none⟩, ⟨(some 6), (.box (.const (.agg [(.val (.int .i64 0)), (.val (.int .i64 0)), (.str [])]))), none⟩, ⟨(some 7), (.mov (.const (.c (.str [])))), none⟩])
 (.seq (.drawn (.fin [(⟨(some 11), (.load true 3 (.tmp 4)), none⟩, (0, 0)), (⟨(some 13), (.load true 3 (.tmp 5)), none⟩, (0, 2)), (⟨(some 12), (.call 42 [(.tmp 11)]), none⟩, (1, 1)), (⟨(some 14), (.call 42 [(.tmp 13)]), none⟩, (2, 3)), (⟨none, (.store 3 (.tmp 4) (.tmp 12)), none⟩, (2, 4)), (⟨none, (.store 3 (.tmp 5) (.tmp 14)), none⟩, (2, 5))]))
 (.seq (.drawn (.fin [(⟨(some 15), (.faddr 0 (.tmp 4)), none⟩, (0, 0)), (⟨(some 16), (.load false 1 (.tmp 15)), none⟩, (0, 1)), (⟨(some 17), (.bin .eql (.tmp 16) (.const (.c (.val (.int .i64 2))))), none⟩, (0, 2)), (⟨(some 18), (.mov (.tmp 17)), none⟩, (0, 3)), (⟨(some 19), (.faddr 0 (.tmp 5)), (some (18, true))⟩, (0, 4)), (⟨(some 20), (.load false 1 (.tmp 19)), (some (18, true))⟩, (0, 5)), (⟨(some 21), (.bin .eql (.tmp 20) (.const (.c (.val (.int .i64 2))))), (some (18, true))⟩, (0, 6)), (⟨(some 22), (.pick (.tmp 18) (.tmp 21) (.const (.c (.val (.bool false))))), none⟩, (0, 7)), (⟨(some 23), (.faddr 0 (.tmp 4)), none⟩, (0, 8)), (⟨(some 24), (.load false 1 (.tmp 23)), none⟩, (0, 9)), (⟨(some 25), (.bin .eql (.tmp 24) (.const (.c (.val (.int .i64 3))))), none⟩, (0, 10)), (⟨(some 26), (.mov (.tmp 25)), none⟩, (0, 11)), (⟨(some 27), (.faddr 0 (.tmp 5)), (some (26, true))⟩, (0, 12)), (⟨(some 28), (.load false 1 (.tmp 27)), (some (26, true))⟩, (0, 13)), (⟨(some 29), (.bin .eql (.tmp 28) (.const (.c (.val (.int .i64 3))))), (some (26, true))⟩, (0, 14)), (⟨(some 30), (.pick (.tmp 26) (.tmp 29) (.const (.c (.val (.bool false))))), none⟩, (0, 15)), (⟨(some 8), (.mov (.tmp 22)), none⟩, (0, 16)), (⟨(some 9), (.mov (.tmp 30)), none⟩, (0, 17))]))
 (.seq (.seq (.region [⟨(some 31), (.mov (.tmp 0)), none⟩])
 (.block 0 (.seq (.seq (.region [⟨(some 33), (.bin .eql (.tmp 31) (.const (.c (.str [61, 61])))), none⟩, ⟨(some 32), (.mov (.tmp 33)), none⟩])
 (.cond (.tmp 32) .skip (.region [⟨(some 34), (.bin .eql (.tmp 31) (.const (.c (.str [33, 61])))), none⟩, ⟨(some 32), (.mov (.tmp 34)), none⟩])))
 a15_c0)))
 a15_c3))))⟩
set_option maxRecDepth 100000 in
theorem c15 : compFunc Tryd.prog 15 = some a15 := by kernel_rfl
def value_Binary_post (r : (TJVal × (List UInt8))) : AV → Heap → Nat → Prop := fun v h' n' => v = (.tup [(.agg [cI r.1.Kind, cI r.1.N, .str r.1.S]), (S r.2)]) ∧ (h' = (fun _ => none)) ∧ n' = 0
abbrev value_Binary_q0 (o : (TJVal × (List UInt8))) : AExit → St → Prop := AThen (Sv Tryd.prog GG 0 a15_c3 (Ends a15.results 0 (value_Binary_post o))) (Ends a15.results 0 (value_Binary_post o))
abbrev value_Binary_q1 (o : (TJVal × (List UInt8))) : AExit → St → Prop := ABlock 0 (value_Binary_q0 o)
noncomputable def value_Binary_j3 (a_ : TJVal) (b_ : TJVal) (sign : (List UInt8)) (v83 : Bool) : Option (TJVal × (List UInt8)) :=
  if v83 then
    if ((decide ((value_right a_).Kind = 2)) && (decide ((value_right b_).Kind = 2))) then
      letIn (value_ordered sign (cmp_Compare_int ((value_right a_).N) ((value_right b_).N))) fun r_4 : TJVal =>
      some (r_4, [])
    else
      if ((decide ((value_right a_).Kind = 3)) && (decide ((value_right b_).Kind = 3))) then
        (strings_Compare ((value_right a_).S) ((value_right b_).S)).bind fun r_5 =>
        some ((value_ordered sign r_5), [])
      else
        some ((⟨0, 0, []⟩ : TJVal), [107, 105, 110, 100])
  else
    some ((⟨0, 0, []⟩ : TJVal), [115, 105, 103, 110])
theorem value_Binary_j3_ok {a_ : TJVal} {b_ : TJVal} {sign : (List UInt8)} {v83 : Bool} {o : (TJVal × (List UInt8))} (h : value_Binary_j3 a_ b_ sign v83 = some o) :
    Sv Tryd.prog GG 0 a15_c2 (value_Binary_q1 o) ⟨(upd (upd (upd (upd (upd (upd (upd (fun _ => none) 0 (some (S sign))) 4 (some (.c (.ref 0 3 0 0)))) 5 (some (.c (.ref 1 3 0 0)))) 6 (some (.c (.ref 2 3 0 0)))) 8 (some (B ((decide ((value_right a_).Kind = 2)) && (decide ((value_right b_).Kind = 2)))))) 9 (some (B ((decide ((value_right a_).Kind = 3)) && (decide ((value_right b_).Kind = 3)))))) 83 (some (B v83))), (upd (upd (upd (fun _ => none) 0 (some (.cells 3 [[cI ((value_right a_).Kind), cI ((value_right a_).N), .str ((value_right a_).S)]]))) 1 (some (.cells 3 [[cI ((value_right b_).Kind), cI ((value_right b_).N), .str ((value_right b_).S)]]))) 2 (some (.cells 3 [[cI 0, cI 0, .str []]]))), 3⟩ := by
  unfold value_Binary_j3 at h
  refine Sv.cond (b := v83) rfl (fun hc10 => ?_) (fun hc10 => ?_)
  · replace h := ifT hc10 h
    refine Sv.seq ?_
    refine Sv.block ?_
    refine Sv.seq ?_
    refine Sv.region ?_
    refine un (a1 rfl ?_)
    refine un (a1 rfl ?_)
    refine dnil ?_
    refine Sv.cond (b := ((decide ((value_right a_).Kind = 2)) && (decide ((value_right b_).Kind = 2)))) rfl (fun hc11 => ?_) (fun hc11 => ?_)
    · replace h := ifT hc11 h
      refine Sv.seq ?_
      refine Sv.region ?_
      refine un (a1 rfl ?_)
      refine un (a1 (v := (.c (.ref 0 3 0 1))) rfl ?_)
      refine un (a1 (v := (I ((value_right a_).N))) rfl ?_)
      refine un (a1 (v := (.c (.ref 1 3 0 1))) rfl ?_)
      refine un (a1 (v := (I ((value_right b_).N))) rfl ?_)
      refine un (ac_pure (cmp_Compare_int_ok ((value_right a_).N) ((value_right b_).N)) rfl rfl rfl ?_)
      obtain ⟨r_4, hr_4⟩ : ∃ r_4 : TJVal, r_4 = (value_ordered sign (cmp_Compare_int ((value_right a_).N) ((value_right b_).N))) := ⟨_, rfl⟩
      replace h := letAt hr_4 h
      have pr_4 := (value_ordered_ok sign (cmp_Compare_int ((value_right a_).N) ((value_right b_).N)))
      rw [← hr_4] at pr_4
      refine un (ac_pure pr_4 rfl rfl rfl ?_)
      refine un (a2n (h' := upd _ 2 (some (.cells 3 [[cI r_4.Kind, cI r_4.N, .str r_4.S]]))) (n' := 3) rfl rfl (fun h => by cases h) ?_)
      refine un (a1 rfl ?_)
      refine dnil ?_
      refine Sv.ret ?_
      replace h := Option.some.inj h
      subst h
      exact ⟨_, .refl _, _, rfl, ⟨upd (fun _ => none) 0 (some (.tup [(.agg [cI r_4.Kind, cI r_4.N, .str r_4.S]), (S [])])), (fun _ => none), 0⟩, (.tup [(.agg [cI r_4.Kind, cI r_4.N, .str r_4.S]), (S [])]), weak_canon [] rfl List.nodup_nil (Nat.le_refl _) (fun b h => absurd h (Nat.not_lt_zero _)) (.cons rfl (avAs_tup (.cons (avAs_free rfl) (.cons (avAs_free rfl) .nil))) .nil) .nil, rfl, rfl, rfl, rfl⟩
    · replace h := ifF hc11 h
      refine Sv.seq ?_
      refine Sv.region ?_
      refine un (a1 rfl ?_)
      refine un (a1 rfl ?_)
      refine dnil ?_
      refine Sv.cond (b := ((decide ((value_right a_).Kind = 3)) && (decide ((value_right b_).Kind = 3)))) rfl (fun hc12 => ?_) (fun hc12 => ?_)
      · replace h := ifT hc12 h
        refine Sv.seq ?_
        refine Sv.region ?_
        refine un (a1 rfl ?_)
        refine un (a1 (v := (.c (.ref 0 3 0 2))) rfl ?_)
        refine un (a1 (v := (S ((value_right a_).S))) rfl ?_)
        refine un (a1 (v := (.c (.ref 1 3 0 2))) rfl ?_)
        refine un (a1 (v := (S ((value_right b_).S))) rfl ?_)
        obtain ⟨r_5, hr4, h⟩ := bnd h
        refine un (ac_pure (strings_Compare_ok hr4) rfl rfl rfl ?_)
        refine un (ac_pure (value_ordered_ok sign r_5) rfl rfl rfl ?_)
        refine un (a2n (h' := upd _ 2 (some (.cells 3 [[cI ((value_ordered sign r_5).Kind), cI ((value_ordered sign r_5).N), .str ((value_ordered sign r_5).S)]]))) (n' := 3) rfl rfl (fun h => by cases h) ?_)
        refine un (a1 rfl ?_)
        refine dnil ?_
        refine Sv.ret ?_
        replace h := Option.some.inj h
        subst h
        exact ⟨_, .refl _, _, rfl, ⟨upd (fun _ => none) 0 (some (.tup [(.agg [cI ((value_ordered sign r_5).Kind), cI ((value_ordered sign r_5).N), .str ((value_ordered sign r_5).S)]), (S [])])), (fun _ => none), 0⟩, (.tup [(.agg [cI ((value_ordered sign r_5).Kind), cI ((value_ordered sign r_5).N), .str ((value_ordered sign r_5).S)]), (S [])]), weak_canon [] rfl List.nodup_nil (Nat.le_refl _) (fun b h => absurd h (Nat.not_lt_zero _)) (.cons rfl (avAs_tup (.cons (avAs_free rfl) (.cons (avAs_free rfl) .nil))) .nil) .nil, rfl, rfl, rfl, rfl⟩
      · replace h := ifF hc12 h
        refine Sv.skip ?_
        refine Sv.seq ?_
        refine Sv.region ?_
        refine un (a1 (v := (.agg [cI 0, cI 0, .str []])) rfl ?_)
        refine un (a2n (h' := upd _ 2 (some (.cells 3 [[cI 0, cI 0, .str []]]))) (n' := 3) rfl rfl (fun h => by cases h) ?_)
        refine un (a1 rfl ?_)
        refine dnil ?_
        refine Sv.ret ?_
        replace h := Option.some.inj h
        subst h
        exact ⟨_, .refl _, _, rfl, ⟨upd (fun _ => none) 0 (some (.tup [(.agg [cI 0, cI 0, .str []]), (S [107, 105, 110, 100])])), (fun _ => none), 0⟩, (.tup [(.agg [cI 0, cI 0, .str []]), (S [107, 105, 110, 100])]), weak_canon [] rfl List.nodup_nil (Nat.le_refl _) (fun b h => absurd h (Nat.not_lt_zero _)) (.cons rfl (avAs_tup (.cons (avAs_free rfl) (.cons (avAs_free rfl) .nil))) .nil) .nil, rfl, rfl, rfl, rfl⟩
  · replace h := ifF hc10 h
    refine Sv.skip ?_
    refine Sv.seq ?_
    refine Sv.region ?_
    refine un (a1 (v := (.agg [cI 0, cI 0, .str []])) rfl ?_)
    refine un (a2n (h' := upd _ 2 (some (.cells 3 [[cI 0, cI 0, .str []]]))) (n' := 3) rfl rfl (fun h => by cases h) ?_)
    refine un (a1 rfl ?_)
    refine dnil ?_
    refine Sv.ret ?_
    replace h := Option.some.inj h
    subst h
    exact ⟨_, .refl _, _, rfl, ⟨upd (fun _ => none) 0 (some (.tup [(.agg [cI 0, cI 0, .str []]), (S [115, 105, 103, 110])])), (fun _ => none), 0⟩, (.tup [(.agg [cI 0, cI 0, .str []]), (S [115, 105, 103, 110])]), weak_canon [] rfl List.nodup_nil (Nat.le_refl _) (fun b h => absurd h (Nat.not_lt_zero _)) (.cons rfl (avAs_tup (.cons (avAs_free rfl) (.cons (avAs_free rfl) .nil))) .nil) .nil, rfl, rfl, rfl, rfl⟩
noncomputable def value_Binary_j2 (a_ : TJVal) (b_ : TJVal) (sign : (List UInt8)) (v42 : Bool) : Option (TJVal × (List UInt8)) :=
  if v42 then
    if ((decide ((value_right a_).Kind = 2)) && (decide ((value_right b_).Kind = 2))) then
      (value_reckoned sign ((value_right a_).N) ((value_right b_).N)).bind fun r_ =>
      some (r_.1, r_.2)
    else
      if ((decide (sign = [43])) && ((decide ((value_right a_).Kind = 3)) || (decide ((value_right b_).Kind = 3)))) then
        (value_Text (value_right a_)).bind fun r_1 =>
        (value_Text (value_right b_)).bind fun r_2 =>
        (cat? r_1 r_2).bind fun r_3 =>
        if decide (2000 < (r_3.length : Int)) then
          some ((⟨0, 0, []⟩ : TJVal), [108, 97, 114, 103, 101])
        else
          some ((⟨3, 0, r_3⟩ : TJVal), [])
      else
        some ((⟨0, 0, []⟩ : TJVal), [107, 105, 110, 100])
  else
    if decide (sign = [60]) then
      value_Binary_j3 a_ b_ sign (decide (sign = [60]))
    else
      if decide (sign = [60, 61]) then
        value_Binary_j3 a_ b_ sign (decide (sign = [60, 61]))
      else
        if decide (sign = [62]) then
          value_Binary_j3 a_ b_ sign (decide (sign = [62]))
        else
          value_Binary_j3 a_ b_ sign (decide (sign = [62, 61]))
theorem value_Binary_j2_ok {a_ : TJVal} {b_ : TJVal} {sign : (List UInt8)} {v42 : Bool} {o : (TJVal × (List UInt8))} (h : value_Binary_j2 a_ b_ sign v42 = some o) :
    Sv Tryd.prog GG 0 a15_c1 (value_Binary_q1 o) ⟨(upd (upd (upd (upd (upd (upd (upd (upd (fun _ => none) 0 (some (S sign))) 4 (some (.c (.ref 0 3 0 0)))) 5 (some (.c (.ref 1 3 0 0)))) 6 (some (.c (.ref 2 3 0 0)))) 8 (some (B ((decide ((value_right a_).Kind = 2)) && (decide ((value_right b_).Kind = 2)))))) 9 (some (B ((decide ((value_right a_).Kind = 3)) && (decide ((value_right b_).Kind = 3)))))) 31 (some (S sign))) 42 (some (B v42))), (upd (upd (upd (fun _ => none) 0 (some (.cells 3 [[cI ((value_right a_).Kind), cI ((value_right a_).N), .str ((value_right a_).S)]]))) 1 (some (.cells 3 [[cI ((value_right b_).Kind), cI ((value_right b_).N), .str ((value_right b_).S)]]))) 2 (some (.cells 3 [[cI 0, cI 0, .str []]]))), 3⟩ := by
  unfold value_Binary_j2 at h
  refine Sv.cond (b := v42) rfl (fun hc4 => ?_) (fun hc4 => ?_)
  · replace h := ifT hc4 h
    refine Sv.seq ?_
    refine Sv.block ?_
    refine Sv.seq ?_
    refine Sv.region ?_
    refine un (a1 rfl ?_)
    refine un (a1 rfl ?_)
    refine dnil ?_
    refine Sv.cond (b := ((decide ((value_right a_).Kind = 2)) && (decide ((value_right b_).Kind = 2)))) rfl (fun hc5 => ?_) (fun hc5 => ?_)
    · replace h := ifT hc5 h
      refine Sv.seq ?_
      refine Sv.region ?_
      refine un (a1 rfl ?_)
      refine un (a1 (v := (.c (.ref 0 3 0 1))) rfl ?_)
      refine un (a1 (v := (I ((value_right a_).N))) rfl ?_)
      refine un (a1 (v := (.c (.ref 1 3 0 1))) rfl ?_)
      refine un (a1 (v := (I ((value_right b_).N))) rfl ?_)
      obtain ⟨r_, hr1, h⟩ := bnd h
      refine un (ac_pure (value_reckoned_ok hr1) rfl rfl rfl ?_)
      refine un (a1 (v := (.agg [cI r_.1.Kind, cI r_.1.N, .str r_.1.S])) rfl ?_)
      refine un (a1 (v := (S r_.2)) rfl ?_)
      refine un (a2n (h' := upd _ 2 (some (.cells 3 [[cI r_.1.Kind, cI r_.1.N, .str r_.1.S]]))) (n' := 3) rfl rfl (fun h => by cases h) ?_)
      refine un (a1 rfl ?_)
      refine dnil ?_
      refine Sv.ret ?_
      replace h := Option.some.inj h
      subst h
      exact ⟨_, .refl _, _, rfl, ⟨upd (fun _ => none) 0 (some (.tup [(.agg [cI r_.1.Kind, cI r_.1.N, .str r_.1.S]), (S r_.2)])), (fun _ => none), 0⟩, (.tup [(.agg [cI r_.1.Kind, cI r_.1.N, .str r_.1.S]), (S r_.2)]), weak_canon [] rfl List.nodup_nil (Nat.le_refl _) (fun b h => absurd h (Nat.not_lt_zero _)) (.cons rfl (avAs_tup (.cons (avAs_free rfl) (.cons (avAs_free rfl) .nil))) .nil) .nil, rfl, rfl, rfl, rfl⟩
    · replace h := ifF hc5 h
      refine Sv.seq ?_
      refine Sv.region ?_
      refine un (a1 rfl ?_)
      refine un (a1 (v := (B (decide (sign = [43])))) rfl ?_)
      refine un (a1 rfl ?_)
      refine gjoin 9 (d := 70) (v := (B ((decide (sign = [43])) && ((decide ((value_right a_).Kind = 3)) || (decide ((value_right b_).Kind = 3)))))) (fun X hX => ?_) ?_
      · refine split2 (fun hc7 => ?_) (fun hc7 => ?_)
        · refine gt rfl (a1 (v := (.c (.ref 0 3 0 0))) rfl ?_)
          refine gt rfl (a1 (v := (I ((value_right a_).Kind))) rfl ?_)
          refine gt rfl (a1 (v := (B (decide ((value_right a_).Kind = 3)))) rfl ?_)
          refine gt rfl (a1 rfl ?_)
          refine gjoin 4 (d := 69) (v := (B ((decide ((value_right a_).Kind = 3)) || (decide ((value_right b_).Kind = 3))))) (fun X hX => ?_) ?_
          · refine split2 (fun hc6 => ?_) (fun hc6 => ?_)
            · refine gs rfl rfl ?_
              refine gs rfl rfl ?_
              refine gs rfl rfl ?_
              refine gt rfl (a1 (v := (B true)) rfl ?_)
              refine dnil ?_
              exact hX _ (.putEq (by rw [hc6]; rfl) (.skip _ _ (.skip _ _ (.skip _ _ (.putEq (by rw [hc6]) (.refl _)) rfl) rfl) rfl))
            · refine gt rfl (a1 (v := (.c (.ref 1 3 0 0))) rfl ?_)
              refine gt rfl (a1 (v := (I ((value_right b_).Kind))) rfl ?_)
              refine gt rfl (a1 (v := (B (decide ((value_right b_).Kind = 3)))) rfl ?_)
              refine gt rfl (a1 (v := (B (decide ((value_right b_).Kind = 3)))) rfl ?_)
              refine dnil ?_
              exact hX _ (.putEq (by rw [hc6]; rfl) (.skip _ _ (.skip _ _ (.skip _ _ (.putEq (by rw [hc6]) (.refl _)) rfl) rfl) rfl))
          refine un (a1 (v := (B ((decide ((value_right a_).Kind = 3)) || (decide ((value_right b_).Kind = 3))))) rfl ?_)
          refine dnil ?_
          exact hX _ (.putEq (by rw [hc7]; rfl) (.skip _ _ (.skip _ _ (.skip _ _ (.skip _ _ (.skip _ _ (.putEq (by rw [hc7]) (.refl _)) rfl) rfl) rfl) rfl) rfl))
        · refine gs rfl rfl ?_
          refine gs rfl rfl ?_
          refine gs rfl rfl ?_
          refine gs rfl rfl ?_
          refine gu rfl ?_
          refine gu rfl ?_
          refine gu rfl ?_
          refine gs rfl rfl ?_
          refine un (a1 (v := (B false)) rfl ?_)
          refine dnil ?_
          exact hX _ (.putEq (by rw [hc7]; rfl) (.skip _ _ (.skip _ _ (.skip _ _ (.skip _ _ (.skip _ _ (.skip _ _ (.skip _ _ (.skip _ _ (.putEq (by rw [hc7]) (.refl _)) rfl) rfl) rfl) rfl) rfl) rfl) rfl) rfl))
      refine un (a1 rfl ?_)
      refine dnil ?_
      refine Sv.cond (b := ((decide (sign = [43])) && ((decide ((value_right a_).Kind = 3)) || (decide ((value_right b_).Kind = 3))))) rfl (fun hc8 => ?_) (fun hc8 => ?_)
      · replace h := ifT hc8 h
        refine Sv.seq ?_
        refine Sv.drawn ?_
        refine un (a1 (v := (.agg [cI ((value_right a_).Kind), cI ((value_right a_).N), .str ((value_right a_).S)])) rfl ?_)
        refine un (a1 (v := (.agg [cI ((value_right b_).Kind), cI ((value_right b_).N), .str ((value_right b_).S)])) rfl ?_)
        obtain ⟨r_1, hr2, h⟩ := bnd h
        refine un (ac_pure (value_Text_ok hr2) rfl rfl rfl ?_)
        obtain ⟨r_2, hr3, h⟩ := bnd h
        refine un (ac_pure (value_Text_ok hr3) rfl rfl rfl ?_)
        obtain ⟨r_3, hx1, h⟩ := bnd h
        refine un (a1 (v := (S r_3)) (s_cat rfl rfl hx1) ?_)
        refine un (a1 rfl ?_)
        refine dnil ?_
        refine Sv.seq ?_
        refine Sv.seq ?_
        refine Sv.region ?_
        refine un (a1 rfl ?_)
        refine un (a1 (v := (I (r_3.length : Int))) rfl ?_)
        refine un (a1 (v := (B (decide (2000 < (r_3.length : Int))))) rfl ?_)
        refine dnil ?_
        refine Sv.cond (b := decide (2000 < (r_3.length : Int))) rfl (fun hc9 => ?_) (fun hc9 => ?_)
        · replace h := ifT hc9 h
          refine Sv.seq ?_
          refine Sv.region ?_
          refine un (a1 (v := (.agg [cI 0, cI 0, .str []])) rfl ?_)
          refine un (a2n (h' := upd _ 2 (some (.cells 3 [[cI 0, cI 0, .str []]]))) (n' := 3) rfl rfl (fun h => by cases h) ?_)
          refine un (a1 rfl ?_)
          refine dnil ?_
          refine Sv.ret ?_
          replace h := Option.some.inj h
          subst h
          exact ⟨_, .refl _, _, rfl, ⟨upd (fun _ => none) 0 (some (.tup [(.agg [cI 0, cI 0, .str []]), (S [108, 97, 114, 103, 101])])), (fun _ => none), 0⟩, (.tup [(.agg [cI 0, cI 0, .str []]), (S [108, 97, 114, 103, 101])]), weak_canon [] rfl List.nodup_nil (Nat.le_refl _) (fun b h => absurd h (Nat.not_lt_zero _)) (.cons rfl (avAs_tup (.cons (avAs_free rfl) (.cons (avAs_free rfl) .nil))) .nil) .nil, rfl, rfl, rfl, rfl⟩
        · replace h := ifF hc9 h
          refine Sv.skip ?_
          refine Sv.seq ?_
          refine Sv.region ?_
          refine un (a1 rfl ?_)
          refine un (a1 (v := (.agg [cI 3, cI 0, .str r_3])) rfl ?_)
          refine un (a2n (h' := upd _ 2 (some (.cells 3 [[cI 3, cI 0, .str r_3]]))) (n' := 3) rfl rfl (fun h => by cases h) ?_)
          refine un (a1 rfl ?_)
          refine dnil ?_
          refine Sv.ret ?_
          replace h := Option.some.inj h
          subst h
          exact ⟨_, .refl _, _, rfl, ⟨upd (fun _ => none) 0 (some (.tup [(.agg [cI 3, cI 0, .str r_3]), (S [])])), (fun _ => none), 0⟩, (.tup [(.agg [cI 3, cI 0, .str r_3]), (S [])]), weak_canon [] rfl List.nodup_nil (Nat.le_refl _) (fun b h => absurd h (Nat.not_lt_zero _)) (.cons rfl (avAs_tup (.cons (avAs_free rfl) (.cons (avAs_free rfl) .nil))) .nil) .nil, rfl, rfl, rfl, rfl⟩
      · replace h := ifF hc8 h
        refine Sv.skip ?_
        refine Sv.seq ?_
        refine Sv.region ?_
        refine un (a1 (v := (.agg [cI 0, cI 0, .str []])) rfl ?_)
        refine un (a2n (h' := upd _ 2 (some (.cells 3 [[cI 0, cI 0, .str []]]))) (n' := 3) rfl rfl (fun h => by cases h) ?_)
        refine un (a1 rfl ?_)
        refine dnil ?_
        refine Sv.ret ?_
        replace h := Option.some.inj h
        subst h
        exact ⟨_, .refl _, _, rfl, ⟨upd (fun _ => none) 0 (some (.tup [(.agg [cI 0, cI 0, .str []]), (S [107, 105, 110, 100])])), (fun _ => none), 0⟩, (.tup [(.agg [cI 0, cI 0, .str []]), (S [107, 105, 110, 100])]), weak_canon [] rfl List.nodup_nil (Nat.le_refl _) (fun b h => absurd h (Nat.not_lt_zero _)) (.cons rfl (avAs_tup (.cons (avAs_free rfl) (.cons (avAs_free rfl) .nil))) .nil) .nil, rfl, rfl, rfl, rfl⟩
  · replace h := ifF hc4 h
    refine Sv.seq ?_
    refine Sv.seq ?_
    refine Sv.region ?_
    refine un (a1 (v := (B (decide (sign = [60])))) rfl ?_)
    refine un (a1 rfl ?_)
    refine dnil ?_
    refine Sv.cond (b := decide (sign = [60])) rfl (fun hc13 => ?_) (fun hc13 => ?_)
    · replace h := ifT hc13 h
      refine Sv.skip ?_
      exact Sv.weak (weak_canon [0, 1, 2] rfl (by decide) (by decide) (fun b h => absurd h (Nat.not_lt_zero _)) (.cons rfl (avAs_free rfl) (.cons rfl (avAs_free rfl) (.cons rfl (avAs_free rfl) (.cons rfl (.c (.ref rfl (by decide))) (.cons rfl (.c (.ref rfl (by decide))) (.cons rfl (.c (.ref rfl (by decide))) (.cons rfl (avAs_free rfl) .nil))))))) (.box (by decide) rfl (blkAs_cells (.cons (.same rfl) (.cons (.same rfl) (.cons (.same rfl) .nil)))) (.box (by decide) rfl (blkAs_cells (.cons (.same rfl) (.cons (.same rfl) (.cons (.same rfl) .nil)))) (.box (by decide) rfl (blkAs_cells (.cons (.same rfl) (.cons (.same rfl) (.cons (.same rfl) .nil)))) .nil)))) (value_Binary_j3_ok h)
    · replace h := ifF hc13 h
      refine Sv.seq ?_
      refine Sv.region ?_
      refine un (a1 (v := (B (decide (sign = [60, 61])))) rfl ?_)
      refine un (a1 rfl ?_)
      refine dnil ?_
      refine Sv.cond (b := decide (sign = [60, 61])) rfl (fun hc14 => ?_) (fun hc14 => ?_)
      · replace h := ifT hc14 h
        refine Sv.skip ?_
        exact Sv.weak (weak_canon [0, 1, 2] rfl (by decide) (by decide) (fun b h => absurd h (Nat.not_lt_zero _)) (.cons rfl (avAs_free rfl) (.cons rfl (avAs_free rfl) (.cons rfl (avAs_free rfl) (.cons rfl (.c (.ref rfl (by decide))) (.cons rfl (.c (.ref rfl (by decide))) (.cons rfl (.c (.ref rfl (by decide))) (.cons rfl (avAs_free rfl) .nil))))))) (.box (by decide) rfl (blkAs_cells (.cons (.same rfl) (.cons (.same rfl) (.cons (.same rfl) .nil)))) (.box (by decide) rfl (blkAs_cells (.cons (.same rfl) (.cons (.same rfl) (.cons (.same rfl) .nil)))) (.box (by decide) rfl (blkAs_cells (.cons (.same rfl) (.cons (.same rfl) (.cons (.same rfl) .nil)))) .nil)))) (value_Binary_j3_ok h)
      · replace h := ifF hc14 h
        refine Sv.seq ?_
        refine Sv.region ?_
        refine un (a1 (v := (B (decide (sign = [62])))) rfl ?_)
        refine un (a1 rfl ?_)
        refine dnil ?_
        refine Sv.cond (b := decide (sign = [62])) rfl (fun hc15 => ?_) (fun hc15 => ?_)
        · replace h := ifT hc15 h
          refine Sv.skip ?_
          exact Sv.weak (weak_canon [0, 1, 2] rfl (by decide) (by decide) (fun b h => absurd h (Nat.not_lt_zero _)) (.cons rfl (avAs_free rfl) (.cons rfl (avAs_free rfl) (.cons rfl (avAs_free rfl) (.cons rfl (.c (.ref rfl (by decide))) (.cons rfl (.c (.ref rfl (by decide))) (.cons rfl (.c (.ref rfl (by decide))) (.cons rfl (avAs_free rfl) .nil))))))) (.box (by decide) rfl (blkAs_cells (.cons (.same rfl) (.cons (.same rfl) (.cons (.same rfl) .nil)))) (.box (by decide) rfl (blkAs_cells (.cons (.same rfl) (.cons (.same rfl) (.cons (.same rfl) .nil)))) (.box (by decide) rfl (blkAs_cells (.cons (.same rfl) (.cons (.same rfl) (.cons (.same rfl) .nil)))) .nil)))) (value_Binary_j3_ok h)
        · replace h := ifF hc15 h
          refine Sv.region ?_
          refine un (a1 (v := (B (decide (sign = [62, 61])))) rfl ?_)
          refine un (a1 rfl ?_)
          refine dnil ?_
          exact Sv.weak (weak_canon [0, 1, 2] rfl (by decide) (by decide) (fun b h => absurd h (Nat.not_lt_zero _)) (.cons rfl (avAs_free rfl) (.cons rfl (avAs_free rfl) (.cons rfl (avAs_free rfl) (.cons rfl (.c (.ref rfl (by decide))) (.cons rfl (.c (.ref rfl (by decide))) (.cons rfl (.c (.ref rfl (by decide))) (.cons rfl (avAs_free rfl) .nil))))))) (.box (by decide) rfl (blkAs_cells (.cons (.same rfl) (.cons (.same rfl) (.cons (.same rfl) .nil)))) (.box (by decide) rfl (blkAs_cells (.cons (.same rfl) (.cons (.same rfl) (.cons (.same rfl) .nil)))) (.box (by decide) rfl (blkAs_cells (.cons (.same rfl) (.cons (.same rfl) (.cons (.same rfl) .nil)))) .nil)))) (value_Binary_j3_ok h)
noncomputable def value_Binary_j1 (a_ : TJVal) (b_ : TJVal) (sign : (List UInt8)) (v32 : Bool) : Option (TJVal × (List UInt8)) :=
  if v32 then
    letIn (decide ((value_right a_).Kind = (value_right b_).Kind) && (decide ((value_right a_).N = (value_right b_).N) && (decide ((value_right a_).S = (value_right b_).S) && true))) fun v37 : Bool =>
    some ((value_truth ((v37 == decide (sign = [61, 61])) && true)), [])
  else
    if decide (sign = [43]) then
      value_Binary_j2 a_ b_ sign (decide (sign = [43]))
    else
      if decide (sign = [45]) then
        value_Binary_j2 a_ b_ sign (decide (sign = [45]))
      else
        if decide (sign = [42]) then
          value_Binary_j2 a_ b_ sign (decide (sign = [42]))
        else
          if decide (sign = [47]) then
            value_Binary_j2 a_ b_ sign (decide (sign = [47]))
          else
            value_Binary_j2 a_ b_ sign (decide (sign = [37]))
theorem value_Binary_j1_ok {a_ : TJVal} {b_ : TJVal} {sign : (List UInt8)} {v32 : Bool} {o : (TJVal × (List UInt8))} (h : value_Binary_j1 a_ b_ sign v32 = some o) :
    Sv Tryd.prog GG 0 a15_c0 (value_Binary_q1 o) ⟨(upd (upd (upd (upd (upd (upd (upd (upd (fun _ => none) 0 (some (S sign))) 4 (some (.c (.ref 0 3 0 0)))) 5 (some (.c (.ref 1 3 0 0)))) 6 (some (.c (.ref 2 3 0 0)))) 8 (some (B ((decide ((value_right a_).Kind = 2)) && (decide ((value_right b_).Kind = 2)))))) 9 (some (B ((decide ((value_right a_).Kind = 3)) && (decide ((value_right b_).Kind = 3)))))) 31 (some (S sign))) 32 (some (B v32))), (upd (upd (upd (fun _ => none) 0 (some (.cells 3 [[cI ((value_right a_).Kind), cI ((value_right a_).N), .str ((value_right a_).S)]]))) 1 (some (.cells 3 [[cI ((value_right b_).Kind), cI ((value_right b_).N), .str ((value_right b_).S)]]))) 2 (some (.cells 3 [[cI 0, cI 0, .str []]]))), 3⟩ := by
  unfold value_Binary_j1 at h
  refine Sv.cond (b := v32) rfl (fun hc3 => ?_) (fun hc3 => ?_)
  · replace h := ifT hc3 h
    refine Sv.seq ?_
    refine Sv.region ?_
    refine un (a1 (v := (.agg [cI ((value_right a_).Kind), cI ((value_right a_).N), .str ((value_right a_).S)])) rfl ?_)
    refine un (a1 (v := (.agg [cI ((value_right b_).Kind), cI ((value_right b_).N), .str ((value_right b_).S)])) rfl ?_)
    obtain ⟨v37, hv37⟩ : ∃ v37 : Bool, v37 = (decide ((value_right a_).Kind = (value_right b_).Kind) && (decide ((value_right a_).N = (value_right b_).N) && (decide ((value_right a_).S = (value_right b_).S) && true))) := ⟨_, rfl⟩
    replace h := letAt hv37 h
    refine un (a1 (v := (B v37)) (by rw [hv37]; rfl) ?_)
    clear hv37
    refine un (a1 rfl ?_)
    refine un (a1 (v := (B (decide (sign = [61, 61])))) rfl ?_)
    refine un (a1 (v := (B ((v37 == decide (sign = [61, 61])) && true))) rfl ?_)
    refine un (ac_pure (value_truth_ok ((v37 == decide (sign = [61, 61])) && true)) rfl rfl rfl ?_)
    refine un (a2n (h' := upd _ 2 (some (.cells 3 [[cI ((value_truth ((v37 == decide (sign = [61, 61])) && true)).Kind), cI ((value_truth ((v37 == decide (sign = [61, 61])) && true)).N), .str ((value_truth ((v37 == decide (sign = [61, 61])) && true)).S)]]))) (n' := 3) rfl rfl (fun h => by cases h) ?_)
    refine un (a1 rfl ?_)
    refine dnil ?_
    refine Sv.ret ?_
    replace h := Option.some.inj h
    subst h
    exact ⟨_, .refl _, _, rfl, ⟨upd (fun _ => none) 0 (some (.tup [(.agg [cI ((value_truth ((v37 == decide (sign = [61, 61])) && true)).Kind), cI ((value_truth ((v37 == decide (sign = [61, 61])) && true)).N), .str ((value_truth ((v37 == decide (sign = [61, 61])) && true)).S)]), (S [])])), (fun _ => none), 0⟩, (.tup [(.agg [cI ((value_truth ((v37 == decide (sign = [61, 61])) && true)).Kind), cI ((value_truth ((v37 == decide (sign = [61, 61])) && true)).N), .str ((value_truth ((v37 == decide (sign = [61, 61])) && true)).S)]), (S [])]), weak_canon [] rfl List.nodup_nil (Nat.le_refl _) (fun b h => absurd h (Nat.not_lt_zero _)) (.cons rfl (avAs_tup (.cons (avAs_free rfl) (.cons (avAs_free rfl) .nil))) .nil) .nil, rfl, rfl, rfl, rfl⟩
  · replace h := ifF hc3 h
    refine Sv.seq ?_
    refine Sv.seq ?_
    refine Sv.region ?_
    refine un (a1 (v := (B (decide (sign = [43])))) rfl ?_)
    refine un (a1 rfl ?_)
    refine dnil ?_
    refine Sv.cond (b := decide (sign = [43])) rfl (fun hc16 => ?_) (fun hc16 => ?_)
    · replace h := ifT hc16 h
      refine Sv.skip ?_
      exact Sv.weak (weak_canon [0, 1, 2] rfl (by decide) (by decide) (fun b h => absurd h (Nat.not_lt_zero _)) (.cons rfl (avAs_free rfl) (.cons rfl (avAs_free rfl) (.cons rfl (avAs_free rfl) (.cons rfl (avAs_free rfl) (.cons rfl (.c (.ref rfl (by decide))) (.cons rfl (.c (.ref rfl (by decide))) (.cons rfl (.c (.ref rfl (by decide))) (.cons rfl (avAs_free rfl) .nil)))))))) (.box (by decide) rfl (blkAs_cells (.cons (.same rfl) (.cons (.same rfl) (.cons (.same rfl) .nil)))) (.box (by decide) rfl (blkAs_cells (.cons (.same rfl) (.cons (.same rfl) (.cons (.same rfl) .nil)))) (.box (by decide) rfl (blkAs_cells (.cons (.same rfl) (.cons (.same rfl) (.cons (.same rfl) .nil)))) .nil)))) (value_Binary_j2_ok h)
    · replace h := ifF hc16 h
      refine Sv.seq ?_
      refine Sv.region ?_
      refine un (a1 (v := (B (decide (sign = [45])))) rfl ?_)
      refine un (a1 rfl ?_)
      refine dnil ?_
      refine Sv.cond (b := decide (sign = [45])) rfl (fun hc17 => ?_) (fun hc17 => ?_)
      · replace h := ifT hc17 h
        refine Sv.skip ?_
        exact Sv.weak (weak_canon [0, 1, 2] rfl (by decide) (by decide) (fun b h => absurd h (Nat.not_lt_zero _)) (.cons rfl (avAs_free rfl) (.cons rfl (avAs_free rfl) (.cons rfl (avAs_free rfl) (.cons rfl (avAs_free rfl) (.cons rfl (.c (.ref rfl (by decide))) (.cons rfl (.c (.ref rfl (by decide))) (.cons rfl (.c (.ref rfl (by decide))) (.cons rfl (avAs_free rfl) .nil)))))))) (.box (by decide) rfl (blkAs_cells (.cons (.same rfl) (.cons (.same rfl) (.cons (.same rfl) .nil)))) (.box (by decide) rfl (blkAs_cells (.cons (.same rfl) (.cons (.same rfl) (.cons (.same rfl) .nil)))) (.box (by decide) rfl (blkAs_cells (.cons (.same rfl) (.cons (.same rfl) (.cons (.same rfl) .nil)))) .nil)))) (value_Binary_j2_ok h)
      · replace h := ifF hc17 h
        refine Sv.seq ?_
        refine Sv.region ?_
        refine un (a1 (v := (B (decide (sign = [42])))) rfl ?_)
        refine un (a1 rfl ?_)
        refine dnil ?_
        refine Sv.cond (b := decide (sign = [42])) rfl (fun hc18 => ?_) (fun hc18 => ?_)
        · replace h := ifT hc18 h
          refine Sv.skip ?_
          exact Sv.weak (weak_canon [0, 1, 2] rfl (by decide) (by decide) (fun b h => absurd h (Nat.not_lt_zero _)) (.cons rfl (avAs_free rfl) (.cons rfl (avAs_free rfl) (.cons rfl (avAs_free rfl) (.cons rfl (avAs_free rfl) (.cons rfl (.c (.ref rfl (by decide))) (.cons rfl (.c (.ref rfl (by decide))) (.cons rfl (.c (.ref rfl (by decide))) (.cons rfl (avAs_free rfl) .nil)))))))) (.box (by decide) rfl (blkAs_cells (.cons (.same rfl) (.cons (.same rfl) (.cons (.same rfl) .nil)))) (.box (by decide) rfl (blkAs_cells (.cons (.same rfl) (.cons (.same rfl) (.cons (.same rfl) .nil)))) (.box (by decide) rfl (blkAs_cells (.cons (.same rfl) (.cons (.same rfl) (.cons (.same rfl) .nil)))) .nil)))) (value_Binary_j2_ok h)
        · replace h := ifF hc18 h
          refine Sv.seq ?_
          refine Sv.region ?_
          refine un (a1 (v := (B (decide (sign = [47])))) rfl ?_)
          refine un (a1 rfl ?_)
          refine dnil ?_
          refine Sv.cond (b := decide (sign = [47])) rfl (fun hc19 => ?_) (fun hc19 => ?_)
          · replace h := ifT hc19 h
            refine Sv.skip ?_
            exact Sv.weak (weak_canon [0, 1, 2] rfl (by decide) (by decide) (fun b h => absurd h (Nat.not_lt_zero _)) (.cons rfl (avAs_free rfl) (.cons rfl (avAs_free rfl) (.cons rfl (avAs_free rfl) (.cons rfl (avAs_free rfl) (.cons rfl (.c (.ref rfl (by decide))) (.cons rfl (.c (.ref rfl (by decide))) (.cons rfl (.c (.ref rfl (by decide))) (.cons rfl (avAs_free rfl) .nil)))))))) (.box (by decide) rfl (blkAs_cells (.cons (.same rfl) (.cons (.same rfl) (.cons (.same rfl) .nil)))) (.box (by decide) rfl (blkAs_cells (.cons (.same rfl) (.cons (.same rfl) (.cons (.same rfl) .nil)))) (.box (by decide) rfl (blkAs_cells (.cons (.same rfl) (.cons (.same rfl) (.cons (.same rfl) .nil)))) .nil)))) (value_Binary_j2_ok h)
          · replace h := ifF hc19 h
            refine Sv.region ?_
            refine un (a1 (v := (B (decide (sign = [37])))) rfl ?_)
            refine un (a1 rfl ?_)
            refine dnil ?_
            exact Sv.weak (weak_canon [0, 1, 2] rfl (by decide) (by decide) (fun b h => absurd h (Nat.not_lt_zero _)) (.cons rfl (avAs_free rfl) (.cons rfl (avAs_free rfl) (.cons rfl (avAs_free rfl) (.cons rfl (avAs_free rfl) (.cons rfl (.c (.ref rfl (by decide))) (.cons rfl (.c (.ref rfl (by decide))) (.cons rfl (.c (.ref rfl (by decide))) (.cons rfl (avAs_free rfl) .nil)))))))) (.box (by decide) rfl (blkAs_cells (.cons (.same rfl) (.cons (.same rfl) (.cons (.same rfl) .nil)))) (.box (by decide) rfl (blkAs_cells (.cons (.same rfl) (.cons (.same rfl) (.cons (.same rfl) .nil)))) (.box (by decide) rfl (blkAs_cells (.cons (.same rfl) (.cons (.same rfl) (.cons (.same rfl) .nil)))) .nil)))) (value_Binary_j2_ok h)
/-- clerestory/value.Binary -/
noncomputable def value_Binary (sign : (List UInt8)) (a_ : TJVal) (b_ : TJVal) : Option (TJVal × (List UInt8)) :=
  if decide (sign = [61, 61]) then
    value_Binary_j1 a_ b_ sign (decide (sign = [61, 61]))
  else
    value_Binary_j1 a_ b_ sign (decide (sign = [33, 61]))
theorem value_Binary_ok {sign : (List UInt8)} {a_ : TJVal} {b_ : TJVal} {r : (TJVal × (List UInt8))} (h : value_Binary sign a_ b_ = some r) : CPure Tryd.prog GG 15 [(S sign), (.agg [cI a_.Kind, cI a_.N, .str a_.S]), (.agg [cI b_.Kind, cI b_.N, .str b_.S])] (.tup [(.agg [cI r.1.Kind, cI r.1.N, .str r.1.S]), (S r.2)]) := by
  refine acalls_of_sv hmix c15 (R := value_Binary_post r) ?_
  unfold value_Binary at h
  refine Sv.seq ?_
  refine Sv.region ?_
  refine un (a2v (v := (.c (.ref 0 3 0 0))) (h' := upd _ 0 (some (.cells 3 [[cI a_.Kind, cI a_.N, .str a_.S]]))) (n' := 1) rfl rfl (fun h => by cases h) ?_)
  refine un (a2v (v := (.c (.ref 1 3 0 0))) (h' := upd _ 1 (some (.cells 3 [[cI b_.Kind, cI b_.N, .str b_.S]]))) (n' := 2) rfl rfl (fun h => by cases h) ?_)
  refine un (a2v (v := (.c (.ref 2 3 0 0))) (h' := upd _ 2 (some (.cells 3 [[cI 0, cI 0, .str []]]))) (n' := 3) rfl rfl (fun h => by cases h) ?_)
  refine un (a1 rfl ?_)
  refine dnil ?_
  refine Sv.seq ?_
  refine Sv.drawn ?_
  refine un (a1 (v := (.agg [cI a_.Kind, cI a_.N, .str a_.S])) rfl ?_)
  refine un (a1 (v := (.agg [cI b_.Kind, cI b_.N, .str b_.S])) rfl ?_)
  refine un (ac_pure (value_right_ok a_) rfl rfl rfl ?_)
  refine un (ac_pure (value_right_ok b_) rfl rfl rfl ?_)
  refine un (a2n (h' := upd _ 0 (some (.cells 3 [[cI ((value_right a_).Kind), cI ((value_right a_).N), .str ((value_right a_).S)]]))) (n' := 3) rfl rfl (fun h => by cases h) ?_)
  refine un (a2n (h' := upd _ 1 (some (.cells 3 [[cI ((value_right b_).Kind), cI ((value_right b_).N), .str ((value_right b_).S)]]))) (n' := 3) rfl rfl (fun h => by cases h) ?_)
  refine dnil ?_
  refine Sv.seq ?_
  refine Sv.drawn ?_
  refine un (a1 (v := (.c (.ref 0 3 0 0))) rfl ?_)
  refine un (a1 (v := (I ((value_right a_).Kind))) rfl ?_)
  refine un (a1 (v := (B (decide ((value_right a_).Kind = 2)))) rfl ?_)
  refine un (a1 rfl ?_)
  refine gjoin 4 (d := 22) (v := (B ((decide ((value_right a_).Kind = 2)) && (decide ((value_right b_).Kind = 2))))) (fun X hX => ?_) ?_
  · refine split2 (fun hc1 => ?_) (fun hc1 => ?_)
    · refine gt rfl (a1 (v := (.c (.ref 1 3 0 0))) rfl ?_)
      refine gt rfl (a1 (v := (I ((value_right b_).Kind))) rfl ?_)
      refine gt rfl (a1 (v := (B (decide ((value_right b_).Kind = 2)))) rfl ?_)
      refine un (a1 (v := (B (decide ((value_right b_).Kind = 2)))) rfl ?_)
      refine dnil ?_
      exact hX _ (.putEq (by rw [hc1]; rfl) (.skip _ _ (.skip _ _ (.skip _ _ (.putEq (by rw [hc1]) (.refl _)) rfl) rfl) rfl))
    · refine gs rfl rfl ?_
      refine gs rfl rfl ?_
      refine gs rfl rfl ?_
      refine un (a1 (v := (B false)) rfl ?_)
      refine dnil ?_
      exact hX _ (.putEq (by rw [hc1]; rfl) (.skip _ _ (.skip _ _ (.skip _ _ (.putEq (by rw [hc1]) (.refl _)) rfl) rfl) rfl))
  refine un (a1 (v := (.c (.ref 0 3 0 0))) rfl ?_)
  refine un (a1 (v := (I ((value_right a_).Kind))) rfl ?_)
  refine un (a1 (v := (B (decide ((value_right a_).Kind = 3)))) rfl ?_)
  refine un (a1 rfl ?_)
  refine gjoin 4 (d := 30) (v := (B ((decide ((value_right a_).Kind = 3)) && (decide ((value_right b_).Kind = 3))))) (fun X hX => ?_) ?_
  · refine split2 (fun hc2 => ?_) (fun hc2 => ?_)
    · refine gt rfl (a1 (v := (.c (.ref 1 3 0 0))) rfl ?_)
      refine gt rfl (a1 (v := (I ((value_right b_).Kind))) rfl ?_)
      refine gt rfl (a1 (v := (B (decide ((value_right b_).Kind = 3)))) rfl ?_)
      refine un (a1 (v := (B (decide ((value_right b_).Kind = 3)))) rfl ?_)
      refine dnil ?_
      exact hX _ (.putEq (by rw [hc2]; rfl) (.skip _ _ (.skip _ _ (.skip _ _ (.putEq (by rw [hc2]) (.refl _)) rfl) rfl) rfl))
    · refine gs rfl rfl ?_
      refine gs rfl rfl ?_
      refine gs rfl rfl ?_
      refine un (a1 (v := (B false)) rfl ?_)
      refine dnil ?_
      exact hX _ (.putEq (by rw [hc2]; rfl) (.skip _ _ (.skip _ _ (.skip _ _ (.putEq (by rw [hc2]) (.refl _)) rfl) rfl) rfl))
  refine un (a1 rfl ?_)
  refine un (a1 rfl ?_)
  refine dnil ?_
  refine Sv.seq ?_
  refine Sv.seq ?_
  refine Sv.region ?_
  refine un (a1 rfl ?_)
  refine dnil ?_
  refine Sv.block ?_
  refine Sv.seq ?_
  refine Sv.seq ?_
  refine Sv.region ?_
  refine un (a1 (v := (B (decide (sign = [61, 61])))) rfl ?_)
  refine un (a1 rfl ?_)
  refine dnil ?_
  refine Sv.cond (b := decide (sign = [61, 61])) rfl (fun hc20 => ?_) (fun hc20 => ?_)
  · replace h := ifT hc20 h
    refine Sv.skip ?_
    exact Sv.weak (weak_canon [0, 1, 2] rfl (by decide) (by decide) (fun b h => absurd h (Nat.not_lt_zero _)) (.cons rfl (avAs_free rfl) (.cons rfl (avAs_free rfl) (.cons rfl (avAs_free rfl) (.cons rfl (avAs_free rfl) (.cons rfl (.c (.ref rfl (by decide))) (.cons rfl (.c (.ref rfl (by decide))) (.cons rfl (.c (.ref rfl (by decide))) (.cons rfl (avAs_free rfl) .nil)))))))) (.box (by decide) rfl (blkAs_cells (.cons (.same rfl) (.cons (.same rfl) (.cons (.same rfl) .nil)))) (.box (by decide) rfl (blkAs_cells (.cons (.same rfl) (.cons (.same rfl) (.cons (.same rfl) .nil)))) (.box (by decide) rfl (blkAs_cells (.cons (.same rfl) (.cons (.same rfl) (.cons (.same rfl) .nil)))) .nil)))) (value_Binary_j1_ok h)
  · replace h := ifF hc20 h
    refine Sv.region ?_
    refine un (a1 (v := (B (decide (sign = [33, 61])))) rfl ?_)
    refine un (a1 rfl ?_)
    refine dnil ?_
    exact Sv.weak (weak_canon [0, 1, 2] rfl (by decide) (by decide) (fun b h => absurd h (Nat.not_lt_zero _)) (.cons rfl (avAs_free rfl) (.cons rfl (avAs_free rfl) (.cons rfl (avAs_free rfl) (.cons rfl (avAs_free rfl) (.cons rfl (.c (.ref rfl (by decide))) (.cons rfl (.c (.ref rfl (by decide))) (.cons rfl (.c (.ref rfl (by decide))) (.cons rfl (avAs_free rfl) .nil)))))))) (.box (by decide) rfl (blkAs_cells (.cons (.same rfl) (.cons (.same rfl) (.cons (.same rfl) .nil)))) (.box (by decide) rfl (blkAs_cells (.cons (.same rfl) (.cons (.same rfl) (.cons (.same rfl) .nil)))) (.box (by decide) rfl (blkAs_cells (.cons (.same rfl) (.cons (.same rfl) (.cons (.same rfl) .nil)))) .nil)))) (value_Binary_j1_ok h)
def a74 : AFunc := ⟨3, [(.tmp 6)], (.seq (.region [⟨(some 6), (.mov (.const (.c (.val (.bool false))))), none⟩])
 (.seq (.region [⟨(some 7), (.mov (.tmp 1)), none⟩, ⟨(some 8), (.mov (.tmp 0)), none⟩, ⟨(some 9), (.bin .leq (.tmp 7) (.tmp 8)), none⟩, ⟨(some 10), (.mov (.tmp 9)), none⟩, ⟨(some 11), (.mov (.tmp 0)), (some (10, true))⟩, ⟨(some 12), (.mov (.tmp 2)), (some (10, true))⟩, ⟨(some 13), (.bin .leq (.tmp 11) (.tmp 12)), (some (10, true))⟩, ⟨(some 14), (.pick (.tmp 10) (.tmp 13) (.const (.c (.val (.bool false))))), none⟩, ⟨(some 6), (.mov (.tmp 14)), none⟩])
 .ret))⟩
set_option maxRecDepth 100000 in
theorem c74 : compFunc Tryd.prog 74 = some a74 := by kernel_rfl
def clerestoryref4_Between_post (r : Bool) : AV → Heap → Nat → Prop := fun v h' n' => v = (B r) ∧ (h' = (fun _ => none)) ∧ n' = 0
/-- clerestory/clerestoryref4.Between -/
def clerestoryref4_Between (n_ : Int) (low : Int) (high : Int) : Bool :=
  ((decide (low ≤ n_)) && (decide (n_ ≤ high)))
theorem clerestoryref4_Between_ok (n_ : Int) (low : Int) (high : Int) : CPure Tryd.prog GG 74 [(I n_), (I low), (I high)] (B (clerestoryref4_Between n_ low high)) := by
  generalize h : clerestoryref4_Between n_ low high = o
  refine acalls_of_sv hmix c74 (R := clerestoryref4_Between_post o) ?_
  unfold clerestoryref4_Between at h
  refine Sv.seq ?_
  refine Sv.region ?_
  refine un (a1 rfl ?_)
  refine dnil ?_
  refine Sv.seq ?_
  refine Sv.region ?_
  refine un (a1 rfl ?_)
  refine un (a1 rfl ?_)
  refine un (a1 (v := (B (decide (low ≤ n_)))) rfl ?_)
  refine un (a1 rfl ?_)
  refine gjoin 4 (d := 14) (v := (B ((decide (low ≤ n_)) && (decide (n_ ≤ high))))) (fun X hX => ?_) ?_
  · refine split2 (fun hc1 => ?_) (fun hc1 => ?_)
    · refine gt rfl (a1 rfl ?_)
      refine gt rfl (a1 rfl ?_)
      refine gt rfl (a1 (v := (B (decide (n_ ≤ high)))) rfl ?_)
      refine un (a1 (v := (B (decide (n_ ≤ high)))) rfl ?_)
      refine dnil ?_
      exact hX _ (.putEq (by rw [hc1]; rfl) (.skip _ _ (.skip _ _ (.skip _ _ (.putEq (by rw [hc1]) (.refl _)) rfl) rfl) rfl))
    · refine gs rfl rfl ?_
      refine gs rfl rfl ?_
      refine gs rfl rfl ?_
      refine un (a1 (v := (B false)) rfl ?_)
      refine dnil ?_
      exact hX _ (.putEq (by rw [hc1]; rfl) (.skip _ _ (.skip _ _ (.skip _ _ (.putEq (by rw [hc1]) (.refl _)) rfl) rfl) rfl))
  refine un (a1 rfl ?_)
  refine dnil ?_
  refine Sv.ret ?_
  subst h
  exact ⟨_, .refl _, _, rfl, ⟨upd (fun _ => none) 0 (some (B ((decide (low ≤ n_)) && (decide (n_ ≤ high))))), (fun _ => none), 0⟩, (B ((decide (low ≤ n_)) && (decide (n_ ≤ high)))), weak_canon [] rfl List.nodup_nil (Nat.le_refl _) (fun b h => absurd h (Nat.not_lt_zero _)) (.cons rfl (avAs_free rfl) .nil) .nil, rfl, rfl, rfl, rfl⟩
def a97_c0 : ACode := (.seq (.region [⟨(some 66), (.load true 3 (.tmp 1)), none⟩, ⟨(some 67), (.load true 3 (.tmp 3)), none⟩, ⟨(some 68), (.eqs false true [.i, .i, .s] (.tmp 66) (.tmp 67)), none⟩, ⟨(some 2), (.mov (.tmp 68)), none⟩])
 .ret)
def a97 : AFunc := ⟨1, [(.tmp 2)], (.seq (.region [⟨(some 1), (.box (.tmp 0)), none⟩, ⟨(some 2), (.mov (.const (.c (.val (.bool false))))), none⟩])
 (.seq (.region [⟨(some 4), (.faddr 0 (.tmp 1)), none⟩, ⟨(some 5), (.load false 1 (.tmp 4)), none⟩, ⟨(some 6), (.build [(.val (.int .i64 0)), (.val (.int .i64 0)), (.str [])] [(0, (1, (.tmp 5)))]), none⟩, ⟨(some 3), (.box (.const (.agg [(.val (.int .i64 0)), (.val (.int .i64 0)), (.str [])]))), none⟩, ⟨none, (.store 3 (.tmp 3) (.tmp 6)), none⟩])
 (.seq (.seq (.region [⟨(some 7), (.faddr 0 (.tmp 1)), none⟩, ⟨(some 8), (.load false 1 (.tmp 7)), none⟩])
 (.block 0 (.seq (.region [⟨(some 10), (.bin .eql (.tmp 8) (.const (.c (.val (.int .i64 0))))), none⟩, ⟨(some 9), (.mov (.tmp 10)), none⟩])
 (.cond (.tmp 9) .skip (.seq (.region [⟨(some 12), (.bin .eql (.tmp 8) (.const (.c (.val (.int .i64 1))))), none⟩, ⟨(some 11), (.mov (.tmp 12)), none⟩])
 (.cond (.tmp 11) (.seq (.region [⟨(some 13), (.load true 3 (.tmp 1)), none⟩, ⟨(some 14), (.load true 3 (.tmp 3)), none⟩, ⟨(some 15), (.eqs false true [.i, .i, .s] (.tmp 13) (.tmp 14)), none⟩, ⟨(some 16), (.mov (.tmp 15)), none⟩, ⟨(some 17), (.load true 3 (.tmp 1)), (some (16, false))⟩, ⟨(some 18), (.build [(.val (.int .i64 0)), (.val (.int .i64 0)), (.str [])] [(0, (1, (.const (.c (.val (.int .i64 1)))))), (1, (1, (.const (.c (.val (.int .i64 1))))))]), (some (16, false))⟩, ⟨(some 19), (.eqs false true [.i, .i, .s] (.tmp 17) (.tmp 18)), (some (16, false))⟩, ⟨(some 20), (.pick (.tmp 16) (.const (.c (.val (.bool true)))) (.tmp 19)), none⟩, ⟨(some 2), (.mov (.tmp 20)), none⟩])
 .ret) (.seq (.region [⟨(some 22), (.bin .eql (.tmp 8) (.const (.c (.val (.int .i64 2))))), none⟩, ⟨(some 21), (.mov (.tmp 22)), none⟩])
 (.cond (.tmp 21) (.seq (.region [⟨(some 23), (.faddr 1 (.tmp 1)), none⟩, ⟨(some 24), (.load false 1 (.tmp 23)), none⟩, ⟨(some 25), (.faddr 1 (.tmp 3)), none⟩, ⟨none, (.store 1 (.tmp 25) (.tmp 24)), none⟩])
 (.seq (.region [⟨(some 26), (.load true 3 (.tmp 1)), none⟩, ⟨(some 27), (.load true 3 (.tmp 3)), none⟩, ⟨(some 28), (.eqs false true [.i, .i, .s] (.tmp 26) (.tmp 27)), none⟩, ⟨(some 29), (.mov (.tmp 28)), none⟩, ⟨(some 30), (.faddr 1 (.tmp 1)), (some (29, true))⟩, ⟨(some 31), (.load false 1 (.tmp 30)), (some (29, true))⟩, ⟨(some 32), (.call 74 [(.tmp 31), (.const (.c (.val (.int .i64 (-9007199254740992))))), (.const (.c (.val (.int .i64 9007199254740992))))]), (some (29, true))⟩, ⟨(some 33), (.pick (.tmp 29) (.tmp 32) (.const (.c (.val (.bool false))))), none⟩, ⟨(some 2), (.mov (.tmp 33)), none⟩])
 .ret)) (.seq (.region [⟨(some 35), (.bin .eql (.tmp 8) (.const (.c (.val (.int .i64 3))))), none⟩, ⟨(some 34), (.mov (.tmp 35)), none⟩])
 (.cond (.tmp 34) (.seq (.region [⟨(some 36), (.faddr 2 (.tmp 1)), none⟩, ⟨(some 37), (.load false 1 (.tmp 36)), none⟩, ⟨(some 38), (.faddr 2 (.tmp 3)), none⟩, ⟨none, (.store 1 (.tmp 38) (.tmp 37)), none⟩])
 (.seq (.region [⟨(some 39), (.load true 3 (.tmp 1)), none⟩, ⟨(some 40), (.load true 3 (.tmp 3)), none⟩, ⟨(some 41), (.eqs false true [.i, .i, .s] (.tmp 39) (.tmp 40)), none⟩, ⟨(some 42), (.mov (.tmp 41)), none⟩, ⟨(some 43), (.faddr 2 (.tmp 1)), (some (42, true))⟩, ⟨(some 44), (.load false 1 (.tmp 43)), (some (42, true))⟩, ⟨(some 45), (.lenS (.tmp 44)), (some (42, true))⟩, ⟨(some 46), (.bin .leq (.tmp 45) (.const (.c (.val (.int .i64 2000))))), (some (42, true))⟩, ⟨(some 47), (.pick (.tmp 42) (.tmp 46) (.const (.c (.val (.bool false))))), none⟩, ⟨(some 2), (.mov (.tmp 47)), none⟩])
 .ret)) (.seq (.region [⟨(some 49), (.bin .eql (.tmp 8) (.const (.c (.val (.int .i64 4))))), none⟩, ⟨(some 48), (.mov (.tmp 49)), none⟩])
 (.cond (.tmp 48) (.seq (.region [⟨(some 50), (.faddr 1 (.tmp 1)), none⟩, ⟨(some 51), (.load false 1 (.tmp 50)), none⟩, ⟨(some 52), (.faddr 1 (.tmp 3)), none⟩, ⟨none, (.store 1 (.tmp 52) (.tmp 51)), none⟩])
 (.seq (.region [⟨(some 53), (.load true 3 (.tmp 1)), none⟩, ⟨(some 54), (.load true 3 (.tmp 3)), none⟩, ⟨(some 55), (.eqs false true [.i, .i, .s] (.tmp 53) (.tmp 54)), none⟩, ⟨(some 56), (.mov (.tmp 55)), none⟩, ⟨(some 57), (.faddr 1 (.tmp 1)), (some (56, true))⟩, ⟨(some 58), (.load false 1 (.tmp 57)), (some (56, true))⟩, ⟨(some 59), (.bin .gtr (.tmp 58) (.const (.c (.val (.int .i64 (-1)))))), (some (56, true))⟩, ⟨(some 60), (.pick (.tmp 56) (.tmp 59) (.const (.c (.val (.bool false))))), none⟩, ⟨(some 2), (.mov (.tmp 60)), none⟩])
 .ret)) (.seq (.region [⟨(some 62), (.bin .eql (.tmp 8) (.const (.c (.val (.int .i64 5))))), none⟩, ⟨(some 61), (.mov (.tmp 62)), none⟩])
 (.cond (.tmp 61) (.region [⟨(some 63), (.faddr 2 (.tmp 1)), none⟩, ⟨(some 64), (.load false 1 (.tmp 63)), none⟩, ⟨(some 65), (.faddr 2 (.tmp 3)), none⟩, ⟨none, (.store 1 (.tmp 65) (.tmp 64)), none⟩]) (.seq (.region [⟨(some 2), (.mov (.const (.c (.val (.bool false))))), none⟩])
 .ret)))))))))))))))
 a97_c0)))⟩
set_option maxRecDepth 100000 in
theorem c97 : compFunc Tryd.prog 97 = some a97 := by kernel_rfl
def clerestoryref4_ValueRight_post (r : Bool) : AV → Heap → Nat → Prop := fun v h' n' => v = (B r) ∧ (h' = (fun _ => none)) ∧ n' = 0
def clerestoryref4_ValueRight_j1 (v_ : TJVal) (zero2 : (List UInt8)) : Bool :=
  letIn (decide (v_.Kind = v_.Kind) && (decide (v_.N = 0) && (decide (v_.S = zero2) && true))) fun v68 : Bool =>
  v68
theorem clerestoryref4_ValueRight_j1_ok {v_ : TJVal} {zero2 : (List UInt8)} {o : Bool} (h : clerestoryref4_ValueRight_j1 v_ zero2 = o) :
    Sv Tryd.prog GG 0 a97_c0 (Ends a97.results 0 (clerestoryref4_ValueRight_post o)) ⟨(upd (upd (fun _ => none) 1 (some (.c (.ref 0 3 0 0)))) 3 (some (.c (.ref 1 3 0 0)))), (upd (upd (fun _ => none) 0 (some (.cells 3 [[cI v_.Kind, cI v_.N, .str v_.S]]))) 1 (some (.cells 3 [[cI v_.Kind, cI 0, .str zero2]]))), 2⟩ := by
  unfold clerestoryref4_ValueRight_j1 at h
  refine Sv.seq ?_
  refine Sv.region ?_
  refine un (a1 (v := (.agg [cI v_.Kind, cI v_.N, .str v_.S])) rfl ?_)
  refine un (a1 (v := (.agg [cI v_.Kind, cI 0, .str zero2])) rfl ?_)
  obtain ⟨v68, hv68⟩ : ∃ v68 : Bool, v68 = (decide (v_.Kind = v_.Kind) && (decide (v_.N = 0) && (decide (v_.S = zero2) && true))) := ⟨_, rfl⟩
  replace h := letAt hv68 h
  refine un (a1 (v := (B v68)) (by rw [hv68]; rfl) ?_)
  clear hv68
  refine un (a1 rfl ?_)
  refine dnil ?_
  refine Sv.ret ?_
  subst h
  exact ⟨_, .refl _, _, rfl, ⟨upd (fun _ => none) 0 (some (B v68)), (fun _ => none), 0⟩, (B v68), weak_canon [] rfl List.nodup_nil (Nat.le_refl _) (fun b h => absurd h (Nat.not_lt_zero _)) (.cons rfl (avAs_free rfl) .nil) .nil, rfl, rfl, rfl, rfl⟩
/-- clerestory/clerestoryref4.ValueRight -/
def clerestoryref4_ValueRight (v_ : TJVal) : Bool :=
  if decide (v_.Kind = 0) then
    clerestoryref4_ValueRight_j1 v_ []
  else
    if decide (v_.Kind = 1) then
      letIn (decide (v_.Kind = v_.Kind) && (decide (v_.N = 0) && (decide (v_.S = []) && true))) fun v15 : Bool =>
      (v15 || (decide (v_.Kind = 1) && (decide (v_.N = 1) && (decide (v_.S = []) && true))))
    else
      if decide (v_.Kind = 2) then
        letIn (decide (v_.Kind = v_.Kind) && (decide (v_.N = v_.N) && (decide (v_.S = []) && true))) fun v28 : Bool =>
        (v28 && (clerestoryref4_Between v_.N (-9007199254740992) 9007199254740992))
      else
        if decide (v_.Kind = 3) then
          letIn (decide (v_.Kind = v_.Kind) && (decide (v_.N = 0) && (decide (v_.S = v_.S) && true))) fun v41 : Bool =>
          (v41 && (decide ((v_.S.length : Int) ≤ 2000)))
        else
          if decide (v_.Kind = 4) then
            letIn (decide (v_.Kind = v_.Kind) && (decide (v_.N = v_.N) && (decide (v_.S = []) && true))) fun v55 : Bool =>
            (v55 && (decide ((-1) < v_.N)))
          else
            if decide (v_.Kind = 5) then
              clerestoryref4_ValueRight_j1 v_ v_.S
            else
              false
theorem clerestoryref4_ValueRight_ok (v_ : TJVal) : CPure Tryd.prog GG 97 [(.agg [cI v_.Kind, cI v_.N, .str v_.S])] (B (clerestoryref4_ValueRight v_)) := by
  generalize h : clerestoryref4_ValueRight v_ = o
  refine acalls_of_sv hmix c97 (R := clerestoryref4_ValueRight_post o) ?_
  unfold clerestoryref4_ValueRight at h
  refine Sv.seq ?_
  refine Sv.region ?_
  refine un (a2v (v := (.c (.ref 0 3 0 0))) (h' := upd _ 0 (some (.cells 3 [[cI v_.Kind, cI v_.N, .str v_.S]]))) (n' := 1) rfl rfl (fun h => by cases h) ?_)
  refine un (a1 rfl ?_)
  refine dnil ?_
  refine Sv.seq ?_
  refine Sv.region ?_
  refine un (a1 (v := (.c (.ref 0 3 0 0))) rfl ?_)
  refine un (a1 (v := (I v_.Kind)) rfl ?_)
  refine un (a1 (v := (.agg [cI v_.Kind, cI 0, .str []])) rfl ?_)
  refine un (a2v (v := (.c (.ref 1 3 0 0))) (h' := upd _ 1 (some (.cells 3 [[cI 0, cI 0, .str []]]))) (n' := 2) rfl rfl (fun h => by cases h) ?_)
  refine un (a2n (h' := upd _ 1 (some (.cells 3 [[cI v_.Kind, cI 0, .str []]]))) (n' := 2) rfl rfl (fun h => by cases h) ?_)
  refine dnil ?_
  refine Sv.seq ?_
  refine Sv.seq ?_
  refine Sv.region ?_
  refine un (a1 (v := (.c (.ref 0 3 0 0))) rfl ?_)
  refine un (a1 (v := (I v_.Kind)) rfl ?_)
  refine dnil ?_
  refine Sv.block ?_
  refine Sv.seq ?_
  refine Sv.region ?_
  refine un (a1 (v := (B (decide (v_.Kind = 0)))) rfl ?_)
  refine un (a1 rfl ?_)
  refine dnil ?_
  refine Sv.cond (b := decide (v_.Kind = 0)) rfl (fun hc1 => ?_) (fun hc1 => ?_)
  · replace h := ifT hc1 h
    refine Sv.skip ?_
    exact Sv.weak (weak_canon [0, 1] rfl (by decide) (by decide) (fun b h => absurd h (Nat.not_lt_zero _)) (.cons rfl (.c (.ref rfl (by decide))) (.cons rfl (.c (.ref rfl (by decide))) .nil)) (.box (by decide) rfl (blkAs_cells (.cons (.same rfl) (.cons (.same rfl) (.cons (.same rfl) .nil)))) (.box (by decide) rfl (blkAs_cells (.cons (.same rfl) (.cons (.same rfl) (.cons (.same rfl) .nil)))) .nil))) (clerestoryref4_ValueRight_j1_ok h)
  · replace h := ifF hc1 h
    refine Sv.seq ?_
    refine Sv.region ?_
    refine un (a1 (v := (B (decide (v_.Kind = 1)))) rfl ?_)
    refine un (a1 rfl ?_)
    refine dnil ?_
    refine Sv.cond (b := decide (v_.Kind = 1)) rfl (fun hc2 => ?_) (fun hc2 => ?_)
    · replace h := ifT hc2 h
      refine Sv.seq ?_
      refine Sv.region ?_
      refine un (a1 (v := (.agg [cI v_.Kind, cI v_.N, .str v_.S])) rfl ?_)
      refine un (a1 (v := (.agg [cI v_.Kind, cI 0, .str []])) rfl ?_)
      obtain ⟨v15, hv15⟩ : ∃ v15 : Bool, v15 = (decide (v_.Kind = v_.Kind) && (decide (v_.N = 0) && (decide (v_.S = []) && true))) := ⟨_, rfl⟩
      replace h := letAt hv15 h
      refine un (a1 (v := (B v15)) (by rw [hv15]; rfl) ?_)
      clear hv15
      refine un (a1 rfl ?_)
      refine gjoin 4 (d := 20) (v := (B (v15 || (decide (v_.Kind = 1) && (decide (v_.N = 1) && (decide (v_.S = []) && true)))))) (fun X hX => ?_) ?_
      · refine split2 (fun hc3 => ?_) (fun hc3 => ?_)
        · refine gs rfl rfl ?_
          refine gs rfl rfl ?_
          refine gs rfl rfl ?_
          refine un (a1 (v := (B true)) rfl ?_)
          refine dnil ?_
          exact hX _ (.putEq (by rw [hc3]; rfl) (.skip _ _ (.skip _ _ (.skip _ _ (.putEq (by rw [hc3]) (.refl _)) rfl) rfl) rfl))
        · refine gt rfl (a1 (v := (.agg [cI v_.Kind, cI v_.N, .str v_.S])) rfl ?_)
          refine gt rfl (a1 (v := (.agg [cI 1, cI 1, .str []])) rfl ?_)
          refine gt rfl (a1 (v := (B (decide (v_.Kind = 1) && (decide (v_.N = 1) && (decide (v_.S = []) && true))))) rfl ?_)
          refine un (a1 (v := (B (decide (v_.Kind = 1) && (decide (v_.N = 1) && (decide (v_.S = []) && true))))) rfl ?_)
          refine dnil ?_
          exact hX _ (.putEq (by rw [hc3]; rfl) (.skip _ _ (.skip _ _ (.skip _ _ (.putEq (by rw [hc3]) (.refl _)) rfl) rfl) rfl))
      refine un (a1 rfl ?_)
      refine dnil ?_
      refine Sv.ret ?_
      subst h
      exact ⟨_, .refl _, _, rfl, ⟨upd (fun _ => none) 0 (some (B (v15 || (decide (v_.Kind = 1) && (decide (v_.N = 1) && (decide (v_.S = []) && true)))))), (fun _ => none), 0⟩, (B (v15 || (decide (v_.Kind = 1) && (decide (v_.N = 1) && (decide (v_.S = []) && true))))), weak_canon [] rfl List.nodup_nil (Nat.le_refl _) (fun b h => absurd h (Nat.not_lt_zero _)) (.cons rfl (avAs_free rfl) .nil) .nil, rfl, rfl, rfl, rfl⟩
    · replace h := ifF hc2 h
      refine Sv.seq ?_
      refine Sv.region ?_
      refine un (a1 (v := (B (decide (v_.Kind = 2)))) rfl ?_)
      refine un (a1 rfl ?_)
      refine dnil ?_
      refine Sv.cond (b := decide (v_.Kind = 2)) rfl (fun hc4 => ?_) (fun hc4 => ?_)
      · replace h := ifT hc4 h
        refine Sv.seq ?_
        refine Sv.region ?_
        refine un (a1 (v := (.c (.ref 0 3 0 1))) rfl ?_)
        refine un (a1 (v := (I v_.N)) rfl ?_)
        refine un (a1 (v := (.c (.ref 1 3 0 1))) rfl ?_)
        refine un (a2n (h' := upd _ 1 (some (.cells 3 [[cI v_.Kind, cI v_.N, .str []]]))) (n' := 2) rfl rfl (fun h => by cases h) ?_)
        refine dnil ?_
        refine Sv.seq ?_
        refine Sv.region ?_
        refine un (a1 (v := (.agg [cI v_.Kind, cI v_.N, .str v_.S])) rfl ?_)
        refine un (a1 (v := (.agg [cI v_.Kind, cI v_.N, .str []])) rfl ?_)
        obtain ⟨v28, hv28⟩ : ∃ v28 : Bool, v28 = (decide (v_.Kind = v_.Kind) && (decide (v_.N = v_.N) && (decide (v_.S = []) && true))) := ⟨_, rfl⟩
        replace h := letAt hv28 h
        refine un (a1 (v := (B v28)) (by rw [hv28]; rfl) ?_)
        clear hv28
        refine un (a1 rfl ?_)
        refine gjoin 4 (d := 33) (v := (B (v28 && (clerestoryref4_Between v_.N (-9007199254740992) 9007199254740992)))) (fun X hX => ?_) ?_
        · refine split2 (fun hc5 => ?_) (fun hc5 => ?_)
          · refine gt rfl (a1 (v := (.c (.ref 0 3 0 1))) rfl ?_)
            refine gt rfl (a1 (v := (I v_.N)) rfl ?_)
            refine gt rfl (ac_pure (clerestoryref4_Between_ok v_.N (-9007199254740992) 9007199254740992) rfl rfl rfl ?_)
            refine un (a1 (v := (B (clerestoryref4_Between v_.N (-9007199254740992) 9007199254740992))) rfl ?_)
            refine dnil ?_
            exact hX _ (.putEq (by rw [hc5]; rfl) (.skip _ _ (.skip _ _ (.skip _ _ (.putEq (by rw [hc5]) (.refl _)) rfl) rfl) rfl))
          · refine gs rfl rfl ?_
            refine gs rfl rfl ?_
            refine gs rfl rfl ?_
            refine un (a1 (v := (B false)) rfl ?_)
            refine dnil ?_
            exact hX _ (.putEq (by rw [hc5]; rfl) (.skip _ _ (.skip _ _ (.skip _ _ (.putEq (by rw [hc5]) (.refl _)) rfl) rfl) rfl))
        refine un (a1 rfl ?_)
        refine dnil ?_
        refine Sv.ret ?_
        subst h
        exact ⟨_, .refl _, _, rfl, ⟨upd (fun _ => none) 0 (some (B (v28 && (clerestoryref4_Between v_.N (-9007199254740992) 9007199254740992)))), (fun _ => none), 0⟩, (B (v28 && (clerestoryref4_Between v_.N (-9007199254740992) 9007199254740992))), weak_canon [] rfl List.nodup_nil (Nat.le_refl _) (fun b h => absurd h (Nat.not_lt_zero _)) (.cons rfl (avAs_free rfl) .nil) .nil, rfl, rfl, rfl, rfl⟩
      · replace h := ifF hc4 h
        refine Sv.seq ?_
        refine Sv.region ?_
        refine un (a1 (v := (B (decide (v_.Kind = 3)))) rfl ?_)
        refine un (a1 rfl ?_)
        refine dnil ?_
        refine Sv.cond (b := decide (v_.Kind = 3)) rfl (fun hc6 => ?_) (fun hc6 => ?_)
        · replace h := ifT hc6 h
          refine Sv.seq ?_
          refine Sv.region ?_
          refine un (a1 (v := (.c (.ref 0 3 0 2))) rfl ?_)
          refine un (a1 (v := (S v_.S)) rfl ?_)
          refine un (a1 (v := (.c (.ref 1 3 0 2))) rfl ?_)
          refine un (a2n (h' := upd _ 1 (some (.cells 3 [[cI v_.Kind, cI 0, .str v_.S]]))) (n' := 2) rfl rfl (fun h => by cases h) ?_)
          refine dnil ?_
          refine Sv.seq ?_
          refine Sv.region ?_
          refine un (a1 (v := (.agg [cI v_.Kind, cI v_.N, .str v_.S])) rfl ?_)
          refine un (a1 (v := (.agg [cI v_.Kind, cI 0, .str v_.S])) rfl ?_)
          obtain ⟨v41, hv41⟩ : ∃ v41 : Bool, v41 = (decide (v_.Kind = v_.Kind) && (decide (v_.N = 0) && (decide (v_.S = v_.S) && true))) := ⟨_, rfl⟩
          replace h := letAt hv41 h
          refine un (a1 (v := (B v41)) (by rw [hv41]; rfl) ?_)
          clear hv41
          refine un (a1 rfl ?_)
          refine gjoin 5 (d := 47) (v := (B (v41 && (decide ((v_.S.length : Int) ≤ 2000))))) (fun X hX => ?_) ?_
          · refine split2 (fun hc7 => ?_) (fun hc7 => ?_)
            · refine gt rfl (a1 (v := (.c (.ref 0 3 0 2))) rfl ?_)
              refine gt rfl (a1 (v := (S v_.S)) rfl ?_)
              refine gt rfl (a1 (v := (I (v_.S.length : Int))) rfl ?_)
              refine gt rfl (a1 (v := (B (decide ((v_.S.length : Int) ≤ 2000)))) rfl ?_)
              refine un (a1 (v := (B (decide ((v_.S.length : Int) ≤ 2000)))) rfl ?_)
              refine dnil ?_
              exact hX _ (.putEq (by rw [hc7]; rfl) (.skip _ _ (.skip _ _ (.skip _ _ (.skip _ _ (.putEq (by rw [hc7]) (.refl _)) rfl) rfl) rfl) rfl))
            · refine gs rfl rfl ?_
              refine gs rfl rfl ?_
              refine gs rfl rfl ?_
              refine gs rfl rfl ?_
              refine un (a1 (v := (B false)) rfl ?_)
              refine dnil ?_
              exact hX _ (.putEq (by rw [hc7]; rfl) (.skip _ _ (.skip _ _ (.skip _ _ (.skip _ _ (.putEq (by rw [hc7]) (.refl _)) rfl) rfl) rfl) rfl))
          refine un (a1 rfl ?_)
          refine dnil ?_
          refine Sv.ret ?_
          subst h
          exact ⟨_, .refl _, _, rfl, ⟨upd (fun _ => none) 0 (some (B (v41 && (decide ((v_.S.length : Int) ≤ 2000))))), (fun _ => none), 0⟩, (B (v41 && (decide ((v_.S.length : Int) ≤ 2000)))), weak_canon [] rfl List.nodup_nil (Nat.le_refl _) (fun b h => absurd h (Nat.not_lt_zero _)) (.cons rfl (avAs_free rfl) .nil) .nil, rfl, rfl, rfl, rfl⟩
        · replace h := ifF hc6 h
          refine Sv.seq ?_
          refine Sv.region ?_
          refine un (a1 (v := (B (decide (v_.Kind = 4)))) rfl ?_)
          refine un (a1 rfl ?_)
          refine dnil ?_
          refine Sv.cond (b := decide (v_.Kind = 4)) rfl (fun hc8 => ?_) (fun hc8 => ?_)
          · replace h := ifT hc8 h
            refine Sv.seq ?_
            refine Sv.region ?_
            refine un (a1 (v := (.c (.ref 0 3 0 1))) rfl ?_)
            refine un (a1 (v := (I v_.N)) rfl ?_)
            refine un (a1 (v := (.c (.ref 1 3 0 1))) rfl ?_)
            refine un (a2n (h' := upd _ 1 (some (.cells 3 [[cI v_.Kind, cI v_.N, .str []]]))) (n' := 2) rfl rfl (fun h => by cases h) ?_)
            refine dnil ?_
            refine Sv.seq ?_
            refine Sv.region ?_
            refine un (a1 (v := (.agg [cI v_.Kind, cI v_.N, .str v_.S])) rfl ?_)
            refine un (a1 (v := (.agg [cI v_.Kind, cI v_.N, .str []])) rfl ?_)
            obtain ⟨v55, hv55⟩ : ∃ v55 : Bool, v55 = (decide (v_.Kind = v_.Kind) && (decide (v_.N = v_.N) && (decide (v_.S = []) && true))) := ⟨_, rfl⟩
            replace h := letAt hv55 h
            refine un (a1 (v := (B v55)) (by rw [hv55]; rfl) ?_)
            clear hv55
            refine un (a1 rfl ?_)
            refine gjoin 4 (d := 60) (v := (B (v55 && (decide ((-1) < v_.N))))) (fun X hX => ?_) ?_
            · refine split2 (fun hc9 => ?_) (fun hc9 => ?_)
              · refine gt rfl (a1 (v := (.c (.ref 0 3 0 1))) rfl ?_)
                refine gt rfl (a1 (v := (I v_.N)) rfl ?_)
                refine gt rfl (a1 (v := (B (decide ((-1) < v_.N)))) rfl ?_)
                refine un (a1 (v := (B (decide ((-1) < v_.N)))) rfl ?_)
                refine dnil ?_
                exact hX _ (.putEq (by rw [hc9]; rfl) (.skip _ _ (.skip _ _ (.skip _ _ (.putEq (by rw [hc9]) (.refl _)) rfl) rfl) rfl))
              · refine gs rfl rfl ?_
                refine gs rfl rfl ?_
                refine gs rfl rfl ?_
                refine un (a1 (v := (B false)) rfl ?_)
                refine dnil ?_
                exact hX _ (.putEq (by rw [hc9]; rfl) (.skip _ _ (.skip _ _ (.skip _ _ (.putEq (by rw [hc9]) (.refl _)) rfl) rfl) rfl))
            refine un (a1 rfl ?_)
            refine dnil ?_
            refine Sv.ret ?_
            subst h
            exact ⟨_, .refl _, _, rfl, ⟨upd (fun _ => none) 0 (some (B (v55 && (decide ((-1) < v_.N))))), (fun _ => none), 0⟩, (B (v55 && (decide ((-1) < v_.N)))), weak_canon [] rfl List.nodup_nil (Nat.le_refl _) (fun b h => absurd h (Nat.not_lt_zero _)) (.cons rfl (avAs_free rfl) .nil) .nil, rfl, rfl, rfl, rfl⟩
          · replace h := ifF hc8 h
            refine Sv.seq ?_
            refine Sv.region ?_
            refine un (a1 (v := (B (decide (v_.Kind = 5)))) rfl ?_)
            refine un (a1 rfl ?_)
            refine dnil ?_
            refine Sv.cond (b := decide (v_.Kind = 5)) rfl (fun hc10 => ?_) (fun hc10 => ?_)
            · replace h := ifT hc10 h
              refine Sv.region ?_
              refine un (a1 (v := (.c (.ref 0 3 0 2))) rfl ?_)
              refine un (a1 (v := (S v_.S)) rfl ?_)
              refine un (a1 (v := (.c (.ref 1 3 0 2))) rfl ?_)
              refine un (a2n (h' := upd _ 1 (some (.cells 3 [[cI v_.Kind, cI 0, .str v_.S]]))) (n' := 2) rfl rfl (fun h => by cases h) ?_)
              refine dnil ?_
              exact Sv.weak (weak_canon [0, 1] rfl (by decide) (by decide) (fun b h => absurd h (Nat.not_lt_zero _)) (.cons rfl (.c (.ref rfl (by decide))) (.cons rfl (.c (.ref rfl (by decide))) .nil)) (.box (by decide) rfl (blkAs_cells (.cons (.same rfl) (.cons (.same rfl) (.cons (.same rfl) .nil)))) (.box (by decide) rfl (blkAs_cells (.cons (.same rfl) (.cons (.same rfl) (.cons (.same rfl) .nil)))) .nil))) (clerestoryref4_ValueRight_j1_ok h)
            · replace h := ifF hc10 h
              refine Sv.seq ?_
              refine Sv.region ?_
              refine un (a1 rfl ?_)
              refine dnil ?_
              refine Sv.ret ?_
              subst h
              exact ⟨_, .refl _, _, rfl, ⟨upd (fun _ => none) 0 (some (B false)), (fun _ => none), 0⟩, (B false), weak_canon [] rfl List.nodup_nil (Nat.le_refl _) (fun b h => absurd h (Nat.not_lt_zero _)) (.cons rfl (avAs_free rfl) .nil) .nil, rfl, rfl, rfl, rfl⟩
def a51 : AFunc := ⟨1, [(.cell true 3 2)], (.seq (.region [⟨(some 1), (.box (.tmp 0)), none⟩, ⟨(some 2), (.box (.const (.agg [(.val (.int .i64 0)), (.val (.int .i64 0)), (.str [])]))), none⟩])
 (.seq (.seq (.region [⟨(some 3), (.load true 3 (.tmp 1)), none⟩, ⟨(some 4), (.call 97 [(.tmp 3)]), none⟩])
 (.cond (.tmp 4) (.seq (.region [⟨(some 5), (.load true 3 (.tmp 1)), none⟩, ⟨none, (.store 3 (.tmp 2) (.tmp 5)), none⟩])
 .ret) .skip))
 (.seq (.region [⟨(some 6), (.build [(.val (.int .i64 0)), (.val (.int .i64 0)), (.str [])] []), none⟩, ⟨none, (.store 3 (.tmp 2) (.tmp 6)), none⟩])
 .ret)))⟩
set_option maxRecDepth 100000 in
theorem c51 : compFunc Tryd.prog 51 = some a51 := by kernel_rfl
def clerestoryref4_Taken_post (r : TJVal) : AV → Heap → Nat → Prop := fun v h' n' => v = (.agg [cI r.Kind, cI r.N, .str r.S]) ∧ (h' = (fun _ => none)) ∧ n' = 0
/-- clerestory/clerestoryref4.Taken -/
def clerestoryref4_Taken (v_ : TJVal) : TJVal :=
  if (clerestoryref4_ValueRight v_) then
    v_
  else
    (⟨0, 0, []⟩ : TJVal)
theorem clerestoryref4_Taken_ok (v_ : TJVal) : CPure Tryd.prog GG 51 [(.agg [cI v_.Kind, cI v_.N, .str v_.S])] (.agg [cI ((clerestoryref4_Taken v_).Kind), cI ((clerestoryref4_Taken v_).N), .str ((clerestoryref4_Taken v_).S)]) := by
  generalize h : clerestoryref4_Taken v_ = o
  refine acalls_of_sv hmix c51 (R := clerestoryref4_Taken_post o) ?_
  unfold clerestoryref4_Taken at h
  refine Sv.seq ?_
  refine Sv.region ?_
  refine un (a2v (v := (.c (.ref 0 3 0 0))) (h' := upd _ 0 (some (.cells 3 [[cI v_.Kind, cI v_.N, .str v_.S]]))) (n' := 1) rfl rfl (fun h => by cases h) ?_)
  refine un (a2v (v := (.c (.ref 1 3 0 0))) (h' := upd _ 1 (some (.cells 3 [[cI 0, cI 0, .str []]]))) (n' := 2) rfl rfl (fun h => by cases h) ?_)
  refine dnil ?_
  refine Sv.seq ?_
  refine Sv.seq ?_
  refine Sv.region ?_
  refine un (a1 (v := (.agg [cI v_.Kind, cI v_.N, .str v_.S])) rfl ?_)
  refine un (ac_pure (clerestoryref4_ValueRight_ok v_) rfl rfl rfl ?_)
  refine dnil ?_
  refine Sv.cond (b := (clerestoryref4_ValueRight v_)) rfl (fun hc1 => ?_) (fun hc1 => ?_)
  · replace h := ifT hc1 h
    refine Sv.seq ?_
    refine Sv.region ?_
    refine un (a1 (v := (.agg [cI v_.Kind, cI v_.N, .str v_.S])) rfl ?_)
    refine un (a2n (h' := upd _ 1 (some (.cells 3 [[cI v_.Kind, cI v_.N, .str v_.S]]))) (n' := 2) rfl rfl (fun h => by cases h) ?_)
    refine dnil ?_
    refine Sv.ret ?_
    subst h
    exact ⟨_, .refl _, _, rfl, ⟨upd (fun _ => none) 0 (some (.agg [cI v_.Kind, cI v_.N, .str v_.S])), (fun _ => none), 0⟩, (.agg [cI v_.Kind, cI v_.N, .str v_.S]), weak_canon [] rfl List.nodup_nil (Nat.le_refl _) (fun b h => absurd h (Nat.not_lt_zero _)) (.cons rfl (avAs_free rfl) .nil) .nil, rfl, rfl, rfl, rfl⟩
  · replace h := ifF hc1 h
    refine Sv.skip ?_
    refine Sv.seq ?_
    refine Sv.region ?_
    refine un (a1 (v := (.agg [cI 0, cI 0, .str []])) rfl ?_)
    refine un (a2n (h' := upd _ 1 (some (.cells 3 [[cI 0, cI 0, .str []]]))) (n' := 2) rfl rfl (fun h => by cases h) ?_)
    refine dnil ?_
    refine Sv.ret ?_
    subst h
    exact ⟨_, .refl _, _, rfl, ⟨upd (fun _ => none) 0 (some (.agg [cI 0, cI 0, .str []])), (fun _ => none), 0⟩, (.agg [cI 0, cI 0, .str []]), weak_canon [] rfl List.nodup_nil (Nat.le_refl _) (fun b h => absurd h (Nat.not_lt_zero _)) (.cons rfl (avAs_free rfl) .nil) .nil, rfl, rfl, rfl, rfl⟩
def a53 : AFunc := ⟨1, [(.tmp 2)], (.seq (.region [⟨(some 1), (.box (.tmp 0)), none⟩, ⟨(some 2), (.mov (.const (.c (.val (.bool false))))), none⟩])
 (.seq (.region [⟨(some 3), (.load true 3 (.tmp 1)), none⟩, ⟨(some 4), (.call 51 [(.tmp 3)]), none⟩, ⟨none, (.store 3 (.tmp 1) (.tmp 4)), none⟩])
 (.seq (.region [⟨(some 5), (.faddr 0 (.tmp 1)), none⟩, ⟨(some 6), (.load false 1 (.tmp 5)), none⟩, ⟨(some 7), (.bin .gtr (.tmp 6) (.const (.c (.val (.int .i64 3))))), none⟩, ⟨(some 8), (.mov (.tmp 7)), none⟩, ⟨(some 9), (.faddr 0 (.tmp 1)), (some (8, false))⟩, ⟨(some 10), (.load false 1 (.tmp 9)), (some (8, false))⟩, ⟨(some 11), (.bin .gtr (.tmp 10) (.const (.c (.val (.int .i64 0))))), (some (8, false))⟩, ⟨(some 12), (.mov (.tmp 11)), (some (8, false))⟩, ⟨(some 13), (.faddr 1 (.tmp 1)), (some (12, true))⟩, ⟨(some 14), (.load false 1 (.tmp 13)), (some (12, true))⟩, ⟨(some 15), (.bin .neq (.tmp 14) (.const (.c (.val (.int .i64 0))))), (some (12, true))⟩, ⟨(some 16), (.mov (.tmp 15)), (some (12, true))⟩, ⟨(some 17), (.faddr 2 (.tmp 1)), (some (16, false))⟩, ⟨(some 18), (.load false 1 (.tmp 17)), (some (16, false))⟩, ⟨(some 19), (.bin .neq (.tmp 18) (.const (.c (.str [])))), (some (16, false))⟩, ⟨(some 20), (.pick (.tmp 16) (.const (.c (.val (.bool true)))) (.tmp 19)), (some (12, true))⟩, ⟨(some 21), (.pick (.tmp 12) (.tmp 20) (.const (.c (.val (.bool false))))), (some (8, false))⟩, ⟨(some 22), (.pick (.tmp 8) (.const (.c (.val (.bool true)))) (.tmp 21)), none⟩, ⟨(some 2), (.mov (.tmp 22)), none⟩])
 .ret)))⟩
set_option maxRecDepth 100000 in
theorem c53 : compFunc Tryd.prog 53 = some a53 := by kernel_rfl
def clerestoryref4_IsTrue_post (r : Bool) : AV → Heap → Nat → Prop := fun v h' n' => v = (B r) ∧ (h' = (fun _ => none)) ∧ n' = 0
/-- clerestory/clerestoryref4.IsTrue -/
def clerestoryref4_IsTrue (v_ : TJVal) : Bool :=
  ((decide (3 < (clerestoryref4_Taken v_).Kind)) || ((decide (0 < (clerestoryref4_Taken v_).Kind)) && ((!decide ((clerestoryref4_Taken v_).N = 0)) || (!decide ((clerestoryref4_Taken v_).S = [])))))
theorem clerestoryref4_IsTrue_ok (v_ : TJVal) : CPure Tryd.prog GG 53 [(.agg [cI v_.Kind, cI v_.N, .str v_.S])] (B (clerestoryref4_IsTrue v_)) := by
  generalize h : clerestoryref4_IsTrue v_ = o
  refine acalls_of_sv hmix c53 (R := clerestoryref4_IsTrue_post o) ?_
  unfold clerestoryref4_IsTrue at h
  refine Sv.seq ?_
  refine Sv.region ?_
  refine un (a2v (v := (.c (.ref 0 3 0 0))) (h' := upd _ 0 (some (.cells 3 [[cI v_.Kind, cI v_.N, .str v_.S]]))) (n' := 1) rfl rfl (fun h => by cases h) ?_)
  refine un (a1 rfl ?_)
  refine dnil ?_
  refine Sv.seq ?_
  refine Sv.region ?_
  refine un (a1 (v := (.agg [cI v_.Kind, cI v_.N, .str v_.S])) rfl ?_)
  refine un (ac_pure (clerestoryref4_Taken_ok v_) rfl rfl rfl ?_)
  refine un (a2n (h' := upd _ 0 (some (.cells 3 [[cI ((clerestoryref4_Taken v_).Kind), cI ((clerestoryref4_Taken v_).N), .str ((clerestoryref4_Taken v_).S)]]))) (n' := 1) rfl rfl (fun h => by cases h) ?_)
  refine dnil ?_
  refine Sv.seq ?_
  refine Sv.region ?_
  refine un (a1 (v := (.c (.ref 0 3 0 0))) rfl ?_)
  refine un (a1 (v := (I ((clerestoryref4_Taken v_).Kind))) rfl ?_)
  refine un (a1 (v := (B (decide (3 < (clerestoryref4_Taken v_).Kind)))) rfl ?_)
  refine un (a1 rfl ?_)
  refine gjoin 14 (d := 22) (v := (B ((decide (3 < (clerestoryref4_Taken v_).Kind)) || ((decide (0 < (clerestoryref4_Taken v_).Kind)) && ((!decide ((clerestoryref4_Taken v_).N = 0)) || (!decide ((clerestoryref4_Taken v_).S = []))))))) (fun X hX => ?_) ?_
  · refine split2 (fun hc3 => ?_) (fun hc3 => ?_)
    · refine gs rfl rfl ?_
      refine gs rfl rfl ?_
      refine gs rfl rfl ?_
      refine gs rfl rfl ?_
      refine gu rfl ?_
      refine gu rfl ?_
      refine gu rfl ?_
      refine gu rfl ?_
      refine gu rfl ?_
      refine gu rfl ?_
      refine gu rfl ?_
      refine gu rfl ?_
      refine gs rfl rfl ?_
      refine un (a1 (v := (B true)) rfl ?_)
      refine dnil ?_
      exact hX _ (.putEq (by rw [hc3]; rfl) (.skip _ _ (.skip _ _ (.skip _ _ (.skip _ _ (.skip _ _ (.skip _ _ (.skip _ _ (.skip _ _ (.skip _ _ (.skip _ _ (.skip _ _ (.skip _ _ (.skip _ _ (.putEq (by rw [hc3]) (.refl _)) rfl) rfl) rfl) rfl) rfl) rfl) rfl) rfl) rfl) rfl) rfl) rfl) rfl))
    · refine gt rfl (a1 (v := (.c (.ref 0 3 0 0))) rfl ?_)
      refine gt rfl (a1 (v := (I ((clerestoryref4_Taken v_).Kind))) rfl ?_)
      refine gt rfl (a1 (v := (B (decide (0 < (clerestoryref4_Taken v_).Kind)))) rfl ?_)
      refine gt rfl (a1 rfl ?_)
      refine gjoin 9 (d := 21) (v := (B ((decide (0 < (clerestoryref4_Taken v_).Kind)) && ((!decide ((clerestoryref4_Taken v_).N = 0)) || (!decide ((clerestoryref4_Taken v_).S = [])))))) (fun X hX => ?_) ?_
      · refine split2 (fun hc2 => ?_) (fun hc2 => ?_)
        · refine gt rfl (a1 (v := (.c (.ref 0 3 0 1))) rfl ?_)
          refine gt rfl (a1 (v := (I ((clerestoryref4_Taken v_).N))) rfl ?_)
          refine gt rfl (a1 (v := (B (!decide ((clerestoryref4_Taken v_).N = 0)))) rfl ?_)
          refine gt rfl (a1 rfl ?_)
          refine gjoin 4 (d := 20) (v := (B ((!decide ((clerestoryref4_Taken v_).N = 0)) || (!decide ((clerestoryref4_Taken v_).S = []))))) (fun X hX => ?_) ?_
          · refine split2 (fun hc1 => ?_) (fun hc1 => ?_)
            · refine gs rfl rfl ?_
              refine gs rfl rfl ?_
              refine gs rfl rfl ?_
              refine gt rfl (a1 (v := (B true)) rfl ?_)
              refine dnil ?_
              exact hX _ (.putEq (by rw [hc1]; rfl) (.skip _ _ (.skip _ _ (.skip _ _ (.putEq (by rw [hc1]) (.refl _)) rfl) rfl) rfl))
            · refine gt rfl (a1 (v := (.c (.ref 0 3 0 2))) rfl ?_)
              refine gt rfl (a1 (v := (S ((clerestoryref4_Taken v_).S))) rfl ?_)
              refine gt rfl (a1 (v := (B (!decide ((clerestoryref4_Taken v_).S = [])))) rfl ?_)
              refine gt rfl (a1 (v := (B (!decide ((clerestoryref4_Taken v_).S = [])))) rfl ?_)
              refine dnil ?_
              exact hX _ (.putEq (by rw [hc1]; rfl) (.skip _ _ (.skip _ _ (.skip _ _ (.putEq (by rw [hc1]) (.refl _)) rfl) rfl) rfl))
          refine gt rfl (a1 (v := (B ((!decide ((clerestoryref4_Taken v_).N = 0)) || (!decide ((clerestoryref4_Taken v_).S = []))))) rfl ?_)
          refine dnil ?_
          exact hX _ (.putEq (by rw [hc2]; rfl) (.skip _ _ (.skip _ _ (.skip _ _ (.skip _ _ (.skip _ _ (.putEq (by rw [hc2]) (.refl _)) rfl) rfl) rfl) rfl) rfl))
        · refine gs rfl rfl ?_
          refine gs rfl rfl ?_
          refine gs rfl rfl ?_
          refine gs rfl rfl ?_
          refine gu rfl ?_
          refine gu rfl ?_
          refine gu rfl ?_
          refine gs rfl rfl ?_
          refine gt rfl (a1 (v := (B false)) rfl ?_)
          refine dnil ?_
          exact hX _ (.putEq (by rw [hc2]; rfl) (.skip _ _ (.skip _ _ (.skip _ _ (.skip _ _ (.skip _ _ (.skip _ _ (.skip _ _ (.skip _ _ (.putEq (by rw [hc2]) (.refl _)) rfl) rfl) rfl) rfl) rfl) rfl) rfl) rfl))
      refine un (a1 (v := (B ((decide (0 < (clerestoryref4_Taken v_).Kind)) && ((!decide ((clerestoryref4_Taken v_).N = 0)) || (!decide ((clerestoryref4_Taken v_).S = [])))))) rfl ?_)
      refine dnil ?_
      exact hX _ (.putEq (by rw [hc3]; rfl) (.skip _ _ (.skip _ _ (.skip _ _ (.skip _ _ (.skip _ _ (.putEq (by rw [hc3]) (.refl _)) rfl) rfl) rfl) rfl) rfl))
  refine un (a1 rfl ?_)
  refine dnil ?_
  refine Sv.ret ?_
  subst h
  exact ⟨_, .refl _, _, rfl, ⟨upd (fun _ => none) 0 (some (B ((decide (3 < (clerestoryref4_Taken v_).Kind)) || ((decide (0 < (clerestoryref4_Taken v_).Kind)) && ((!decide ((clerestoryref4_Taken v_).N = 0)) || (!decide ((clerestoryref4_Taken v_).S = []))))))), (fun _ => none), 0⟩, (B ((decide (3 < (clerestoryref4_Taken v_).Kind)) || ((decide (0 < (clerestoryref4_Taken v_).Kind)) && ((!decide ((clerestoryref4_Taken v_).N = 0)) || (!decide ((clerestoryref4_Taken v_).S = [])))))), weak_canon [] rfl List.nodup_nil (Nat.le_refl _) (fun b h => absurd h (Nat.not_lt_zero _)) (.cons rfl (avAs_free rfl) .nil) .nil, rfl, rfl, rfl, rfl⟩
def a52_c0 : ACode := (.seq (.region [⟨(some 8), (.load true 3 (.tmp 4)), none⟩, ⟨none, (.store 3 (.tmp 2) (.tmp 8)), none⟩, ⟨(some 3), (.mov (.const (.c (.str [])))), none⟩])
 .ret)
def a52 : AFunc := ⟨1, [(.cell true 3 2), (.tmp 3)], (.seq (.region [⟨(some 2), (.box (.const (.agg [(.val (.int .i64 0)), (.val (.int .i64 0)), (.str [])]))), none⟩, ⟨(some 3), (.mov (.const (.c (.str [])))), none⟩])
 (.seq (.region [⟨(some 5), (.build [(.val (.int .i64 0)), (.val (.int .i64 0)), (.str [])] [(0, (1, (.const (.c (.val (.int .i64 1))))))]), none⟩, ⟨(some 4), (.box (.const (.agg [(.val (.int .i64 0)), (.val (.int .i64 0)), (.str [])]))), none⟩, ⟨none, (.store 3 (.tmp 4) (.tmp 5)), none⟩])
 (.seq (.seq (.region [⟨(some 6), (.mov (.tmp 0)), none⟩])
 (.cond (.tmp 6) (.region [⟨(some 7), (.faddr 1 (.tmp 4)), none⟩, ⟨none, (.store 1 (.tmp 7) (.const (.c (.val (.int .i64 1))))), none⟩]) .skip))
 a52_c0)))⟩
set_option maxRecDepth 100000 in
theorem c52 : compFunc Tryd.prog 52 = some a52 := by kernel_rfl
def clerestoryref4_boolOf_post (r : (TJVal × (List UInt8))) : AV → Heap → Nat → Prop := fun v h' n' => v = (.tup [(.agg [cI r.1.Kind, cI r.1.N, .str r.1.S]), (S r.2)]) ∧ (h' = (fun _ => none)) ∧ n' = 0
def clerestoryref4_boolOf_j1 (v1 : Int) : (TJVal × (List UInt8)) :=
  ((⟨1, v1, []⟩ : TJVal), [])
theorem clerestoryref4_boolOf_j1_ok {v1 : Int} {o : (TJVal × (List UInt8))} (h : clerestoryref4_boolOf_j1 v1 = o) :
    Sv Tryd.prog GG 0 a52_c0 (Ends a52.results 0 (clerestoryref4_boolOf_post o)) ⟨(upd (upd (fun _ => none) 2 (some (.c (.ref 0 3 0 0)))) 4 (some (.c (.ref 1 3 0 0)))), (upd (upd (fun _ => none) 0 (some (.cells 3 [[cI 0, cI 0, .str []]]))) 1 (some (.cells 3 [[cI 1, cI v1, .str []]]))), 2⟩ := by
  unfold clerestoryref4_boolOf_j1 at h
  refine Sv.seq ?_
  refine Sv.region ?_
  refine un (a1 (v := (.agg [cI 1, cI v1, .str []])) rfl ?_)
  refine un (a2n (h' := upd _ 0 (some (.cells 3 [[cI 1, cI v1, .str []]]))) (n' := 2) rfl rfl (fun h => by cases h) ?_)
  refine un (a1 rfl ?_)
  refine dnil ?_
  refine Sv.ret ?_
  subst h
  exact ⟨_, .refl _, _, rfl, ⟨upd (fun _ => none) 0 (some (.tup [(.agg [cI 1, cI v1, .str []]), (S [])])), (fun _ => none), 0⟩, (.tup [(.agg [cI 1, cI v1, .str []]), (S [])]), weak_canon [] rfl List.nodup_nil (Nat.le_refl _) (fun b h => absurd h (Nat.not_lt_zero _)) (.cons rfl (avAs_tup (.cons (avAs_free rfl) (.cons (avAs_free rfl) .nil))) .nil) .nil, rfl, rfl, rfl, rfl⟩
/-- clerestory/clerestoryref4.boolOf -/
def clerestoryref4_boolOf (is_ : Bool) : (TJVal × (List UInt8)) :=
  if is_ then
    clerestoryref4_boolOf_j1 1
  else
    clerestoryref4_boolOf_j1 0
theorem clerestoryref4_boolOf_ok (is_ : Bool) : CPure Tryd.prog GG 52 [(B is_)] (.tup [(.agg [cI (((clerestoryref4_boolOf is_).1).Kind), cI (((clerestoryref4_boolOf is_).1).N), .str (((clerestoryref4_boolOf is_).1).S)]), (S ((clerestoryref4_boolOf is_).2))]) := by
  generalize h : clerestoryref4_boolOf is_ = o
  refine acalls_of_sv hmix c52 (R := clerestoryref4_boolOf_post o) ?_
  unfold clerestoryref4_boolOf at h
  refine Sv.seq ?_
  refine Sv.region ?_
  refine un (a2v (v := (.c (.ref 0 3 0 0))) (h' := upd _ 0 (some (.cells 3 [[cI 0, cI 0, .str []]]))) (n' := 1) rfl rfl (fun h => by cases h) ?_)
  refine un (a1 rfl ?_)
  refine dnil ?_
  refine Sv.seq ?_
  refine Sv.region ?_
  refine un (a1 (v := (.agg [cI 1, cI 0, .str []])) rfl ?_)
  refine un (a2v (v := (.c (.ref 1 3 0 0))) (h' := upd _ 1 (some (.cells 3 [[cI 0, cI 0, .str []]]))) (n' := 2) rfl rfl (fun h => by cases h) ?_)
  refine un (a2n (h' := upd _ 1 (some (.cells 3 [[cI 1, cI 0, .str []]]))) (n' := 2) rfl rfl (fun h => by cases h) ?_)
  refine dnil ?_
  refine Sv.seq ?_
  refine Sv.seq ?_
  refine Sv.region ?_
  refine un (a1 rfl ?_)
  refine dnil ?_
  refine Sv.cond (b := is_) rfl (fun hc1 => ?_) (fun hc1 => ?_)
  · replace h := ifT hc1 h
    refine Sv.region ?_
    refine un (a1 (v := (.c (.ref 1 3 0 1))) rfl ?_)
    refine un (a2n (h' := upd _ 1 (some (.cells 3 [[cI 1, cI 1, .str []]]))) (n' := 2) rfl rfl (fun h => by cases h) ?_)
    refine dnil ?_
    exact Sv.weak (weak_canon [0, 1] rfl (by decide) (by decide) (fun b h => absurd h (Nat.not_lt_zero _)) (.cons rfl (.c (.ref rfl (by decide))) (.cons rfl (.c (.ref rfl (by decide))) .nil)) (.box (by decide) rfl (blkAs_cells (.cons (.same rfl) (.cons (.same rfl) (.cons (.same rfl) .nil)))) (.box (by decide) rfl (blkAs_cells (.cons (.same rfl) (.cons (.same rfl) (.cons (.same rfl) .nil)))) .nil))) (clerestoryref4_boolOf_j1_ok h)
  · replace h := ifF hc1 h
    refine Sv.skip ?_
    exact Sv.weak (weak_canon [0, 1] rfl (by decide) (by decide) (fun b h => absurd h (Nat.not_lt_zero _)) (.cons rfl (.c (.ref rfl (by decide))) (.cons rfl (.c (.ref rfl (by decide))) .nil)) (.box (by decide) rfl (blkAs_cells (.cons (.same rfl) (.cons (.same rfl) (.cons (.same rfl) .nil)))) (.box (by decide) rfl (blkAs_cells (.cons (.same rfl) (.cons (.same rfl) (.cons (.same rfl) .nil)))) .nil))) (clerestoryref4_boolOf_j1_ok h)
def a54 : AFunc := ⟨1, [(.cell true 3 2), (.tmp 3)], (.seq (.region [⟨(some 2), (.box (.const (.agg [(.val (.int .i64 0)), (.val (.int .i64 0)), (.str [])]))), none⟩, ⟨(some 3), (.mov (.const (.c (.str [])))), none⟩])
 (.seq (.seq (.region [⟨(some 4), (.mov (.tmp 0)), none⟩, ⟨(some 5), (.call 74 [(.tmp 4), (.const (.c (.val (.int .i64 (-9007199254740992))))), (.const (.c (.val (.int .i64 9007199254740992))))]), none⟩])
 (.cond (.tmp 5) (.seq (.region [⟨(some 6), (.mov (.tmp 0)), none⟩, ⟨(some 7), (.build [(.val (.int .i64 0)), (.val (.int .i64 0)), (.str [])] [(0, (1, (.const (.c (.val (.int .i64 2)))))), (1, (1, (.tmp 6)))]), none⟩, ⟨none, (.store 3 (.tmp 2) (.tmp 7)), none⟩, ⟨(some 3), (.mov (.const (.c (.str [])))), none⟩])
 .ret) .skip))
 (.seq (.region [⟨(some 8), (.build [(.val (.int .i64 0)), (.val (.int .i64 0)), (.str [])] []), none⟩, ⟨none, (.store 3 (.tmp 2) (.tmp 8)), none⟩, ⟨(some 3), (.mov (.const (.c (.str [114, 97, 110, 103, 101])))), none⟩])
 .ret)))⟩
set_option maxRecDepth 100000 in
theorem c54 : compFunc Tryd.prog 54 = some a54 := by kernel_rfl
def clerestoryref4_numOf_post (r : (TJVal × (List UInt8))) : AV → Heap → Nat → Prop := fun v h' n' => v = (.tup [(.agg [cI r.1.Kind, cI r.1.N, .str r.1.S]), (S r.2)]) ∧ (h' = (fun _ => none)) ∧ n' = 0
/-- clerestory/clerestoryref4.numOf -/
def clerestoryref4_numOf (n_ : Int) : (TJVal × (List UInt8)) :=
  if (clerestoryref4_Between n_ (-9007199254740992) 9007199254740992) then
    ((⟨2, n_, []⟩ : TJVal), [])
  else
    ((⟨0, 0, []⟩ : TJVal), [114, 97, 110, 103, 101])
theorem clerestoryref4_numOf_ok (n_ : Int) : CPure Tryd.prog GG 54 [(I n_)] (.tup [(.agg [cI (((clerestoryref4_numOf n_).1).Kind), cI (((clerestoryref4_numOf n_).1).N), .str (((clerestoryref4_numOf n_).1).S)]), (S ((clerestoryref4_numOf n_).2))]) := by
  generalize h : clerestoryref4_numOf n_ = o
  refine acalls_of_sv hmix c54 (R := clerestoryref4_numOf_post o) ?_
  unfold clerestoryref4_numOf at h
  refine Sv.seq ?_
  refine Sv.region ?_
  refine un (a2v (v := (.c (.ref 0 3 0 0))) (h' := upd _ 0 (some (.cells 3 [[cI 0, cI 0, .str []]]))) (n' := 1) rfl rfl (fun h => by cases h) ?_)
  refine un (a1 rfl ?_)
  refine dnil ?_
  refine Sv.seq ?_
  refine Sv.seq ?_
  refine Sv.region ?_
  refine un (a1 rfl ?_)
  refine un (ac_pure (clerestoryref4_Between_ok n_ (-9007199254740992) 9007199254740992) rfl rfl rfl ?_)
  refine dnil ?_
  refine Sv.cond (b := (clerestoryref4_Between n_ (-9007199254740992) 9007199254740992)) rfl (fun hc1 => ?_) (fun hc1 => ?_)
  · replace h := ifT hc1 h
    refine Sv.seq ?_
    refine Sv.region ?_
    refine un (a1 rfl ?_)
    refine un (a1 (v := (.agg [cI 2, cI n_, .str []])) rfl ?_)
    refine un (a2n (h' := upd _ 0 (some (.cells 3 [[cI 2, cI n_, .str []]]))) (n' := 1) rfl rfl (fun h => by cases h) ?_)
    refine un (a1 rfl ?_)
    refine dnil ?_
    refine Sv.ret ?_
    subst h
    exact ⟨_, .refl _, _, rfl, ⟨upd (fun _ => none) 0 (some (.tup [(.agg [cI 2, cI n_, .str []]), (S [])])), (fun _ => none), 0⟩, (.tup [(.agg [cI 2, cI n_, .str []]), (S [])]), weak_canon [] rfl List.nodup_nil (Nat.le_refl _) (fun b h => absurd h (Nat.not_lt_zero _)) (.cons rfl (avAs_tup (.cons (avAs_free rfl) (.cons (avAs_free rfl) .nil))) .nil) .nil, rfl, rfl, rfl, rfl⟩
  · replace h := ifF hc1 h
    refine Sv.skip ?_
    refine Sv.seq ?_
    refine Sv.region ?_
    refine un (a1 (v := (.agg [cI 0, cI 0, .str []])) rfl ?_)
    refine un (a2n (h' := upd _ 0 (some (.cells 3 [[cI 0, cI 0, .str []]]))) (n' := 1) rfl rfl (fun h => by cases h) ?_)
    refine un (a1 rfl ?_)
    refine dnil ?_
    refine Sv.ret ?_
    subst h
    exact ⟨_, .refl _, _, rfl, ⟨upd (fun _ => none) 0 (some (.tup [(.agg [cI 0, cI 0, .str []]), (S [114, 97, 110, 103, 101])])), (fun _ => none), 0⟩, (.tup [(.agg [cI 0, cI 0, .str []]), (S [114, 97, 110, 103, 101])]), weak_canon [] rfl List.nodup_nil (Nat.le_refl _) (fun b h => absurd h (Nat.not_lt_zero _)) (.cons rfl (avAs_tup (.cons (avAs_free rfl) (.cons (avAs_free rfl) .nil))) .nil) .nil, rfl, rfl, rfl, rfl⟩
def a16 : AFunc := ⟨2, [(.cell true 3 4), (.tmp 5)], (.seq (.region [⟨(some 3), (.box (.tmp 1)), none⟩, ⟨(some 4), (.box (.const (.agg [(.val (.int .i64 0)), (.val (.int .i64 0)), (.str [])]))), none⟩, ⟨(some 5), (.mov (.const (.c (.str [])))), none⟩])
 (.seq (.region [⟨(some 6), (.load true 3 (.tmp 3)), none⟩, ⟨(some 7), (.call 51 [(.tmp 6)]), none⟩, ⟨none, (.store 3 (.tmp 3) (.tmp 7)), none⟩])
 (.seq (.seq (.region [⟨(some 8), (.mov (.tmp 0)), none⟩, ⟨(some 9), (.bin .eql (.tmp 8) (.const (.c (.str [33])))), none⟩])
 (.cond (.tmp 9) (.seq (.region [⟨(some 10), (.load true 3 (.tmp 3)), none⟩, ⟨(some 11), (.call 53 [(.tmp 10)]), none⟩, ⟨(some 12), (.un .not (.tmp 11)), none⟩, ⟨(some 13), (.call 52 [(.tmp 12)]), none⟩, ⟨(some 14), (.ext (.tmp 13) 0), none⟩, ⟨(some 15), (.ext (.tmp 13) 1), none⟩, ⟨none, (.store 3 (.tmp 4) (.tmp 14)), none⟩, ⟨(some 5), (.mov (.tmp 15)), none⟩])
 .ret) .skip))
 (.seq (.seq (.region [⟨(some 16), (.mov (.tmp 0)), none⟩, ⟨(some 17), (.bin .neq (.tmp 16) (.const (.c (.str [45])))), none⟩])
 (.cond (.tmp 17) (.seq (.region [⟨(some 18), (.build [(.val (.int .i64 0)), (.val (.int .i64 0)), (.str [])] []), none⟩, ⟨none, (.store 3 (.tmp 4) (.tmp 18)), none⟩, ⟨(some 5), (.mov (.const (.c (.str [115, 105, 103, 110])))), none⟩])
 .ret) .skip))
 (.seq (.seq (.region [⟨(some 19), (.faddr 0 (.tmp 3)), none⟩, ⟨(some 20), (.load false 1 (.tmp 19)), none⟩, ⟨(some 21), (.bin .neq (.tmp 20) (.const (.c (.val (.int .i64 2))))), none⟩])
 (.cond (.tmp 21) (.seq (.region [⟨(some 22), (.build [(.val (.int .i64 0)), (.val (.int .i64 0)), (.str [])] []), none⟩, ⟨none, (.store 3 (.tmp 4) (.tmp 22)), none⟩, ⟨(some 5), (.mov (.const (.c (.str [107, 105, 110, 100])))), none⟩])
 .ret) .skip))
 (.seq (.region [⟨(some 23), (.faddr 1 (.tmp 3)), none⟩, ⟨(some 24), (.load false 1 (.tmp 23)), none⟩, ⟨(some 25), (.un .neg (.tmp 24)), none⟩, ⟨(some 26), (.call 54 [(.tmp 25)]), none⟩, ⟨(some 27), (.ext (.tmp 26) 0), none⟩, ⟨(some 28), (.ext (.tmp 26) 1), none⟩, ⟨none, (.store 3 (.tmp 4) (.tmp 27)), none⟩, ⟨(some 5), (.mov (.tmp 28)), none⟩])
 .ret))))))⟩
set_option maxRecDepth 100000 in
theorem c16 : compFunc Tryd.prog 16 = some a16 := by kernel_rfl
def clerestoryref4_OneSide_post (r : (TJVal × (List UInt8))) : AV → Heap → Nat → Prop := fun v h' n' => v = (.tup [(.agg [cI r.1.Kind, cI r.1.N, .str r.1.S]), (S r.2)]) ∧ (h' = (fun _ => none)) ∧ n' = 0
/-- clerestory/clerestoryref4.OneSide -/
def clerestoryref4_OneSide (sign : (List UInt8)) (v_ : TJVal) : (TJVal × (List UInt8)) :=
  if decide (sign = [33]) then
    letIn (clerestoryref4_boolOf (!(clerestoryref4_IsTrue (clerestoryref4_Taken v_)))) fun r_ : (TJVal × (List UInt8)) =>
    (r_.1, r_.2)
  else
    if (!decide (sign = [45])) then
      ((⟨0, 0, []⟩ : TJVal), [115, 105, 103, 110])
    else
      if (!decide ((clerestoryref4_Taken v_).Kind = 2)) then
        ((⟨0, 0, []⟩ : TJVal), [107, 105, 110, 100])
      else
        (((clerestoryref4_numOf (wi (0 - (clerestoryref4_Taken v_).N))).1), (clerestoryref4_numOf (wi (0 - (clerestoryref4_Taken v_).N))).2)
theorem clerestoryref4_OneSide_ok (sign : (List UInt8)) (v_ : TJVal) : CPure Tryd.prog GG 16 [(S sign), (.agg [cI v_.Kind, cI v_.N, .str v_.S])] (.tup [(.agg [cI (((clerestoryref4_OneSide sign v_).1).Kind), cI (((clerestoryref4_OneSide sign v_).1).N), .str (((clerestoryref4_OneSide sign v_).1).S)]), (S ((clerestoryref4_OneSide sign v_).2))]) := by
  generalize h : clerestoryref4_OneSide sign v_ = o
  refine acalls_of_sv hmix c16 (R := clerestoryref4_OneSide_post o) ?_
  unfold clerestoryref4_OneSide at h
  refine Sv.seq ?_
  refine Sv.region ?_
  refine un (a2v (v := (.c (.ref 0 3 0 0))) (h' := upd _ 0 (some (.cells 3 [[cI v_.Kind, cI v_.N, .str v_.S]]))) (n' := 1) rfl rfl (fun h => by cases h) ?_)
  refine un (a2v (v := (.c (.ref 1 3 0 0))) (h' := upd _ 1 (some (.cells 3 [[cI 0, cI 0, .str []]]))) (n' := 2) rfl rfl (fun h => by cases h) ?_)
  refine un (a1 rfl ?_)
  refine dnil ?_
  refine Sv.seq ?_
  refine Sv.region ?_
  refine un (a1 (v := (.agg [cI v_.Kind, cI v_.N, .str v_.S])) rfl ?_)
  refine un (ac_pure (clerestoryref4_Taken_ok v_) rfl rfl rfl ?_)
  refine un (a2n (h' := upd _ 0 (some (.cells 3 [[cI ((clerestoryref4_Taken v_).Kind), cI ((clerestoryref4_Taken v_).N), .str ((clerestoryref4_Taken v_).S)]]))) (n' := 2) rfl rfl (fun h => by cases h) ?_)
  refine dnil ?_
  refine Sv.seq ?_
  refine Sv.seq ?_
  refine Sv.region ?_
  refine un (a1 rfl ?_)
  refine un (a1 (v := (B (decide (sign = [33])))) rfl ?_)
  refine dnil ?_
  refine Sv.cond (b := decide (sign = [33])) rfl (fun hc1 => ?_) (fun hc1 => ?_)
  · replace h := ifT hc1 h
    refine Sv.seq ?_
    refine Sv.region ?_
    refine un (a1 (v := (.agg [cI ((clerestoryref4_Taken v_).Kind), cI ((clerestoryref4_Taken v_).N), .str ((clerestoryref4_Taken v_).S)])) rfl ?_)
    refine un (ac_pure (clerestoryref4_IsTrue_ok (clerestoryref4_Taken v_)) rfl rfl rfl ?_)
    refine un (a1 (v := (B (!(clerestoryref4_IsTrue (clerestoryref4_Taken v_))))) rfl ?_)
    obtain ⟨r_, hr_⟩ : ∃ r_ : (TJVal × (List UInt8)), r_ = (clerestoryref4_boolOf (!(clerestoryref4_IsTrue (clerestoryref4_Taken v_)))) := ⟨_, rfl⟩
    replace h := letAt hr_ h
    have pr_ := (clerestoryref4_boolOf_ok (!(clerestoryref4_IsTrue (clerestoryref4_Taken v_))))
    rw [← hr_] at pr_
    refine un (ac_pure pr_ rfl rfl rfl ?_)
    refine un (a1 (v := (.agg [cI r_.1.Kind, cI r_.1.N, .str r_.1.S])) rfl ?_)
    refine un (a1 (v := (S r_.2)) rfl ?_)
    refine un (a2n (h' := upd _ 1 (some (.cells 3 [[cI r_.1.Kind, cI r_.1.N, .str r_.1.S]]))) (n' := 2) rfl rfl (fun h => by cases h) ?_)
    refine un (a1 rfl ?_)
    refine dnil ?_
    refine Sv.ret ?_
    subst h
    exact ⟨_, .refl _, _, rfl, ⟨upd (fun _ => none) 0 (some (.tup [(.agg [cI r_.1.Kind, cI r_.1.N, .str r_.1.S]), (S r_.2)])), (fun _ => none), 0⟩, (.tup [(.agg [cI r_.1.Kind, cI r_.1.N, .str r_.1.S]), (S r_.2)]), weak_canon [] rfl List.nodup_nil (Nat.le_refl _) (fun b h => absurd h (Nat.not_lt_zero _)) (.cons rfl (avAs_tup (.cons (avAs_free rfl) (.cons (avAs_free rfl) .nil))) .nil) .nil, rfl, rfl, rfl, rfl⟩
  · replace h := ifF hc1 h
    refine Sv.skip ?_
    refine Sv.seq ?_
    refine Sv.seq ?_
    refine Sv.region ?_
    refine un (a1 rfl ?_)
    refine un (a1 (v := (B (!decide (sign = [45])))) rfl ?_)
    refine dnil ?_
    refine Sv.cond (b := (!decide (sign = [45]))) rfl (fun hc2 => ?_) (fun hc2 => ?_)
    · replace h := ifT hc2 h
      refine Sv.seq ?_
      refine Sv.region ?_
      refine un (a1 (v := (.agg [cI 0, cI 0, .str []])) rfl ?_)
      refine un (a2n (h' := upd _ 1 (some (.cells 3 [[cI 0, cI 0, .str []]]))) (n' := 2) rfl rfl (fun h => by cases h) ?_)
      refine un (a1 rfl ?_)
      refine dnil ?_
      refine Sv.ret ?_
      subst h
      exact ⟨_, .refl _, _, rfl, ⟨upd (fun _ => none) 0 (some (.tup [(.agg [cI 0, cI 0, .str []]), (S [115, 105, 103, 110])])), (fun _ => none), 0⟩, (.tup [(.agg [cI 0, cI 0, .str []]), (S [115, 105, 103, 110])]), weak_canon [] rfl List.nodup_nil (Nat.le_refl _) (fun b h => absurd h (Nat.not_lt_zero _)) (.cons rfl (avAs_tup (.cons (avAs_free rfl) (.cons (avAs_free rfl) .nil))) .nil) .nil, rfl, rfl, rfl, rfl⟩
    · replace h := ifF hc2 h
      refine Sv.skip ?_
      refine Sv.seq ?_
      refine Sv.seq ?_
      refine Sv.region ?_
      refine un (a1 (v := (.c (.ref 0 3 0 0))) rfl ?_)
      refine un (a1 (v := (I ((clerestoryref4_Taken v_).Kind))) rfl ?_)
      refine un (a1 (v := (B (!decide ((clerestoryref4_Taken v_).Kind = 2)))) rfl ?_)
      refine dnil ?_
      refine Sv.cond (b := (!decide ((clerestoryref4_Taken v_).Kind = 2))) rfl (fun hc3 => ?_) (fun hc3 => ?_)
      · replace h := ifT hc3 h
        refine Sv.seq ?_
        refine Sv.region ?_
        refine un (a1 (v := (.agg [cI 0, cI 0, .str []])) rfl ?_)
        refine un (a2n (h' := upd _ 1 (some (.cells 3 [[cI 0, cI 0, .str []]]))) (n' := 2) rfl rfl (fun h => by cases h) ?_)
        refine un (a1 rfl ?_)
        refine dnil ?_
        refine Sv.ret ?_
        subst h
        exact ⟨_, .refl _, _, rfl, ⟨upd (fun _ => none) 0 (some (.tup [(.agg [cI 0, cI 0, .str []]), (S [107, 105, 110, 100])])), (fun _ => none), 0⟩, (.tup [(.agg [cI 0, cI 0, .str []]), (S [107, 105, 110, 100])]), weak_canon [] rfl List.nodup_nil (Nat.le_refl _) (fun b h => absurd h (Nat.not_lt_zero _)) (.cons rfl (avAs_tup (.cons (avAs_free rfl) (.cons (avAs_free rfl) .nil))) .nil) .nil, rfl, rfl, rfl, rfl⟩
      · replace h := ifF hc3 h
        refine Sv.skip ?_
        refine Sv.seq ?_
        refine Sv.region ?_
        refine un (a1 (v := (.c (.ref 0 3 0 1))) rfl ?_)
        refine un (a1 (v := (I ((clerestoryref4_Taken v_).N))) rfl ?_)
        refine un (a1 (v := (I (wi (0 - (clerestoryref4_Taken v_).N)))) rfl ?_)
        refine un (ac_pure (clerestoryref4_numOf_ok (wi (0 - (clerestoryref4_Taken v_).N))) rfl rfl rfl ?_)
        refine un (a1 (v := (.agg [cI (((clerestoryref4_numOf (wi (0 - (clerestoryref4_Taken v_).N))).1).Kind), cI (((clerestoryref4_numOf (wi (0 - (clerestoryref4_Taken v_).N))).1).N), .str (((clerestoryref4_numOf (wi (0 - (clerestoryref4_Taken v_).N))).1).S)])) rfl ?_)
        refine un (a1 (v := (S ((clerestoryref4_numOf (wi (0 - (clerestoryref4_Taken v_).N))).2))) rfl ?_)
        refine un (a2n (h' := upd _ 1 (some (.cells 3 [[cI (((clerestoryref4_numOf (wi (0 - (clerestoryref4_Taken v_).N))).1).Kind), cI (((clerestoryref4_numOf (wi (0 - (clerestoryref4_Taken v_).N))).1).N), .str (((clerestoryref4_numOf (wi (0 - (clerestoryref4_Taken v_).N))).1).S)]]))) (n' := 2) rfl rfl (fun h => by cases h) ?_)
        refine un (a1 rfl ?_)
        refine dnil ?_
        refine Sv.ret ?_
        subst h
        exact ⟨_, .refl _, _, rfl, ⟨upd (fun _ => none) 0 (some (.tup [(.agg [cI (((clerestoryref4_numOf (wi (0 - (clerestoryref4_Taken v_).N))).1).Kind), cI (((clerestoryref4_numOf (wi (0 - (clerestoryref4_Taken v_).N))).1).N), .str (((clerestoryref4_numOf (wi (0 - (clerestoryref4_Taken v_).N))).1).S)]), (S ((clerestoryref4_numOf (wi (0 - (clerestoryref4_Taken v_).N))).2))])), (fun _ => none), 0⟩, (.tup [(.agg [cI (((clerestoryref4_numOf (wi (0 - (clerestoryref4_Taken v_).N))).1).Kind), cI (((clerestoryref4_numOf (wi (0 - (clerestoryref4_Taken v_).N))).1).N), .str (((clerestoryref4_numOf (wi (0 - (clerestoryref4_Taken v_).N))).1).S)]), (S ((clerestoryref4_numOf (wi (0 - (clerestoryref4_Taken v_).N))).2))]), weak_canon [] rfl List.nodup_nil (Nat.le_refl _) (fun b h => absurd h (Nat.not_lt_zero _)) (.cons rfl (avAs_tup (.cons (avAs_free rfl) (.cons (avAs_free rfl) .nil))) .nil) .nil, rfl, rfl, rfl, rfl⟩
def a98 : AFunc := ⟨1, [(.tmp 2)], (.seq (.region [⟨(some 2), (.mov (.const (.c (.str [])))), none⟩])
 (.seq (.seq (.region [⟨(some 3), (.mov (.tmp 0)), none⟩, ⟨(some 4), (.bin .lss (.tmp 3) (.const (.c (.val (.int .i64 10))))), none⟩])
 (.cond (.tmp 4) (.seq (.region [⟨(some 5), (.mov (.tmp 0)), none⟩, ⟨(some 6), (.mov (.tmp 0)), none⟩, ⟨(some 7), (.bin .add (.tmp 6) (.const (.c (.val (.int .i64 1))))), none⟩, ⟨(some 8), (.slStr (.const (.c (.str [48, 49, 50, 51, 52, 53, 54, 55, 56, 57]))) (some (.tmp 5)) (some (.tmp 7))), none⟩, ⟨(some 2), (.mov (.tmp 8)), none⟩])
 .ret) .skip))
 (.seq (.region [⟨(some 9), (.mov (.tmp 0)), none⟩, ⟨(some 10), (.bin .quo (.tmp 9) (.const (.c (.val (.int .i64 10))))), none⟩, ⟨(some 11), (.call 98 [(.tmp 10)]), none⟩, ⟨(some 12), (.mov (.tmp 0)), none⟩, ⟨(some 13), (.bin .rem (.tmp 12) (.const (.c (.val (.int .i64 10))))), none⟩, ⟨(some 14), (.call 98 [(.tmp 13)]), none⟩, ⟨(some 15), (.bin .add (.tmp 11) (.tmp 14)), none⟩, ⟨(some 2), (.mov (.tmp 15)), none⟩])
 .ret)))⟩
set_option maxRecDepth 100000 in
theorem c98 : compFunc Tryd.prog 98 = some a98 := by kernel_rfl
def clerestoryref4_Digits_post (r : (List UInt8)) : AV → Heap → Nat → Prop := fun v h' n' => v = (S r) ∧ (h' = (fun _ => none)) ∧ n' = 0
def clerestoryref4_Digits_Rec (recf : Int → Option (List UInt8)) : Prop := ∀ (n_ : Int) (r : (List UInt8)), recf n_ = some r → CPure Tryd.prog GG 98 [(I n_)] (S r)
/-- clerestory/clerestoryref4.Digits -/
noncomputable def clerestoryref4_Digits_r : Nat → Int → Option (List UInt8)
  | 0, _ => none
  | k + 1, n_ =>
    if decide (n_ < 10) then
      (sub? [48, 49, 50, 51, 52, 53, 54, 55, 56, 57] n_ (wi (n_ + 1))).bind fun r_ =>
      some r_
    else
      ((clerestoryref4_Digits_r k) (wi (n_.tdiv 10))).bind fun r_1 =>
      ((clerestoryref4_Digits_r k) (n_.tmod 10)).bind fun r_2 =>
      (cat? r_1 r_2).bind fun r_3 =>
      some r_3
noncomputable def clerestoryref4_Digits (n_ : Int) : Option (List UInt8) :=
  lim fun kr => clerestoryref4_Digits_r kr n_
theorem clerestoryref4_Digits_r_ok (k : Nat) : clerestoryref4_Digits_Rec (clerestoryref4_Digits_r k) := by
  induction k with
  | zero => intro n_ r h; cases h
  | succ k hrec =>
  intro n_ r h
  refine acalls_of_sv hmix c98 (R := clerestoryref4_Digits_post r) ?_
  rw [clerestoryref4_Digits_r] at h
  refine Sv.seq ?_
  refine Sv.region ?_
  refine un (a1 rfl ?_)
  refine dnil ?_
  refine Sv.seq ?_
  refine Sv.seq ?_
  refine Sv.region ?_
  refine un (a1 rfl ?_)
  refine un (a1 (v := (B (decide (n_ < 10)))) rfl ?_)
  refine dnil ?_
  refine Sv.cond (b := decide (n_ < 10)) rfl (fun hc1 => ?_) (fun hc1 => ?_)
  · replace h := ifT hc1 h
    refine Sv.seq ?_
    refine Sv.region ?_
    refine un (a1 rfl ?_)
    refine un (a1 rfl ?_)
    refine un (a1 (v := (I (wi (n_ + 1)))) rfl ?_)
    obtain ⟨r_, hx1, h⟩ := bnd h
    refine un (a1 (v := (S r_)) (s_slStr rfl rfl rfl hx1) ?_)
    refine un (a1 rfl ?_)
    refine dnil ?_
    refine Sv.ret ?_
    replace h := Option.some.inj h
    subst h
    exact ⟨_, .refl _, _, rfl, ⟨upd (fun _ => none) 0 (some (S r_)), (fun _ => none), 0⟩, (S r_), weak_canon [] rfl List.nodup_nil (Nat.le_refl _) (fun b h => absurd h (Nat.not_lt_zero _)) (.cons rfl (avAs_free rfl) .nil) .nil, rfl, rfl, rfl, rfl⟩
  · replace h := ifF hc1 h
    refine Sv.skip ?_
    refine Sv.seq ?_
    refine Sv.region ?_
    refine un (a1 rfl ?_)
    refine un (a1 (v := (I (wi (n_.tdiv 10)))) rfl ?_)
    obtain ⟨r_1, hr1, h⟩ := bnd h
    refine un (ac_pure (hrec (wi (n_.tdiv 10)) _ hr1) rfl rfl rfl ?_)
    refine un (a1 rfl ?_)
    refine un (a1 (v := (I (n_.tmod 10))) rfl ?_)
    obtain ⟨r_2, hr2, h⟩ := bnd h
    refine un (ac_pure (hrec (n_.tmod 10) _ hr2) rfl rfl rfl ?_)
    obtain ⟨r_3, hx2, h⟩ := bnd h
    refine un (a1 (v := (S r_3)) (s_cat rfl rfl hx2) ?_)
    refine un (a1 rfl ?_)
    refine dnil ?_
    refine Sv.ret ?_
    replace h := Option.some.inj h
    subst h
    exact ⟨_, .refl _, _, rfl, ⟨upd (fun _ => none) 0 (some (S r_3)), (fun _ => none), 0⟩, (S r_3), weak_canon [] rfl List.nodup_nil (Nat.le_refl _) (fun b h => absurd h (Nat.not_lt_zero _)) (.cons rfl (avAs_free rfl) .nil) .nil, rfl, rfl, rfl, rfl⟩
theorem clerestoryref4_Digits_ok {n_ : Int} {r : (List UInt8)} (h : clerestoryref4_Digits n_ = some r) : CPure Tryd.prog GG 98 [(I n_)] (S r) := by
  unfold clerestoryref4_Digits at h
  obtain ⟨k, h⟩ := lim_some h
  exact clerestoryref4_Digits_r_ok k n_  r h
def a55 : AFunc := ⟨1, [(.tmp 2)], (.seq (.region [⟨(some 1), (.box (.tmp 0)), none⟩, ⟨(some 2), (.mov (.const (.c (.str [])))), none⟩])
 (.seq (.region [⟨(some 3), (.load true 3 (.tmp 1)), none⟩, ⟨(some 4), (.call 51 [(.tmp 3)]), none⟩, ⟨none, (.store 3 (.tmp 1) (.tmp 4)), none⟩])
 (.seq (.seq (.region [⟨(some 5), (.faddr 0 (.tmp 1)), none⟩, ⟨(some 6), (.load false 1 (.tmp 5)), none⟩])
 (.block 0 (.seq (.region [⟨(some 8), (.bin .eql (.tmp 6) (.const (.c (.val (.int .i64 1))))), none⟩, ⟨(some 7), (.mov (.tmp 8)), none⟩])
 (.cond (.tmp 7) (.seq (.seq (.region [⟨(some 9), (.faddr 1 (.tmp 1)), none⟩, ⟨(some 10), (.load false 1 (.tmp 9)), none⟩, ⟨(some 11), (.bin .eql (.tmp 10) (.const (.c (.val (.int .i64 0))))), none⟩])
 (.cond (.tmp 11) (.seq (.region [⟨(some 2), (.mov (.const (.c (.str [102, 97, 108, 115, 101])))), none⟩])
 .ret) .skip))
 (.seq (.region [⟨(some 2), (.mov (.const (.c (.str [116, 114, 117, 101])))), none⟩])
 .ret)) (.seq (.region [⟨(some 13), (.bin .eql (.tmp 6) (.const (.c (.val (.int .i64 2))))), none⟩, ⟨(some 12), (.mov (.tmp 13)), none⟩])
 (.cond (.tmp 12) (.seq (.seq (.region [⟨(some 14), (.faddr 1 (.tmp 1)), none⟩, ⟨(some 15), (.load false 1 (.tmp 14)), none⟩, ⟨(some 16), (.bin .lss (.tmp 15) (.const (.c (.val (.int .i64 0))))), none⟩])
 (.cond (.tmp 16) (.seq (.region [⟨(some 17), (.faddr 1 (.tmp 1)), none⟩, ⟨(some 18), (.load false 1 (.tmp 17)), none⟩, ⟨(some 19), (.un .neg (.tmp 18)), none⟩, ⟨(some 20), (.call 98 [(.tmp 19)]), none⟩, ⟨(some 21), (.bin .add (.const (.c (.str [45]))) (.tmp 20)), none⟩, ⟨(some 2), (.mov (.tmp 21)), none⟩])
 .ret) .skip))
 (.seq (.region [⟨(some 22), (.faddr 1 (.tmp 1)), none⟩, ⟨(some 23), (.load false 1 (.tmp 22)), none⟩, ⟨(some 24), (.call 98 [(.tmp 23)]), none⟩, ⟨(some 2), (.mov (.tmp 24)), none⟩])
 .ret)) (.seq (.region [⟨(some 26), (.bin .eql (.tmp 6) (.const (.c (.val (.int .i64 3))))), none⟩, ⟨(some 25), (.mov (.tmp 26)), none⟩])
 (.cond (.tmp 25) (.seq (.region [⟨(some 27), (.faddr 2 (.tmp 1)), none⟩, ⟨(some 28), (.load false 1 (.tmp 27)), none⟩, ⟨(some 2), (.mov (.tmp 28)), none⟩])
 .ret) (.seq (.region [⟨(some 30), (.bin .eql (.tmp 6) (.const (.c (.val (.int .i64 4))))), none⟩, ⟨(some 29), (.mov (.tmp 30)), none⟩])
 (.cond (.tmp 29) (.seq (.region [⟨(some 2), (.mov (.const (.c (.str [91, 114, 101, 102, 93])))), none⟩])
 .ret) (.seq (.region [⟨(some 32), (.bin .eql (.tmp 6) (.const (.c (.val (.int .i64 5))))), none⟩, ⟨(some 31), (.mov (.tmp 32)), none⟩])
 (.cond (.tmp 31) (.seq (.region [⟨(some 33), (.faddr 2 (.tmp 1)), none⟩, ⟨(some 34), (.load false 1 (.tmp 33)), none⟩, ⟨(some 35), (.bin .add (.const (.c (.str [91, 99, 97, 108, 108, 32]))) (.tmp 34)), none⟩, ⟨(some 36), (.bin .add (.tmp 35) (.const (.c (.str [93])))), none⟩, ⟨(some 2), (.mov (.tmp 36)), none⟩])
 .ret) .skip))))))))))))
 (.seq (.region [⟨(some 2), (.mov (.const (.c (.str [110, 117, 108, 108])))), none⟩])
 .ret))))⟩
set_option maxRecDepth 100000 in
theorem c55 : compFunc Tryd.prog 55 = some a55 := by kernel_rfl
def clerestoryref4_Shown_post (r : (List UInt8)) : AV → Heap → Nat → Prop := fun v h' n' => v = (S r) ∧ (h' = (fun _ => none)) ∧ n' = 0
/-- clerestory/clerestoryref4.Shown -/
noncomputable def clerestoryref4_Shown (v_ : TJVal) : Option (List UInt8) :=
  if decide ((clerestoryref4_Taken v_).Kind = 1) then
    if decide ((clerestoryref4_Taken v_).N = 0) then
      some [102, 97, 108, 115, 101]
    else
      some [116, 114, 117, 101]
  else
    if decide ((clerestoryref4_Taken v_).Kind = 2) then
      if decide ((clerestoryref4_Taken v_).N < 0) then
        (clerestoryref4_Digits (wi (0 - (clerestoryref4_Taken v_).N))).bind fun r_ =>
        (cat? [45] r_).bind fun r_1 =>
        some r_1
      else
        (clerestoryref4_Digits ((clerestoryref4_Taken v_).N)).bind fun r_2 =>
        some r_2
    else
      if decide ((clerestoryref4_Taken v_).Kind = 3) then
        some ((clerestoryref4_Taken v_).S)
      else
        if decide ((clerestoryref4_Taken v_).Kind = 4) then
          some [91, 114, 101, 102, 93]
        else
          if decide ((clerestoryref4_Taken v_).Kind = 5) then
            (cat? [91, 99, 97, 108, 108, 32] ((clerestoryref4_Taken v_).S)).bind fun r_3 =>
            (cat? r_3 [93]).bind fun r_4 =>
            some r_4
          else
            some [110, 117, 108, 108]
theorem clerestoryref4_Shown_ok {v_ : TJVal} {r : (List UInt8)} (h : clerestoryref4_Shown v_ = some r) : CPure Tryd.prog GG 55 [(.agg [cI v_.Kind, cI v_.N, .str v_.S])] (S r) := by
  refine acalls_of_sv hmix c55 (R := clerestoryref4_Shown_post r) ?_
  unfold clerestoryref4_Shown at h
  refine Sv.seq ?_
  refine Sv.region ?_
  refine un (a2v (v := (.c (.ref 0 3 0 0))) (h' := upd _ 0 (some (.cells 3 [[cI v_.Kind, cI v_.N, .str v_.S]]))) (n' := 1) rfl rfl (fun h => by cases h) ?_)
  refine un (a1 rfl ?_)
  refine dnil ?_
  refine Sv.seq ?_
  refine Sv.region ?_
  refine un (a1 (v := (.agg [cI v_.Kind, cI v_.N, .str v_.S])) rfl ?_)
  refine un (ac_pure (clerestoryref4_Taken_ok v_) rfl rfl rfl ?_)
  refine un (a2n (h' := upd _ 0 (some (.cells 3 [[cI ((clerestoryref4_Taken v_).Kind), cI ((clerestoryref4_Taken v_).N), .str ((clerestoryref4_Taken v_).S)]]))) (n' := 1) rfl rfl (fun h => by cases h) ?_)
  refine dnil ?_
  refine Sv.seq ?_
  refine Sv.seq ?_
  refine Sv.region ?_
  refine un (a1 (v := (.c (.ref 0 3 0 0))) rfl ?_)
  refine un (a1 (v := (I ((clerestoryref4_Taken v_).Kind))) rfl ?_)
  refine dnil ?_
  refine Sv.block ?_
  refine Sv.seq ?_
  refine Sv.region ?_
  refine un (a1 (v := (B (decide ((clerestoryref4_Taken v_).Kind = 1)))) rfl ?_)
  refine un (a1 rfl ?_)
  refine dnil ?_
  refine Sv.cond (b := decide ((clerestoryref4_Taken v_).Kind = 1)) rfl (fun hc1 => ?_) (fun hc1 => ?_)
  · replace h := ifT hc1 h
    refine Sv.seq ?_
    refine Sv.seq ?_
    refine Sv.region ?_
    refine un (a1 (v := (.c (.ref 0 3 0 1))) rfl ?_)
    refine un (a1 (v := (I ((clerestoryref4_Taken v_).N))) rfl ?_)
    refine un (a1 (v := (B (decide ((clerestoryref4_Taken v_).N = 0)))) rfl ?_)
    refine dnil ?_
    refine Sv.cond (b := decide ((clerestoryref4_Taken v_).N = 0)) rfl (fun hc2 => ?_) (fun hc2 => ?_)
    · replace h := ifT hc2 h
      refine Sv.seq ?_
      refine Sv.region ?_
      refine un (a1 rfl ?_)
      refine dnil ?_
      refine Sv.ret ?_
      replace h := Option.some.inj h
      subst h
      exact ⟨_, .refl _, _, rfl, ⟨upd (fun _ => none) 0 (some (S [102, 97, 108, 115, 101])), (fun _ => none), 0⟩, (S [102, 97, 108, 115, 101]), weak_canon [] rfl List.nodup_nil (Nat.le_refl _) (fun b h => absurd h (Nat.not_lt_zero _)) (.cons rfl (avAs_free rfl) .nil) .nil, rfl, rfl, rfl, rfl⟩
    · replace h := ifF hc2 h
      refine Sv.skip ?_
      refine Sv.seq ?_
      refine Sv.region ?_
      refine un (a1 rfl ?_)
      refine dnil ?_
      refine Sv.ret ?_
      replace h := Option.some.inj h
      subst h
      exact ⟨_, .refl _, _, rfl, ⟨upd (fun _ => none) 0 (some (S [116, 114, 117, 101])), (fun _ => none), 0⟩, (S [116, 114, 117, 101]), weak_canon [] rfl List.nodup_nil (Nat.le_refl _) (fun b h => absurd h (Nat.not_lt_zero _)) (.cons rfl (avAs_free rfl) .nil) .nil, rfl, rfl, rfl, rfl⟩
  · replace h := ifF hc1 h
    refine Sv.seq ?_
    refine Sv.region ?_
    refine un (a1 (v := (B (decide ((clerestoryref4_Taken v_).Kind = 2)))) rfl ?_)
    refine un (a1 rfl ?_)
    refine dnil ?_
    refine Sv.cond (b := decide ((clerestoryref4_Taken v_).Kind = 2)) rfl (fun hc3 => ?_) (fun hc3 => ?_)
    · replace h := ifT hc3 h
      refine Sv.seq ?_
      refine Sv.seq ?_
      refine Sv.region ?_
      refine un (a1 (v := (.c (.ref 0 3 0 1))) rfl ?_)
      refine un (a1 (v := (I ((clerestoryref4_Taken v_).N))) rfl ?_)
      refine un (a1 (v := (B (decide ((clerestoryref4_Taken v_).N < 0)))) rfl ?_)
      refine dnil ?_
      refine Sv.cond (b := decide ((clerestoryref4_Taken v_).N < 0)) rfl (fun hc4 => ?_) (fun hc4 => ?_)
      · replace h := ifT hc4 h
        refine Sv.seq ?_
        refine Sv.region ?_
        refine un (a1 (v := (.c (.ref 0 3 0 1))) rfl ?_)
        refine un (a1 (v := (I ((clerestoryref4_Taken v_).N))) rfl ?_)
        refine un (a1 (v := (I (wi (0 - (clerestoryref4_Taken v_).N)))) rfl ?_)
        obtain ⟨r_, hr1, h⟩ := bnd h
        refine un (ac_pure (clerestoryref4_Digits_ok hr1) rfl rfl rfl ?_)
        obtain ⟨r_1, hx1, h⟩ := bnd h
        refine un (a1 (v := (S r_1)) (s_cat rfl rfl hx1) ?_)
        refine un (a1 rfl ?_)
        refine dnil ?_
        refine Sv.ret ?_
        replace h := Option.some.inj h
        subst h
        exact ⟨_, .refl _, _, rfl, ⟨upd (fun _ => none) 0 (some (S r_1)), (fun _ => none), 0⟩, (S r_1), weak_canon [] rfl List.nodup_nil (Nat.le_refl _) (fun b h => absurd h (Nat.not_lt_zero _)) (.cons rfl (avAs_free rfl) .nil) .nil, rfl, rfl, rfl, rfl⟩
      · replace h := ifF hc4 h
        refine Sv.skip ?_
        refine Sv.seq ?_
        refine Sv.region ?_
        refine un (a1 (v := (.c (.ref 0 3 0 1))) rfl ?_)
        refine un (a1 (v := (I ((clerestoryref4_Taken v_).N))) rfl ?_)
        obtain ⟨r_2, hr2, h⟩ := bnd h
        refine un (ac_pure (clerestoryref4_Digits_ok hr2) rfl rfl rfl ?_)
        refine un (a1 rfl ?_)
        refine dnil ?_
        refine Sv.ret ?_
        replace h := Option.some.inj h
        subst h
        exact ⟨_, .refl _, _, rfl, ⟨upd (fun _ => none) 0 (some (S r_2)), (fun _ => none), 0⟩, (S r_2), weak_canon [] rfl List.nodup_nil (Nat.le_refl _) (fun b h => absurd h (Nat.not_lt_zero _)) (.cons rfl (avAs_free rfl) .nil) .nil, rfl, rfl, rfl, rfl⟩
    · replace h := ifF hc3 h
      refine Sv.seq ?_
      refine Sv.region ?_
      refine un (a1 (v := (B (decide ((clerestoryref4_Taken v_).Kind = 3)))) rfl ?_)
      refine un (a1 rfl ?_)
      refine dnil ?_
      refine Sv.cond (b := decide ((clerestoryref4_Taken v_).Kind = 3)) rfl (fun hc5 => ?_) (fun hc5 => ?_)
      · replace h := ifT hc5 h
        refine Sv.seq ?_
        refine Sv.region ?_
        refine un (a1 (v := (.c (.ref 0 3 0 2))) rfl ?_)
        refine un (a1 (v := (S ((clerestoryref4_Taken v_).S))) rfl ?_)
        refine un (a1 rfl ?_)
        refine dnil ?_
        refine Sv.ret ?_
        replace h := Option.some.inj h
        subst h
        exact ⟨_, .refl _, _, rfl, ⟨upd (fun _ => none) 0 (some (S ((clerestoryref4_Taken v_).S))), (fun _ => none), 0⟩, (S ((clerestoryref4_Taken v_).S)), weak_canon [] rfl List.nodup_nil (Nat.le_refl _) (fun b h => absurd h (Nat.not_lt_zero _)) (.cons rfl (avAs_free rfl) .nil) .nil, rfl, rfl, rfl, rfl⟩
      · replace h := ifF hc5 h
        refine Sv.seq ?_
        refine Sv.region ?_
        refine un (a1 (v := (B (decide ((clerestoryref4_Taken v_).Kind = 4)))) rfl ?_)
        refine un (a1 rfl ?_)
        refine dnil ?_
        refine Sv.cond (b := decide ((clerestoryref4_Taken v_).Kind = 4)) rfl (fun hc6 => ?_) (fun hc6 => ?_)
        · replace h := ifT hc6 h
          refine Sv.seq ?_
          refine Sv.region ?_
          refine un (a1 rfl ?_)
          refine dnil ?_
          refine Sv.ret ?_
          replace h := Option.some.inj h
          subst h
          exact ⟨_, .refl _, _, rfl, ⟨upd (fun _ => none) 0 (some (S [91, 114, 101, 102, 93])), (fun _ => none), 0⟩, (S [91, 114, 101, 102, 93]), weak_canon [] rfl List.nodup_nil (Nat.le_refl _) (fun b h => absurd h (Nat.not_lt_zero _)) (.cons rfl (avAs_free rfl) .nil) .nil, rfl, rfl, rfl, rfl⟩
        · replace h := ifF hc6 h
          refine Sv.seq ?_
          refine Sv.region ?_
          refine un (a1 (v := (B (decide ((clerestoryref4_Taken v_).Kind = 5)))) rfl ?_)
          refine un (a1 rfl ?_)
          refine dnil ?_
          refine Sv.cond (b := decide ((clerestoryref4_Taken v_).Kind = 5)) rfl (fun hc7 => ?_) (fun hc7 => ?_)
          · replace h := ifT hc7 h
            refine Sv.seq ?_
            refine Sv.region ?_
            refine un (a1 (v := (.c (.ref 0 3 0 2))) rfl ?_)
            refine un (a1 (v := (S ((clerestoryref4_Taken v_).S))) rfl ?_)
            obtain ⟨r_3, hx2, h⟩ := bnd h
            refine un (a1 (v := (S r_3)) (s_cat rfl rfl hx2) ?_)
            obtain ⟨r_4, hx3, h⟩ := bnd h
            refine un (a1 (v := (S r_4)) (s_cat rfl rfl hx3) ?_)
            refine un (a1 rfl ?_)
            refine dnil ?_
            refine Sv.ret ?_
            replace h := Option.some.inj h
            subst h
            exact ⟨_, .refl _, _, rfl, ⟨upd (fun _ => none) 0 (some (S r_4)), (fun _ => none), 0⟩, (S r_4), weak_canon [] rfl List.nodup_nil (Nat.le_refl _) (fun b h => absurd h (Nat.not_lt_zero _)) (.cons rfl (avAs_free rfl) .nil) .nil, rfl, rfl, rfl, rfl⟩
          · replace h := ifF hc7 h
            refine Sv.skip ?_
            refine Sv.seq ?_
            refine Sv.region ?_
            refine un (a1 rfl ?_)
            refine dnil ?_
            refine Sv.ret ?_
            replace h := Option.some.inj h
            subst h
            exact ⟨_, .refl _, _, rfl, ⟨upd (fun _ => none) 0 (some (S [110, 117, 108, 108])), (fun _ => none), 0⟩, (S [110, 117, 108, 108]), weak_canon [] rfl List.nodup_nil (Nat.le_refl _) (fun b h => absurd h (Nat.not_lt_zero _)) (.cons rfl (avAs_free rfl) .nil) .nil, rfl, rfl, rfl, rfl⟩
end Go.Proofs.YtdmmjgjmfpalhaaDoorBv
