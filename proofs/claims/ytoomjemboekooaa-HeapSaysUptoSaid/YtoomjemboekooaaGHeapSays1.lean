/- Printed by a program of mine (bgen.py): plain functions, and the walks that show that the code comes to what they answer. -/
import Derived.Test.YtoomjemboekooaaGHeapSays0
namespace Go.Proofs.YtoomjemboekooaaBv
open Go
set_option linter.unusedVariables false
set_option linter.unusedSimpArgs false
set_option maxRecDepth 100000
def a85_c0 : ACode := (.seq (.region [⟨(some 66), (.load true 3 (.tmp 1)), none⟩, ⟨(some 67), (.load true 3 (.tmp 3)), none⟩, ⟨(some 68), (.eqs false true [.i, .i, .s] (.tmp 66) (.tmp 67)), none⟩, ⟨(some 2), (.mov (.tmp 68)), none⟩])
 .ret)
def a85 : AFunc := ⟨1, [(.tmp 2)], (.seq (.region [⟨(some 1), (.box (.tmp 0)), none⟩, ⟨(some 2), (.mov (.const (.c (.val (.bool false))))), none⟩])
 (.seq (.region [⟨(some 4), (.faddr 0 (.tmp 1)), none⟩, ⟨(some 5), (.load false 1 (.tmp 4)), none⟩, ⟨(some 6), (.build [(.val (.int .i64 0)), (.val (.int .i64 0)), (.str [])] [(0, (1, (.tmp 5)))]), none⟩, ⟨(some 3), (.box (.const (.agg [(.val (.int .i64 0)), (.val (.int .i64 0)), (.str [])]))), none⟩, ⟨none, (.store 3 (.tmp 3) (.tmp 6)), none⟩])
 (.seq (.seq (.region [⟨(some 7), (.faddr 0 (.tmp 1)), none⟩, ⟨(some 8), (.load false 1 (.tmp 7)), none⟩])
 (.block 0 (.seq (.region [⟨(some 10), (.bin .eql (.tmp 8) (.const (.c (.val (.int .i64 0))))), none⟩, ⟨(some 9), (.mov (.tmp 10)), none⟩])
 (.cond (.tmp 9) .skip (.seq (.region [⟨(some 12), (.bin .eql (.tmp 8) (.const (.c (.val (.int .i64 1))))), none⟩, ⟨(some 11), (.mov (.tmp 12)), none⟩])
 (.cond (.tmp 11) (.seq (.region [⟨(some 13), (.load true 3 (.tmp 1)), none⟩, ⟨(some 14), (.load true 3 (.tmp 3)), none⟩, ⟨(some 15), (.eqs false true [.i, .i, .s] (.tmp 13) (.tmp 14)), none⟩, ⟨(some 16), (.mov (.tmp 15)), none⟩, ⟨(some 17), (.load true 3 (.tmp 1)), (some (16, false))⟩, ⟨(some 18), (.build [(.val (.int .i64 0)), (.val (.int .i64 0)), (.str [])] [(0, (1, (.const (.c (.val (.int .i64 1)))))), (1, (1, (.const (.c (.val (.int .i64 1))))))]), (some (16, false))⟩, ⟨(some 19), (.eqs false true [.i, .i, .s] (.tmp 17) (.tmp 18)), (some (16, false))⟩, ⟨(some 20), (.pick (.tmp 16) (.const (.c (.val (.bool true)))) (.tmp 19)), none⟩, ⟨(some 2), (.mov (.tmp 20)), none⟩])
 .ret) (.seq (.region [⟨(some 22), (.bin .eql (.tmp 8) (.const (.c (.val (.int .i64 2))))), none⟩, ⟨(some 21), (.mov (.tmp 22)), none⟩])
 (.cond (.tmp 21) (.seq (.region [⟨(some 23), (.faddr 1 (.tmp 1)), none⟩, ⟨(some 24), (.load false 1 (.tmp 23)), none⟩, ⟨(some 25), (.faddr 1 (.tmp 3)), none⟩, ⟨none, (.store 1 (.tmp 25) (.tmp 24)), none⟩])
 (.seq (.region [⟨(some 26), (.load true 3 (.tmp 1)), none⟩, ⟨(some 27), (.load true 3 (.tmp 3)), none⟩, ⟨(some 28), (.eqs false true [.i, .i, .s] (.tmp 26) (.tmp 27)), none⟩, ⟨(some 29), (.mov (.tmp 28)), none⟩, ⟨(some 30), (.faddr 1 (.tmp 1)), (some (29, true))⟩, ⟨(some 31), (.load false 1 (.tmp 30)), (some (29, true))⟩, ⟨(some 32), (.call 12 [(.tmp 31), (.const (.c (.val (.int .i64 (-9007199254740992))))), (.const (.c (.val (.int .i64 9007199254740992))))]), (some (29, true))⟩, ⟨(some 33), (.pick (.tmp 29) (.tmp 32) (.const (.c (.val (.bool false))))), none⟩, ⟨(some 2), (.mov (.tmp 33)), none⟩])
 .ret)) (.seq (.region [⟨(some 35), (.bin .eql (.tmp 8) (.const (.c (.val (.int .i64 3))))), none⟩, ⟨(some 34), (.mov (.tmp 35)), none⟩])
 (.cond (.tmp 34) (.seq (.region [⟨(some 36), (.faddr 2 (.tmp 1)), none⟩, ⟨(some 37), (.load false 1 (.tmp 36)), none⟩, ⟨(some 38), (.faddr 2 (.tmp 3)), none⟩, ⟨none, (.store 1 (.tmp 38) (.tmp 37)), none⟩])
 (.seq (.region [⟨(some 39), (.load true 3 (.tmp 1)), none⟩, ⟨(some 40), (.load true 3 (.tmp 3)), none⟩, ⟨(some 41), (.eqs false true [.i, .i, .s] (.tmp 39) (.tmp 40)), none⟩, ⟨(some 42), (.mov (.tmp 41)), none⟩, ⟨(some 43), (.faddr 2 (.tmp 1)), (some (42, true))⟩, ⟨(some 44), (.load false 1 (.tmp 43)), (some (42, true))⟩, ⟨(some 45), (.lenS (.tmp 44)), (some (42, true))⟩, ⟨(some 46), (.bin .leq (.tmp 45) (.const (.c (.val (.int .i64 2000))))), (some (42, true))⟩, ⟨(some 47), (.pick (.tmp 42) (.tmp 46) (.const (.c (.val (.bool false))))), none⟩, ⟨(some 2), (.mov (.tmp 47)), none⟩])
 .ret)) (.seq (.region [⟨(some 49), (.bin .eql (.tmp 8) (.const (.c (.val (.int .i64 4))))), none⟩, ⟨(some 48), (.mov (.tmp 49)), none⟩])
 (.cond (.tmp 48) (.seq (.region [⟨(some 50), (.faddr 1 (.tmp 1)), none⟩, ⟨(some 51), (.load false 1 (.tmp 50)), none⟩, ⟨(some 52), (.faddr 1 (.tmp 3)), none⟩, ⟨none, (.store 1 (.tmp 52) (.tmp 51)), none⟩])
 (.seq (.region [⟨(some 53), (.load true 3 (.tmp 1)), none⟩, ⟨(some 54), (.load true 3 (.tmp 3)), none⟩, ⟨(some 55), (.eqs false true [.i, .i, .s] (.tmp 53) (.tmp 54)), none⟩, ⟨(some 56), (.mov (.tmp 55)), none⟩, ⟨(some 57), (.faddr 1 (.tmp 1)), (some (56, true))⟩, ⟨(some 58), (.load false 1 (.tmp 57)), (some (56, true))⟩, ⟨(some 59), (.bin .gtr (.tmp 58) (.const (.c (.val (.int .i64 (-1)))))), (some (56, true))⟩, ⟨(some 60), (.pick (.tmp 56) (.tmp 59) (.const (.c (.val (.bool false))))), none⟩, ⟨(some 2), (.mov (.tmp 60)), none⟩])
 .ret)) (.seq (.region [⟨(some 62), (.bin .eql (.tmp 8) (.const (.c (.val (.int .i64 5))))), none⟩, ⟨(some 61), (.mov (.tmp 62)), none⟩])
 (.cond (.tmp 61) (.region [⟨(some 63), (.faddr 2 (.tmp 1)), none⟩, ⟨(some 64), (.load false 1 (.tmp 63)), none⟩, ⟨(some 65), (.faddr 2 (.tmp 3)), none⟩, ⟨none, (.store 1 (.tmp 65) (.tmp 64)), none⟩]) (.seq (.region [⟨(some 2), (.mov (.const (.c (.val (.bool false))))), none⟩])
 .ret)))))))))))))))
 a85_c0)))⟩
set_option maxRecDepth 100000 in
theorem c85 : compFunc Try.prog 85 = some a85 := by kernel_rfl
def clerestoryref4_ValueRight_post (r : Bool) : AV → Heap → Nat → Prop := fun v h' n' => v = (B r) ∧ (h' = (fun _ => none)) ∧ n' = 0
def clerestoryref4_ValueRight_j1 (v_ : TJVal) (zero2 : (List UInt8)) : Bool :=
  letIn (decide (v_.Kind = v_.Kind) && (decide (v_.N = 0) && (decide (v_.S = zero2) && true))) fun v68 : Bool =>
  v68
theorem clerestoryref4_ValueRight_j1_ok {Γ : Glob} {v_ : TJVal} {zero2 : (List UInt8)} {o : Bool} (h : clerestoryref4_ValueRight_j1 v_ zero2 = o) :
    Sv Try.prog Γ 0 a85_c0 (Ends a85.results 0 (clerestoryref4_ValueRight_post o)) ⟨(upd (upd (fun _ => none) 1 (some (.c (.ref 0 3 0 0)))) 3 (some (.c (.ref 1 3 0 0)))), (upd (upd (fun _ => none) 0 (some (.cells 3 [[cI v_.Kind, cI v_.N, .str v_.S]]))) 1 (some (.cells 3 [[cI v_.Kind, cI 0, .str zero2]]))), 2⟩ := by
  unfold clerestoryref4_ValueRight_j1 at h
  refine Sv.seq ?_
  refine Sv.region ?_
  refine un (a1 (v := (.agg [cI v_.Kind, cI v_.N, .str v_.S])) rfl ?_)
  refine un (a1 (v := (.agg [cI v_.Kind, cI 0, .str zero2])) rfl ?_)
  obtain ⟨v68, hv68⟩ : ∃ v68 : Bool, v68 = (decide (v_.Kind = v_.Kind) && (decide (v_.N = 0) && (decide (v_.S = zero2) && true))) := ⟨_, rfl⟩
  replace h := letAt hv68 h
  refine un (a1 (v := (B v68)) (by rw [hv68]; rfl) ?_)
  clear hv68
  refine un (a1 rfl ?_)
  refine dnil ?_
  refine Sv.ret ?_
  subst h
  exact ⟨_, .refl _, _, rfl, ⟨upd (fun _ => none) 0 (some (B v68)), (fun _ => none), 0⟩, (B v68), weak_canon [] rfl List.nodup_nil (Nat.le_refl _) (fun b h => absurd h (Nat.not_lt_zero _)) (.cons rfl (avAs_free rfl) .nil) .nil, rfl, rfl, rfl, rfl⟩
/-- clerestory/clerestoryref4.ValueRight -/
def clerestoryref4_ValueRight (v_ : TJVal) : Bool :=
  if decide (v_.Kind = 0) then
    clerestoryref4_ValueRight_j1 v_ []
  else
    if decide (v_.Kind = 1) then
      letIn (decide (v_.Kind = v_.Kind) && (decide (v_.N = 0) && (decide (v_.S = []) && true))) fun v15 : Bool =>
      (v15 || (decide (v_.Kind = 1) && (decide (v_.N = 1) && (decide (v_.S = []) && true))))
    else
      if decide (v_.Kind = 2) then
        letIn (decide (v_.Kind = v_.Kind) && (decide (v_.N = v_.N) && (decide (v_.S = []) && true))) fun v28 : Bool =>
        (v28 && (clerestoryref4_Between v_.N (-9007199254740992) 9007199254740992))
      else
        if decide (v_.Kind = 3) then
          letIn (decide (v_.Kind = v_.Kind) && (decide (v_.N = 0) && (decide (v_.S = v_.S) && true))) fun v41 : Bool =>
          (v41 && (decide ((v_.S.length : Int) ≤ 2000)))
        else
          if decide (v_.Kind = 4) then
            letIn (decide (v_.Kind = v_.Kind) && (decide (v_.N = v_.N) && (decide (v_.S = []) && true))) fun v55 : Bool =>
            (v55 && (decide ((-1) < v_.N)))
          else
            if decide (v_.Kind = 5) then
              clerestoryref4_ValueRight_j1 v_ v_.S
            else
              false
theorem clerestoryref4_ValueRight_ok {Γ : Glob} (v_ : TJVal) : CPure Try.prog Γ 85 [(.agg [cI v_.Kind, cI v_.N, .str v_.S])] (B (clerestoryref4_ValueRight v_)) := by
  generalize h : clerestoryref4_ValueRight v_ = o
  refine acalls_of_sv hmix c85 (R := clerestoryref4_ValueRight_post o) ?_
  unfold clerestoryref4_ValueRight at h
  refine Sv.seq ?_
  refine Sv.region ?_
  refine un (a2v (v := (.c (.ref 0 3 0 0))) (h' := upd _ 0 (some (.cells 3 [[cI v_.Kind, cI v_.N, .str v_.S]]))) (n' := 1) rfl rfl (fun h => by cases h) ?_)
  refine un (a1 rfl ?_)
  refine dnil ?_
  refine Sv.seq ?_
  refine Sv.region ?_
  refine un (a1 (v := (.c (.ref 0 3 0 0))) rfl ?_)
  refine un (a1 (v := (I v_.Kind)) rfl ?_)
  refine un (a1 (v := (.agg [cI v_.Kind, cI 0, .str []])) rfl ?_)
  refine un (a2v (v := (.c (.ref 1 3 0 0))) (h' := upd _ 1 (some (.cells 3 [[cI 0, cI 0, .str []]]))) (n' := 2) rfl rfl (fun h => by cases h) ?_)
  refine un (a2n (h' := upd _ 1 (some (.cells 3 [[cI v_.Kind, cI 0, .str []]]))) (n' := 2) rfl rfl (fun h => by cases h) ?_)
  refine dnil ?_
  refine Sv.seq ?_
  refine Sv.seq ?_
  refine Sv.region ?_
  refine un (a1 (v := (.c (.ref 0 3 0 0))) rfl ?_)
  refine un (a1 (v := (I v_.Kind)) rfl ?_)
  refine dnil ?_
  refine Sv.block ?_
  refine Sv.seq ?_
  refine Sv.region ?_
  refine un (a1 (v := (B (decide (v_.Kind = 0)))) rfl ?_)
  refine un (a1 rfl ?_)
  refine dnil ?_
  refine Sv.cond (b := decide (v_.Kind = 0)) rfl (fun hc1 => ?_) (fun hc1 => ?_)
  · replace h := ifT hc1 h
    refine Sv.skip ?_
    exact Sv.weak (weak_canon [0, 1] rfl (by decide) (by decide) (fun b h => absurd h (Nat.not_lt_zero _)) (.cons rfl (.c (.ref rfl (by decide))) (.cons rfl (.c (.ref rfl (by decide))) .nil)) (.box (by decide) rfl (blkAs_cells (.cons (.same rfl) (.cons (.same rfl) (.cons (.same rfl) .nil)))) (.box (by decide) rfl (blkAs_cells (.cons (.same rfl) (.cons (.same rfl) (.cons (.same rfl) .nil)))) .nil))) (clerestoryref4_ValueRight_j1_ok h)
  · replace h := ifF hc1 h
    refine Sv.seq ?_
    refine Sv.region ?_
    refine un (a1 (v := (B (decide (v_.Kind = 1)))) rfl ?_)
    refine un (a1 rfl ?_)
    refine dnil ?_
    refine Sv.cond (b := decide (v_.Kind = 1)) rfl (fun hc2 => ?_) (fun hc2 => ?_)
    · replace h := ifT hc2 h
      refine Sv.seq ?_
      refine Sv.region ?_
      refine un (a1 (v := (.agg [cI v_.Kind, cI v_.N, .str v_.S])) rfl ?_)
      refine un (a1 (v := (.agg [cI v_.Kind, cI 0, .str []])) rfl ?_)
      obtain ⟨v15, hv15⟩ : ∃ v15 : Bool, v15 = (decide (v_.Kind = v_.Kind) && (decide (v_.N = 0) && (decide (v_.S = []) && true))) := ⟨_, rfl⟩
      replace h := letAt hv15 h
      refine un (a1 (v := (B v15)) (by rw [hv15]; rfl) ?_)
      clear hv15
      refine un (a1 rfl ?_)
      refine gjoin 4 (d := 20) (v := (B (v15 || (decide (v_.Kind = 1) && (decide (v_.N = 1) && (decide (v_.S = []) && true)))))) (fun X hX => ?_) ?_
      · refine split2 (fun hc3 => ?_) (fun hc3 => ?_)
        · refine gs rfl rfl ?_
          refine gs rfl rfl ?_
          refine gs rfl rfl ?_
          refine un (a1 (v := (B true)) rfl ?_)
          refine dnil ?_
          exact hX _ (.putEq (by rw [hc3]; rfl) (.skip _ _ (.skip _ _ (.skip _ _ (.putEq (by rw [hc3]) (.refl _)) rfl) rfl) rfl))
        · refine gt rfl (a1 (v := (.agg [cI v_.Kind, cI v_.N, .str v_.S])) rfl ?_)
          refine gt rfl (a1 (v := (.agg [cI 1, cI 1, .str []])) rfl ?_)
          refine gt rfl (a1 (v := (B (decide (v_.Kind = 1) && (decide (v_.N = 1) && (decide (v_.S = []) && true))))) rfl ?_)
          refine un (a1 (v := (B (decide (v_.Kind = 1) && (decide (v_.N = 1) && (decide (v_.S = []) && true))))) rfl ?_)
          refine dnil ?_
          exact hX _ (.putEq (by rw [hc3]; rfl) (.skip _ _ (.skip _ _ (.skip _ _ (.putEq (by rw [hc3]) (.refl _)) rfl) rfl) rfl))
      refine un (a1 rfl ?_)
      refine dnil ?_
      refine Sv.ret ?_
      subst h
      exact ⟨_, .refl _, _, rfl, ⟨upd (fun _ => none) 0 (some (B (v15 || (decide (v_.Kind = 1) && (decide (v_.N = 1) && (decide (v_.S = []) && true)))))), (fun _ => none), 0⟩, (B (v15 || (decide (v_.Kind = 1) && (decide (v_.N = 1) && (decide (v_.S = []) && true))))), weak_canon [] rfl List.nodup_nil (Nat.le_refl _) (fun b h => absurd h (Nat.not_lt_zero _)) (.cons rfl (avAs_free rfl) .nil) .nil, rfl, rfl, rfl, rfl⟩
    · replace h := ifF hc2 h
      refine Sv.seq ?_
      refine Sv.region ?_
      refine un (a1 (v := (B (decide (v_.Kind = 2)))) rfl ?_)
      refine un (a1 rfl ?_)
      refine dnil ?_
      refine Sv.cond (b := decide (v_.Kind = 2)) rfl (fun hc4 => ?_) (fun hc4 => ?_)
      · replace h := ifT hc4 h
        refine Sv.seq ?_
        refine Sv.region ?_
        refine un (a1 (v := (.c (.ref 0 3 0 1))) rfl ?_)
        refine un (a1 (v := (I v_.N)) rfl ?_)
        refine un (a1 (v := (.c (.ref 1 3 0 1))) rfl ?_)
        refine un (a2n (h' := upd _ 1 (some (.cells 3 [[cI v_.Kind, cI v_.N, .str []]]))) (n' := 2) rfl rfl (fun h => by cases h) ?_)
        refine dnil ?_
        refine Sv.seq ?_
        refine Sv.region ?_
        refine un (a1 (v := (.agg [cI v_.Kind, cI v_.N, .str v_.S])) rfl ?_)
        refine un (a1 (v := (.agg [cI v_.Kind, cI v_.N, .str []])) rfl ?_)
        obtain ⟨v28, hv28⟩ : ∃ v28 : Bool, v28 = (decide (v_.Kind = v_.Kind) && (decide (v_.N = v_.N) && (decide (v_.S = []) && true))) := ⟨_, rfl⟩
        replace h := letAt hv28 h
        refine un (a1 (v := (B v28)) (by rw [hv28]; rfl) ?_)
        clear hv28
        refine un (a1 rfl ?_)
        refine gjoin 4 (d := 33) (v := (B (v28 && (clerestoryref4_Between v_.N (-9007199254740992) 9007199254740992)))) (fun X hX => ?_) ?_
        · refine split2 (fun hc5 => ?_) (fun hc5 => ?_)
          · refine gt rfl (a1 (v := (.c (.ref 0 3 0 1))) rfl ?_)
            refine gt rfl (a1 (v := (I v_.N)) rfl ?_)
            refine gt rfl (ac_pure (clerestoryref4_Between_ok (Γ := Γ) v_.N (-9007199254740992) 9007199254740992) rfl rfl rfl ?_)
            refine un (a1 (v := (B (clerestoryref4_Between v_.N (-9007199254740992) 9007199254740992))) rfl ?_)
            refine dnil ?_
            exact hX _ (.putEq (by rw [hc5]; rfl) (.skip _ _ (.skip _ _ (.skip _ _ (.putEq (by rw [hc5]) (.refl _)) rfl) rfl) rfl))
          · refine gs rfl rfl ?_
            refine gs rfl rfl ?_
            refine gs rfl rfl ?_
            refine un (a1 (v := (B false)) rfl ?_)
            refine dnil ?_
            exact hX _ (.putEq (by rw [hc5]; rfl) (.skip _ _ (.skip _ _ (.skip _ _ (.putEq (by rw [hc5]) (.refl _)) rfl) rfl) rfl))
        refine un (a1 rfl ?_)
        refine dnil ?_
        refine Sv.ret ?_
        subst h
        exact ⟨_, .refl _, _, rfl, ⟨upd (fun _ => none) 0 (some (B (v28 && (clerestoryref4_Between v_.N (-9007199254740992) 9007199254740992)))), (fun _ => none), 0⟩, (B (v28 && (clerestoryref4_Between v_.N (-9007199254740992) 9007199254740992))), weak_canon [] rfl List.nodup_nil (Nat.le_refl _) (fun b h => absurd h (Nat.not_lt_zero _)) (.cons rfl (avAs_free rfl) .nil) .nil, rfl, rfl, rfl, rfl⟩
      · replace h := ifF hc4 h
        refine Sv.seq ?_
        refine Sv.region ?_
        refine un (a1 (v := (B (decide (v_.Kind = 3)))) rfl ?_)
        refine un (a1 rfl ?_)
        refine dnil ?_
        refine Sv.cond (b := decide (v_.Kind = 3)) rfl (fun hc6 => ?_) (fun hc6 => ?_)
        · replace h := ifT hc6 h
          refine Sv.seq ?_
          refine Sv.region ?_
          refine un (a1 (v := (.c (.ref 0 3 0 2))) rfl ?_)
          refine un (a1 (v := (S v_.S)) rfl ?_)
          refine un (a1 (v := (.c (.ref 1 3 0 2))) rfl ?_)
          refine un (a2n (h' := upd _ 1 (some (.cells 3 [[cI v_.Kind, cI 0, .str v_.S]]))) (n' := 2) rfl rfl (fun h => by cases h) ?_)
          refine dnil ?_
          refine Sv.seq ?_
          refine Sv.region ?_
          refine un (a1 (v := (.agg [cI v_.Kind, cI v_.N, .str v_.S])) rfl ?_)
          refine un (a1 (v := (.agg [cI v_.Kind, cI 0, .str v_.S])) rfl ?_)
          obtain ⟨v41, hv41⟩ : ∃ v41 : Bool, v41 = (decide (v_.Kind = v_.Kind) && (decide (v_.N = 0) && (decide (v_.S = v_.S) && true))) := ⟨_, rfl⟩
          replace h := letAt hv41 h
          refine un (a1 (v := (B v41)) (by rw [hv41]; rfl) ?_)
          clear hv41
          refine un (a1 rfl ?_)
          refine gjoin 5 (d := 47) (v := (B (v41 && (decide ((v_.S.length : Int) ≤ 2000))))) (fun X hX => ?_) ?_
          · refine split2 (fun hc7 => ?_) (fun hc7 => ?_)
            · refine gt rfl (a1 (v := (.c (.ref 0 3 0 2))) rfl ?_)
              refine gt rfl (a1 (v := (S v_.S)) rfl ?_)
              refine gt rfl (a1 (v := (I (v_.S.length : Int))) rfl ?_)
              refine gt rfl (a1 (v := (B (decide ((v_.S.length : Int) ≤ 2000)))) rfl ?_)
              refine un (a1 (v := (B (decide ((v_.S.length : Int) ≤ 2000)))) rfl ?_)
              refine dnil ?_
              exact hX _ (.putEq (by rw [hc7]; rfl) (.skip _ _ (.skip _ _ (.skip _ _ (.skip _ _ (.putEq (by rw [hc7]) (.refl _)) rfl) rfl) rfl) rfl))
            · refine gs rfl rfl ?_
              refine gs rfl rfl ?_
              refine gs rfl rfl ?_
              refine gs rfl rfl ?_
              refine un (a1 (v := (B false)) rfl ?_)
              refine dnil ?_
              exact hX _ (.putEq (by rw [hc7]; rfl) (.skip _ _ (.skip _ _ (.skip _ _ (.skip _ _ (.putEq (by rw [hc7]) (.refl _)) rfl) rfl) rfl) rfl))
          refine un (a1 rfl ?_)
          refine dnil ?_
          refine Sv.ret ?_
          subst h
          exact ⟨_, .refl _, _, rfl, ⟨upd (fun _ => none) 0 (some (B (v41 && (decide ((v_.S.length : Int) ≤ 2000))))), (fun _ => none), 0⟩, (B (v41 && (decide ((v_.S.length : Int) ≤ 2000)))), weak_canon [] rfl List.nodup_nil (Nat.le_refl _) (fun b h => absurd h (Nat.not_lt_zero _)) (.cons rfl (avAs_free rfl) .nil) .nil, rfl, rfl, rfl, rfl⟩
        · replace h := ifF hc6 h
          refine Sv.seq ?_
          refine Sv.region ?_
          refine un (a1 (v := (B (decide (v_.Kind = 4)))) rfl ?_)
          refine un (a1 rfl ?_)
          refine dnil ?_
          refine Sv.cond (b := decide (v_.Kind = 4)) rfl (fun hc8 => ?_) (fun hc8 => ?_)
          · replace h := ifT hc8 h
            refine Sv.seq ?_
            refine Sv.region ?_
            refine un (a1 (v := (.c (.ref 0 3 0 1))) rfl ?_)
            refine un (a1 (v := (I v_.N)) rfl ?_)
            refine un (a1 (v := (.c (.ref 1 3 0 1))) rfl ?_)
            refine un (a2n (h' := upd _ 1 (some (.cells 3 [[cI v_.Kind, cI v_.N, .str []]]))) (n' := 2) rfl rfl (fun h => by cases h) ?_)
            refine dnil ?_
            refine Sv.seq ?_
            refine Sv.region ?_
            refine un (a1 (v := (.agg [cI v_.Kind, cI v_.N, .str v_.S])) rfl ?_)
            refine un (a1 (v := (.agg [cI v_.Kind, cI v_.N, .str []])) rfl ?_)
            obtain ⟨v55, hv55⟩ : ∃ v55 : Bool, v55 = (decide (v_.Kind = v_.Kind) && (decide (v_.N = v_.N) && (decide (v_.S = []) && true))) := ⟨_, rfl⟩
            replace h := letAt hv55 h
            refine un (a1 (v := (B v55)) (by rw [hv55]; rfl) ?_)
            clear hv55
            refine un (a1 rfl ?_)
            refine gjoin 4 (d := 60) (v := (B (v55 && (decide ((-1) < v_.N))))) (fun X hX => ?_) ?_
            · refine split2 (fun hc9 => ?_) (fun hc9 => ?_)
              · refine gt rfl (a1 (v := (.c (.ref 0 3 0 1))) rfl ?_)
                refine gt rfl (a1 (v := (I v_.N)) rfl ?_)
                refine gt rfl (a1 (v := (B (decide ((-1) < v_.N)))) rfl ?_)
                refine un (a1 (v := (B (decide ((-1) < v_.N)))) rfl ?_)
                refine dnil ?_
                exact hX _ (.putEq (by rw [hc9]; rfl) (.skip _ _ (.skip _ _ (.skip _ _ (.putEq (by rw [hc9]) (.refl _)) rfl) rfl) rfl))
              · refine gs rfl rfl ?_
                refine gs rfl rfl ?_
                refine gs rfl rfl ?_
                refine un (a1 (v := (B false)) rfl ?_)
                refine dnil ?_
                exact hX _ (.putEq (by rw [hc9]; rfl) (.skip _ _ (.skip _ _ (.skip _ _ (.putEq (by rw [hc9]) (.refl _)) rfl) rfl) rfl))
            refine un (a1 rfl ?_)
            refine dnil ?_
            refine Sv.ret ?_
            subst h
            exact ⟨_, .refl _, _, rfl, ⟨upd (fun _ => none) 0 (some (B (v55 && (decide ((-1) < v_.N))))), (fun _ => none), 0⟩, (B (v55 && (decide ((-1) < v_.N)))), weak_canon [] rfl List.nodup_nil (Nat.le_refl _) (fun b h => absurd h (Nat.not_lt_zero _)) (.cons rfl (avAs_free rfl) .nil) .nil, rfl, rfl, rfl, rfl⟩
          · replace h := ifF hc8 h
            refine Sv.seq ?_
            refine Sv.region ?_
            refine un (a1 (v := (B (decide (v_.Kind = 5)))) rfl ?_)
            refine un (a1 rfl ?_)
            refine dnil ?_
            refine Sv.cond (b := decide (v_.Kind = 5)) rfl (fun hc10 => ?_) (fun hc10 => ?_)
            · replace h := ifT hc10 h
              refine Sv.region ?_
              refine un (a1 (v := (.c (.ref 0 3 0 2))) rfl ?_)
              refine un (a1 (v := (S v_.S)) rfl ?_)
              refine un (a1 (v := (.c (.ref 1 3 0 2))) rfl ?_)
              refine un (a2n (h' := upd _ 1 (some (.cells 3 [[cI v_.Kind, cI 0, .str v_.S]]))) (n' := 2) rfl rfl (fun h => by cases h) ?_)
              refine dnil ?_
              exact Sv.weak (weak_canon [0, 1] rfl (by decide) (by decide) (fun b h => absurd h (Nat.not_lt_zero _)) (.cons rfl (.c (.ref rfl (by decide))) (.cons rfl (.c (.ref rfl (by decide))) .nil)) (.box (by decide) rfl (blkAs_cells (.cons (.same rfl) (.cons (.same rfl) (.cons (.same rfl) .nil)))) (.box (by decide) rfl (blkAs_cells (.cons (.same rfl) (.cons (.same rfl) (.cons (.same rfl) .nil)))) .nil))) (clerestoryref4_ValueRight_j1_ok h)
            · replace h := ifF hc10 h
              refine Sv.seq ?_
              refine Sv.region ?_
              refine un (a1 rfl ?_)
              refine dnil ?_
              refine Sv.ret ?_
              subst h
              exact ⟨_, .refl _, _, rfl, ⟨upd (fun _ => none) 0 (some (B false)), (fun _ => none), 0⟩, (B false), weak_canon [] rfl List.nodup_nil (Nat.le_refl _) (fun b h => absurd h (Nat.not_lt_zero _)) (.cons rfl (avAs_free rfl) .nil) .nil, rfl, rfl, rfl, rfl⟩
def a55_c0 : ACode := .ret
def a55 : AFunc := ⟨2, [(.tmp 4)], (.seq (.region [⟨(some 3), (.box (.tmp 1)), none⟩, ⟨(some 4), (.mov (.const (.c (.val (.bool false))))), none⟩])
 (.seq (.region [⟨(some 5), (.load true 3 (.tmp 3)), none⟩, ⟨(some 6), (.call 85 [(.tmp 5)]), none⟩, ⟨(some 7), (.mov (.tmp 6)), none⟩, ⟨(some 8), (.faddr 0 (.tmp 3)), (some (7, true))⟩, ⟨(some 9), (.load false 1 (.tmp 8)), (some (7, true))⟩, ⟨(some 10), (.bin .neq (.tmp 9) (.const (.c (.val (.int .i64 4))))), (some (7, true))⟩, ⟨(some 11), (.mov (.tmp 10)), (some (7, true))⟩, ⟨(some 12), (.faddr 1 (.tmp 3)), (some (11, false))⟩, ⟨(some 13), (.load false 1 (.tmp 12)), (some (11, false))⟩, ⟨(some 14), (.mov (.tmp 0)), (some (11, false))⟩, ⟨(some 15), (.len (.tmp 14)), (some (11, false))⟩, ⟨(some 16), (.bin .lss (.tmp 13) (.tmp 15)), (some (11, false))⟩, ⟨(some 17), (.mov (.tmp 16)), (some (11, false))⟩, ⟨(some 18), (.mov (.tmp 0)), (some (17, true))⟩, ⟨(some 19), (.faddr 1 (.tmp 3)), (some (17, true))⟩, ⟨(some 20), (.load false 1 (.tmp 19)), (some (17, true))⟩, ⟨(some 21), (.iaddr 3 (.tmp 18) (.tmp 20)), (some (17, true))⟩, ⟨(some 22), (.faddr 0 (.tmp 21)), (some (17, true))⟩, ⟨(some 23), (.load false 1 (.tmp 22)), (some (17, true))⟩, ⟨(some 24), (.bin .neq (.tmp 23) (.const (.c (.val (.int .i64 0))))), (some (17, true))⟩, ⟨(some 25), (.pick (.tmp 17) (.tmp 24) (.const (.c (.val (.bool false))))), (some (11, false))⟩, ⟨(some 26), (.pick (.tmp 11) (.const (.c (.val (.bool true)))) (.tmp 25)), (some (7, true))⟩, ⟨(some 27), (.pick (.tmp 7) (.tmp 26) (.const (.c (.val (.bool false))))), none⟩, ⟨(some 4), (.mov (.tmp 27)), none⟩])
 a55_c0))⟩
set_option maxRecDepth 100000 in
theorem c55 : compFunc Try.prog 55 = some a55 := by kernel_rfl
def clerestoryref4_valueIn_post (r : Bool) : AV → Heap → Nat → Prop := fun v h' n' => v = (B r) ∧ (h' = (fun _ => none)) ∧ n' = 0
noncomputable def clerestoryref4_valueIn_j1 (v4 : Bool) : Option Bool :=
  some v4
theorem clerestoryref4_valueIn_j1_ok {Γ : Glob} {v4 : Bool} {o : Bool} (h : clerestoryref4_valueIn_j1 v4 = some o) :
    Sv Try.prog Γ 0 a55_c0 (Ends a55.results 0 (clerestoryref4_valueIn_post o)) ⟨(upd (fun _ => none) 4 (some (B v4))), (fun _ => none), 0⟩ := by
  unfold clerestoryref4_valueIn_j1 at h
  refine Sv.ret ?_
  replace h := Option.some.inj h
  subst h
  exact ⟨_, .refl _, _, rfl, ⟨upd (fun _ => none) 0 (some (B v4)), (fun _ => none), 0⟩, (B v4), weak_canon [] rfl List.nodup_nil (Nat.le_refl _) (fun b h => absurd h (Nat.not_lt_zero _)) (.cons rfl (avAs_free rfl) .nil) .nil, rfl, rfl, rfl, rfl⟩
/-- clerestory/clerestoryref4.valueIn -/
noncomputable def clerestoryref4_valueIn (h_ : (List TJCell)) (v_ : TJVal) : Option Bool :=
  if (clerestoryref4_ValueRight v_) then
    if (!decide (v_.Kind = 4)) then
      clerestoryref4_valueIn_j1 true
    else
      if decide (v_.N < (h_.length : Int)) then
        (at? h_ v_.N).bind fun x_ =>
        clerestoryref4_valueIn_j1 (!decide (x_.Kind = 0))
      else
        clerestoryref4_valueIn_j1 false
  else
    clerestoryref4_valueIn_j1 false
theorem clerestoryref4_valueIn_ok {Γ : Glob} {h_ : (List TJCell)} {v_ : TJVal} {r : Bool} (h : clerestoryref4_valueIn h_ v_ = some r) : CPure Try.prog Γ 55 [(.c (.ro false 3 (h_.map e_TJCell))), (.agg [cI v_.Kind, cI v_.N, .str v_.S])] (B r) := by
  refine acalls_of_sv hmix c55 (R := clerestoryref4_valueIn_post r) ?_
  unfold clerestoryref4_valueIn at h
  refine Sv.seq ?_
  refine Sv.region ?_
  refine un (a2v (v := (.c (.ref 0 3 0 0))) (h' := upd _ 0 (some (.cells 3 [[cI v_.Kind, cI v_.N, .str v_.S]]))) (n' := 1) rfl rfl (fun h => by cases h) ?_)
  refine un (a1 rfl ?_)
  refine dnil ?_
  refine Sv.seq ?_
  refine Sv.region ?_
  refine un (a1 (v := (.agg [cI v_.Kind, cI v_.N, .str v_.S])) rfl ?_)
  refine un (ac_pure (clerestoryref4_ValueRight_ok (Γ := Γ) v_) rfl rfl rfl ?_)
  refine un (a1 rfl ?_)
  refine split2 (fun hc1 => ?_) (fun hc1 => ?_)
  · replace h := ifT hc1 h
    refine gt rfl (a1 (v := (.c (.ref 0 3 0 0))) rfl ?_)
    refine gt rfl (a1 (v := (I v_.Kind)) rfl ?_)
    refine gt rfl (a1 (v := (B (!decide (v_.Kind = 4)))) rfl ?_)
    refine gt rfl (a1 rfl ?_)
    refine split2 (fun hc2 => ?_) (fun hc2 => ?_)
    · replace h := ifT hc2 h
      refine gs rfl rfl ?_
      refine gs rfl rfl ?_
      refine gs rfl rfl ?_
      refine gs rfl rfl ?_
      refine gs rfl rfl ?_
      refine gs rfl rfl ?_
      refine gu rfl ?_
      refine gu rfl ?_
      refine gu rfl ?_
      refine gu rfl ?_
      refine gu rfl ?_
      refine gu rfl ?_
      refine gu rfl ?_
      refine gs rfl rfl ?_
      refine gt rfl (a1 (v := (B true)) rfl ?_)
      refine un (a1 (v := (B true)) rfl ?_)
      refine un (a1 rfl ?_)
      refine dnil ?_
      exact Sv.weak (weak_canon [] rfl (by decide) (by decide) (fun b h => absurd h (Nat.not_lt_zero _)) (.cons rfl (avAs_free rfl) .nil) .nil) (clerestoryref4_valueIn_j1_ok h)
    · replace h := ifF hc2 h
      refine gt rfl (a1 (v := (.c (.ref 0 3 0 1))) rfl ?_)
      refine gt rfl (a1 (v := (I v_.N)) rfl ?_)
      refine gt rfl (a1 rfl ?_)
      refine gt rfl (a1 (v := (I (h_.length : Int))) (s_len (e := e_TJCell) (xs := h_) rfl) ?_)
      refine gt rfl (a1 (v := (B (decide (v_.N < (h_.length : Int))))) rfl ?_)
      refine gt rfl (a1 rfl ?_)
      refine split2 (fun hc3 => ?_) (fun hc3 => ?_)
      · replace h := ifT hc3 h
        refine gt rfl (a1 rfl ?_)
        refine gt rfl (a1 (v := (.c (.ref 0 3 0 1))) rfl ?_)
        refine gt rfl (a1 (v := (I v_.N)) rfl ?_)
        obtain ⟨x_, hx1, h⟩ := bnd h
        refine gt rfl (a1 (v := (.c (.rop [cI x_.Kind, .ro false 1 (x_.Names.map eStr), .ro false 3 (x_.Vals.map e_TJVal)]))) (s_iaddr (e := e_TJCell) (xs := h_) rfl rfl hx1) ?_)
        refine gt rfl (a1 (v := (.c (.rop [cI x_.Kind, .ro false 1 (x_.Names.map eStr), .ro false 3 (x_.Vals.map e_TJVal)]))) rfl ?_)
        refine gt rfl (a1 (v := (I x_.Kind)) rfl ?_)
        refine gt rfl (a1 (v := (B (!decide (x_.Kind = 0)))) rfl ?_)
        refine gt rfl (a1 (v := (B (!decide (x_.Kind = 0)))) rfl ?_)
        refine gt rfl (a1 (v := (B (!decide (x_.Kind = 0)))) rfl ?_)
        refine un (a1 (v := (B (!decide (x_.Kind = 0)))) rfl ?_)
        refine un (a1 rfl ?_)
        refine dnil ?_
        exact Sv.weak (weak_canon [] rfl (by decide) (by decide) (fun b h => absurd h (Nat.not_lt_zero _)) (.cons rfl (avAs_free rfl) .nil) .nil) (clerestoryref4_valueIn_j1_ok h)
      · replace h := ifF hc3 h
        refine gs rfl rfl ?_
        refine gs rfl rfl ?_
        refine gs rfl rfl ?_
        refine gs rfl rfl ?_
        refine gs rfl rfl ?_
        refine gs rfl rfl ?_
        refine gs rfl rfl ?_
        refine gt rfl (a1 (v := (B false)) rfl ?_)
        refine gt rfl (a1 (v := (B false)) rfl ?_)
        refine un (a1 (v := (B false)) rfl ?_)
        refine un (a1 rfl ?_)
        refine dnil ?_
        exact Sv.weak (weak_canon [] rfl (by decide) (by decide) (fun b h => absurd h (Nat.not_lt_zero _)) (.cons rfl (avAs_free rfl) .nil) .nil) (clerestoryref4_valueIn_j1_ok h)
  · replace h := ifF hc1 h
    refine gs rfl rfl ?_
    refine gs rfl rfl ?_
    refine gs rfl rfl ?_
    refine gs rfl rfl ?_
    refine gu rfl ?_
    refine gu rfl ?_
    refine gu rfl ?_
    refine gu rfl ?_
    refine gu rfl ?_
    refine gu rfl ?_
    refine gu rfl ?_
    refine gu rfl ?_
    refine gu rfl ?_
    refine gu rfl ?_
    refine gu rfl ?_
    refine gu rfl ?_
    refine gu rfl ?_
    refine gu rfl ?_
    refine gs rfl rfl ?_
    refine un (a1 (v := (B false)) rfl ?_)
    refine un (a1 rfl ?_)
    refine dnil ?_
    exact Sv.weak (weak_canon [] rfl (by decide) (by decide) (fun b h => absurd h (Nat.not_lt_zero _)) (.cons rfl (avAs_free rfl) .nil) .nil) (clerestoryref4_valueIn_j1_ok h)
def a23_c1 : ACode := (.region [⟨(some 88), (.bin .add (.tmp 66) (.const (.c (.val (.int .i64 1))))), none⟩, ⟨(some 66), (.mov (.tmp 88)), none⟩])
def a23_c2 : ACode := (.seq (.region [⟨(some 67), (.bin .lss (.tmp 66) (.tmp 65)), none⟩])
 (.seq (.cond (.tmp 67) .skip (.exit 2))
 (.seq (.block 3 (.seq (.region [⟨(some 68), (.mov (.tmp 66)), none⟩, ⟨(some 7), (.mov (.tmp 68)), none⟩])
 (.drawn (.fin [(⟨(some 69), (.mov (.tmp 4)), none⟩, (0, 0)), (⟨(some 70), (.mov (.tmp 69)), none⟩, (0, 1)), (⟨(some 71), (.mov (.tmp 7)), (some (70, true))⟩, (0, 2)), (⟨(some 72), (.bin .eql (.tmp 71) (.const (.c (.val (.int .i64 0))))), (some (70, true))⟩, (0, 3)), (⟨(some 73), (.mov (.tmp 72)), (some (70, true))⟩, (0, 4)), (⟨(some 74), (.faddr 1 (.tmp 6)), (some (73, false))⟩, (0, 5)), (⟨(some 75), (.load false 1 (.tmp 74)), (some (73, false))⟩, (0, 6)), (⟨(some 76), (.mov (.tmp 7)), (some (73, false))⟩, (0, 7)), (⟨(some 77), (.bin .sub (.tmp 76) (.const (.c (.val (.int .i64 1))))), (some (73, false))⟩, (0, 8)), (⟨(some 78), (.iaddr 1 (.tmp 75) (.tmp 77)), (some (73, false))⟩, (0, 9)), (⟨(some 79), (.load false 1 (.tmp 78)), (some (73, false))⟩, (0, 10)), (⟨(some 80), (.faddr 1 (.tmp 6)), (some (73, false))⟩, (0, 11)), (⟨(some 81), (.load false 1 (.tmp 80)), (some (73, false))⟩, (0, 12)), (⟨(some 82), (.mov (.tmp 7)), (some (73, false))⟩, (0, 13)), (⟨(some 83), (.iaddr 1 (.tmp 81) (.tmp 82)), (some (73, false))⟩, (0, 14)), (⟨(some 84), (.load false 1 (.tmp 83)), (some (73, false))⟩, (0, 15)), (⟨(some 85), (.bin .lss (.tmp 79) (.tmp 84)), (some (73, false))⟩, (0, 16)), (⟨(some 86), (.pick (.tmp 73) (.const (.c (.val (.bool true)))) (.tmp 85)), (some (70, true))⟩, (0, 17)), (⟨(some 87), (.pick (.tmp 70) (.tmp 86) (.const (.c (.val (.bool false))))), none⟩, (0, 18)), (⟨(some 4), (.mov (.tmp 87)), none⟩, (0, 19))]))))
 a23_c1)))
def a23_c3 : ACode := (.region [⟨(some 102), (.bin .add (.tmp 92) (.const (.c (.val (.int .i64 1))))), none⟩, ⟨(some 92), (.mov (.tmp 102)), none⟩])
def a23_c4 : ACode := (.seq (.region [⟨(some 93), (.bin .lss (.tmp 92) (.tmp 91)), none⟩])
 (.seq (.cond (.tmp 93) .skip (.exit 4))
 (.seq (.block 5 (.seq (.region [⟨(some 94), (.iaddr 3 (.tmp 90) (.tmp 92)), none⟩, ⟨(some 95), (.load true 3 (.tmp 94)), none⟩, ⟨(some 9), (.box (.const (.agg [(.val (.int .i64 0)), (.val (.int .i64 0)), (.str [])]))), none⟩, ⟨none, (.store 3 (.tmp 9) (.tmp 95)), none⟩])
 (.region [⟨(some 96), (.mov (.tmp 4)), none⟩, ⟨(some 97), (.mov (.tmp 96)), none⟩, ⟨(some 98), (.mov (.tmp 0)), (some (97, true))⟩, ⟨(some 99), (.load true 3 (.tmp 9)), (some (97, true))⟩, ⟨(some 100), (.call 55 [(.tmp 98), (.tmp 99)]), (some (97, true))⟩, ⟨(some 101), (.pick (.tmp 97) (.tmp 100) (.const (.c (.val (.bool false))))), none⟩, ⟨(some 4), (.mov (.tmp 101)), none⟩])))
 a23_c3)))
def a23_c0 : ACode := (.seq (.seq (.region [⟨(some 63), (.faddr 1 (.tmp 6)), none⟩, ⟨(some 64), (.load false 1 (.tmp 63)), none⟩, ⟨(some 65), (.len (.tmp 64)), none⟩, ⟨(some 66), (.mov (.const (.c (.val (.int .i64 0))))), none⟩])
 (.block 2 (.loop a23_c2)))
 (.seq (.region [⟨(some 89), (.faddr 2 (.tmp 6)), none⟩, ⟨(some 90), (.load false 1 (.tmp 89)), none⟩, ⟨(some 91), (.len (.tmp 90)), none⟩, ⟨(some 92), (.mov (.const (.c (.val (.int .i64 0))))), none⟩])
 (.block 4 (.loop a23_c4))))
def a23_c5 : ACode := (.region [⟨(some 103), (.bin .add (.tmp 15) (.const (.c (.val (.int .i64 1))))), none⟩, ⟨(some 15), (.mov (.tmp 103)), none⟩])
def a23_c6 : ACode := (.seq (.region [⟨(some 16), (.bin .lss (.tmp 15) (.tmp 14)), none⟩])
 (.seq (.cond (.tmp 16) .skip (.exit 0))
 (.seq (.block 1 (.seq (.region [⟨(some 17), (.iaddr 3 (.tmp 13) (.tmp 15)), none⟩, ⟨(some 18), (.load true 3 (.tmp 17)), none⟩, ⟨(some 6), (.box (.const (.agg [(.val (.int .i64 0)), (.ro true 1 []), (.ro true 3 [])]))), none⟩, ⟨none, (.store 3 (.tmp 6) (.tmp 18)), none⟩])
 (.seq (.region [⟨(some 19), (.mov (.tmp 3)), none⟩, ⟨(some 20), (.mov (.tmp 19)), none⟩, ⟨(some 21), (.faddr 2 (.tmp 6)), (some (20, false))⟩, ⟨(some 22), (.load false 1 (.tmp 21)), (some (20, false))⟩, ⟨(some 23), (.len (.tmp 22)), (some (20, false))⟩, ⟨(some 24), (.bin .gtr (.tmp 23) (.const (.c (.val (.int .i64 200))))), (some (20, false))⟩, ⟨(some 25), (.pick (.tmp 20) (.const (.c (.val (.bool true)))) (.tmp 24)), none⟩, ⟨(some 3), (.mov (.tmp 25)), none⟩])
 (.seq (.region [⟨(some 26), (.mov (.tmp 4)), none⟩, ⟨(some 27), (.mov (.tmp 26)), none⟩, ⟨(some 28), (.faddr 0 (.tmp 6)), (some (27, true))⟩, ⟨(some 29), (.load false 1 (.tmp 28)), (some (27, true))⟩, ⟨(some 30), (.call 12 [(.tmp 29), (.const (.c (.val (.int .i64 0)))), (.const (.c (.val (.int .i64 3))))]), (some (27, true))⟩, ⟨(some 31), (.pick (.tmp 27) (.tmp 30) (.const (.c (.val (.bool false))))), none⟩, ⟨(some 32), (.mov (.tmp 31)), none⟩, ⟨(some 33), (.faddr 0 (.tmp 6)), (some (32, true))⟩, ⟨(some 34), (.load false 1 (.tmp 33)), (some (32, true))⟩, ⟨(some 35), (.bin .neq (.tmp 34) (.const (.c (.val (.int .i64 0))))), (some (32, true))⟩, ⟨(some 36), (.mov (.tmp 35)), (some (32, true))⟩, ⟨(some 37), (.faddr 2 (.tmp 6)), (some (36, false))⟩, ⟨(some 38), (.load false 1 (.tmp 37)), (some (36, false))⟩, ⟨(some 39), (.len (.tmp 38)), (some (36, false))⟩, ⟨(some 40), (.bin .eql (.tmp 39) (.const (.c (.val (.int .i64 0))))), (some (36, false))⟩, ⟨(some 41), (.pick (.tmp 36) (.const (.c (.val (.bool true)))) (.tmp 40)), (some (32, true))⟩, ⟨(some 42), (.pick (.tmp 32) (.tmp 41) (.const (.c (.val (.bool false))))), none⟩, ⟨(some 4), (.mov (.tmp 42)), none⟩])
 (.seq (.seq (.region [⟨(some 43), (.faddr 0 (.tmp 6)), none⟩, ⟨(some 44), (.load false 1 (.tmp 43)), none⟩, ⟨(some 45), (.bin .eql (.tmp 44) (.const (.c (.val (.int .i64 2))))), none⟩])
 (.cond (.tmp 45) (.region [⟨(some 46), (.mov (.tmp 4)), none⟩, ⟨(some 47), (.mov (.tmp 46)), none⟩, ⟨(some 48), (.faddr 1 (.tmp 6)), (some (47, true))⟩, ⟨(some 49), (.load false 1 (.tmp 48)), (some (47, true))⟩, ⟨(some 50), (.len (.tmp 49)), (some (47, true))⟩, ⟨(some 51), (.faddr 2 (.tmp 6)), (some (47, true))⟩, ⟨(some 52), (.load false 1 (.tmp 51)), (some (47, true))⟩, ⟨(some 53), (.len (.tmp 52)), (some (47, true))⟩, ⟨(some 54), (.bin .eql (.tmp 50) (.tmp 53)), (some (47, true))⟩, ⟨(some 55), (.pick (.tmp 47) (.tmp 54) (.const (.c (.val (.bool false))))), none⟩, ⟨(some 4), (.mov (.tmp 55)), none⟩]) (.region [⟨(some 56), (.mov (.tmp 4)), none⟩, ⟨(some 57), (.mov (.tmp 56)), none⟩, ⟨(some 58), (.faddr 1 (.tmp 6)), (some (57, true))⟩, ⟨(some 59), (.load false 1 (.tmp 58)), (some (57, true))⟩, ⟨(some 60), (.len (.tmp 59)), (some (57, true))⟩, ⟨(some 61), (.bin .eql (.tmp 60) (.const (.c (.val (.int .i64 0))))), (some (57, true))⟩, ⟨(some 62), (.pick (.tmp 57) (.tmp 61) (.const (.c (.val (.bool false))))), none⟩, ⟨(some 4), (.mov (.tmp 62)), none⟩])))
 a23_c0)))))
 a23_c5)))
def a23 : AFunc := ⟨1, [(.tmp 2)], (.seq (.region [⟨(some 2), (.mov (.const (.c (.val (.int .i64 0))))), none⟩])
 (.seq (.region [⟨(some 10), (.mov (.tmp 0)), none⟩, ⟨(some 11), (.len (.tmp 10)), none⟩, ⟨(some 12), (.bin .gtr (.tmp 11) (.const (.c (.val (.int .i64 300))))), none⟩, ⟨(some 3), (.mov (.tmp 12)), none⟩])
 (.seq (.region [⟨(some 4), (.mov (.const (.c (.val (.bool true))))), none⟩])
 (.seq (.seq (.region [⟨(some 13), (.mov (.tmp 0)), none⟩, ⟨(some 14), (.len (.tmp 13)), none⟩, ⟨(some 15), (.mov (.const (.c (.val (.int .i64 0))))), none⟩])
 (.block 0 (.loop a23_c6)))
 (.seq (.block 6 (.seq (.region [⟨(some 105), (.mov (.tmp 3)), none⟩, ⟨(some 104), (.mov (.tmp 105)), none⟩])
 (.cond (.tmp 104) (.seq (.region [⟨(some 2), (.mov (.const (.c (.val (.int .i64 2))))), none⟩])
 .ret) (.seq (.region [⟨(some 107), (.mov (.tmp 4)), none⟩, ⟨(some 108), (.un .not (.tmp 107)), none⟩, ⟨(some 106), (.mov (.tmp 108)), none⟩])
 (.cond (.tmp 106) (.seq (.region [⟨(some 2), (.mov (.const (.c (.val (.int .i64 3))))), none⟩])
 .ret) .skip)))))
 (.seq (.region [⟨(some 2), (.mov (.const (.c (.val (.int .i64 0))))), none⟩])
 .ret))))))⟩
set_option maxRecDepth 100000 in
theorem c23 : compFunc Try.prog 23 = some a23 := by kernel_rfl
def clerestoryref4_CellsRight_post (r : Int) : AV → Heap → Nat → Prop := fun v h' n' => v = (I r) ∧ (h' = (fun _ => none)) ∧ n' = 0
abbrev clerestoryref4_CellsRight_l5_H (h_ : (List TJCell)) (large : Bool) (x_ : TJCell) (v15 : Int) (F_ : Bool → Int → Option Int) (o : Int) (R_ : St → Prop) : Prop := ∀ (right3 : Bool) (v66 : Int), F_ right3 v66 = some o → ∀ s, Weak 0 s ⟨(upd (upd (upd (upd (upd (upd (upd (upd (upd (fun _ => none) 0 (some (.c (.ro false 3 (h_.map e_TJCell))))) 3 (some (B (large || (decide (200 < (x_.Vals.length : Int))))))) 4 (some (B right3))) 6 (some (.c (.ref 0 3 0 0)))) 13 (some (.c (.ro false 3 (h_.map e_TJCell))))) 14 (some (I (h_.length : Int)))) 15 (some (I v15))) 65 (some (I (x_.Names.length : Int)))) 66 (some (I v66))), (upd (fun _ => none) 0 (some (.cells 3 [[cI x_.Kind, .ro false 1 (x_.Names.map eStr), .ro false 3 (x_.Vals.map e_TJVal)]]))), 1⟩ → R_ s
abbrev clerestoryref4_CellsRight_l5_E2 (h_ : (List TJCell)) (large : Bool) (x_ : TJCell) (v15 : Int) (F_ : Bool → Option Int) (o : Int) (R_ : St → Prop) : Prop := ∀ (right4 : Bool), F_ right4 = some o → ∀ s, Weak 0 s ⟨(upd (upd (upd (upd (upd (upd (upd (fun _ => none) 0 (some (.c (.ro false 3 (h_.map e_TJCell))))) 3 (some (B (large || (decide (200 < (x_.Vals.length : Int))))))) 4 (some (B right4))) 6 (some (.c (.ref 0 3 0 0)))) 13 (some (.c (.ro false 3 (h_.map e_TJCell))))) 14 (some (I (h_.length : Int)))) 15 (some (I v15))), (upd (fun _ => none) 0 (some (.cells 3 [[cI x_.Kind, .ro false 1 (x_.Names.map eStr), .ro false 3 (x_.Vals.map e_TJVal)]]))), 1⟩ → R_ s
noncomputable def clerestoryref4_CellsRight_j18 (v66 : Int) (h_ : (List TJCell)) (large : Bool) (x_ : TJCell) (v15 : Int) (self : Bool → Int → Option Int) (K2_ : Bool → Option Int) (right5 : Bool) : Option Int :=
  self right5 (wi (v66 + 1))
theorem clerestoryref4_CellsRight_j18_ok {Γ : Glob} {Q : AExit → St → Prop} {v66 : Int} {h_ : (List TJCell)} {large : Bool} {x_ : TJCell} {v15 : Int} {self : Bool → Int → Option Int} {K2_ : Bool → Option Int} {right5 : Bool} {o : Int} (h : clerestoryref4_CellsRight_j18 v66 h_ large x_ v15 self K2_ right5 = some o)
    (hself : clerestoryref4_CellsRight_l5_H h_ large x_ v15 self o (Q .normal))
    (hK2 : clerestoryref4_CellsRight_l5_E2 h_ large x_ v15 K2_ o (Q (.exit 2)))
    (hr : ∀ s, Ends a23.results 0 (clerestoryref4_CellsRight_post o) .ret s → Q .ret s) :
    Sv Try.prog Γ 0 a23_c1 Q ⟨(upd (upd (upd (upd (upd (upd (upd (upd (upd (fun _ => none) 0 (some (.c (.ro false 3 (h_.map e_TJCell))))) 3 (some (B (large || (decide (200 < (x_.Vals.length : Int))))))) 4 (some (B right5))) 6 (some (.c (.ref 0 3 0 0)))) 13 (some (.c (.ro false 3 (h_.map e_TJCell))))) 14 (some (I (h_.length : Int)))) 15 (some (I v15))) 65 (some (I (x_.Names.length : Int)))) 66 (some (I v66))), (upd (fun _ => none) 0 (some (.cells 3 [[cI x_.Kind, .ro false 1 (x_.Names.map eStr), .ro false 3 (x_.Vals.map e_TJVal)]]))), 1⟩ := by
  unfold clerestoryref4_CellsRight_j18 at h
  refine Sv.region ?_
  refine un (a1 (v := (I (wi (v66 + 1)))) rfl ?_)
  refine un (a1 rfl ?_)
  refine dnil ?_
  exact hself right5 (wi (v66 + 1)) h _ (weak_canon [0] rfl (by decide) (by decide) (fun b h => absurd h (Nat.not_lt_zero _)) (.cons rfl (avAs_free rfl) (.cons rfl (avAs_free rfl) (.cons rfl (avAs_free rfl) (.cons rfl (avAs_free rfl) (.cons rfl (avAs_free rfl) (.cons rfl (.c (.ref rfl (by decide))) (.cons rfl (avAs_free rfl) (.cons rfl (avAs_free rfl) (.cons rfl (avAs_free rfl) .nil))))))))) (.box (by decide) rfl (blkAs_cells (.cons (.same rfl) (.cons (.same rfl) (.cons (.same rfl) .nil)))) .nil))
abbrev clerestoryref4_CellsRight_l5_I (h_ : (List TJCell)) (large : Bool) (x_ : TJCell) (v15 : Int) (F_ : Nat → Bool → Int → Option Int) (o : Int) : Nat → St → Prop := fun k s => ∃ (right3 : Bool), ∃ (v66 : Int), F_ k right3 v66 = some o ∧ s = ⟨(upd (upd (upd (upd (upd (upd (upd (upd (upd (fun _ => none) 0 (some (.c (.ro false 3 (h_.map e_TJCell))))) 3 (some (B (large || (decide (200 < (x_.Vals.length : Int))))))) 4 (some (B right3))) 6 (some (.c (.ref 0 3 0 0)))) 13 (some (.c (.ro false 3 (h_.map e_TJCell))))) 14 (some (I (h_.length : Int)))) 15 (some (I v15))) 65 (some (I (x_.Names.length : Int)))) 66 (some (I v66))), (upd (fun _ => none) 0 (some (.cells 3 [[cI x_.Kind, .ro false 1 (x_.Names.map eStr), .ro false 3 (x_.Vals.map e_TJVal)]]))), 1⟩
noncomputable def clerestoryref4_CellsRight_l5 (x_ : TJCell) (h_ : (List TJCell)) (large : Bool) (v15 : Int) (K2_ : Bool → Option Int) : Nat → Bool → Int → Option Int
  | 0, _, _ => none
  | k + 1, right3, v66 =>
    if decide (v66 < (x_.Names.length : Int)) then
      if right3 then
        if decide (v66 = 0) then
          clerestoryref4_CellsRight_j18 v66 h_ large x_ v15 (clerestoryref4_CellsRight_l5 x_ h_ large v15 K2_ k) K2_ true
        else
          (at? x_.Names (wi (v66 - 1))).bind fun x_1 =>
          (at? x_.Names v66).bind fun x_2 =>
          clerestoryref4_CellsRight_j18 v66 h_ large x_ v15 (clerestoryref4_CellsRight_l5 x_ h_ large v15 K2_ k) K2_ (Go.Op.bytesLess x_1 x_2)
      else
        clerestoryref4_CellsRight_j18 v66 h_ large x_ v15 (clerestoryref4_CellsRight_l5 x_ h_ large v15 K2_ k) K2_ false
    else
      K2_ right3
theorem clerestoryref4_CellsRight_l5_ok {Γ : Glob} {Q : AExit → St → Prop} {x_ : TJCell} {h_ : (List TJCell)} {large : Bool} {v15 : Int} {K2_ : Bool → Option Int} {k : Nat} {right3 : Bool} {v66 : Int} {o : Int} (h : clerestoryref4_CellsRight_l5 x_ h_ large v15 K2_ k right3 v66 = some o)
    (hK2 : clerestoryref4_CellsRight_l5_E2 h_ large x_ v15 K2_ o (Q (.exit 2)))
    (hr : ∀ s, Ends a23.results 0 (clerestoryref4_CellsRight_post o) .ret s → Q .ret s) :
    Sv Try.prog Γ 0 (.loop a23_c2) Q ⟨(upd (upd (upd (upd (upd (upd (upd (upd (upd (fun _ => none) 0 (some (.c (.ro false 3 (h_.map e_TJCell))))) 3 (some (B (large || (decide (200 < (x_.Vals.length : Int))))))) 4 (some (B right3))) 6 (some (.c (.ref 0 3 0 0)))) 13 (some (.c (.ro false 3 (h_.map e_TJCell))))) 14 (some (I (h_.length : Int)))) 15 (some (I v15))) 65 (some (I (x_.Names.length : Int)))) 66 (some (I v66))), (upd (fun _ => none) 0 (some (.cells 3 [[cI x_.Kind, .ro false 1 (x_.Names.map eStr), .ro false 3 (x_.Vals.map e_TJVal)]]))), 1⟩ := by
  refine Sv.loop (I := clerestoryref4_CellsRight_l5_I h_ large x_ v15 (clerestoryref4_CellsRight_l5 x_ h_ large v15 K2_) o) (fun k s hI => ?_) ⟨right3, v66, h, rfl⟩
  clear h
  clear v66 right3
  obtain ⟨right3, v66, h, rfl⟩ := hI
  cases k with
  | zero => cases h
  | succ k =>
  rw [clerestoryref4_CellsRight_l5] at h
  have hself : clerestoryref4_CellsRight_l5_H h_ large x_ v15 (clerestoryref4_CellsRight_l5 x_ h_ large v15 K2_ k) o (rnd 0 (clerestoryref4_CellsRight_l5_I h_ large x_ v15 (clerestoryref4_CellsRight_l5 x_ h_ large v15 K2_) o) k Q) := fun right3 v66 h s hw => ⟨_, k, hw, Nat.lt_succ_self k, right3, v66, h, rfl⟩
  refine Sv.seq ?_
  refine Sv.region ?_
  refine un (a1 (v := (B (decide (v66 < (x_.Names.length : Int))))) rfl ?_)
  refine dnil ?_
  refine Sv.seq ?_
  refine Sv.cond (b := decide (v66 < (x_.Names.length : Int))) rfl (fun hc6 => ?_) (fun hc6 => ?_)
  · replace h := ifT hc6 h
    refine Sv.skip ?_
    refine Sv.seq ?_
    refine Sv.block ?_
    refine Sv.seq ?_
    refine Sv.region ?_
    refine un (a1 rfl ?_)
    refine un (a1 rfl ?_)
    refine dnil ?_
    refine Sv.drawn ?_
    refine un (a1 rfl ?_)
    refine un (a1 rfl ?_)
    refine split2 (fun hc7 => ?_) (fun hc7 => ?_)
    · replace h := ifT hc7 h
      refine gt rfl (a1 rfl ?_)
      refine gt rfl (a1 (v := (B (decide (v66 = 0)))) rfl ?_)
      refine gt rfl (a1 rfl ?_)
      refine split2 (fun hc8 => ?_) (fun hc8 => ?_)
      · replace h := ifT hc8 h
        refine gs rfl rfl ?_
        refine gs rfl rfl ?_
        refine gs rfl rfl ?_
        refine gs rfl rfl ?_
        refine gs rfl rfl ?_
        refine gs rfl rfl ?_
        refine gs rfl rfl ?_
        refine gs rfl rfl ?_
        refine gs rfl rfl ?_
        refine gs rfl rfl ?_
        refine gs rfl rfl ?_
        refine gs rfl rfl ?_
        refine gt rfl (a1 (v := (B true)) rfl ?_)
        refine un (a1 (v := (B true)) rfl ?_)
        refine un (a1 rfl ?_)
        refine dnil ?_
        exact Sv.weak (weak_canon [0] rfl (by decide) (by decide) (fun b h => absurd h (Nat.not_lt_zero _)) (.cons rfl (avAs_free rfl) (.cons rfl (avAs_free rfl) (.cons rfl (avAs_free rfl) (.cons rfl (avAs_free rfl) (.cons rfl (avAs_free rfl) (.cons rfl (.c (.ref rfl (by decide))) (.cons rfl (avAs_free rfl) (.cons rfl (avAs_free rfl) (.cons rfl (avAs_free rfl) .nil))))))))) (.box (by decide) rfl (blkAs_cells (.cons (.same rfl) (.cons (.same rfl) (.cons (.same rfl) .nil)))) .nil)) (clerestoryref4_CellsRight_j18_ok h hself hK2 hr)
      · replace h := ifF hc8 h
        refine gt rfl (a1 (v := (.c (.ref 0 3 0 1))) rfl ?_)
        refine gt rfl (a1 (v := (.c (.ro false 1 (x_.Names.map eStr)))) rfl ?_)
        refine gt rfl (a1 rfl ?_)
        refine gt rfl (a1 (v := (I (wi (v66 - 1)))) rfl ?_)
        obtain ⟨x_1, hx2, h⟩ := bnd h
        refine gt rfl (a1 (v := (.c (.rop [.str x_1]))) (s_iaddr (e := eStr) (xs := x_.Names) rfl rfl hx2) ?_)
        refine gt rfl (a1 (v := (S x_1)) rfl ?_)
        refine gt rfl (a1 (v := (.c (.ref 0 3 0 1))) rfl ?_)
        refine gt rfl (a1 (v := (.c (.ro false 1 (x_.Names.map eStr)))) rfl ?_)
        refine gt rfl (a1 rfl ?_)
        obtain ⟨x_2, hx3, h⟩ := bnd h
        refine gt rfl (a1 (v := (.c (.rop [.str x_2]))) (s_iaddr (e := eStr) (xs := x_.Names) rfl rfl hx3) ?_)
        refine gt rfl (a1 (v := (S x_2)) rfl ?_)
        refine gt rfl (a1 (v := (B (Go.Op.bytesLess x_1 x_2))) rfl ?_)
        refine gt rfl (a1 (v := (B (Go.Op.bytesLess x_1 x_2))) rfl ?_)
        refine un (a1 (v := (B (Go.Op.bytesLess x_1 x_2))) rfl ?_)
        refine un (a1 rfl ?_)
        refine dnil ?_
        exact Sv.weak (weak_canon [0] rfl (by decide) (by decide) (fun b h => absurd h (Nat.not_lt_zero _)) (.cons rfl (avAs_free rfl) (.cons rfl (avAs_free rfl) (.cons rfl (avAs_free rfl) (.cons rfl (avAs_free rfl) (.cons rfl (avAs_free rfl) (.cons rfl (.c (.ref rfl (by decide))) (.cons rfl (avAs_free rfl) (.cons rfl (avAs_free rfl) (.cons rfl (avAs_free rfl) .nil))))))))) (.box (by decide) rfl (blkAs_cells (.cons (.same rfl) (.cons (.same rfl) (.cons (.same rfl) .nil)))) .nil)) (clerestoryref4_CellsRight_j18_ok h hself hK2 hr)
    · replace h := ifF hc7 h
      refine gs rfl rfl ?_
      refine gs rfl rfl ?_
      refine gs rfl rfl ?_
      refine gu rfl ?_
      refine gu rfl ?_
      refine gu rfl ?_
      refine gu rfl ?_
      refine gu rfl ?_
      refine gu rfl ?_
      refine gu rfl ?_
      refine gu rfl ?_
      refine gu rfl ?_
      refine gu rfl ?_
      refine gu rfl ?_
      refine gu rfl ?_
      refine gs rfl rfl ?_
      refine un (a1 (v := (B false)) rfl ?_)
      refine un (a1 rfl ?_)
      refine dnil ?_
      exact Sv.weak (weak_canon [0] rfl (by decide) (by decide) (fun b h => absurd h (Nat.not_lt_zero _)) (.cons rfl (avAs_free rfl) (.cons rfl (avAs_free rfl) (.cons rfl (avAs_free rfl) (.cons rfl (avAs_free rfl) (.cons rfl (avAs_free rfl) (.cons rfl (.c (.ref rfl (by decide))) (.cons rfl (avAs_free rfl) (.cons rfl (avAs_free rfl) (.cons rfl (avAs_free rfl) .nil))))))))) (.box (by decide) rfl (blkAs_cells (.cons (.same rfl) (.cons (.same rfl) (.cons (.same rfl) .nil)))) .nil)) (clerestoryref4_CellsRight_j18_ok h hself hK2 hr)
  · replace h := ifF hc6 h
    refine Sv.exit ?_
    exact hK2 right3 h _ (weak_canon [0] rfl (by decide) (by decide) (fun b h => absurd h (Nat.not_lt_zero _)) (.cons rfl (avAs_free rfl) (.cons rfl (avAs_free rfl) (.cons rfl (avAs_free rfl) (.cons rfl (.c (.ref rfl (by decide))) (.cons rfl (avAs_free rfl) (.cons rfl (avAs_free rfl) (.cons rfl (avAs_free rfl) .nil))))))) (.box (by decide) rfl (blkAs_cells (.cons (.same rfl) (.cons (.same rfl) (.cons (.same rfl) .nil)))) .nil))
abbrev clerestoryref4_CellsRight_l6_H (h_ : (List TJCell)) (large : Bool) (x_ : TJCell) (v15 : Int) (F_ : Bool → Int → Option Int) (o : Int) (R_ : St → Prop) : Prop := ∀ (right6 : Bool) (v92 : Int), F_ right6 v92 = some o → ∀ s, Weak 0 s ⟨(upd (upd (upd (upd (upd (upd (upd (upd (upd (fun _ => none) 0 (some (.c (.ro false 3 (h_.map e_TJCell))))) 3 (some (B (large || (decide (200 < (x_.Vals.length : Int))))))) 4 (some (B right6))) 13 (some (.c (.ro false 3 (h_.map e_TJCell))))) 14 (some (I (h_.length : Int)))) 15 (some (I v15))) 90 (some (.c (.ro false 3 (x_.Vals.map e_TJVal))))) 91 (some (I (x_.Vals.length : Int)))) 92 (some (I v92))), (fun _ => none), 0⟩ → R_ s
abbrev clerestoryref4_CellsRight_l6_E4 (h_ : (List TJCell)) (large : Bool) (x_ : TJCell) (v15 : Int) (F_ : Bool → Option Int) (o : Int) (R_ : St → Prop) : Prop := ∀ (right7 : Bool), F_ right7 = some o → ∀ s, Weak 0 s ⟨(upd (upd (upd (upd (upd (upd (fun _ => none) 0 (some (.c (.ro false 3 (h_.map e_TJCell))))) 3 (some (B (large || (decide (200 < (x_.Vals.length : Int))))))) 4 (some (B right7))) 13 (some (.c (.ro false 3 (h_.map e_TJCell))))) 14 (some (I (h_.length : Int)))) 15 (some (I v15))), (fun _ => none), 0⟩ → R_ s
noncomputable def clerestoryref4_CellsRight_j21 (v92 : Int) (h_ : (List TJCell)) (large : Bool) (x_ : TJCell) (v15 : Int) (self : Bool → Int → Option Int) (K4_ : Bool → Option Int) (right8 : Bool) : Option Int :=
  self right8 (wi (v92 + 1))
theorem clerestoryref4_CellsRight_j21_ok {Γ : Glob} {Q : AExit → St → Prop} {v92 : Int} {h_ : (List TJCell)} {large : Bool} {x_ : TJCell} {v15 : Int} {self : Bool → Int → Option Int} {K4_ : Bool → Option Int} {right8 : Bool} {o : Int} (h : clerestoryref4_CellsRight_j21 v92 h_ large x_ v15 self K4_ right8 = some o)
    (hself : clerestoryref4_CellsRight_l6_H h_ large x_ v15 self o (Q .normal))
    (hK4 : clerestoryref4_CellsRight_l6_E4 h_ large x_ v15 K4_ o (Q (.exit 4)))
    (hr : ∀ s, Ends a23.results 0 (clerestoryref4_CellsRight_post o) .ret s → Q .ret s) :
    Sv Try.prog Γ 0 a23_c3 Q ⟨(upd (upd (upd (upd (upd (upd (upd (upd (upd (fun _ => none) 0 (some (.c (.ro false 3 (h_.map e_TJCell))))) 3 (some (B (large || (decide (200 < (x_.Vals.length : Int))))))) 4 (some (B right8))) 13 (some (.c (.ro false 3 (h_.map e_TJCell))))) 14 (some (I (h_.length : Int)))) 15 (some (I v15))) 90 (some (.c (.ro false 3 (x_.Vals.map e_TJVal))))) 91 (some (I (x_.Vals.length : Int)))) 92 (some (I v92))), (fun _ => none), 0⟩ := by
  unfold clerestoryref4_CellsRight_j21 at h
  refine Sv.region ?_
  refine un (a1 (v := (I (wi (v92 + 1)))) rfl ?_)
  refine un (a1 rfl ?_)
  refine dnil ?_
  exact hself right8 (wi (v92 + 1)) h _ (weak_canon [] rfl (by decide) (by decide) (fun b h => absurd h (Nat.not_lt_zero _)) (.cons rfl (avAs_free rfl) (.cons rfl (avAs_free rfl) (.cons rfl (avAs_free rfl) (.cons rfl (avAs_free rfl) (.cons rfl (avAs_free rfl) (.cons rfl (avAs_free rfl) (.cons rfl (avAs_free rfl) (.cons rfl (avAs_free rfl) (.cons rfl (avAs_free rfl) .nil))))))))) .nil)
abbrev clerestoryref4_CellsRight_l6_I (h_ : (List TJCell)) (large : Bool) (x_ : TJCell) (v15 : Int) (F_ : Nat → Bool → Int → Option Int) (o : Int) : Nat → St → Prop := fun k s => ∃ (right6 : Bool), ∃ (v92 : Int), F_ k right6 v92 = some o ∧ s = ⟨(upd (upd (upd (upd (upd (upd (upd (upd (upd (fun _ => none) 0 (some (.c (.ro false 3 (h_.map e_TJCell))))) 3 (some (B (large || (decide (200 < (x_.Vals.length : Int))))))) 4 (some (B right6))) 13 (some (.c (.ro false 3 (h_.map e_TJCell))))) 14 (some (I (h_.length : Int)))) 15 (some (I v15))) 90 (some (.c (.ro false 3 (x_.Vals.map e_TJVal))))) 91 (some (I (x_.Vals.length : Int)))) 92 (some (I v92))), (fun _ => none), 0⟩
noncomputable def clerestoryref4_CellsRight_l6 (x_ : TJCell) (h_ : (List TJCell)) (large : Bool) (v15 : Int) (K4_ : Bool → Option Int) : Nat → Bool → Int → Option Int
  | 0, _, _ => none
  | k + 1, right6, v92 =>
    if decide (v92 < (x_.Vals.length : Int)) then
      (at? x_.Vals v92).bind fun x_3 =>
      if right6 then
        (clerestoryref4_valueIn h_ x_3).bind fun r_ =>
        clerestoryref4_CellsRight_j21 v92 h_ large x_ v15 (clerestoryref4_CellsRight_l6 x_ h_ large v15 K4_ k) K4_ r_
      else
        clerestoryref4_CellsRight_j21 v92 h_ large x_ v15 (clerestoryref4_CellsRight_l6 x_ h_ large v15 K4_ k) K4_ false
    else
      K4_ right6
theorem clerestoryref4_CellsRight_l6_ok {Γ : Glob} {Q : AExit → St → Prop} {x_ : TJCell} {h_ : (List TJCell)} {large : Bool} {v15 : Int} {K4_ : Bool → Option Int} {k : Nat} {right6 : Bool} {v92 : Int} {o : Int} (h : clerestoryref4_CellsRight_l6 x_ h_ large v15 K4_ k right6 v92 = some o)
    (hK4 : clerestoryref4_CellsRight_l6_E4 h_ large x_ v15 K4_ o (Q (.exit 4)))
    (hr : ∀ s, Ends a23.results 0 (clerestoryref4_CellsRight_post o) .ret s → Q .ret s) :
    Sv Try.prog Γ 0 (.loop a23_c4) Q ⟨(upd (upd (upd (upd (upd (upd (upd (upd (upd (fun _ => none) 0 (some (.c (.ro false 3 (h_.map e_TJCell))))) 3 (some (B (large || (decide (200 < (x_.Vals.length : Int))))))) 4 (some (B right6))) 13 (some (.c (.ro false 3 (h_.map e_TJCell))))) 14 (some (I (h_.length : Int)))) 15 (some (I v15))) 90 (some (.c (.ro false 3 (x_.Vals.map e_TJVal))))) 91 (some (I (x_.Vals.length : Int)))) 92 (some (I v92))), (fun _ => none), 0⟩ := by
  refine Sv.loop (I := clerestoryref4_CellsRight_l6_I h_ large x_ v15 (clerestoryref4_CellsRight_l6 x_ h_ large v15 K4_) o) (fun k s hI => ?_) ⟨right6, v92, h, rfl⟩
  clear h
  clear v92 right6
  obtain ⟨right6, v92, h, rfl⟩ := hI
  cases k with
  | zero => cases h
  | succ k =>
  rw [clerestoryref4_CellsRight_l6] at h
  have hself : clerestoryref4_CellsRight_l6_H h_ large x_ v15 (clerestoryref4_CellsRight_l6 x_ h_ large v15 K4_ k) o (rnd 0 (clerestoryref4_CellsRight_l6_I h_ large x_ v15 (clerestoryref4_CellsRight_l6 x_ h_ large v15 K4_) o) k Q) := fun right6 v92 h s hw => ⟨_, k, hw, Nat.lt_succ_self k, right6, v92, h, rfl⟩
  refine Sv.seq ?_
  refine Sv.region ?_
  refine un (a1 (v := (B (decide (v92 < (x_.Vals.length : Int))))) rfl ?_)
  refine dnil ?_
  refine Sv.seq ?_
  refine Sv.cond (b := decide (v92 < (x_.Vals.length : Int))) rfl (fun hc9 => ?_) (fun hc9 => ?_)
  · replace h := ifT hc9 h
    refine Sv.skip ?_
    refine Sv.seq ?_
    refine Sv.block ?_
    refine Sv.seq ?_
    refine Sv.region ?_
    obtain ⟨x_3, hx4, h⟩ := bnd h
    refine un (a1 (v := (.c (.rop [cI x_3.Kind, cI x_3.N, .str x_3.S]))) (s_iaddr (e := e_TJVal) (xs := x_.Vals) rfl rfl hx4) ?_)
    refine un (a1 (v := (.agg [cI x_3.Kind, cI x_3.N, .str x_3.S])) rfl ?_)
    refine un (a2v (v := (.c (.ref 0 3 0 0))) (h' := upd _ 0 (some (.cells 3 [[cI 0, cI 0, .str []]]))) (n' := 1) rfl rfl (fun h => by cases h) ?_)
    refine un (a2n (h' := upd _ 0 (some (.cells 3 [[cI x_3.Kind, cI x_3.N, .str x_3.S]]))) (n' := 1) rfl rfl (fun h => by cases h) ?_)
    refine dnil ?_
    refine Sv.region ?_
    refine un (a1 rfl ?_)
    refine un (a1 rfl ?_)
    refine split2 (fun hc10 => ?_) (fun hc10 => ?_)
    · replace h := ifT hc10 h
      refine gt rfl (a1 rfl ?_)
      refine gt rfl (a1 (v := (.agg [cI x_3.Kind, cI x_3.N, .str x_3.S])) rfl ?_)
      obtain ⟨r_, hr1, h⟩ := bnd h
      refine gt rfl (ac_pure (clerestoryref4_valueIn_ok hr1) rfl rfl rfl ?_)
      refine un (a1 (v := (B r_)) rfl ?_)
      refine un (a1 rfl ?_)
      refine dnil ?_
      exact Sv.weak (weak_canon [] rfl (by decide) (by decide) (fun b h => absurd h (Nat.not_lt_zero _)) (.cons rfl (avAs_free rfl) (.cons rfl (avAs_free rfl) (.cons rfl (avAs_free rfl) (.cons rfl (avAs_free rfl) (.cons rfl (avAs_free rfl) (.cons rfl (avAs_free rfl) (.cons rfl (avAs_free rfl) (.cons rfl (avAs_free rfl) (.cons rfl (avAs_free rfl) .nil))))))))) .nil) (clerestoryref4_CellsRight_j21_ok h hself hK4 hr)
    · replace h := ifF hc10 h
      refine gs rfl rfl ?_
      refine gs rfl rfl ?_
      refine gs rfl rfl ?_
      refine un (a1 (v := (B false)) rfl ?_)
      refine un (a1 rfl ?_)
      refine dnil ?_
      exact Sv.weak (weak_canon [] rfl (by decide) (by decide) (fun b h => absurd h (Nat.not_lt_zero _)) (.cons rfl (avAs_free rfl) (.cons rfl (avAs_free rfl) (.cons rfl (avAs_free rfl) (.cons rfl (avAs_free rfl) (.cons rfl (avAs_free rfl) (.cons rfl (avAs_free rfl) (.cons rfl (avAs_free rfl) (.cons rfl (avAs_free rfl) (.cons rfl (avAs_free rfl) .nil))))))))) .nil) (clerestoryref4_CellsRight_j21_ok h hself hK4 hr)
  · replace h := ifF hc9 h
    refine Sv.exit ?_
    exact hK4 right6 h _ (weak_canon [] rfl (by decide) (by decide) (fun b h => absurd h (Nat.not_lt_zero _)) (.cons rfl (avAs_free rfl) (.cons rfl (avAs_free rfl) (.cons rfl (avAs_free rfl) (.cons rfl (avAs_free rfl) (.cons rfl (avAs_free rfl) (.cons rfl (avAs_free rfl) .nil)))))) .nil)
abbrev clerestoryref4_CellsRight_q0 (Γ : Glob) (Q : AExit → St → Prop) : AExit → St → Prop := AThen (Sv Try.prog Γ 0 a23_c5 Q) Q
abbrev clerestoryref4_CellsRight_q1 (Γ : Glob) (Q : AExit → St → Prop) : AExit → St → Prop := ABlock 1 (clerestoryref4_CellsRight_q0 Γ Q)
abbrev clerestoryref4_CellsRight_l4_H (h_ : (List TJCell)) (F_ : Bool → Bool → Int → Option Int) (o : Int) (R_ : St → Prop) : Prop := ∀ (large : Bool) (right : Bool) (v15 : Int), F_ large right v15 = some o → ∀ s, Weak 0 s ⟨(upd (upd (upd (upd (upd (upd (fun _ => none) 0 (some (.c (.ro false 3 (h_.map e_TJCell))))) 3 (some (B large))) 4 (some (B right))) 13 (some (.c (.ro false 3 (h_.map e_TJCell))))) 14 (some (I (h_.length : Int)))) 15 (some (I v15))), (fun _ => none), 0⟩ → R_ s
abbrev clerestoryref4_CellsRight_l4_E0 (F_ : Bool → Bool → Option Int) (o : Int) (R_ : St → Prop) : Prop := ∀ (large1 : Bool) (right1 : Bool), F_ large1 right1 = some o → ∀ s, Weak 0 s ⟨(upd (upd (fun _ => none) 3 (some (B large1))) 4 (some (B right1))), (fun _ => none), 0⟩ → R_ s
noncomputable def clerestoryref4_CellsRight_j15 (x_ : TJCell) (h_ : (List TJCell)) (large : Bool) (v15 : Int) (self : Bool → Bool → Int → Option Int) (K0_ : Bool → Bool → Option Int) (right2 : Bool) : Option Int :=
  lim fun kk1 => clerestoryref4_CellsRight_l5 x_ h_ large v15 (fun (right4 : Bool) => 
      lim fun kk => clerestoryref4_CellsRight_l6 x_ h_ large v15 (fun (right7 : Bool) => 
          self (large || (decide (200 < (x_.Vals.length : Int)))) right7 (wi (v15 + 1))) kk right4 0) kk1 right2 0
theorem clerestoryref4_CellsRight_j15_ok {Γ : Glob} {Q : AExit → St → Prop} {x_ : TJCell} {h_ : (List TJCell)} {large : Bool} {v15 : Int} {self : Bool → Bool → Int → Option Int} {K0_ : Bool → Bool → Option Int} {right2 : Bool} {o : Int} (h : clerestoryref4_CellsRight_j15 x_ h_ large v15 self K0_ right2 = some o)
    (hself : clerestoryref4_CellsRight_l4_H h_ self o (Q .normal))
    (hK0 : clerestoryref4_CellsRight_l4_E0 K0_ o (Q (.exit 0)))
    (hr : ∀ s, Ends a23.results 0 (clerestoryref4_CellsRight_post o) .ret s → Q .ret s) :
    Sv Try.prog Γ 0 a23_c0 (clerestoryref4_CellsRight_q1 Γ Q) ⟨(upd (upd (upd (upd (upd (upd (upd (fun _ => none) 0 (some (.c (.ro false 3 (h_.map e_TJCell))))) 3 (some (B (large || (decide (200 < (x_.Vals.length : Int))))))) 4 (some (B right2))) 6 (some (.c (.ref 0 3 0 0)))) 13 (some (.c (.ro false 3 (h_.map e_TJCell))))) 14 (some (I (h_.length : Int)))) 15 (some (I v15))), (upd (fun _ => none) 0 (some (.cells 3 [[cI x_.Kind, .ro false 1 (x_.Names.map eStr), .ro false 3 (x_.Vals.map e_TJVal)]]))), 1⟩ := by
  unfold clerestoryref4_CellsRight_j15 at h
  refine Sv.seq ?_
  refine Sv.seq ?_
  refine Sv.region ?_
  refine un (a1 (v := (.c (.ref 0 3 0 1))) rfl ?_)
  refine un (a1 (v := (.c (.ro false 1 (x_.Names.map eStr)))) rfl ?_)
  refine un (a1 (v := (I (x_.Names.length : Int))) (s_len (e := eStr) (xs := x_.Names) rfl) ?_)
  refine un (a1 rfl ?_)
  refine dnil ?_
  refine Sv.block ?_
  obtain ⟨kk1, h⟩ := lim_some h
  refine Sv.weak (weak_canon [0] rfl (by decide) (by decide) (fun b h => absurd h (Nat.not_lt_zero _)) (.cons rfl (avAs_free rfl) (.cons rfl (avAs_free rfl) (.cons rfl (avAs_free rfl) (.cons rfl (avAs_free rfl) (.cons rfl (avAs_free rfl) (.cons rfl (.c (.ref rfl (by decide))) (.cons rfl (avAs_free rfl) (.cons rfl (avAs_free rfl) (.cons rfl (avAs_free rfl) .nil))))))))) (.box (by decide) rfl (blkAs_cells (.cons (.same rfl) (.cons (.same rfl) (.cons (.same rfl) .nil)))) .nil)) (clerestoryref4_CellsRight_l5_ok h ?_ hr)
  · intro right4 h _ hw1
    refine Sv.weak hw1 ?_
    refine Sv.seq ?_
    refine Sv.region ?_
    refine un (a1 (v := (.c (.ref 0 3 0 2))) rfl ?_)
    refine un (a1 (v := (.c (.ro false 3 (x_.Vals.map e_TJVal)))) rfl ?_)
    refine un (a1 (v := (I (x_.Vals.length : Int))) (s_len (e := e_TJVal) (xs := x_.Vals) rfl) ?_)
    refine un (a1 rfl ?_)
    refine dnil ?_
    refine Sv.block ?_
    obtain ⟨kk, h⟩ := lim_some h
    refine Sv.weak (weak_canon [] rfl (by decide) (by decide) (fun b h => absurd h (Nat.not_lt_zero _)) (.cons rfl (avAs_free rfl) (.cons rfl (avAs_free rfl) (.cons rfl (avAs_free rfl) (.cons rfl (avAs_free rfl) (.cons rfl (avAs_free rfl) (.cons rfl (avAs_free rfl) (.cons rfl (avAs_free rfl) (.cons rfl (avAs_free rfl) (.cons rfl (avAs_free rfl) .nil))))))))) .nil) (clerestoryref4_CellsRight_l6_ok h ?_ hr)
    · intro right7 h _ hw2
      refine Sv.weak hw2 ?_
      refine Sv.region ?_
      refine un (a1 (v := (I (wi (v15 + 1)))) rfl ?_)
      refine un (a1 rfl ?_)
      refine dnil ?_
      exact hself (large || (decide (200 < (x_.Vals.length : Int)))) right7 (wi (v15 + 1)) h _ (weak_canon [] rfl (by decide) (by decide) (fun b h => absurd h (Nat.not_lt_zero _)) (.cons rfl (avAs_free rfl) (.cons rfl (avAs_free rfl) (.cons rfl (avAs_free rfl) (.cons rfl (avAs_free rfl) (.cons rfl (avAs_free rfl) (.cons rfl (avAs_free rfl) .nil)))))) .nil)
abbrev clerestoryref4_CellsRight_l4_I (h_ : (List TJCell)) (F_ : Nat → Bool → Bool → Int → Option Int) (o : Int) : Nat → St → Prop := fun k s => ∃ (large : Bool), ∃ (right : Bool), ∃ (v15 : Int), F_ k large right v15 = some o ∧ s = ⟨(upd (upd (upd (upd (upd (upd (fun _ => none) 0 (some (.c (.ro false 3 (h_.map e_TJCell))))) 3 (some (B large))) 4 (some (B right))) 13 (some (.c (.ro false 3 (h_.map e_TJCell))))) 14 (some (I (h_.length : Int)))) 15 (some (I v15))), (fun _ => none), 0⟩
noncomputable def clerestoryref4_CellsRight_l4 (h_ : (List TJCell)) (K0_ : Bool → Bool → Option Int) : Nat → Bool → Bool → Int → Option Int
  | 0, _, _, _ => none
  | k + 1, large, right, v15 =>
    if decide (v15 < (h_.length : Int)) then
      (at? h_ v15).bind fun x_ =>
      if decide (x_.Kind = 2) then
        clerestoryref4_CellsRight_j15 x_ h_ large v15 (clerestoryref4_CellsRight_l4 h_ K0_ k) K0_ (((right && (clerestoryref4_Between x_.Kind 0 3)) && ((!decide (x_.Kind = 0)) || (decide ((x_.Vals.length : Int) = 0)))) && (decide ((x_.Names.length : Int) = (x_.Vals.length : Int))))
      else
        clerestoryref4_CellsRight_j15 x_ h_ large v15 (clerestoryref4_CellsRight_l4 h_ K0_ k) K0_ (((right && (clerestoryref4_Between x_.Kind 0 3)) && ((!decide (x_.Kind = 0)) || (decide ((x_.Vals.length : Int) = 0)))) && (decide ((x_.Names.length : Int) = 0)))
    else
      K0_ large right
theorem clerestoryref4_CellsRight_l4_ok {Γ : Glob} {Q : AExit → St → Prop} {h_ : (List TJCell)} {K0_ : Bool → Bool → Option Int} {k : Nat} {large : Bool} {right : Bool} {v15 : Int} {o : Int} (h : clerestoryref4_CellsRight_l4 h_ K0_ k large right v15 = some o)
    (hK0 : clerestoryref4_CellsRight_l4_E0 K0_ o (Q (.exit 0)))
    (hr : ∀ s, Ends a23.results 0 (clerestoryref4_CellsRight_post o) .ret s → Q .ret s) :
    Sv Try.prog Γ 0 (.loop a23_c6) Q ⟨(upd (upd (upd (upd (upd (upd (fun _ => none) 0 (some (.c (.ro false 3 (h_.map e_TJCell))))) 3 (some (B large))) 4 (some (B right))) 13 (some (.c (.ro false 3 (h_.map e_TJCell))))) 14 (some (I (h_.length : Int)))) 15 (some (I v15))), (fun _ => none), 0⟩ := by
  refine Sv.loop (I := clerestoryref4_CellsRight_l4_I h_ (clerestoryref4_CellsRight_l4 h_ K0_) o) (fun k s hI => ?_) ⟨large, right, v15, h, rfl⟩
  clear h
  clear v15 right large
  obtain ⟨large, right, v15, h, rfl⟩ := hI
  cases k with
  | zero => cases h
  | succ k =>
  rw [clerestoryref4_CellsRight_l4] at h
  have hself : clerestoryref4_CellsRight_l4_H h_ (clerestoryref4_CellsRight_l4 h_ K0_ k) o (rnd 0 (clerestoryref4_CellsRight_l4_I h_ (clerestoryref4_CellsRight_l4 h_ K0_) o) k Q) := fun large right v15 h s hw => ⟨_, k, hw, Nat.lt_succ_self k, large, right, v15, h, rfl⟩
  refine Sv.seq ?_
  refine Sv.region ?_
  refine un (a1 (v := (B (decide (v15 < (h_.length : Int))))) rfl ?_)
  refine dnil ?_
  refine Sv.seq ?_
  refine Sv.cond (b := decide (v15 < (h_.length : Int))) rfl (fun hc1 => ?_) (fun hc1 => ?_)
  · replace h := ifT hc1 h
    refine Sv.skip ?_
    refine Sv.seq ?_
    refine Sv.block ?_
    refine Sv.seq ?_
    refine Sv.region ?_
    obtain ⟨x_, hx1, h⟩ := bnd h
    refine un (a1 (v := (.c (.rop [cI x_.Kind, .ro false 1 (x_.Names.map eStr), .ro false 3 (x_.Vals.map e_TJVal)]))) (s_iaddr (e := e_TJCell) (xs := h_) rfl rfl hx1) ?_)
    refine un (a1 (v := (.agg [cI x_.Kind, .ro false 1 (x_.Names.map eStr), .ro false 3 (x_.Vals.map e_TJVal)])) rfl ?_)
    refine un (a2v (v := (.c (.ref 0 3 0 0))) (h' := upd _ 0 (some (.cells 3 [[cI 0, .ro true 1 [], .ro true 3 []]]))) (n' := 1) rfl rfl (fun h => by cases h) ?_)
    refine un (a2n (h' := upd _ 0 (some (.cells 3 [[cI x_.Kind, .ro false 1 (x_.Names.map eStr), .ro false 3 (x_.Vals.map e_TJVal)]]))) (n' := 1) rfl rfl (fun h => by cases h) ?_)
    refine dnil ?_
    refine Sv.seq ?_
    refine Sv.region ?_
    refine un (a1 rfl ?_)
    refine un (a1 rfl ?_)
    refine gjoin 5 (d := 25) (v := (B (large || (decide (200 < (x_.Vals.length : Int)))))) (fun X hX => ?_) ?_
    · refine split2 (fun hc2 => ?_) (fun hc2 => ?_)
      · refine gs rfl rfl ?_
        refine gs rfl rfl ?_
        refine gs rfl rfl ?_
        refine gs rfl rfl ?_
        refine un (a1 (v := (B true)) rfl ?_)
        refine dnil ?_
        exact hX _ (.putEq (by rw [hc2]; rfl) (.skip _ _ (.skip _ _ (.skip _ _ (.skip _ _ (.putEq (by rw [hc2]) (.refl _)) rfl) rfl) rfl) rfl))
      · refine gt rfl (a1 (v := (.c (.ref 0 3 0 2))) rfl ?_)
        refine gt rfl (a1 (v := (.c (.ro false 3 (x_.Vals.map e_TJVal)))) rfl ?_)
        refine gt rfl (a1 (v := (I (x_.Vals.length : Int))) (s_len (e := e_TJVal) (xs := x_.Vals) rfl) ?_)
        refine gt rfl (a1 (v := (B (decide (200 < (x_.Vals.length : Int))))) rfl ?_)
        refine un (a1 (v := (B (decide (200 < (x_.Vals.length : Int))))) rfl ?_)
        refine dnil ?_
        exact hX _ (.putEq (by rw [hc2]; rfl) (.skip _ _ (.skip _ _ (.skip _ _ (.skip _ _ (.putEq (by rw [hc2]) (.refl _)) rfl) rfl) rfl) rfl))
    refine un (a1 rfl ?_)
    refine dnil ?_
    refine Sv.seq ?_
    refine Sv.region ?_
    refine un (a1 rfl ?_)
    refine un (a1 rfl ?_)
    refine gjoin 4 (d := 31) (v := (B (right && (clerestoryref4_Between x_.Kind 0 3)))) (fun X hX => ?_) ?_
    · refine split2 (fun hc3 => ?_) (fun hc3 => ?_)
      · refine gt rfl (a1 (v := (.c (.ref 0 3 0 0))) rfl ?_)
        refine gt rfl (a1 (v := (I x_.Kind)) rfl ?_)
        refine gt rfl (ac_pure (clerestoryref4_Between_ok (Γ := Γ) x_.Kind 0 3) rfl rfl rfl ?_)
        refine un (a1 (v := (B (clerestoryref4_Between x_.Kind 0 3))) rfl ?_)
        refine dnil ?_
        exact hX _ (.putEq (by rw [hc3]; rfl) (.skip _ _ (.skip _ _ (.skip _ _ (.putEq (by rw [hc3]) (.refl _)) rfl) rfl) rfl))
      · refine gs rfl rfl ?_
        refine gs rfl rfl ?_
        refine gs rfl rfl ?_
        refine un (a1 (v := (B false)) rfl ?_)
        refine dnil ?_
        exact hX _ (.putEq (by rw [hc3]; rfl) (.skip _ _ (.skip _ _ (.skip _ _ (.putEq (by rw [hc3]) (.refl _)) rfl) rfl) rfl))
    refine un (a1 rfl ?_)
    refine gjoin 10 (d := 42) (v := (B ((right && (clerestoryref4_Between x_.Kind 0 3)) && ((!decide (x_.Kind = 0)) || (decide ((x_.Vals.length : Int) = 0)))))) (fun X hX => ?_) ?_
    · refine split2 (fun hc5 => ?_) (fun hc5 => ?_)
      · refine gt rfl (a1 (v := (.c (.ref 0 3 0 0))) rfl ?_)
        refine gt rfl (a1 (v := (I x_.Kind)) rfl ?_)
        refine gt rfl (a1 (v := (B (!decide (x_.Kind = 0)))) rfl ?_)
        refine gt rfl (a1 rfl ?_)
        refine gjoin 5 (d := 41) (v := (B ((!decide (x_.Kind = 0)) || (decide ((x_.Vals.length : Int) = 0))))) (fun X hX => ?_) ?_
        · refine split2 (fun hc4 => ?_) (fun hc4 => ?_)
          · refine gs rfl rfl ?_
            refine gs rfl rfl ?_
            refine gs rfl rfl ?_
            refine gs rfl rfl ?_
            refine gt rfl (a1 (v := (B true)) rfl ?_)
            refine dnil ?_
            exact hX _ (.putEq (by rw [hc4]; rfl) (.skip _ _ (.skip _ _ (.skip _ _ (.skip _ _ (.putEq (by rw [hc4]) (.refl _)) rfl) rfl) rfl) rfl))
          · refine gt rfl (a1 (v := (.c (.ref 0 3 0 2))) rfl ?_)
            refine gt rfl (a1 (v := (.c (.ro false 3 (x_.Vals.map e_TJVal)))) rfl ?_)
            refine gt rfl (a1 (v := (I (x_.Vals.length : Int))) (s_len (e := e_TJVal) (xs := x_.Vals) rfl) ?_)
            refine gt rfl (a1 (v := (B (decide ((x_.Vals.length : Int) = 0)))) rfl ?_)
            refine gt rfl (a1 (v := (B (decide ((x_.Vals.length : Int) = 0)))) rfl ?_)
            refine dnil ?_
            exact hX _ (.putEq (by rw [hc4]; rfl) (.skip _ _ (.skip _ _ (.skip _ _ (.skip _ _ (.putEq (by rw [hc4]) (.refl _)) rfl) rfl) rfl) rfl))
        refine un (a1 (v := (B ((!decide (x_.Kind = 0)) || (decide ((x_.Vals.length : Int) = 0))))) rfl ?_)
        refine dnil ?_
        exact hX _ (.putEq (by rw [hc5]; rfl) (.skip _ _ (.skip _ _ (.skip _ _ (.skip _ _ (.skip _ _ (.putEq (by rw [hc5]) (.refl _)) rfl) rfl) rfl) rfl) rfl))
      · refine gs rfl rfl ?_
        refine gs rfl rfl ?_
        refine gs rfl rfl ?_
        refine gs rfl rfl ?_
        refine gu rfl ?_
        refine gu rfl ?_
        refine gu rfl ?_
        refine gu rfl ?_
        refine gs rfl rfl ?_
        refine un (a1 (v := (B false)) rfl ?_)
        refine dnil ?_
        exact hX _ (.putEq (by rw [hc5]; rfl) (.skip _ _ (.skip _ _ (.skip _ _ (.skip _ _ (.skip _ _ (.skip _ _ (.skip _ _ (.skip _ _ (.skip _ _ (.putEq (by rw [hc5]) (.refl _)) rfl) rfl) rfl) rfl) rfl) rfl) rfl) rfl) rfl))
    refine un (a1 rfl ?_)
    refine dnil ?_
    refine Sv.seq ?_
    refine Sv.seq ?_
    refine Sv.region ?_
    refine un (a1 (v := (.c (.ref 0 3 0 0))) rfl ?_)
    refine un (a1 (v := (I x_.Kind)) rfl ?_)
    refine un (a1 (v := (B (decide (x_.Kind = 2)))) rfl ?_)
    refine dnil ?_
    refine Sv.cond (b := decide (x_.Kind = 2)) rfl (fun hc11 => ?_) (fun hc11 => ?_)
    · replace h := ifT hc11 h
      refine Sv.region ?_
      refine un (a1 rfl ?_)
      refine un (a1 rfl ?_)
      refine gjoin 8 (d := 55) (v := (B (((right && (clerestoryref4_Between x_.Kind 0 3)) && ((!decide (x_.Kind = 0)) || (decide ((x_.Vals.length : Int) = 0)))) && (decide ((x_.Names.length : Int) = (x_.Vals.length : Int)))))) (fun X hX => ?_) ?_
      · refine split2 (fun hc12 => ?_) (fun hc12 => ?_)
        · refine gt rfl (a1 (v := (.c (.ref 0 3 0 1))) rfl ?_)
          refine gt rfl (a1 (v := (.c (.ro false 1 (x_.Names.map eStr)))) rfl ?_)
          refine gt rfl (a1 (v := (I (x_.Names.length : Int))) (s_len (e := eStr) (xs := x_.Names) rfl) ?_)
          refine gt rfl (a1 (v := (.c (.ref 0 3 0 2))) rfl ?_)
          refine gt rfl (a1 (v := (.c (.ro false 3 (x_.Vals.map e_TJVal)))) rfl ?_)
          refine gt rfl (a1 (v := (I (x_.Vals.length : Int))) (s_len (e := e_TJVal) (xs := x_.Vals) rfl) ?_)
          refine gt rfl (a1 (v := (B (decide ((x_.Names.length : Int) = (x_.Vals.length : Int))))) rfl ?_)
          refine un (a1 (v := (B (decide ((x_.Names.length : Int) = (x_.Vals.length : Int))))) rfl ?_)
          refine dnil ?_
          exact hX _ (.putEq (by rw [hc12]; rfl) (.skip _ _ (.skip _ _ (.skip _ _ (.skip _ _ (.skip _ _ (.skip _ _ (.skip _ _ (.putEq (by rw [hc12]) (.refl _)) rfl) rfl) rfl) rfl) rfl) rfl) rfl))
        · refine gs rfl rfl ?_
          refine gs rfl rfl ?_
          refine gs rfl rfl ?_
          refine gs rfl rfl ?_
          refine gs rfl rfl ?_
          refine gs rfl rfl ?_
          refine gs rfl rfl ?_
          refine un (a1 (v := (B false)) rfl ?_)
          refine dnil ?_
          exact hX _ (.putEq (by rw [hc12]; rfl) (.skip _ _ (.skip _ _ (.skip _ _ (.skip _ _ (.skip _ _ (.skip _ _ (.skip _ _ (.putEq (by rw [hc12]) (.refl _)) rfl) rfl) rfl) rfl) rfl) rfl) rfl))
      refine un (a1 rfl ?_)
      refine dnil ?_
      exact Sv.weak (weak_canon [0] rfl (by decide) (by decide) (fun b h => absurd h (Nat.not_lt_zero _)) (.cons rfl (avAs_free rfl) (.cons rfl (avAs_free rfl) (.cons rfl (avAs_free rfl) (.cons rfl (.c (.ref rfl (by decide))) (.cons rfl (avAs_free rfl) (.cons rfl (avAs_free rfl) (.cons rfl (avAs_free rfl) .nil))))))) (.box (by decide) rfl (blkAs_cells (.cons (.same rfl) (.cons (.same rfl) (.cons (.same rfl) .nil)))) .nil)) (clerestoryref4_CellsRight_j15_ok h hself hK0 hr)
    · replace h := ifF hc11 h
      refine Sv.region ?_
      refine un (a1 rfl ?_)
      refine un (a1 rfl ?_)
      refine gjoin 5 (d := 62) (v := (B (((right && (clerestoryref4_Between x_.Kind 0 3)) && ((!decide (x_.Kind = 0)) || (decide ((x_.Vals.length : Int) = 0)))) && (decide ((x_.Names.length : Int) = 0))))) (fun X hX => ?_) ?_
      · refine split2 (fun hc13 => ?_) (fun hc13 => ?_)
        · refine gt rfl (a1 (v := (.c (.ref 0 3 0 1))) rfl ?_)
          refine gt rfl (a1 (v := (.c (.ro false 1 (x_.Names.map eStr)))) rfl ?_)
          refine gt rfl (a1 (v := (I (x_.Names.length : Int))) (s_len (e := eStr) (xs := x_.Names) rfl) ?_)
          refine gt rfl (a1 (v := (B (decide ((x_.Names.length : Int) = 0)))) rfl ?_)
          refine un (a1 (v := (B (decide ((x_.Names.length : Int) = 0)))) rfl ?_)
          refine dnil ?_
          exact hX _ (.putEq (by rw [hc13]; rfl) (.skip _ _ (.skip _ _ (.skip _ _ (.skip _ _ (.putEq (by rw [hc13]) (.refl _)) rfl) rfl) rfl) rfl))
        · refine gs rfl rfl ?_
          refine gs rfl rfl ?_
          refine gs rfl rfl ?_
          refine gs rfl rfl ?_
          refine un (a1 (v := (B false)) rfl ?_)
          refine dnil ?_
          exact hX _ (.putEq (by rw [hc13]; rfl) (.skip _ _ (.skip _ _ (.skip _ _ (.skip _ _ (.putEq (by rw [hc13]) (.refl _)) rfl) rfl) rfl) rfl))
      refine un (a1 rfl ?_)
      refine dnil ?_
      exact Sv.weak (weak_canon [0] rfl (by decide) (by decide) (fun b h => absurd h (Nat.not_lt_zero _)) (.cons rfl (avAs_free rfl) (.cons rfl (avAs_free rfl) (.cons rfl (avAs_free rfl) (.cons rfl (.c (.ref rfl (by decide))) (.cons rfl (avAs_free rfl) (.cons rfl (avAs_free rfl) (.cons rfl (avAs_free rfl) .nil))))))) (.box (by decide) rfl (blkAs_cells (.cons (.same rfl) (.cons (.same rfl) (.cons (.same rfl) .nil)))) .nil)) (clerestoryref4_CellsRight_j15_ok h hself hK0 hr)
  · replace h := ifF hc1 h
    refine Sv.exit ?_
    exact hK0 large right h _ (weak_canon [] rfl (by decide) (by decide) (fun b h => absurd h (Nat.not_lt_zero _)) (.cons rfl (avAs_free rfl) (.cons rfl (avAs_free rfl) .nil)) .nil)
/-- clerestory/clerestoryref4.CellsRight -/
noncomputable def clerestoryref4_CellsRight (h_ : (List TJCell)) : Option Int :=
  lim fun kk2 => clerestoryref4_CellsRight_l4 h_ (fun (large1 : Bool) (right1 : Bool) => 
      if large1 then
        some 2
      else
        if (!right1) then
          some 3
        else
          some 0) kk2 (decide (300 < (h_.length : Int))) true 0
theorem clerestoryref4_CellsRight_ok {Γ : Glob} {h_ : (List TJCell)} {r : Int} (h : clerestoryref4_CellsRight h_ = some r) : CPure Try.prog Γ 23 [(.c (.ro false 3 (h_.map e_TJCell)))] (I r) := by
  refine acalls_of_sv hmix c23 (R := clerestoryref4_CellsRight_post r) ?_
  unfold clerestoryref4_CellsRight at h
  refine Sv.seq ?_
  refine Sv.region ?_
  refine un (a1 rfl ?_)
  refine dnil ?_
  refine Sv.seq ?_
  refine Sv.region ?_
  refine un (a1 rfl ?_)
  refine un (a1 (v := (I (h_.length : Int))) (s_len (e := e_TJCell) (xs := h_) rfl) ?_)
  refine un (a1 (v := (B (decide (300 < (h_.length : Int))))) rfl ?_)
  refine un (a1 rfl ?_)
  refine dnil ?_
  refine Sv.seq ?_
  refine Sv.region ?_
  refine un (a1 rfl ?_)
  refine dnil ?_
  refine Sv.seq ?_
  refine Sv.seq ?_
  refine Sv.region ?_
  refine un (a1 rfl ?_)
  refine un (a1 (v := (I (h_.length : Int))) (s_len (e := e_TJCell) (xs := h_) rfl) ?_)
  refine un (a1 rfl ?_)
  refine dnil ?_
  refine Sv.block ?_
  obtain ⟨kk2, h⟩ := lim_some h
  refine Sv.weak (weak_canon [] rfl (by decide) (by decide) (fun b h => absurd h (Nat.not_lt_zero _)) (.cons rfl (avAs_free rfl) (.cons rfl (avAs_free rfl) (.cons rfl (avAs_free rfl) (.cons rfl (avAs_free rfl) (.cons rfl (avAs_free rfl) (.cons rfl (avAs_free rfl) .nil)))))) .nil) (clerestoryref4_CellsRight_l4_ok h ?_ (fun s hs => hs))
  · intro large1 right1 h _ hw3
    refine Sv.weak hw3 ?_
    refine Sv.seq ?_
    refine Sv.block ?_
    refine Sv.seq ?_
    refine Sv.region ?_
    refine un (a1 rfl ?_)
    refine un (a1 rfl ?_)
    refine dnil ?_
    refine Sv.cond (b := large1) rfl (fun hc14 => ?_) (fun hc14 => ?_)
    · replace h := ifT hc14 h
      refine Sv.seq ?_
      refine Sv.region ?_
      refine un (a1 rfl ?_)
      refine dnil ?_
      refine Sv.ret ?_
      replace h := Option.some.inj h
      subst h
      exact ⟨_, .refl _, _, rfl, ⟨upd (fun _ => none) 0 (some (I 2)), (fun _ => none), 0⟩, (I 2), weak_canon [] rfl List.nodup_nil (Nat.le_refl _) (fun b h => absurd h (Nat.not_lt_zero _)) (.cons rfl (avAs_free rfl) .nil) .nil, rfl, rfl, rfl, rfl⟩
    · replace h := ifF hc14 h
      refine Sv.seq ?_
      refine Sv.region ?_
      refine un (a1 rfl ?_)
      refine un (a1 (v := (B (!right1))) rfl ?_)
      refine un (a1 rfl ?_)
      refine dnil ?_
      refine Sv.cond (b := (!right1)) rfl (fun hc15 => ?_) (fun hc15 => ?_)
      · replace h := ifT hc15 h
        refine Sv.seq ?_
        refine Sv.region ?_
        refine un (a1 rfl ?_)
        refine dnil ?_
        refine Sv.ret ?_
        replace h := Option.some.inj h
        subst h
        exact ⟨_, .refl _, _, rfl, ⟨upd (fun _ => none) 0 (some (I 3)), (fun _ => none), 0⟩, (I 3), weak_canon [] rfl List.nodup_nil (Nat.le_refl _) (fun b h => absurd h (Nat.not_lt_zero _)) (.cons rfl (avAs_free rfl) .nil) .nil, rfl, rfl, rfl, rfl⟩
      · replace h := ifF hc15 h
        refine Sv.skip ?_
        refine Sv.seq ?_
        refine Sv.region ?_
        refine un (a1 rfl ?_)
        refine dnil ?_
        refine Sv.ret ?_
        replace h := Option.some.inj h
        subst h
        exact ⟨_, .refl _, _, rfl, ⟨upd (fun _ => none) 0 (some (I 0)), (fun _ => none), 0⟩, (I 0), weak_canon [] rfl List.nodup_nil (Nat.le_refl _) (fun b h => absurd h (Nat.not_lt_zero _)) (.cons rfl (avAs_free rfl) .nil) .nil, rfl, rfl, rfl, rfl⟩
def a24_c0 : ACode := (.cond (.tmp 23) (.region [⟨(some 5), (.mov (.const (.c (.val (.int .i64 1))))), none⟩]) .skip)
def a24_c1 : ACode := (.region [⟨(some 24), (.bin .add (.tmp 12) (.const (.c (.val (.int .i64 1))))), none⟩, ⟨(some 12), (.mov (.tmp 24)), none⟩])
def a24_c2 : ACode := (.seq (.region [⟨(some 13), (.bin .lss (.tmp 12) (.tmp 11)), none⟩])
 (.seq (.cond (.tmp 13) .skip (.exit 0))
 (.seq (.block 1 (.seq (.region [⟨(some 14), (.iaddr 3 (.tmp 10) (.tmp 12)), none⟩, ⟨(some 15), (.load true 3 (.tmp 14)), none⟩, ⟨(some 7), (.box (.const (.agg [(.val (.int .i64 0)), (.val (.int .i64 0)), (.str [])]))), none⟩, ⟨none, (.store 3 (.tmp 7) (.tmp 15)), none⟩])
 (.seq (.region [⟨(some 16), (.mov (.tmp 5)), none⟩, ⟨(some 17), (.bin .eql (.tmp 16) (.const (.c (.val (.int .i64 0))))), none⟩, ⟨(some 18), (.mov (.tmp 17)), none⟩, ⟨(some 19), (.mov (.tmp 0)), (some (18, true))⟩, ⟨(some 20), (.load true 3 (.tmp 7)), (some (18, true))⟩, ⟨(some 21), (.call 55 [(.tmp 19), (.tmp 20)]), (some (18, true))⟩, ⟨(some 22), (.un .not (.tmp 21)), (some (18, true))⟩, ⟨(some 23), (.pick (.tmp 18) (.tmp 22) (.const (.c (.val (.bool false))))), none⟩])
 a24_c0)))
 a24_c1)))
def a24 : AFunc := ⟨2, [(.tmp 4)], (.seq (.region [⟨(some 4), (.mov (.const (.c (.val (.int .i64 0))))), none⟩])
 (.seq (.region [⟨(some 8), (.mov (.tmp 0)), none⟩, ⟨(some 9), (.call 23 [(.tmp 8)]), none⟩, ⟨(some 5), (.mov (.tmp 9)), none⟩])
 (.seq (.seq (.region [⟨(some 10), (.mov (.tmp 1)), none⟩, ⟨(some 11), (.len (.tmp 10)), none⟩, ⟨(some 12), (.mov (.const (.c (.val (.int .i64 0))))), none⟩])
 (.block 0 (.loop a24_c2)))
 (.seq (.region [⟨(some 25), (.mov (.tmp 5)), none⟩, ⟨(some 4), (.mov (.tmp 25)), none⟩])
 .ret))))⟩
set_option maxRecDepth 100000 in
theorem c24 : compFunc Try.prog 24 = some a24 := by kernel_rfl
def clerestoryref4_HeapAsked_post (r : Int) : AV → Heap → Nat → Prop := fun v h' n' => v = (I r) ∧ (h' = (fun _ => none)) ∧ n' = 0
abbrev clerestoryref4_HeapAsked_l0_H (h_ : (List TJCell)) (roots : (List TJVal)) (F_ : Int → Int → Option Int) (o : Int) (R_ : St → Prop) : Prop := ∀ (e_ : Int) (v12 : Int), F_ e_ v12 = some o → ∀ s, Weak 0 s ⟨(upd (upd (upd (upd (upd (fun _ => none) 0 (some (.c (.ro false 3 (h_.map e_TJCell))))) 5 (some (I e_))) 10 (some (.c (.ro false 3 (roots.map e_TJVal))))) 11 (some (I (roots.length : Int)))) 12 (some (I v12))), (fun _ => none), 0⟩ → R_ s
abbrev clerestoryref4_HeapAsked_l0_E0 (F_ : Int → Option Int) (o : Int) (R_ : St → Prop) : Prop := ∀ (e_1 : Int), F_ e_1 = some o → ∀ s, Weak 0 s ⟨(upd (fun _ => none) 5 (some (I e_1))), (fun _ => none), 0⟩ → R_ s
noncomputable def clerestoryref4_HeapAsked_j11 (v12 : Int) (h_ : (List TJCell)) (roots : (List TJVal)) (self : Int → Int → Option Int) (K0_ : Int → Option Int) (e_2 : Int) : Option Int :=
  self e_2 (wi (v12 + 1))
theorem clerestoryref4_HeapAsked_j11_ok {Γ : Glob} {Q : AExit → St → Prop} {v12 : Int} {h_ : (List TJCell)} {roots : (List TJVal)} {self : Int → Int → Option Int} {K0_ : Int → Option Int} {e_2 : Int} {o : Int} (h : clerestoryref4_HeapAsked_j11 v12 h_ roots self K0_ e_2 = some o)
    (hself : clerestoryref4_HeapAsked_l0_H h_ roots self o (Q .normal))
    (hK0 : clerestoryref4_HeapAsked_l0_E0 K0_ o (Q (.exit 0)))
    (hr : ∀ s, Ends a24.results 0 (clerestoryref4_HeapAsked_post o) .ret s → Q .ret s) :
    Sv Try.prog Γ 0 a24_c1 Q ⟨(upd (upd (upd (upd (upd (fun _ => none) 0 (some (.c (.ro false 3 (h_.map e_TJCell))))) 5 (some (I e_2))) 10 (some (.c (.ro false 3 (roots.map e_TJVal))))) 11 (some (I (roots.length : Int)))) 12 (some (I v12))), (fun _ => none), 0⟩ := by
  unfold clerestoryref4_HeapAsked_j11 at h
  refine Sv.region ?_
  refine un (a1 (v := (I (wi (v12 + 1)))) rfl ?_)
  refine un (a1 rfl ?_)
  refine dnil ?_
  exact hself e_2 (wi (v12 + 1)) h _ (weak_canon [] rfl (by decide) (by decide) (fun b h => absurd h (Nat.not_lt_zero _)) (.cons rfl (avAs_free rfl) (.cons rfl (avAs_free rfl) (.cons rfl (avAs_free rfl) (.cons rfl (avAs_free rfl) (.cons rfl (avAs_free rfl) .nil))))) .nil)
abbrev clerestoryref4_HeapAsked_q0 (Γ : Glob) (Q : AExit → St → Prop) : AExit → St → Prop := AThen (Sv Try.prog Γ 0 a24_c1 Q) Q
abbrev clerestoryref4_HeapAsked_q1 (Γ : Glob) (Q : AExit → St → Prop) : AExit → St → Prop := ABlock 1 (clerestoryref4_HeapAsked_q0 Γ Q)
noncomputable def clerestoryref4_HeapAsked_j12 (v12 : Int) (h_ : (List TJCell)) (roots : (List TJVal)) (e_ : Int) (self : Int → Int → Option Int) (K0_ : Int → Option Int) (v23 : Bool) : Option Int :=
  if v23 then
    clerestoryref4_HeapAsked_j11 v12 h_ roots self K0_ 1
  else
    clerestoryref4_HeapAsked_j11 v12 h_ roots self K0_ e_
theorem clerestoryref4_HeapAsked_j12_ok {Γ : Glob} {Q : AExit → St → Prop} {v12 : Int} {h_ : (List TJCell)} {roots : (List TJVal)} {e_ : Int} {self : Int → Int → Option Int} {K0_ : Int → Option Int} {v23 : Bool} {o : Int} (h : clerestoryref4_HeapAsked_j12 v12 h_ roots e_ self K0_ v23 = some o)
    (hself : clerestoryref4_HeapAsked_l0_H h_ roots self o (Q .normal))
    (hK0 : clerestoryref4_HeapAsked_l0_E0 K0_ o (Q (.exit 0)))
    (hr : ∀ s, Ends a24.results 0 (clerestoryref4_HeapAsked_post o) .ret s → Q .ret s) :
    Sv Try.prog Γ 0 a24_c0 (clerestoryref4_HeapAsked_q1 Γ Q) ⟨(upd (upd (upd (upd (upd (upd (fun _ => none) 0 (some (.c (.ro false 3 (h_.map e_TJCell))))) 5 (some (I e_))) 10 (some (.c (.ro false 3 (roots.map e_TJVal))))) 11 (some (I (roots.length : Int)))) 12 (some (I v12))) 23 (some (B v23))), (fun _ => none), 0⟩ := by
  unfold clerestoryref4_HeapAsked_j12 at h
  refine Sv.cond (b := v23) rfl (fun hc2 => ?_) (fun hc2 => ?_)
  · replace h := ifT hc2 h
    refine Sv.region ?_
    refine un (a1 rfl ?_)
    refine dnil ?_
    exact Sv.weak (weak_canon [] rfl (by decide) (by decide) (fun b h => absurd h (Nat.not_lt_zero _)) (.cons rfl (avAs_free rfl) (.cons rfl (avAs_free rfl) (.cons rfl (avAs_free rfl) (.cons rfl (avAs_free rfl) (.cons rfl (avAs_free rfl) .nil))))) .nil) (clerestoryref4_HeapAsked_j11_ok h hself hK0 hr)
  · replace h := ifF hc2 h
    refine Sv.skip ?_
    exact Sv.weak (weak_canon [] rfl (by decide) (by decide) (fun b h => absurd h (Nat.not_lt_zero _)) (.cons rfl (avAs_free rfl) (.cons rfl (avAs_free rfl) (.cons rfl (avAs_free rfl) (.cons rfl (avAs_free rfl) (.cons rfl (avAs_free rfl) .nil))))) .nil) (clerestoryref4_HeapAsked_j11_ok h hself hK0 hr)
abbrev clerestoryref4_HeapAsked_l0_I (h_ : (List TJCell)) (roots : (List TJVal)) (F_ : Nat → Int → Int → Option Int) (o : Int) : Nat → St → Prop := fun k s => ∃ (e_ : Int), ∃ (v12 : Int), F_ k e_ v12 = some o ∧ s = ⟨(upd (upd (upd (upd (upd (fun _ => none) 0 (some (.c (.ro false 3 (h_.map e_TJCell))))) 5 (some (I e_))) 10 (some (.c (.ro false 3 (roots.map e_TJVal))))) 11 (some (I (roots.length : Int)))) 12 (some (I v12))), (fun _ => none), 0⟩
noncomputable def clerestoryref4_HeapAsked_l0 (roots : (List TJVal)) (h_ : (List TJCell)) (K0_ : Int → Option Int) : Nat → Int → Int → Option Int
  | 0, _, _ => none
  | k + 1, e_, v12 =>
    if decide (v12 < (roots.length : Int)) then
      (at? roots v12).bind fun x_ =>
      if decide (e_ = 0) then
        (clerestoryref4_valueIn h_ x_).bind fun r_1 =>
        clerestoryref4_HeapAsked_j12 v12 h_ roots e_ (clerestoryref4_HeapAsked_l0 roots h_ K0_ k) K0_ (!r_1)
      else
        clerestoryref4_HeapAsked_j12 v12 h_ roots e_ (clerestoryref4_HeapAsked_l0 roots h_ K0_ k) K0_ false
    else
      K0_ e_
theorem clerestoryref4_HeapAsked_l0_ok {Γ : Glob} {Q : AExit → St → Prop} {roots : (List TJVal)} {h_ : (List TJCell)} {K0_ : Int → Option Int} {k : Nat} {e_ : Int} {v12 : Int} {o : Int} (h : clerestoryref4_HeapAsked_l0 roots h_ K0_ k e_ v12 = some o)
    (hK0 : clerestoryref4_HeapAsked_l0_E0 K0_ o (Q (.exit 0)))
    (hr : ∀ s, Ends a24.results 0 (clerestoryref4_HeapAsked_post o) .ret s → Q .ret s) :
    Sv Try.prog Γ 0 (.loop a24_c2) Q ⟨(upd (upd (upd (upd (upd (fun _ => none) 0 (some (.c (.ro false 3 (h_.map e_TJCell))))) 5 (some (I e_))) 10 (some (.c (.ro false 3 (roots.map e_TJVal))))) 11 (some (I (roots.length : Int)))) 12 (some (I v12))), (fun _ => none), 0⟩ := by
  refine Sv.loop (I := clerestoryref4_HeapAsked_l0_I h_ roots (clerestoryref4_HeapAsked_l0 roots h_ K0_) o) (fun k s hI => ?_) ⟨e_, v12, h, rfl⟩
  clear h
  clear v12 e_
  obtain ⟨e_, v12, h, rfl⟩ := hI
  cases k with
  | zero => cases h
  | succ k =>
  rw [clerestoryref4_HeapAsked_l0] at h
  have hself : clerestoryref4_HeapAsked_l0_H h_ roots (clerestoryref4_HeapAsked_l0 roots h_ K0_ k) o (rnd 0 (clerestoryref4_HeapAsked_l0_I h_ roots (clerestoryref4_HeapAsked_l0 roots h_ K0_) o) k Q) := fun e_ v12 h s hw => ⟨_, k, hw, Nat.lt_succ_self k, e_, v12, h, rfl⟩
  refine Sv.seq ?_
  refine Sv.region ?_
  refine un (a1 (v := (B (decide (v12 < (roots.length : Int))))) rfl ?_)
  refine dnil ?_
  refine Sv.seq ?_
  refine Sv.cond (b := decide (v12 < (roots.length : Int))) rfl (fun hc1 => ?_) (fun hc1 => ?_)
  · replace h := ifT hc1 h
    refine Sv.skip ?_
    refine Sv.seq ?_
    refine Sv.block ?_
    refine Sv.seq ?_
    refine Sv.region ?_
    obtain ⟨x_, hx1, h⟩ := bnd h
    refine un (a1 (v := (.c (.rop [cI x_.Kind, cI x_.N, .str x_.S]))) (s_iaddr (e := e_TJVal) (xs := roots) rfl rfl hx1) ?_)
    refine un (a1 (v := (.agg [cI x_.Kind, cI x_.N, .str x_.S])) rfl ?_)
    refine un (a2v (v := (.c (.ref 0 3 0 0))) (h' := upd _ 0 (some (.cells 3 [[cI 0, cI 0, .str []]]))) (n' := 1) rfl rfl (fun h => by cases h) ?_)
    refine un (a2n (h' := upd _ 0 (some (.cells 3 [[cI x_.Kind, cI x_.N, .str x_.S]]))) (n' := 1) rfl rfl (fun h => by cases h) ?_)
    refine dnil ?_
    refine Sv.seq ?_
    refine Sv.region ?_
    refine un (a1 rfl ?_)
    refine un (a1 (v := (B (decide (e_ = 0)))) rfl ?_)
    refine un (a1 rfl ?_)
    refine split2 (fun hc3 => ?_) (fun hc3 => ?_)
    · replace h := ifT hc3 h
      refine gt rfl (a1 rfl ?_)
      refine gt rfl (a1 (v := (.agg [cI x_.Kind, cI x_.N, .str x_.S])) rfl ?_)
      obtain ⟨r_1, hr2, h⟩ := bnd h
      refine gt rfl (ac_pure (clerestoryref4_valueIn_ok hr2) rfl rfl rfl ?_)
      refine gt rfl (a1 (v := (B (!r_1))) rfl ?_)
      refine un (a1 (v := (B (!r_1))) rfl ?_)
      refine dnil ?_
      exact Sv.weak (weak_canon [] rfl (by decide) (by decide) (fun b h => absurd h (Nat.not_lt_zero _)) (.cons rfl (avAs_free rfl) (.cons rfl (avAs_free rfl) (.cons rfl (avAs_free rfl) (.cons rfl (avAs_free rfl) (.cons rfl (avAs_free rfl) (.cons rfl (avAs_free rfl) .nil)))))) .nil) (clerestoryref4_HeapAsked_j12_ok h hself hK0 hr)
    · replace h := ifF hc3 h
      refine gs rfl rfl ?_
      refine gs rfl rfl ?_
      refine gs rfl rfl ?_
      refine gs rfl rfl ?_
      refine un (a1 (v := (B false)) rfl ?_)
      refine dnil ?_
      exact Sv.weak (weak_canon [] rfl (by decide) (by decide) (fun b h => absurd h (Nat.not_lt_zero _)) (.cons rfl (avAs_free rfl) (.cons rfl (avAs_free rfl) (.cons rfl (avAs_free rfl) (.cons rfl (avAs_free rfl) (.cons rfl (avAs_free rfl) (.cons rfl (avAs_free rfl) .nil)))))) .nil) (clerestoryref4_HeapAsked_j12_ok h hself hK0 hr)
  · replace h := ifF hc1 h
    refine Sv.exit ?_
    exact hK0 e_ h _ (weak_canon [] rfl (by decide) (by decide) (fun b h => absurd h (Nat.not_lt_zero _)) (.cons rfl (avAs_free rfl) .nil) .nil)
/-- clerestory/clerestoryref4.HeapAsked -/
noncomputable def clerestoryref4_HeapAsked (h_ : (List TJCell)) (roots : (List TJVal)) : Option Int :=
  (clerestoryref4_CellsRight h_).bind fun r_ =>
  lim fun kk => clerestoryref4_HeapAsked_l0 roots h_ (fun (e_1 : Int) => 
      some e_1) kk r_ 0
theorem clerestoryref4_HeapAsked_ok {Γ : Glob} {h_ : (List TJCell)} {roots : (List TJVal)} {r : Int} (h : clerestoryref4_HeapAsked h_ roots = some r) : CPure Try.prog Γ 24 [(.c (.ro false 3 (h_.map e_TJCell))), (.c (.ro false 3 (roots.map e_TJVal)))] (I r) := by
  refine acalls_of_sv hmix c24 (R := clerestoryref4_HeapAsked_post r) ?_
  unfold clerestoryref4_HeapAsked at h
  refine Sv.seq ?_
  refine Sv.region ?_
  refine un (a1 rfl ?_)
  refine dnil ?_
  refine Sv.seq ?_
  refine Sv.region ?_
  refine un (a1 rfl ?_)
  obtain ⟨r_, hr1, h⟩ := bnd h
  refine un (ac_pure (clerestoryref4_CellsRight_ok hr1) rfl rfl rfl ?_)
  refine un (a1 rfl ?_)
  refine dnil ?_
  refine Sv.seq ?_
  refine Sv.seq ?_
  refine Sv.region ?_
  refine un (a1 rfl ?_)
  refine un (a1 (v := (I (roots.length : Int))) (s_len (e := e_TJVal) (xs := roots) rfl) ?_)
  refine un (a1 rfl ?_)
  refine dnil ?_
  refine Sv.block ?_
  obtain ⟨kk, h⟩ := lim_some h
  refine Sv.weak (weak_canon [] rfl (by decide) (by decide) (fun b h => absurd h (Nat.not_lt_zero _)) (.cons rfl (avAs_free rfl) (.cons rfl (avAs_free rfl) (.cons rfl (avAs_free rfl) (.cons rfl (avAs_free rfl) (.cons rfl (avAs_free rfl) .nil))))) .nil) (clerestoryref4_HeapAsked_l0_ok h ?_ (fun s hs => hs))
  · intro e_1 h _ hw1
    refine Sv.weak hw1 ?_
    refine Sv.seq ?_
    refine Sv.region ?_
    refine un (a1 rfl ?_)
    refine un (a1 rfl ?_)
    refine dnil ?_
    refine Sv.ret ?_
    replace h := Option.some.inj h
    subst h
    exact ⟨_, .refl _, _, rfl, ⟨upd (fun _ => none) 0 (some (I e_1)), (fun _ => none), 0⟩, (I e_1), weak_canon [] rfl List.nodup_nil (Nat.le_refl _) (fun b h => absurd h (Nat.not_lt_zero _)) (.cons rfl (avAs_free rfl) .nil) .nil, rfl, rfl, rfl, rfl⟩
def a57_c0 : ACode := (.seq (.seq (.region [⟨(some 7), (.mov (.tmp 2)), none⟩, ⟨(some 8), (.mov (.tmp 3)), none⟩, ⟨(some 9), (.bin .lss (.tmp 7) (.tmp 8)), none⟩])
 (.cond (.tmp 9) .skip (.exit 0)))
 (.seq (.block 1 (.drawn (.fin [(⟨(some 14), (.mov (.tmp 0)), none⟩, (0, 0)), (⟨(some 15), (.mov (.tmp 2)), none⟩, (0, 1)), (⟨(some 16), (.mov (.tmp 0)), none⟩, (0, 2)), (⟨(some 17), (.mov (.tmp 3)), none⟩, (0, 3)), (⟨(some 18), (.mov (.tmp 0)), none⟩, (0, 4)), (⟨(some 19), (.mov (.tmp 3)), none⟩, (0, 5)), (⟨(some 20), (.iaddr 3 (.tmp 18) (.tmp 19)), none⟩, (0, 6)), (⟨(some 21), (.load true 3 (.tmp 20)), none⟩, (0, 7)), (⟨(some 22), (.mov (.tmp 0)), none⟩, (0, 8)), (⟨(some 23), (.mov (.tmp 2)), none⟩, (0, 9)), (⟨(some 24), (.iaddr 3 (.tmp 22) (.tmp 23)), none⟩, (0, 10)), (⟨(some 25), (.load true 3 (.tmp 24)), none⟩, (0, 11)), (⟨(some 26), (.iaddr 3 (.tmp 14) (.tmp 15)), none⟩, (0, 12)), (⟨none, (.store 3 (.tmp 26) (.tmp 21)), none⟩, (2, 13)), (⟨(some 27), (.iaddr 3 (.tmp 16) (.tmp 17)), none⟩, (0, 14)), (⟨none, (.store 3 (.tmp 27) (.tmp 25)), none⟩, (2, 15))])))
 (.region [⟨(some 10), (.mov (.tmp 2)), none⟩, ⟨(some 11), (.bin .add (.tmp 10) (.const (.c (.val (.int .i64 1))))), none⟩, ⟨(some 12), (.mov (.tmp 3)), none⟩, ⟨(some 13), (.bin .sub (.tmp 12) (.const (.c (.val (.int .i64 1))))), none⟩, ⟨(some 2), (.mov (.tmp 11)), none⟩, ⟨(some 3), (.mov (.tmp 13)), none⟩])))
def a57 : AFunc := ⟨1, [], (.seq (.region [⟨(some 4), (.mov (.tmp 0)), none⟩, ⟨(some 5), (.len (.tmp 4)), none⟩, ⟨(some 6), (.bin .sub (.tmp 5) (.const (.c (.val (.int .i64 1))))), none⟩, ⟨(some 2), (.mov (.const (.c (.val (.int .i64 0))))), none⟩, ⟨(some 3), (.mov (.tmp 6)), none⟩])
 (.block 0 (.loop a57_c0)))⟩
set_option maxRecDepth 100000 in
theorem c57 : compFunc Try.prog 57 = some a57 := by kernel_rfl
def slices_Reverse_JVal_post (zs : Bool) (r : (List TJVal)) : AV → Heap → Nat → Prop := fun v h' n' => v = (.tup []) ∧ (h' = (upd (fun _ => none) 0 (lstB zs 3 (r.map e_TJVal)))) ∧ n' = 1
abbrev slices_Reverse_JVal_l0_E0 (zs : Bool) (F_ : (List TJVal) → Option (List TJVal)) (o : (List TJVal)) (R_ : St → Prop) : Prop := ∀ (s_2 : (List TJVal)) (_ : zs = true → s_2 = []), F_ s_2 = some o → ∀ s, Weak 1 s ⟨(upd (fun _ => none) 0 (some (lstV zs 0 3 s_2.length))), (upd (fun _ => none) 0 (lstB zs 3 (s_2.map e_TJVal))), 1⟩ → R_ s
abbrev slices_Reverse_JVal_l0_I (zs : Bool) (F_ : Nat → (List TJVal) → Int → Int → Option (List TJVal)) (o : (List TJVal)) : Nat → St → Prop := fun k s => ∃ (s_1 : (List TJVal)), ∃ (i_ : Int), ∃ (j_ : Int), (zs = true → s_1 = []) ∧ F_ k s_1 i_ j_ = some o ∧ s = ⟨(upd (upd (upd (fun _ => none) 0 (some (lstV zs 0 3 s_1.length))) 2 (some (I i_))) 3 (some (I j_))), (upd (fun _ => none) 0 (lstB zs 3 (s_1.map e_TJVal))), 1⟩
abbrev slices_Reverse_JVal_l0_H (zs : Bool) (F_ : (List TJVal) → Int → Int → Option (List TJVal)) (o : (List TJVal)) (R_ : St → Prop) : Prop := ∀ (s_1 : (List TJVal)) (i_ : Int) (j_ : Int) (_ : zs = true → s_1 = []), F_ s_1 i_ j_ = some o → ∀ s, Weak 1 s ⟨(upd (upd (upd (fun _ => none) 0 (some (lstV zs 0 3 s_1.length))) 2 (some (I i_))) 3 (some (I j_))), (upd (fun _ => none) 0 (lstB zs 3 (s_1.map e_TJVal))), 1⟩ → R_ s
noncomputable def slices_Reverse_JVal_l0 (K0_ : (List TJVal) → Option (List TJVal)) : Nat → (List TJVal) → Int → Int → Option (List TJVal)
  | 0, _, _, _ => none
  | k + 1, s_1, i_, j_ =>
    if decide (i_ < j_) then
      (at? s_1 j_).bind fun x_ =>
      (at? s_1 i_).bind fun x_1 =>
      (at? s_1 i_).bind fun x_2 =>
      (at? (s_1.set i_.toNat x_) j_).bind fun x_3 =>
      (slices_Reverse_JVal_l0 K0_ k) ((s_1.set i_.toNat x_).set j_.toNat x_1) (wi (i_ + 1)) (wi (j_ - 1))
    else
      K0_ s_1
theorem slices_Reverse_JVal_l0_ok {Γ : Glob} {Q : AExit → St → Prop} {zs : Bool} {K0_ : (List TJVal) → Option (List TJVal)} {k : Nat} {s_1 : (List TJVal)} {i_ : Int} {j_ : Int} (hzs1 : zs = true → s_1 = []) {o : (List TJVal)} (h : slices_Reverse_JVal_l0 K0_ k s_1 i_ j_ = some o)
    (hK0 : slices_Reverse_JVal_l0_E0 zs K0_ o (Q (.exit 0)))
    (hr : ∀ s, Ends a57.results 1 (slices_Reverse_JVal_post zs o) .ret s → Q .ret s) :
    Sv Try.prog Γ 1 (.loop a57_c0) Q ⟨(upd (upd (upd (fun _ => none) 0 (some (lstV zs 0 3 s_1.length))) 2 (some (I i_))) 3 (some (I j_))), (upd (fun _ => none) 0 (lstB zs 3 (s_1.map e_TJVal))), 1⟩ := by
  refine Sv.loop (I := slices_Reverse_JVal_l0_I zs (slices_Reverse_JVal_l0 K0_) o) (fun k s hI => ?_) ⟨s_1, i_, j_, hzs1, h, rfl⟩
  clear h
  clear hzs1 j_ i_ s_1
  obtain ⟨s_1, i_, j_, hzs1, h, rfl⟩ := hI
  cases k with
  | zero => cases h
  | succ k =>
  rw [slices_Reverse_JVal_l0] at h
  have hself : slices_Reverse_JVal_l0_H zs (slices_Reverse_JVal_l0 K0_ k) o (rnd 1 (slices_Reverse_JVal_l0_I zs (slices_Reverse_JVal_l0 K0_) o) k Q) := fun s_1 i_ j_ hzs1 h s hw => ⟨_, k, hw, Nat.lt_succ_self k, s_1, i_, j_, hzs1, h, rfl⟩
  refine Sv.seq ?_
  refine Sv.seq ?_
  refine Sv.region ?_
  refine un (a1 rfl ?_)
  refine un (a1 rfl ?_)
  refine un (a1 (v := (B (decide (i_ < j_)))) rfl ?_)
  refine dnil ?_
  refine Sv.cond (b := decide (i_ < j_)) rfl (fun hc1 => ?_) (fun hc1 => ?_)
  · replace h := ifT hc1 h
    refine Sv.skip ?_
    refine Sv.seq ?_
    refine Sv.block ?_
    refine Sv.drawn ?_
    refine un (a1 rfl ?_)
    refine un (a1 rfl ?_)
    refine un (a1 rfl ?_)
    refine un (a1 rfl ?_)
    refine un (a1 rfl ?_)
    refine un (a1 rfl ?_)
    obtain ⟨x_, hx1, h⟩ := bnd h
    refine un (a1 (v := (.c (.ref 0 3 j_.toNat 0))) (s_iaddrL rfl rfl hzs1 hx1) ?_)
    refine un (a1 (v := (.agg [cI x_.Kind, cI x_.N, .str x_.S])) (s_loadL (z := zs) (e := e_TJVal) rfl rfl hzs1 hx1 rfl rfl) ?_)
    refine un (a1 rfl ?_)
    refine un (a1 rfl ?_)
    obtain ⟨x_1, hx2, h⟩ := bnd h
    refine un (a1 (v := (.c (.ref 0 3 i_.toNat 0))) (s_iaddrL rfl rfl hzs1 hx2) ?_)
    refine un (a1 (v := (.agg [cI x_1.Kind, cI x_1.N, .str x_1.S])) (s_loadL (z := zs) (e := e_TJVal) rfl rfl hzs1 hx2 rfl rfl) ?_)
    obtain ⟨x_2, hx3, h⟩ := bnd h
    refine un (a1 (v := (.c (.ref 0 3 i_.toNat 0))) (s_iaddrL rfl rfl hzs1 hx3) ?_)
    refine un (a2n (h' := upd _ 0 (lstB zs 3 ((s_1.set i_.toNat x_).map e_TJVal))) (n' := 1) rfl (s_storeL (e := e_TJVal) (q' := x_) rfl rfl hzs1 hx3 rfl rfl rfl (Nat.le_of_ble_eq_true rfl) rfl) (fun h => by cases h) ?_)
    try rw [len_set s_1 i_.toNat x_]
    obtain ⟨x_3, hx4, h⟩ := bnd h
    refine un (a1 (v := (.c (.ref 0 3 j_.toNat 0))) (s_iaddrL rfl rfl (hz_len hzs1 (len_set s_1 i_.toNat x_)) hx4) ?_)
    refine un (a2n (h' := upd _ 0 (lstB zs 3 (((s_1.set i_.toNat x_).set j_.toNat x_1).map e_TJVal))) (n' := 1) rfl (s_storeL (e := e_TJVal) (q' := x_1) rfl rfl (hz_len hzs1 (len_set s_1 i_.toNat x_)) hx4 rfl rfl rfl (Nat.le_of_ble_eq_true rfl) rfl) (fun h => by cases h) ?_)
    try rw [len_set (s_1.set i_.toNat x_) j_.toNat x_1]
    refine dnil ?_
    refine Sv.region ?_
    refine un (a1 rfl ?_)
    refine un (a1 (v := (I (wi (i_ + 1)))) rfl ?_)
    refine un (a1 rfl ?_)
    refine un (a1 (v := (I (wi (j_ - 1)))) rfl ?_)
    refine un (a1 rfl ?_)
    refine un (a1 rfl ?_)
    refine dnil ?_
    exact hself ((s_1.set i_.toNat x_).set j_.toNat x_1) (wi (i_ + 1)) (wi (j_ - 1)) (hz_len (hz_len hzs1 (len_set s_1 i_.toNat x_)) (len_set (s_1.set i_.toNat x_) j_.toNat x_1)) h _ (weak_canon [0] rfl (by decide) (by decide) (by decide) (.cons rfl (avAs_free rfl) (.cons rfl (avAs_free rfl) (.cons rfl (.c (lstC_ren rfl (by decide))) .nil))) (.row (by decide) rfl (fr_map fun _ => rfl) .nil))
  · replace h := ifF hc1 h
    refine Sv.exit ?_
    exact hK0 s_1 hzs1 h _ (weak_canon [0] rfl (by decide) (by decide) (by decide) (.cons rfl (.c (lstC_ren rfl (by decide))) .nil) (.row (by decide) rfl (fr_map fun _ => rfl) .nil))
/-- slices.Reverse(()clerestory/api.JVal,clerestory/api.JVal) -/
noncomputable def slices_Reverse_JVal (s_ : (List TJVal)) : Option (List TJVal) :=
  lim fun kk => slices_Reverse_JVal_l0 (fun (s_2 : (List TJVal)) => 
      some s_2) kk s_ 0 (wi ((s_.length : Int) - 1))
theorem slices_Reverse_JVal_ok {Γ : Glob} {s_ : (List TJVal)} {zs : Bool} (hzs : zs = true → s_ = []) {r : (List TJVal)} (h : slices_Reverse_JVal s_ = some r) : ACalls Try.prog Γ 57 [(lstV zs 0 3 s_.length)] (upd (fun _ => none) 0 (lstB zs 3 (s_.map e_TJVal))) 1 (slices_Reverse_JVal_post zs r) := by
  refine acalls_of_sv hmix c57 (R := slices_Reverse_JVal_post zs r) ?_
  unfold slices_Reverse_JVal at h
  refine Sv.seq ?_
  refine Sv.region ?_
  refine un (a1 rfl ?_)
  refine un (a1 (v := (I (s_.length : Int))) (s_lenL rfl (len_nil_of hzs)) ?_)
  refine un (a1 (v := (I (wi ((s_.length : Int) - 1)))) rfl ?_)
  refine un (a1 rfl ?_)
  refine un (a1 rfl ?_)
  refine dnil ?_
  refine Sv.block ?_
  obtain ⟨kk, h⟩ := lim_some h
  refine Sv.weak (weak_canon [0] rfl (by decide) (by decide) (by decide) (.cons rfl (avAs_free rfl) (.cons rfl (avAs_free rfl) (.cons rfl (.c (lstC_ren rfl (by decide))) .nil))) (.row (by decide) rfl (fr_map fun _ => rfl) .nil)) (slices_Reverse_JVal_l0_ok hzs h ?_ (fun s hs => hs))
  · intro s_2 hzs2 h _ hw1
    replace h := Option.some.inj h
    subst h
    exact ⟨_, hw1, _, rfl, ⟨upd (fun _ => none) 0 (some (.tup [])), (upd (fun _ => none) 0 (lstB zs 3 (s_2.map e_TJVal))), 1⟩, (.tup []), weak_canon2 [0] [0] (by decide) (by decide) (by decide) (.cons (by decide) .nil) (.cons rfl (avAs_tup .nil) .nil) (.row (by decide) rfl (fr_map fun _ => rfl) .nil), rfl, rfl, rfl, rfl⟩
def a72_c0 : ACode := (.seq (.region [⟨(some 9), (.bin .lss (.tmp 8) (.tmp 7)), none⟩])
 (.seq (.cond (.tmp 9) .skip (.exit 0))
 (.seq (.block 1 (.seq (.region [⟨(some 10), (.mov (.tmp 8)), none⟩, ⟨(some 5), (.mov (.tmp 10)), none⟩])
 (.seq (.region [⟨(some 11), (.mov (.tmp 1)), none⟩, ⟨(some 12), (.mov (.tmp 0)), none⟩, ⟨(some 13), (.mov (.tmp 5)), none⟩, ⟨(some 14), (.iaddr 1 (.tmp 12) (.tmp 13)), none⟩, ⟨(some 15), (.load false 1 (.tmp 14)), none⟩, ⟨(some 16), (.bin .eql (.tmp 11) (.tmp 15)), none⟩])
 (.cond (.tmp 16) (.seq (.region [⟨(some 17), (.mov (.tmp 5)), none⟩, ⟨(some 4), (.mov (.tmp 17)), none⟩])
 .ret) .skip))))
 (.region [⟨(some 18), (.bin .add (.tmp 8) (.const (.c (.val (.int .i64 1))))), none⟩, ⟨(some 8), (.mov (.tmp 18)), none⟩]))))
def a72 : AFunc := ⟨2, [(.tmp 4)], (.seq (.region [⟨(some 4), (.mov (.const (.c (.val (.int .i64 0))))), none⟩])
 (.seq (.seq (.region [⟨(some 6), (.mov (.tmp 0)), none⟩, ⟨(some 7), (.len (.tmp 6)), none⟩, ⟨(some 8), (.mov (.const (.c (.val (.int .i64 0))))), none⟩])
 (.block 0 (.loop a72_c0)))
 (.seq (.region [⟨(some 4), (.mov (.const (.c (.val (.int .i64 (-1)))))), none⟩])
 .ret)))⟩
set_option maxRecDepth 100000 in
theorem c72 : compFunc Try.prog 72 = some a72 := by kernel_rfl
def slices_Index_int_post (r : Int) : AV → Heap → Nat → Prop := fun v h' n' => v = (I r) ∧ (h' = (fun _ => none)) ∧ n' = 0
abbrev slices_Index_int_l0_E0 (F_ : Unit → Option Int) (o : Int) (R_ : St → Prop) : Prop := ∀ (_ : Unit), F_ () = some o → ∀ s, Weak 0 s ⟨(fun _ => none), (fun _ => none), 0⟩ → R_ s
abbrev slices_Index_int_l0_I (s_ : (List Int)) (v_ : Int) (F_ : Nat → Int → Option Int) (o : Int) : Nat → St → Prop := fun k s => ∃ (v8 : Int), F_ k v8 = some o ∧ s = ⟨(upd (upd (upd (upd (fun _ => none) 0 (some (.c (.ro false 1 (s_.map eI))))) 1 (some (I v_))) 7 (some (I (s_.length : Int)))) 8 (some (I v8))), (fun _ => none), 0⟩
abbrev slices_Index_int_l0_H (s_ : (List Int)) (v_ : Int) (F_ : Int → Option Int) (o : Int) (R_ : St → Prop) : Prop := ∀ (v8 : Int), F_ v8 = some o → ∀ s, Weak 0 s ⟨(upd (upd (upd (upd (fun _ => none) 0 (some (.c (.ro false 1 (s_.map eI))))) 1 (some (I v_))) 7 (some (I (s_.length : Int)))) 8 (some (I v8))), (fun _ => none), 0⟩ → R_ s
noncomputable def slices_Index_int_l0 (s_ : (List Int)) (v_ : Int) (K0_ : Unit → Option Int) : Nat → Int → Option Int
  | 0, _ => none
  | k + 1, v8 =>
    if decide (v8 < (s_.length : Int)) then
      (at? s_ v8).bind fun x_ =>
      if decide (v_ = x_) then
        some v8
      else
        (slices_Index_int_l0 s_ v_ K0_ k) (wi (v8 + 1))
    else
      K0_ ()
theorem slices_Index_int_l0_ok {Γ : Glob} {Q : AExit → St → Prop} {s_ : (List Int)} {v_ : Int} {K0_ : Unit → Option Int} {k : Nat} {v8 : Int} {o : Int} (h : slices_Index_int_l0 s_ v_ K0_ k v8 = some o)
    (hK0 : slices_Index_int_l0_E0 K0_ o (Q (.exit 0)))
    (hr : ∀ s, Ends a72.results 0 (slices_Index_int_post o) .ret s → Q .ret s) :
    Sv Try.prog Γ 0 (.loop a72_c0) Q ⟨(upd (upd (upd (upd (fun _ => none) 0 (some (.c (.ro false 1 (s_.map eI))))) 1 (some (I v_))) 7 (some (I (s_.length : Int)))) 8 (some (I v8))), (fun _ => none), 0⟩ := by
  refine Sv.loop (I := slices_Index_int_l0_I s_ v_ (slices_Index_int_l0 s_ v_ K0_) o) (fun k s hI => ?_) ⟨v8, h, rfl⟩
  clear h
  clear v8
  obtain ⟨v8, h, rfl⟩ := hI
  cases k with
  | zero => cases h
  | succ k =>
  rw [slices_Index_int_l0] at h
  have hself : slices_Index_int_l0_H s_ v_ (slices_Index_int_l0 s_ v_ K0_ k) o (rnd 0 (slices_Index_int_l0_I s_ v_ (slices_Index_int_l0 s_ v_ K0_) o) k Q) := fun v8 h s hw => ⟨_, k, hw, Nat.lt_succ_self k, v8, h, rfl⟩
  refine Sv.seq ?_
  refine Sv.region ?_
  refine un (a1 (v := (B (decide (v8 < (s_.length : Int))))) rfl ?_)
  refine dnil ?_
  refine Sv.seq ?_
  refine Sv.cond (b := decide (v8 < (s_.length : Int))) rfl (fun hc1 => ?_) (fun hc1 => ?_)
  · replace h := ifT hc1 h
    refine Sv.skip ?_
    refine Sv.seq ?_
    refine Sv.block ?_
    refine Sv.seq ?_
    refine Sv.region ?_
    refine un (a1 rfl ?_)
    refine un (a1 rfl ?_)
    refine dnil ?_
    refine Sv.seq ?_
    refine Sv.region ?_
    refine un (a1 rfl ?_)
    refine un (a1 rfl ?_)
    refine un (a1 rfl ?_)
    obtain ⟨x_, hx1, h⟩ := bnd h
    refine un (a1 (v := (.c (.rop [cI x_]))) (s_iaddr (e := eI) (xs := s_) rfl rfl hx1) ?_)
    refine un (a1 (v := (I x_)) rfl ?_)
    refine un (a1 (v := (B (decide (v_ = x_)))) rfl ?_)
    refine dnil ?_
    refine Sv.cond (b := decide (v_ = x_)) rfl (fun hc2 => ?_) (fun hc2 => ?_)
    · replace h := ifT hc2 h
      refine Sv.seq ?_
      refine Sv.region ?_
      refine un (a1 rfl ?_)
      refine un (a1 rfl ?_)
      refine dnil ?_
      refine Sv.ret ?_
      replace h := Option.some.inj h
      subst h
      exact hr _ ⟨_, .refl _, _, rfl, ⟨upd (fun _ => none) 0 (some (I v8)), (fun _ => none), 0⟩, (I v8), weak_canon [] rfl List.nodup_nil (Nat.le_refl _) (fun b h => absurd h (Nat.not_lt_zero _)) (.cons rfl (avAs_free rfl) .nil) .nil, rfl, rfl, rfl, rfl⟩
    · replace h := ifF hc2 h
      refine Sv.skip ?_
      refine Sv.region ?_
      refine un (a1 (v := (I (wi (v8 + 1)))) rfl ?_)
      refine un (a1 rfl ?_)
      refine dnil ?_
      exact hself (wi (v8 + 1)) h _ (weak_canon [] rfl (by decide) (by decide) (fun b h => absurd h (Nat.not_lt_zero _)) (.cons rfl (avAs_free rfl) (.cons rfl (avAs_free rfl) (.cons rfl (avAs_free rfl) (.cons rfl (avAs_free rfl) .nil)))) .nil)
  · replace h := ifF hc1 h
    refine Sv.exit ?_
    exact hK0 () h _ (weak_canon [] rfl (by decide) (by decide) (fun b h => absurd h (Nat.not_lt_zero _)) .nil .nil)
/-- slices.Index(()int,int) -/
noncomputable def slices_Index_int (s_ : (List Int)) (v_ : Int) : Option Int :=
  lim fun kk => slices_Index_int_l0 s_ v_ (fun (_ : Unit) => 
      some (-1)) kk 0
theorem slices_Index_int_ok {Γ : Glob} {s_ : (List Int)} {v_ : Int} {r : Int} (h : slices_Index_int s_ v_ = some r) : CPure Try.prog Γ 72 [(.c (.ro false 1 (s_.map eI))), (I v_)] (I r) := by
  refine acalls_of_sv hmix c72 (R := slices_Index_int_post r) ?_
  unfold slices_Index_int at h
  refine Sv.seq ?_
  refine Sv.region ?_
  refine un (a1 rfl ?_)
  refine dnil ?_
  refine Sv.seq ?_
  refine Sv.seq ?_
  refine Sv.region ?_
  refine un (a1 rfl ?_)
  refine un (a1 (v := (I (s_.length : Int))) (s_len (e := eI) (xs := s_) rfl) ?_)
  refine un (a1 rfl ?_)
  refine dnil ?_
  refine Sv.block ?_
  obtain ⟨kk, h⟩ := lim_some h
  refine Sv.weak (weak_canon [] rfl (by decide) (by decide) (fun b h => absurd h (Nat.not_lt_zero _)) (.cons rfl (avAs_free rfl) (.cons rfl (avAs_free rfl) (.cons rfl (avAs_free rfl) (.cons rfl (avAs_free rfl) .nil)))) .nil) (slices_Index_int_l0_ok h ?_ (fun s hs => hs))
  · intro _ h _ hw1
    refine Sv.weak hw1 ?_
    refine Sv.seq ?_
    refine Sv.region ?_
    refine un (a1 rfl ?_)
    refine dnil ?_
    refine Sv.ret ?_
    replace h := Option.some.inj h
    subst h
    exact ⟨_, .refl _, _, rfl, ⟨upd (fun _ => none) 0 (some (I (-1))), (fun _ => none), 0⟩, (I (-1)), weak_canon [] rfl List.nodup_nil (Nat.le_refl _) (fun b h => absurd h (Nat.not_lt_zero _)) (.cons rfl (avAs_free rfl) .nil) .nil, rfl, rfl, rfl, rfl⟩
def a37 : AFunc := ⟨2, [(.tmp 4)], (.seq (.region [⟨(some 4), (.mov (.const (.c (.val (.bool false))))), none⟩])
 (.seq (.region [⟨(some 5), (.mov (.tmp 0)), none⟩, ⟨(some 6), (.mov (.tmp 1)), none⟩, ⟨(some 7), (.call 72 [(.tmp 5), (.tmp 6)]), none⟩, ⟨(some 8), (.bin .geq (.tmp 7) (.const (.c (.val (.int .i64 0))))), none⟩, ⟨(some 4), (.mov (.tmp 8)), none⟩])
 .ret))⟩
set_option maxRecDepth 100000 in
theorem c37 : compFunc Try.prog 37 = some a37 := by kernel_rfl
def slices_Contains_int_post (r : Bool) : AV → Heap → Nat → Prop := fun v h' n' => v = (B r) ∧ (h' = (fun _ => none)) ∧ n' = 0
/-- slices.Contains(()int,int) -/
noncomputable def slices_Contains_int (s_ : (List Int)) (v_ : Int) : Option Bool :=
  (slices_Index_int s_ v_).bind fun r_ =>
  some (decide (0 ≤ r_))
theorem slices_Contains_int_ok {Γ : Glob} {s_ : (List Int)} {v_ : Int} {r : Bool} (h : slices_Contains_int s_ v_ = some r) : CPure Try.prog Γ 37 [(.c (.ro false 1 (s_.map eI))), (I v_)] (B r) := by
  refine acalls_of_sv hmix c37 (R := slices_Contains_int_post r) ?_
  unfold slices_Contains_int at h
  refine Sv.seq ?_
  refine Sv.region ?_
  refine un (a1 rfl ?_)
  refine dnil ?_
  refine Sv.seq ?_
  refine Sv.region ?_
  refine un (a1 rfl ?_)
  refine un (a1 rfl ?_)
  obtain ⟨r_, hr1, h⟩ := bnd h
  refine un (ac_pure (slices_Index_int_ok hr1) rfl rfl rfl ?_)
  refine un (a1 (v := (B (decide (0 ≤ r_)))) rfl ?_)
  refine un (a1 rfl ?_)
  refine dnil ?_
  refine Sv.ret ?_
  replace h := Option.some.inj h
  subst h
  exact ⟨_, .refl _, _, rfl, ⟨upd (fun _ => none) 0 (some (B (decide (0 ≤ r_)))), (fun _ => none), 0⟩, (B (decide (0 ≤ r_))), weak_canon [] rfl List.nodup_nil (Nat.le_refl _) (fun b h => absurd h (Nat.not_lt_zero _)) (.cons rfl (avAs_free rfl) .nil) .nil, rfl, rfl, rfl, rfl⟩
def a25_c0 : ACode := (.cond (.tmp 35) (.exit 1) .skip)
def a25_c1 : ACode := (.seq (.region [⟨(some 36), (.mov (.tmp 6)), none⟩, ⟨(some 37), (.faddr 1 (.tmp 7)), none⟩, ⟨(some 38), (.load false 1 (.tmp 37)), none⟩, ⟨(some 39), (.bslice 1 [(.val (.int .i64 0))] 1 [(0, (.tmp 38))]), none⟩, ⟨(some 40), (.app 1 8 (.tmp 36) (.tmp 39)), none⟩, ⟨(some 6), (.mov (.tmp 40)), none⟩])
 (.seq (.region [⟨(some 41), (.mov (.tmp 0)), none⟩, ⟨(some 42), (.faddr 1 (.tmp 7)), none⟩, ⟨(some 43), (.load false 1 (.tmp 42)), none⟩, ⟨(some 44), (.iaddr 3 (.tmp 41) (.tmp 43)), none⟩, ⟨(some 45), (.faddr 2 (.tmp 44)), none⟩, ⟨(some 46), (.load false 1 (.tmp 45)), none⟩, ⟨(some 47), (.call 56 [(.tmp 46)]), none⟩, ⟨(some 8), (.mov (.tmp 47)), none⟩])
 (.seq (.region [⟨(some 48), (.mov (.tmp 8)), none⟩, ⟨(some 49), (.call 57 [(.tmp 48)]), none⟩])
 (.region [⟨(some 50), (.mov (.tmp 5)), none⟩, ⟨(some 51), (.mov (.tmp 8)), none⟩, ⟨(some 52), (.app 3 32 (.tmp 50) (.tmp 51)), none⟩, ⟨(some 5), (.mov (.tmp 52)), none⟩]))))
def a25_c2 : ACode := (.seq (.seq (.region [⟨(some 13), (.mov (.tmp 5)), none⟩, ⟨(some 14), (.len (.tmp 13)), none⟩, ⟨(some 15), (.bin .gtr (.tmp 14) (.const (.c (.val (.int .i64 0))))), none⟩])
 (.cond (.tmp 15) .skip (.exit 0)))
 (.block 1 (.seq (.region [⟨(some 16), (.mov (.tmp 5)), none⟩, ⟨(some 17), (.mov (.tmp 5)), none⟩, ⟨(some 18), (.len (.tmp 17)), none⟩, ⟨(some 19), (.bin .sub (.tmp 18) (.const (.c (.val (.int .i64 1))))), none⟩, ⟨(some 20), (.iaddr 3 (.tmp 16) (.tmp 19)), none⟩, ⟨(some 21), (.load true 3 (.tmp 20)), none⟩, ⟨(some 7), (.box (.const (.agg [(.val (.int .i64 0)), (.val (.int .i64 0)), (.str [])]))), none⟩, ⟨none, (.store 3 (.tmp 7) (.tmp 21)), none⟩])
 (.seq (.region [⟨(some 22), (.mov (.tmp 5)), none⟩, ⟨(some 23), (.mov (.tmp 5)), none⟩, ⟨(some 24), (.len (.tmp 23)), none⟩, ⟨(some 25), (.bin .sub (.tmp 24) (.const (.c (.val (.int .i64 1))))), none⟩, ⟨(some 26), (.slSl 3 (.tmp 22) none (some (.tmp 25)) none), none⟩, ⟨(some 5), (.mov (.tmp 26)), none⟩])
 (.seq (.seq (.region [⟨(some 27), (.faddr 0 (.tmp 7)), none⟩, ⟨(some 28), (.load false 1 (.tmp 27)), none⟩, ⟨(some 29), (.bin .neq (.tmp 28) (.const (.c (.val (.int .i64 4))))), none⟩, ⟨(some 30), (.mov (.tmp 29)), none⟩, ⟨(some 31), (.mov (.tmp 6)), (some (30, false))⟩, ⟨(some 32), (.faddr 1 (.tmp 7)), (some (30, false))⟩, ⟨(some 33), (.load false 1 (.tmp 32)), (some (30, false))⟩, ⟨(some 34), (.call 37 [(.tmp 31), (.tmp 33)]), (some (30, false))⟩, ⟨(some 35), (.pick (.tmp 30) (.const (.c (.val (.bool true)))) (.tmp 34)), none⟩])
 a25_c0)
 a25_c1)))))
def a25 : AFunc := ⟨2, [(.tmp 4)], (.seq (.region [⟨(some 4), (.mov (.const (.c (.ro true 1 [])))), none⟩])
 (.seq (.region [⟨(some 9), (.mov (.tmp 1)), none⟩, ⟨(some 10), (.call 56 [(.tmp 9)]), none⟩, ⟨(some 5), (.mov (.tmp 10)), none⟩])
 (.seq (.region [⟨(some 11), (.mov (.tmp 5)), none⟩, ⟨(some 12), (.call 57 [(.tmp 11)]), none⟩])
 (.seq (.region [⟨(some 6), (.mov (.const (.c (.ro true 1 [])))), none⟩])
 (.seq (.block 0 (.loop a25_c2))
 (.seq (.region [⟨(some 53), (.mov (.tmp 6)), none⟩, ⟨(some 4), (.mov (.tmp 53)), none⟩])
 .ret))))))⟩
set_option maxRecDepth 100000 in
theorem c25 : compFunc Try.prog 25 = some a25 := by kernel_rfl
def clerestoryref4_ReachedCells_post (r : (List Int)) : AV → Heap → Nat → Prop := fun v h' n' => ∃ z0 : Bool, (z0 = true → r = []) ∧ v = (lstV z0 0 1 r.length) ∧ (h' = (upd (fun _ => none) 0 (lstB z0 1 (r.map eI)))) ∧ n' = 1
abbrev clerestoryref4_ReachedCells_q0 (Γ : Glob) (Q : AExit → St → Prop) : AExit → St → Prop := ABlock 1 Q
abbrev clerestoryref4_ReachedCells_q1 (Γ : Glob) (Q : AExit → St → Prop) : AExit → St → Prop := AThen (Sv Try.prog Γ 0 a25_c1 (clerestoryref4_ReachedCells_q0 Γ Q)) (clerestoryref4_ReachedCells_q0 Γ Q)
abbrev clerestoryref4_ReachedCells_l0_H (h_ : (List TJCell)) (F_ : (List TJVal) → (List Int) → Option (List Int)) (o : (List Int)) (R_ : St → Prop) : Prop := ∀ (todo : (List TJVal)) (out : (List Int)) (ztodo : Bool) (_ : ztodo = true → todo = []) (zout : Bool) (_ : zout = true → out = []), F_ todo out = some o → ∀ s, Weak 0 s ⟨(upd (upd (upd (fun _ => none) 0 (some (.c (.ro false 3 (h_.map e_TJCell))))) 5 (some (lstV ztodo 0 3 todo.length))) 6 (some (lstV zout 1 1 out.length))), (upd (upd (fun _ => none) 0 (lstB ztodo 3 (todo.map e_TJVal))) 1 (lstB zout 1 (out.map eI))), 2⟩ → R_ s
abbrev clerestoryref4_ReachedCells_l0_E0 (F_ : (List Int) → Option (List Int)) (o : (List Int)) (R_ : St → Prop) : Prop := ∀ (out1 : (List Int)) (zout1 : Bool) (_ : zout1 = true → out1 = []), F_ out1 = some o → ∀ s, Weak 0 s ⟨(upd (fun _ => none) 6 (some (lstV zout1 0 1 out1.length))), (upd (fun _ => none) 0 (lstB zout1 1 (out1.map eI))), 1⟩ → R_ s
noncomputable def clerestoryref4_ReachedCells_j3 (x_ : TJVal) (h_ : (List TJCell)) (self : (List TJVal) → (List Int) → Option (List Int)) (K0_ : (List Int) → Option (List Int)) (todo1 : (List TJVal)) (out2 : (List Int)) (v35 : Bool) : Option (List Int) :=
  if v35 then
    self todo1 out2
  else
    (app? 8 out2 [x_.N]).bind fun r_3 =>
    (at? h_ x_.N).bind fun x_1 =>
    (slices_Clone_JVal x_1.Vals).bind fun r_4 =>
    (slices_Reverse_JVal r_4).bind fun r_5 =>
    guardLen r_4 r_5 <|
    (app? 32 todo1 r_5).bind fun r_6 =>
    self r_6 r_3
theorem clerestoryref4_ReachedCells_j3_ok {Γ : Glob} {Q : AExit → St → Prop} {x_ : TJVal} {h_ : (List TJCell)} {self : (List TJVal) → (List Int) → Option (List Int)} {K0_ : (List Int) → Option (List Int)} {todo1 : (List TJVal)} {out2 : (List Int)} {v35 : Bool} {ztodo1 : Bool} (hztodo1 : ztodo1 = true → todo1 = []) {zout2 : Bool} (hzout2 : zout2 = true → out2 = []) {o : (List Int)} (h : clerestoryref4_ReachedCells_j3 x_ h_ self K0_ todo1 out2 v35 = some o)
    (hself : clerestoryref4_ReachedCells_l0_H h_ self o (Q .normal))
    (hK0 : clerestoryref4_ReachedCells_l0_E0 K0_ o (Q (.exit 0)))
    (hr : ∀ s, Ends a25.results 0 (clerestoryref4_ReachedCells_post o) .ret s → Q .ret s) :
    Sv Try.prog Γ 0 a25_c0 (clerestoryref4_ReachedCells_q1 Γ Q) ⟨(upd (upd (upd (upd (upd (fun _ => none) 0 (some (.c (.ro false 3 (h_.map e_TJCell))))) 5 (some (lstV ztodo1 0 3 todo1.length))) 6 (some (lstV zout2 1 1 out2.length))) 7 (some (.c (.ref 2 3 0 0)))) 35 (some (B v35))), (upd (upd (upd (fun _ => none) 0 (lstB ztodo1 3 (todo1.map e_TJVal))) 1 (lstB zout2 1 (out2.map eI))) 2 (some (.cells 3 [[cI x_.Kind, cI x_.N, .str x_.S]]))), 3⟩ := by
  unfold clerestoryref4_ReachedCells_j3 at h
  refine Sv.cond (b := v35) rfl (fun hc2 => ?_) (fun hc2 => ?_)
  · replace h := ifT hc2 h
    refine Sv.exit ?_
    exact hself todo1 out2 ztodo1 hztodo1 zout2 hzout2 h _ (weak_canon [0, 1] rfl (by decide) (by decide) (fun b h => absurd h (Nat.not_lt_zero _)) (.cons rfl (.c (lstC_ren rfl (by decide))) (.cons rfl (.c (lstC_ren rfl (by decide))) (.cons rfl (avAs_free rfl) .nil))) (.row (by decide) rfl (fr_map fun _ => rfl) (.row (by decide) rfl (fr_map fun _ => rfl) .nil)))
  · replace h := ifF hc2 h
    refine Sv.skip ?_
    refine Sv.seq ?_
    refine Sv.region ?_
    refine un (a1 rfl ?_)
    refine un (a1 (v := (.c (.ref 2 3 0 1))) rfl ?_)
    refine un (a1 (v := (I x_.N)) rfl ?_)
    refine un (a2v (v := (lstV false 3 1 [x_.N].length)) (h' := upd _ 3 (lstB false 1 ([x_.N].map eI))) (n' := 4) rfl rfl (fun h => by cases h) ?_)
    obtain ⟨r_3, hr3, h⟩ := bnd h
    have hz1 : (zout2 && [x_.N].isEmpty) = true → r_3 = [] := app_nil (z := zout2) (ys := [x_.N]) hzout2 hr3
    refine un (a2v rfl (s_app (xs := out2) (ys := [x_.N]) (e := eI) (z := zout2) (b := 1) rfl rfl hzout2 rfl rfl (slc_lst rfl (List.length_map _).symm (map_nil_of (fun h => by cases h))) hr3) (fun h => by cases h) ?_)
    refine un (a1 rfl ?_)
    refine dnil ?_
    refine Sv.seq ?_
    refine Sv.region ?_
    refine un (a1 rfl ?_)
    refine un (a1 (v := (.c (.ref 2 3 0 1))) rfl ?_)
    refine un (a1 (v := (I x_.N)) rfl ?_)
    obtain ⟨x_1, hx3, h⟩ := bnd h
    refine un (a1 (v := (.c (.rop [cI x_1.Kind, .ro false 1 (x_1.Names.map eStr), .ro false 3 (x_1.Vals.map e_TJVal)]))) (s_iaddr (e := e_TJCell) (xs := h_) rfl rfl hx3) ?_)
    refine un (a1 (v := (.c (.rop [.ro false 3 (x_1.Vals.map e_TJVal)]))) rfl ?_)
    refine un (a1 (v := (.c (.ro false 3 (x_1.Vals.map e_TJVal)))) rfl ?_)
    obtain ⟨r_4, hr4, h⟩ := bnd h
    refine un (ac_gen (bs := []) («as» := [(.c (.ro false 3 (x_1.Vals.map e_TJVal)))]) (h2 := _) (h1 := (fun _ => none)) (slices_Clone_JVal_ok hr4) rfl (.cons (avAs_free rfl) .nil) (hsub_refl _) (.nil _) (fun _ => rfl) (by decide) (by decide) (.cons (avAs_free rfl) .nil) .nil ?_)
    rintro _ _ _ hn ⟨z_1, hz_1, rfl, rfl, rfl⟩
    refine ⟨.inl rfl, (upd (rem [] _) 5 (lstB z_1 3 (r_4.map e_TJVal))), fun hbd => (m3_cons (m3_row rfl (fr_map fun _ => rfl)) (m3_rem (in_nil _) (.cons (by decide) .nil) hbd)), (lstV z_1 5 3 r_4.length), 6, (by cases z_1 <;> rfl), rfl, ?_⟩
    refine un (a1 rfl ?_)
    refine dnil ?_
    refine Sv.seq ?_
    refine Sv.region ?_
    refine un (a1 rfl ?_)
    obtain ⟨r_5, hr5, h⟩ := bnd h
    refine un (ac_gen (bs := [5]) («as» := [(lstV z_1 5 3 r_4.length)]) (h2 := _) (h1 := (upd (fun _ => none) 5 (lstB z_1 3 (r_4.map e_TJVal)))) (slices_Reverse_JVal_ok hz_1 hr5) rfl (.cons (.c (lstC_ren rfl (by decide))) .nil) (hsub_refl _) (.cons rfl (.nil _)) (fun h => by cases h) (by decide) (by decide) (.cons (.c (lstC_ren rfl (by decide))) .nil) (.row (by decide) rfl (fr_map fun _ => rfl) .nil) ?_)
    rintro _ _ _ hn ⟨rfl, rfl, rfl⟩
    refine ⟨.inl rfl, (upd (rem [5] _) 5 (lstB z_1 3 (r_5.map e_TJVal))), fun hbd => (m3_cons (m3_row rfl (fr_map fun _ => rfl)) (m3_rem (in_cons (by decide) (in_nil _)) (.cons (by decide) .nil) hbd)), (.tup []), 6, rfl, rfl, ?_⟩
    obtain ⟨hlen1, h⟩ := guard_some h
    try rw [hlen1]
    refine dnil ?_
    refine Sv.region ?_
    refine un (a1 rfl ?_)
    refine un (a1 rfl ?_)
    obtain ⟨r_6, hr6, h⟩ := bnd h
    have hz2 : (ztodo1 && r_5.isEmpty) = true → r_6 = [] := app_nil (z := ztodo1) (ys := r_5) hztodo1 hr6
    refine un (a2v rfl (s_app (xs := todo1) (ys := r_5) (e := e_TJVal) (z := ztodo1) (b := 0) rfl rfl hztodo1 rfl rfl (slc_lst rfl (List.length_map _).symm (map_nil_of (hz_len hz_1 hlen1))) hr6) (fun h => by cases h) ?_)
    refine un (a1 rfl ?_)
    refine dnil ?_
    exact hself r_6 r_3 (ztodo1 && r_5.isEmpty) hz2 (zout2 && [x_.N].isEmpty) hz1 h _ (weak_canon [6, 4] rfl (by decide) (by decide) (fun b h => absurd h (Nat.not_lt_zero _)) (.cons rfl (.c (lstC_ren rfl (by decide))) (.cons rfl (.c (lstC_ren rfl (by decide))) (.cons rfl (avAs_free rfl) .nil))) (.row (by decide) rfl (fr_map fun _ => rfl) (.row (by decide) rfl (fr_map fun _ => rfl) .nil)))
abbrev clerestoryref4_ReachedCells_l0_I (h_ : (List TJCell)) (F_ : Nat → (List TJVal) → (List Int) → Option (List Int)) (o : (List Int)) : Nat → St → Prop := fun k s => ∃ (todo : (List TJVal)), ∃ (out : (List Int)), ∃ (ztodo : Bool), (ztodo = true → todo = []) ∧ ∃ (zout : Bool), (zout = true → out = []) ∧ F_ k todo out = some o ∧ s = ⟨(upd (upd (upd (fun _ => none) 0 (some (.c (.ro false 3 (h_.map e_TJCell))))) 5 (some (lstV ztodo 0 3 todo.length))) 6 (some (lstV zout 1 1 out.length))), (upd (upd (fun _ => none) 0 (lstB ztodo 3 (todo.map e_TJVal))) 1 (lstB zout 1 (out.map eI))), 2⟩
noncomputable def clerestoryref4_ReachedCells_l0 (h_ : (List TJCell)) (K0_ : (List Int) → Option (List Int)) : Nat → (List TJVal) → (List Int) → Option (List Int)
  | 0, _, _ => none
  | k + 1, todo, out =>
    if decide (0 < (todo.length : Int)) then
      (at? todo (wi ((todo.length : Int) - 1))).bind fun x_ =>
      (sub? todo 0 (wi ((todo.length : Int) - 1))).bind fun r_2 =>
      if (!decide (x_.Kind = 4)) then
        clerestoryref4_ReachedCells_j3 x_ h_ (clerestoryref4_ReachedCells_l0 h_ K0_ k) K0_ r_2 out true
      else
        (slices_Contains_int out x_.N).bind fun r_7 =>
        clerestoryref4_ReachedCells_j3 x_ h_ (clerestoryref4_ReachedCells_l0 h_ K0_ k) K0_ r_2 out r_7
    else
      K0_ out
theorem clerestoryref4_ReachedCells_l0_ok {Γ : Glob} {Q : AExit → St → Prop} {h_ : (List TJCell)} {K0_ : (List Int) → Option (List Int)} {k : Nat} {todo : (List TJVal)} {out : (List Int)} {ztodo : Bool} (hztodo : ztodo = true → todo = []) {zout : Bool} (hzout : zout = true → out = []) {o : (List Int)} (h : clerestoryref4_ReachedCells_l0 h_ K0_ k todo out = some o)
    (hK0 : clerestoryref4_ReachedCells_l0_E0 K0_ o (Q (.exit 0)))
    (hr : ∀ s, Ends a25.results 0 (clerestoryref4_ReachedCells_post o) .ret s → Q .ret s) :
    Sv Try.prog Γ 0 (.loop a25_c2) Q ⟨(upd (upd (upd (fun _ => none) 0 (some (.c (.ro false 3 (h_.map e_TJCell))))) 5 (some (lstV ztodo 0 3 todo.length))) 6 (some (lstV zout 1 1 out.length))), (upd (upd (fun _ => none) 0 (lstB ztodo 3 (todo.map e_TJVal))) 1 (lstB zout 1 (out.map eI))), 2⟩ := by
  refine Sv.loop (I := clerestoryref4_ReachedCells_l0_I h_ (clerestoryref4_ReachedCells_l0 h_ K0_) o) (fun k s hI => ?_) ⟨todo, out, ztodo, hztodo, zout, hzout, h, rfl⟩
  clear h
  clear hzout hztodo zout ztodo out todo
  obtain ⟨todo, out, ztodo, hztodo, zout, hzout, h, rfl⟩ := hI
  cases k with
  | zero => cases h
  | succ k =>
  rw [clerestoryref4_ReachedCells_l0] at h
  have hself : clerestoryref4_ReachedCells_l0_H h_ (clerestoryref4_ReachedCells_l0 h_ K0_ k) o (rnd 0 (clerestoryref4_ReachedCells_l0_I h_ (clerestoryref4_ReachedCells_l0 h_ K0_) o) k Q) := fun todo out ztodo hztodo zout hzout h s hw => ⟨_, k, hw, Nat.lt_succ_self k, todo, out, ztodo, hztodo, zout, hzout, h, rfl⟩
  refine Sv.seq ?_
  refine Sv.seq ?_
  refine Sv.region ?_
  refine un (a1 rfl ?_)
  refine un (a1 (v := (I (todo.length : Int))) (s_lenL rfl (len_nil_of hztodo)) ?_)
  refine un (a1 (v := (B (decide (0 < (todo.length : Int))))) rfl ?_)
  refine dnil ?_
  refine Sv.cond (b := decide (0 < (todo.length : Int))) rfl (fun hc1 => ?_) (fun hc1 => ?_)
  · replace h := ifT hc1 h
    refine Sv.skip ?_
    refine Sv.block ?_
    refine Sv.seq ?_
    refine Sv.region ?_
    refine un (a1 rfl ?_)
    refine un (a1 rfl ?_)
    refine un (a1 (v := (I (todo.length : Int))) (s_lenL rfl (len_nil_of hztodo)) ?_)
    refine un (a1 (v := (I (wi ((todo.length : Int) - 1)))) rfl ?_)
    obtain ⟨x_, hx1, h⟩ := bnd h
    refine un (a1 (v := (.c (.ref 0 3 (wi ((todo.length : Int) - 1)).toNat 0))) (s_iaddrL rfl rfl hztodo hx1) ?_)
    refine un (a1 (v := (.agg [cI x_.Kind, cI x_.N, .str x_.S])) (s_loadL (z := ztodo) (e := e_TJVal) rfl rfl hztodo hx1 rfl rfl) ?_)
    refine un (a2v (v := (.c (.ref 2 3 0 0))) (h' := upd _ 2 (some (.cells 3 [[cI 0, cI 0, .str []]]))) (n' := 3) rfl rfl (fun h => by cases h) ?_)
    refine un (a2n (h' := upd _ 2 (some (.cells 3 [[cI x_.Kind, cI x_.N, .str x_.S]]))) (n' := 3) rfl rfl (fun h => by cases h) ?_)
    refine dnil ?_
    refine Sv.seq ?_
    refine Sv.region ?_
    refine un (a1 rfl ?_)
    refine un (a1 rfl ?_)
    refine un (a1 (v := (I (todo.length : Int))) (s_lenL rfl (len_nil_of hztodo)) ?_)
    refine un (a1 (v := (I (wi ((todo.length : Int) - 1)))) rfl ?_)
    obtain ⟨r_2, hx2, h⟩ := bnd h
    refine un (a1 (v := (cutV ztodo 0 3 r_2.length todo.length)) (s_cutL rfl hztodo rfl rfl hx2) ?_)
    refine dweak (show Weak 0 _ ⟨(upd (upd (upd (upd (upd (upd (upd (upd (upd (upd (upd (fun _ => none) 0 (some (.c (.ro false 3 (h_.map e_TJCell))))) 6 (some (lstV zout 1 1 out.length))) 7 (some (.c (.ref 2 3 0 0)))) 14 (some (I (todo.length : Int)))) 15 (some (B (decide (0 < (todo.length : Int)))))) 18 (some (I (todo.length : Int)))) 19 (some (I (wi ((todo.length : Int) - 1))))) 21 (some (.agg [cI x_.Kind, cI x_.N, .str x_.S]))) 24 (some (I (todo.length : Int)))) 25 (some (I (wi ((todo.length : Int) - 1))))) 26 (some (lstV ztodo 0 3 r_2.length))), (upd (upd (upd (fun _ => none) 0 (lstB ztodo 3 (r_2.map e_TJVal))) 1 (lstB zout 1 (out.map eI))) 2 (some (.cells 3 [[cI x_.Kind, cI x_.N, .str x_.S]]))), 3⟩ from (weak_canon [0, 1, 2] rfl (by decide) (by decide) (fun b h => absurd h (Nat.not_lt_zero _)) (.cons rfl (.c (cut_ren rfl (by decide) (cut_le hx2))) (.cons rfl (avAs_free rfl) (.cons rfl (avAs_free rfl) (.cons rfl (avAs_free rfl) (.cons rfl (avAs_free rfl) (.cons rfl (avAs_free rfl) (.cons rfl (avAs_free rfl) (.cons rfl (avAs_free rfl) (.cons rfl (.c (.ref rfl (by decide))) (.cons rfl (.c (lstC_ren rfl (by decide))) (.cons rfl (avAs_free rfl) .nil))))))))))) (.box (by decide) rfl (blkAs_cells (.cons (.same rfl) (.cons (.same rfl) (.cons (.same rfl) .nil)))) (.row (by decide) rfl (fr_map fun _ => rfl) (.rowP (by decide) rfl (cutP hx2) (fr_map fun _ => rfl) .nil))))) ?_
    refine un (a1 rfl ?_)
    refine dnil ?_
    refine Sv.seq ?_
    refine Sv.seq ?_
    refine Sv.region ?_
    refine un (a1 (v := (.c (.ref 2 3 0 0))) rfl ?_)
    refine un (a1 (v := (I x_.Kind)) rfl ?_)
    refine un (a1 (v := (B (!decide (x_.Kind = 4)))) rfl ?_)
    refine un (a1 rfl ?_)
    refine split2 (fun hc3 => ?_) (fun hc3 => ?_)
    · replace h := ifT hc3 h
      refine gs rfl rfl ?_
      refine gs rfl rfl ?_
      refine gs rfl rfl ?_
      refine gs rfl rfl ?_
      refine un (a1 (v := (B true)) rfl ?_)
      refine dnil ?_
      exact Sv.weak (weak_canon [0, 1, 2] rfl (by decide) (by decide) (fun b h => absurd h (Nat.not_lt_zero _)) (.cons rfl (avAs_free rfl) (.cons rfl (.c (.ref rfl (by decide))) (.cons rfl (.c (lstC_ren rfl (by decide))) (.cons rfl (.c (lstC_ren rfl (by decide))) (.cons rfl (avAs_free rfl) .nil))))) (.box (by decide) rfl (blkAs_cells (.cons (.same rfl) (.cons (.same rfl) (.cons (.same rfl) .nil)))) (.row (by decide) rfl (fr_map fun _ => rfl) (.row (by decide) rfl (fr_map fun _ => rfl) .nil)))) (clerestoryref4_ReachedCells_j3_ok (cut_nil hztodo hx2) hzout h hself hK0 hr)
    · replace h := ifF hc3 h
      refine gt rfl (a1 rfl ?_)
      refine gt rfl (a1 (v := (.c (.ref 2 3 0 1))) rfl ?_)
      refine gt rfl (a1 (v := (I x_.N)) rfl ?_)
      obtain ⟨r_7, hr7, h⟩ := bnd h
      refine gt rfl (ac_lend (h2 := (upd _ 1 none)) (slices_Contains_int_ok hr7) rfl (.cons (.c (lstC_ro (es := List.map eI out) rfl (List.length_map eI).symm (map_nil_of hzout) (gone rfl) (fr_map fun _ => rfl))) (.cons (avAs_free rfl) .nil)) (hsub_none (hsub_refl _)) rfl rfl (.inr rfl) ?_)
      refine un (a1 (v := (B r_7)) rfl ?_)
      refine dnil ?_
      exact Sv.weak (weak_canon [0, 1, 2] rfl (by decide) (by decide) (fun b h => absurd h (Nat.not_lt_zero _)) (.cons rfl (avAs_free rfl) (.cons rfl (.c (.ref rfl (by decide))) (.cons rfl (.c (lstC_ren rfl (by decide))) (.cons rfl (.c (lstC_ren rfl (by decide))) (.cons rfl (avAs_free rfl) .nil))))) (.box (by decide) rfl (blkAs_cells (.cons (.same rfl) (.cons (.same rfl) (.cons (.same rfl) .nil)))) (.row (by decide) rfl (fr_map fun _ => rfl) (.row (by decide) rfl (fr_map fun _ => rfl) .nil)))) (clerestoryref4_ReachedCells_j3_ok (cut_nil hztodo hx2) hzout h hself hK0 hr)
  · replace h := ifF hc1 h
    refine Sv.exit ?_
    exact hK0 out zout hzout h _ (weak_canon [1] rfl (by decide) (by decide) (fun b h => absurd h (Nat.not_lt_zero _)) (.cons rfl (.c (lstC_ren rfl (by decide))) .nil) (.row (by decide) rfl (fr_map fun _ => rfl) .nil))
/-- clerestory/clerestoryref4.ReachedCells -/
noncomputable def clerestoryref4_ReachedCells (h_ : (List TJCell)) (roots : (List TJVal)) : Option (List Int) :=
  (slices_Clone_JVal roots).bind fun r_ =>
  (slices_Reverse_JVal r_).bind fun r_1 =>
  guardLen r_ r_1 <|
  lim fun kk => clerestoryref4_ReachedCells_l0 h_ (fun (out1 : (List Int)) => 
      some out1) kk r_1 ([] : List Int)
theorem clerestoryref4_ReachedCells_ok {Γ : Glob} {h_ : (List TJCell)} {roots : (List TJVal)} {r : (List Int)} (h : clerestoryref4_ReachedCells h_ roots = some r) : ACalls Try.prog Γ 25 [(.c (.ro false 3 (h_.map e_TJCell))), (.c (.ro false 3 (roots.map e_TJVal)))] (fun _ => none) 0 (clerestoryref4_ReachedCells_post r) := by
  refine acalls_of_sv hmix c25 (R := clerestoryref4_ReachedCells_post r) ?_
  unfold clerestoryref4_ReachedCells at h
  refine Sv.seq ?_
  refine Sv.region ?_
  refine un (a1 rfl ?_)
  refine dnil ?_
  refine Sv.seq ?_
  refine Sv.region ?_
  refine un (a1 rfl ?_)
  obtain ⟨r_, hr1, h⟩ := bnd h
  refine un (ac_gen (bs := []) («as» := [(.c (.ro false 3 (roots.map e_TJVal)))]) (h2 := _) (h1 := (fun _ => none)) (slices_Clone_JVal_ok hr1) rfl (.cons (avAs_free rfl) .nil) (hsub_refl _) (.nil _) (fun _ => rfl) (by decide) (by decide) (.cons (avAs_free rfl) .nil) .nil ?_)
  rintro _ _ _ hn ⟨z_, hz_, rfl, rfl, rfl⟩
  refine ⟨.inl rfl, (upd (rem [] _) 0 (lstB z_ 3 (r_.map e_TJVal))), fun hbd => (m3_cons (m3_row rfl (fr_map fun _ => rfl)) (m3_rem (in_nil _) (.cons (by decide) .nil) hbd)), (lstV z_ 0 3 r_.length), 1, (by cases z_ <;> rfl), rfl, ?_⟩
  refine un (a1 rfl ?_)
  refine dnil ?_
  refine Sv.seq ?_
  refine Sv.region ?_
  refine un (a1 rfl ?_)
  obtain ⟨r_1, hr2, h⟩ := bnd h
  refine un (ac_gen (bs := [0]) («as» := [(lstV z_ 0 3 r_.length)]) (h2 := _) (h1 := (upd (fun _ => none) 0 (lstB z_ 3 (r_.map e_TJVal)))) (slices_Reverse_JVal_ok hz_ hr2) rfl (.cons (.c (lstC_ren rfl (by decide))) .nil) (hsub_refl _) (.cons rfl (.nil _)) (fun h => by cases h) (by decide) (by decide) (.cons (.c (lstC_ren rfl (by decide))) .nil) (.row (by decide) rfl (fr_map fun _ => rfl) .nil) ?_)
  rintro _ _ _ hn ⟨rfl, rfl, rfl⟩
  refine ⟨.inl rfl, (upd (rem [0] _) 0 (lstB z_ 3 (r_1.map e_TJVal))), fun hbd => (m3_cons (m3_row rfl (fr_map fun _ => rfl)) (m3_rem (in_cons (by decide) (in_nil _)) (.cons (by decide) .nil) hbd)), (.tup []), 1, rfl, rfl, ?_⟩
  obtain ⟨hlen, h⟩ := guard_some h
  try rw [hlen]
  refine dnil ?_
  refine Sv.seq ?_
  refine Sv.region ?_
  refine un (a1 rfl ?_)
  refine dnil ?_
  refine Sv.seq ?_
  refine Sv.block ?_
  obtain ⟨kk, h⟩ := lim_some h
  refine Sv.weak (weak_canon [0, 1000] rfl (by decide) (by decide) (fun b h => absurd h (Nat.not_lt_zero _)) (.cons rfl (.c (.same rfl)) (.cons rfl (.c (lstC_ren rfl (by decide))) (.cons rfl (avAs_free rfl) .nil))) (.non (by decide) (.row (by decide) rfl (fr_map fun _ => rfl) .nil))) (clerestoryref4_ReachedCells_l0_ok (hz_len hz_ hlen) (fun _ => rfl) h ?_ (fun s hs => hs))
  · intro out1 zout1 hzout1 h _ hw1
    refine Sv.weak hw1 ?_
    refine Sv.seq ?_
    refine Sv.region ?_
    refine un (a1 rfl ?_)
    refine un (a1 rfl ?_)
    refine dnil ?_
    refine Sv.ret ?_
    replace h := Option.some.inj h
    subst h
    exact ⟨_, .refl _, _, rfl, ⟨upd (fun _ => none) 0 (some (lstV zout1 0 1 out1.length)), (upd (fun _ => none) 0 (lstB zout1 1 (out1.map eI))), 1⟩, (lstV zout1 0 1 out1.length), weak_canon2 [0] [0] (by decide) (by decide) (fun b h => absurd h (Nat.not_lt_zero _)) (.cons (by decide) .nil) (.cons rfl (.c (lstC_ren rfl (by decide))) .nil) (.row (by decide) rfl (fr_map fun _ => rfl) .nil), rfl, zout1, hzout1, rfl, rfl, rfl⟩
def a58_c0 : ACode := (.region [⟨(some 22), (.mov (.tmp 5)), none⟩, ⟨(some 23), (.load true 3 (.tmp 7)), none⟩, ⟨(some 24), (.bslice 3 [(.val (.int .i64 0)), (.val (.int .i64 0)), (.str [])] 1 [(0, (.tmp 23))]), none⟩, ⟨(some 25), (.app 3 32 (.tmp 22) (.tmp 24)), none⟩, ⟨(some 5), (.mov (.tmp 25)), none⟩])
def a58_c1 : ACode := (.region [⟨(some 26), (.bin .add (.tmp 10) (.const (.c (.val (.int .i64 1))))), none⟩, ⟨(some 10), (.mov (.tmp 26)), none⟩])
def a58_c2 : ACode := (.seq (.region [⟨(some 11), (.bin .lss (.tmp 10) (.tmp 9)), none⟩])
 (.seq (.cond (.tmp 11) .skip (.exit 0))
 (.seq (.block 1 (.seq (.region [⟨(some 12), (.iaddr 3 (.tmp 8) (.tmp 10)), none⟩, ⟨(some 13), (.load true 3 (.tmp 12)), none⟩, ⟨(some 7), (.box (.const (.agg [(.val (.int .i64 0)), (.val (.int .i64 0)), (.str [])]))), none⟩, ⟨none, (.store 3 (.tmp 7) (.tmp 13)), none⟩])
 (.seq (.seq (.region [⟨(some 14), (.faddr 0 (.tmp 7)), none⟩, ⟨(some 15), (.load false 1 (.tmp 14)), none⟩, ⟨(some 16), (.bin .eql (.tmp 15) (.const (.c (.val (.int .i64 4))))), none⟩])
 (.cond (.tmp 16) (.region [⟨(some 17), (.mov (.tmp 1)), none⟩, ⟨(some 18), (.faddr 1 (.tmp 7)), none⟩, ⟨(some 19), (.load false 1 (.tmp 18)), none⟩, ⟨(some 20), (.call 72 [(.tmp 17), (.tmp 19)]), none⟩, ⟨(some 21), (.faddr 1 (.tmp 7)), none⟩, ⟨none, (.store 1 (.tmp 21) (.tmp 20)), none⟩]) .skip))
 a58_c0)))
 a58_c1)))
def a58 : AFunc := ⟨2, [(.tmp 4)], (.seq (.region [⟨(some 4), (.mov (.const (.c (.ro true 3 [])))), none⟩])
 (.seq (.region [⟨(some 5), (.mov (.const (.c (.ro true 3 [])))), none⟩])
 (.seq (.seq (.region [⟨(some 8), (.mov (.tmp 0)), none⟩, ⟨(some 9), (.len (.tmp 8)), none⟩, ⟨(some 10), (.mov (.const (.c (.val (.int .i64 0))))), none⟩])
 (.block 0 (.loop a58_c2)))
 (.seq (.region [⟨(some 27), (.mov (.tmp 5)), none⟩, ⟨(some 4), (.mov (.tmp 27)), none⟩])
 .ret))))⟩
set_option maxRecDepth 100000 in
theorem c58 : compFunc Try.prog 58 = some a58 := by kernel_rfl
def clerestoryref4_renumbered_post (r : (List TJVal)) : AV → Heap → Nat → Prop := fun v h' n' => ∃ z0 : Bool, (z0 = true → r = []) ∧ v = (lstV z0 0 3 r.length) ∧ (h' = (upd (fun _ => none) 0 (lstB z0 3 (r.map e_TJVal)))) ∧ n' = 1
abbrev clerestoryref4_renumbered_q0 (Γ : Glob) (Q : AExit → St → Prop) : AExit → St → Prop := AThen (Sv Try.prog Γ 0 a58_c1 Q) Q
abbrev clerestoryref4_renumbered_q1 (Γ : Glob) (Q : AExit → St → Prop) : AExit → St → Prop := ABlock 1 (clerestoryref4_renumbered_q0 Γ Q)
abbrev clerestoryref4_renumbered_l0_H (order : (List Int)) (l_ : (List TJVal)) (F_ : (List TJVal) → Int → Option (List TJVal)) (o : (List TJVal)) (R_ : St → Prop) : Prop := ∀ (out : (List TJVal)) (v10 : Int) (zout : Bool) (_ : zout = true → out = []), F_ out v10 = some o → ∀ s, Weak 0 s ⟨(upd (upd (upd (upd (upd (fun _ => none) 1 (some (.c (.ro false 1 (order.map eI))))) 5 (some (lstV zout 0 3 out.length))) 8 (some (.c (.ro false 3 (l_.map e_TJVal))))) 9 (some (I (l_.length : Int)))) 10 (some (I v10))), (upd (fun _ => none) 0 (lstB zout 3 (out.map e_TJVal))), 1⟩ → R_ s
abbrev clerestoryref4_renumbered_l0_E0 (F_ : (List TJVal) → Option (List TJVal)) (o : (List TJVal)) (R_ : St → Prop) : Prop := ∀ (out1 : (List TJVal)) (zout1 : Bool) (_ : zout1 = true → out1 = []), F_ out1 = some o → ∀ s, Weak 0 s ⟨(upd (fun _ => none) 5 (some (lstV zout1 0 3 out1.length))), (upd (fun _ => none) 0 (lstB zout1 3 (out1.map e_TJVal))), 1⟩ → R_ s
noncomputable def clerestoryref4_renumbered_j3 (x_ : TJVal) (v10 : Int) (order : (List Int)) (l_ : (List TJVal)) (self : (List TJVal) → Int → Option (List TJVal)) (K0_ : (List TJVal) → Option (List TJVal)) (out2 : (List TJVal)) (v1 : Int) : Option (List TJVal) :=
  (app? 32 out2 [(⟨x_.Kind, v1, x_.S⟩ : TJVal)]).bind fun r_ =>
  self r_ (wi (v10 + 1))
theorem clerestoryref4_renumbered_j3_ok {Γ : Glob} {Q : AExit → St → Prop} {x_ : TJVal} {v10 : Int} {order : (List Int)} {l_ : (List TJVal)} {self : (List TJVal) → Int → Option (List TJVal)} {K0_ : (List TJVal) → Option (List TJVal)} {out2 : (List TJVal)} {v1 : Int} {zout2 : Bool} (hzout2 : zout2 = true → out2 = []) {o : (List TJVal)} (h : clerestoryref4_renumbered_j3 x_ v10 order l_ self K0_ out2 v1 = some o)
    (hself : clerestoryref4_renumbered_l0_H order l_ self o (Q .normal))
    (hK0 : clerestoryref4_renumbered_l0_E0 K0_ o (Q (.exit 0)))
    (hr : ∀ s, Ends a58.results 0 (clerestoryref4_renumbered_post o) .ret s → Q .ret s) :
    Sv Try.prog Γ 0 a58_c0 (clerestoryref4_renumbered_q1 Γ Q) ⟨(upd (upd (upd (upd (upd (upd (fun _ => none) 1 (some (.c (.ro false 1 (order.map eI))))) 5 (some (lstV zout2 0 3 out2.length))) 7 (some (.c (.ref 1 3 0 0)))) 8 (some (.c (.ro false 3 (l_.map e_TJVal))))) 9 (some (I (l_.length : Int)))) 10 (some (I v10))), (upd (upd (fun _ => none) 0 (lstB zout2 3 (out2.map e_TJVal))) 1 (some (.cells 3 [[cI x_.Kind, cI v1, .str x_.S]]))), 2⟩ := by
  unfold clerestoryref4_renumbered_j3 at h
  refine Sv.region ?_
  refine un (a1 rfl ?_)
  refine un (a1 (v := (.agg [cI x_.Kind, cI v1, .str x_.S])) rfl ?_)
  refine un (a2v (v := (lstV false 2 3 [(⟨x_.Kind, v1, x_.S⟩ : TJVal)].length)) (h' := upd _ 2 (lstB false 3 ([(⟨x_.Kind, v1, x_.S⟩ : TJVal)].map e_TJVal))) (n' := 3) rfl rfl (fun h => by cases h) ?_)
  obtain ⟨r_, hr1, h⟩ := bnd h
  have hz1 : (zout2 && [(⟨x_.Kind, v1, x_.S⟩ : TJVal)].isEmpty) = true → r_ = [] := app_nil (z := zout2) (ys := [(⟨x_.Kind, v1, x_.S⟩ : TJVal)]) hzout2 hr1
  refine un (a2v rfl (s_app (xs := out2) (ys := [(⟨x_.Kind, v1, x_.S⟩ : TJVal)]) (e := e_TJVal) (z := zout2) (b := 0) rfl rfl hzout2 rfl rfl (slc_lst rfl (List.length_map _).symm (map_nil_of (fun h => by cases h))) hr1) (fun h => by cases h) ?_)
  refine un (a1 rfl ?_)
  refine dnil ?_
  refine Sv.region ?_
  refine un (a1 (v := (I (wi (v10 + 1)))) rfl ?_)
  refine un (a1 rfl ?_)
  refine dnil ?_
  exact hself r_ (wi (v10 + 1)) (zout2 && [(⟨x_.Kind, v1, x_.S⟩ : TJVal)].isEmpty) hz1 h _ (weak_canon [3] rfl (by decide) (by decide) (fun b h => absurd h (Nat.not_lt_zero _)) (.cons rfl (avAs_free rfl) (.cons rfl (avAs_free rfl) (.cons rfl (avAs_free rfl) (.cons rfl (.c (lstC_ren rfl (by decide))) (.cons rfl (avAs_free rfl) .nil))))) (.row (by decide) rfl (fr_map fun _ => rfl) .nil))
abbrev clerestoryref4_renumbered_l0_I (order : (List Int)) (l_ : (List TJVal)) (F_ : Nat → (List TJVal) → Int → Option (List TJVal)) (o : (List TJVal)) : Nat → St → Prop := fun k s => ∃ (out : (List TJVal)), ∃ (v10 : Int), ∃ (zout : Bool), (zout = true → out = []) ∧ F_ k out v10 = some o ∧ s = ⟨(upd (upd (upd (upd (upd (fun _ => none) 1 (some (.c (.ro false 1 (order.map eI))))) 5 (some (lstV zout 0 3 out.length))) 8 (some (.c (.ro false 3 (l_.map e_TJVal))))) 9 (some (I (l_.length : Int)))) 10 (some (I v10))), (upd (fun _ => none) 0 (lstB zout 3 (out.map e_TJVal))), 1⟩
noncomputable def clerestoryref4_renumbered_l0 (l_ : (List TJVal)) (order : (List Int)) (K0_ : (List TJVal) → Option (List TJVal)) : Nat → (List TJVal) → Int → Option (List TJVal)
  | 0, _, _ => none
  | k + 1, out, v10 =>
    if decide (v10 < (l_.length : Int)) then
      (at? l_ v10).bind fun x_ =>
      if decide (x_.Kind = 4) then
        (slices_Index_int order x_.N).bind fun r_1 =>
        clerestoryref4_renumbered_j3 x_ v10 order l_ (clerestoryref4_renumbered_l0 l_ order K0_ k) K0_ out r_1
      else
        clerestoryref4_renumbered_j3 x_ v10 order l_ (clerestoryref4_renumbered_l0 l_ order K0_ k) K0_ out x_.N
    else
      K0_ out
theorem clerestoryref4_renumbered_l0_ok {Γ : Glob} {Q : AExit → St → Prop} {l_ : (List TJVal)} {order : (List Int)} {K0_ : (List TJVal) → Option (List TJVal)} {k : Nat} {out : (List TJVal)} {v10 : Int} {zout : Bool} (hzout : zout = true → out = []) {o : (List TJVal)} (h : clerestoryref4_renumbered_l0 l_ order K0_ k out v10 = some o)
    (hK0 : clerestoryref4_renumbered_l0_E0 K0_ o (Q (.exit 0)))
    (hr : ∀ s, Ends a58.results 0 (clerestoryref4_renumbered_post o) .ret s → Q .ret s) :
    Sv Try.prog Γ 0 (.loop a58_c2) Q ⟨(upd (upd (upd (upd (upd (fun _ => none) 1 (some (.c (.ro false 1 (order.map eI))))) 5 (some (lstV zout 0 3 out.length))) 8 (some (.c (.ro false 3 (l_.map e_TJVal))))) 9 (some (I (l_.length : Int)))) 10 (some (I v10))), (upd (fun _ => none) 0 (lstB zout 3 (out.map e_TJVal))), 1⟩ := by
  refine Sv.loop (I := clerestoryref4_renumbered_l0_I order l_ (clerestoryref4_renumbered_l0 l_ order K0_) o) (fun k s hI => ?_) ⟨out, v10, zout, hzout, h, rfl⟩
  clear h
  clear hzout zout v10 out
  obtain ⟨out, v10, zout, hzout, h, rfl⟩ := hI
  cases k with
  | zero => cases h
  | succ k =>
  rw [clerestoryref4_renumbered_l0] at h
  have hself : clerestoryref4_renumbered_l0_H order l_ (clerestoryref4_renumbered_l0 l_ order K0_ k) o (rnd 0 (clerestoryref4_renumbered_l0_I order l_ (clerestoryref4_renumbered_l0 l_ order K0_) o) k Q) := fun out v10 zout hzout h s hw => ⟨_, k, hw, Nat.lt_succ_self k, out, v10, zout, hzout, h, rfl⟩
  refine Sv.seq ?_
  refine Sv.region ?_
  refine un (a1 (v := (B (decide (v10 < (l_.length : Int))))) rfl ?_)
  refine dnil ?_
  refine Sv.seq ?_
  refine Sv.cond (b := decide (v10 < (l_.length : Int))) rfl (fun hc1 => ?_) (fun hc1 => ?_)
  · replace h := ifT hc1 h
    refine Sv.skip ?_
    refine Sv.seq ?_
    refine Sv.block ?_
    refine Sv.seq ?_
    refine Sv.region ?_
    obtain ⟨x_, hx1, h⟩ := bnd h
    refine un (a1 (v := (.c (.rop [cI x_.Kind, cI x_.N, .str x_.S]))) (s_iaddr (e := e_TJVal) (xs := l_) rfl rfl hx1) ?_)
    refine un (a1 (v := (.agg [cI x_.Kind, cI x_.N, .str x_.S])) rfl ?_)
    refine un (a2v (v := (.c (.ref 1 3 0 0))) (h' := upd _ 1 (some (.cells 3 [[cI 0, cI 0, .str []]]))) (n' := 2) rfl rfl (fun h => by cases h) ?_)
    refine un (a2n (h' := upd _ 1 (some (.cells 3 [[cI x_.Kind, cI x_.N, .str x_.S]]))) (n' := 2) rfl rfl (fun h => by cases h) ?_)
    refine dnil ?_
    refine Sv.seq ?_
    refine Sv.seq ?_
    refine Sv.region ?_
    refine un (a1 (v := (.c (.ref 1 3 0 0))) rfl ?_)
    refine un (a1 (v := (I x_.Kind)) rfl ?_)
    refine un (a1 (v := (B (decide (x_.Kind = 4)))) rfl ?_)
    refine dnil ?_
    refine Sv.cond (b := decide (x_.Kind = 4)) rfl (fun hc2 => ?_) (fun hc2 => ?_)
    · replace h := ifT hc2 h
      refine Sv.region ?_
      refine un (a1 rfl ?_)
      refine un (a1 (v := (.c (.ref 1 3 0 1))) rfl ?_)
      refine un (a1 (v := (I x_.N)) rfl ?_)
      obtain ⟨r_1, hr2, h⟩ := bnd h
      refine un (ac_pure (slices_Index_int_ok hr2) rfl rfl rfl ?_)
      refine un (a1 (v := (.c (.ref 1 3 0 1))) rfl ?_)
      refine un (a2n (h' := upd _ 1 (some (.cells 3 [[cI x_.Kind, cI r_1, .str x_.S]]))) (n' := 2) rfl rfl (fun h => by cases h) ?_)
      refine dnil ?_
      exact Sv.weak (weak_canon [0, 1] rfl (by decide) (by decide) (fun b h => absurd h (Nat.not_lt_zero _)) (.cons rfl (avAs_free rfl) (.cons rfl (avAs_free rfl) (.cons rfl (avAs_free rfl) (.cons rfl (.c (.ref rfl (by decide))) (.cons rfl (.c (lstC_ren rfl (by decide))) (.cons rfl (avAs_free rfl) .nil)))))) (.box (by decide) rfl (blkAs_cells (.cons (.same rfl) (.cons (.same rfl) (.cons (.same rfl) .nil)))) (.row (by decide) rfl (fr_map fun _ => rfl) .nil))) (clerestoryref4_renumbered_j3_ok hzout h hself hK0 hr)
    · replace h := ifF hc2 h
      refine Sv.skip ?_
      exact Sv.weak (weak_canon [0, 1] rfl (by decide) (by decide) (fun b h => absurd h (Nat.not_lt_zero _)) (.cons rfl (avAs_free rfl) (.cons rfl (avAs_free rfl) (.cons rfl (avAs_free rfl) (.cons rfl (.c (.ref rfl (by decide))) (.cons rfl (.c (lstC_ren rfl (by decide))) (.cons rfl (avAs_free rfl) .nil)))))) (.box (by decide) rfl (blkAs_cells (.cons (.same rfl) (.cons (.same rfl) (.cons (.same rfl) .nil)))) (.row (by decide) rfl (fr_map fun _ => rfl) .nil))) (clerestoryref4_renumbered_j3_ok hzout h hself hK0 hr)
  · replace h := ifF hc1 h
    refine Sv.exit ?_
    exact hK0 out zout hzout h _ (weak_canon [0] rfl (by decide) (by decide) (fun b h => absurd h (Nat.not_lt_zero _)) (.cons rfl (.c (lstC_ren rfl (by decide))) .nil) (.row (by decide) rfl (fr_map fun _ => rfl) .nil))
/-- clerestory/clerestoryref4.renumbered -/
noncomputable def clerestoryref4_renumbered (l_ : (List TJVal)) (order : (List Int)) : Option (List TJVal) :=
  lim fun kk => clerestoryref4_renumbered_l0 l_ order (fun (out1 : (List TJVal)) => 
      some out1) kk ([] : List TJVal) 0
theorem clerestoryref4_renumbered_ok {Γ : Glob} {l_ : (List TJVal)} {order : (List Int)} {r : (List TJVal)} (h : clerestoryref4_renumbered l_ order = some r) : ACalls Try.prog Γ 58 [(.c (.ro false 3 (l_.map e_TJVal))), (.c (.ro false 1 (order.map eI)))] (fun _ => none) 0 (clerestoryref4_renumbered_post r) := by
  refine acalls_of_sv hmix c58 (R := clerestoryref4_renumbered_post r) ?_
  unfold clerestoryref4_renumbered at h
  refine Sv.seq ?_
  refine Sv.region ?_
  refine un (a1 rfl ?_)
  refine dnil ?_
  refine Sv.seq ?_
  refine Sv.region ?_
  refine un (a1 rfl ?_)
  refine dnil ?_
  refine Sv.seq ?_
  refine Sv.seq ?_
  refine Sv.region ?_
  refine un (a1 rfl ?_)
  refine un (a1 (v := (I (l_.length : Int))) (s_len (e := e_TJVal) (xs := l_) rfl) ?_)
  refine un (a1 rfl ?_)
  refine dnil ?_
  refine Sv.block ?_
  obtain ⟨kk, h⟩ := lim_some h
  refine Sv.weak (weak_canon [1000] rfl (by decide) (by decide) (fun b h => absurd h (Nat.not_lt_zero _)) (.cons rfl (avAs_free rfl) (.cons rfl (avAs_free rfl) (.cons rfl (avAs_free rfl) (.cons rfl (.c (.same rfl)) (.cons rfl (avAs_free rfl) .nil))))) (.non (by decide) .nil)) (clerestoryref4_renumbered_l0_ok (fun _ => rfl) h ?_ (fun s hs => hs))
  · intro out1 zout1 hzout1 h _ hw1
    refine Sv.weak hw1 ?_
    refine Sv.seq ?_
    refine Sv.region ?_
    refine un (a1 rfl ?_)
    refine un (a1 rfl ?_)
    refine dnil ?_
    refine Sv.ret ?_
    replace h := Option.some.inj h
    subst h
    exact ⟨_, .refl _, _, rfl, ⟨upd (fun _ => none) 0 (some (lstV zout1 0 3 out1.length)), (upd (fun _ => none) 0 (lstB zout1 3 (out1.map e_TJVal))), 1⟩, (lstV zout1 0 3 out1.length), weak_canon2 [0] [0] (by decide) (by decide) (fun b h => absurd h (Nat.not_lt_zero _)) (.cons (by decide) .nil) (.cons rfl (.c (lstC_ren rfl (by decide))) .nil) (.row (by decide) rfl (fr_map fun _ => rfl) .nil), rfl, zout1, hzout1, rfl, rfl, rfl⟩
def a26_c0 : ACode := (.seq (.region [⟨(some 16), (.bin .lss (.tmp 15) (.tmp 14)), none⟩])
 (.seq (.cond (.tmp 16) .skip (.exit 0))
 (.seq (.block 1 (.seq (.region [⟨(some 17), (.iaddr 1 (.tmp 13) (.tmp 15)), none⟩, ⟨(some 18), (.load false 1 (.tmp 17)), none⟩, ⟨(some 9), (.mov (.tmp 18)), none⟩])
 (.drawn (.fin [(⟨(some 19), (.mov (.tmp 7)), none⟩, (0, 0)), (⟨(some 20), (.mov (.tmp 0)), none⟩, (0, 1)), (⟨(some 21), (.mov (.tmp 9)), none⟩, (0, 2)), (⟨(some 22), (.iaddr 3 (.tmp 20) (.tmp 21)), none⟩, (0, 3)), (⟨(some 23), (.faddr 0 (.tmp 22)), none⟩, (0, 4)), (⟨(some 24), (.load false 1 (.tmp 23)), none⟩, (0, 5)), (⟨(some 25), (.mov (.tmp 0)), none⟩, (0, 6)), (⟨(some 26), (.mov (.tmp 9)), none⟩, (0, 7)), (⟨(some 27), (.iaddr 3 (.tmp 25) (.tmp 26)), none⟩, (0, 8)), (⟨(some 28), (.faddr 1 (.tmp 27)), none⟩, (0, 9)), (⟨(some 29), (.load false 1 (.tmp 28)), none⟩, (0, 10)), (⟨(some 30), (.mov (.tmp 0)), none⟩, (0, 11)), (⟨(some 31), (.mov (.tmp 9)), none⟩, (0, 12)), (⟨(some 32), (.iaddr 3 (.tmp 30) (.tmp 31)), none⟩, (0, 13)), (⟨(some 33), (.faddr 2 (.tmp 32)), none⟩, (0, 14)), (⟨(some 34), (.load false 1 (.tmp 33)), none⟩, (0, 15)), (⟨(some 35), (.mov (.tmp 6)), none⟩, (0, 16)), (⟨(some 36), (.call 58 [(.tmp 34), (.tmp 35)]), none⟩, (1, 17)), (⟨(some 37), (.build [(.val (.int .i64 0)), (.ro true 1 []), (.ro true 3 [])] [(0, (1, (.tmp 24))), (1, (1, (.tmp 29))), (2, (1, (.tmp 36)))]), none⟩, (0, 18)), (⟨(some 38), (.bslice 3 [(.val (.int .i64 0)), (.ro true 1 []), (.ro true 3 [])] 1 [(0, (.tmp 37))]), none⟩, (2, 19)), (⟨(some 39), (.app 3 56 (.tmp 19) (.tmp 38)), none⟩, (2, 20)), (⟨(some 7), (.mov (.tmp 39)), none⟩, (0, 21))]))))
 (.region [⟨(some 40), (.bin .add (.tmp 15) (.const (.c (.val (.int .i64 1))))), none⟩, ⟨(some 15), (.mov (.tmp 40)), none⟩]))))
def a26 : AFunc := ⟨2, [(.tmp 4), (.tmp 5)], (.seq (.region [⟨(some 4), (.mov (.const (.c (.ro true 3 [])))), none⟩, ⟨(some 5), (.mov (.const (.c (.ro true 3 [])))), none⟩])
 (.seq (.region [⟨(some 10), (.mov (.tmp 0)), none⟩, ⟨(some 11), (.mov (.tmp 1)), none⟩, ⟨(some 12), (.call 25 [(.tmp 10), (.tmp 11)]), none⟩, ⟨(some 6), (.mov (.tmp 12)), none⟩])
 (.seq (.region [⟨(some 7), (.mov (.const (.c (.ro true 3 [])))), none⟩])
 (.seq (.seq (.region [⟨(some 13), (.mov (.tmp 6)), none⟩, ⟨(some 14), (.len (.tmp 13)), none⟩, ⟨(some 15), (.mov (.const (.c (.val (.int .i64 0))))), none⟩])
 (.block 0 (.loop a26_c0)))
 (.seq (.region [⟨(some 41), (.mov (.tmp 7)), none⟩, ⟨(some 42), (.mov (.tmp 1)), none⟩, ⟨(some 43), (.mov (.tmp 6)), none⟩, ⟨(some 44), (.call 58 [(.tmp 42), (.tmp 43)]), none⟩, ⟨(some 4), (.mov (.tmp 41)), none⟩, ⟨(some 5), (.mov (.tmp 44)), none⟩])
 .ret)))))⟩
set_option maxRecDepth 100000 in
theorem c26 : compFunc Try.prog 26 = some a26 := by kernel_rfl
def clerestoryref4_MovedCells_post (r : ((List TJCell) × (List TJVal))) : AV → Heap → Nat → Prop := fun v h' n' => ∃ z0 : Bool, (z0 = true → r.1 = []) ∧ ∃ z1 : Bool, (z1 = true → r.2 = []) ∧ v = (.tup [(lstV z0 0 3 r.1.length), (lstV z1 1 3 r.2.length)]) ∧ (h' = (upd (upd (fun _ => none) 0 (lstB z0 3 (r.1.map e_TJCell))) 1 (lstB z1 3 (r.2.map e_TJVal)))) ∧ n' = 2
abbrev clerestoryref4_MovedCells_l0_E0 (roots : (List TJVal)) (F_ : (List Int) → (List TJCell) → Option ((List TJCell) × (List TJVal))) (o : ((List TJCell) × (List TJVal))) (R_ : St → Prop) : Prop := ∀ (order1 : (List Int)) (out1 : (List TJCell)) (zorder1 : Bool) (_ : zorder1 = true → order1 = []) (zout1 : Bool) (_ : zout1 = true → out1 = []), F_ order1 out1 = some o → ∀ s, Weak 0 s ⟨(upd (upd (upd (fun _ => none) 1 (some (.c (.ro false 3 (roots.map e_TJVal))))) 6 (some (lstV zorder1 0 1 order1.length))) 7 (some (lstV zout1 1 3 out1.length))), (upd (upd (fun _ => none) 0 (lstB zorder1 1 (order1.map eI))) 1 (lstB zout1 3 (out1.map e_TJCell))), 2⟩ → R_ s
abbrev clerestoryref4_MovedCells_l0_I (h_ : (List TJCell)) (roots : (List TJVal)) (r_ : (List Int)) (F_ : Nat → (List Int) → (List TJCell) → Int → Option ((List TJCell) × (List TJVal))) (o : ((List TJCell) × (List TJVal))) : Nat → St → Prop := fun k s => ∃ (order : (List Int)), ∃ (out : (List TJCell)), ∃ (v15 : Int), ∃ (zorder : Bool), (zorder = true → order = []) ∧ ∃ (zout : Bool), (zout = true → out = []) ∧ F_ k order out v15 = some o ∧ s = ⟨(upd (upd (upd (upd (upd (upd (upd (fun _ => none) 0 (some (.c (.ro false 3 (h_.map e_TJCell))))) 1 (some (.c (.ro false 3 (roots.map e_TJVal))))) 6 (some (lstV zorder 0 1 order.length))) 7 (some (lstV zout 1 3 out.length))) 13 (some (lstV zorder 0 1 order.length))) 14 (some (I (r_.length : Int)))) 15 (some (I v15))), (upd (upd (fun _ => none) 0 (lstB zorder 1 (order.map eI))) 1 (lstB zout 3 (out.map e_TJCell))), 2⟩
abbrev clerestoryref4_MovedCells_l0_H (h_ : (List TJCell)) (roots : (List TJVal)) (r_ : (List Int)) (F_ : (List Int) → (List TJCell) → Int → Option ((List TJCell) × (List TJVal))) (o : ((List TJCell) × (List TJVal))) (R_ : St → Prop) : Prop := ∀ (order : (List Int)) (out : (List TJCell)) (v15 : Int) (zorder : Bool) (_ : zorder = true → order = []) (zout : Bool) (_ : zout = true → out = []), F_ order out v15 = some o → ∀ s, Weak 0 s ⟨(upd (upd (upd (upd (upd (upd (upd (fun _ => none) 0 (some (.c (.ro false 3 (h_.map e_TJCell))))) 1 (some (.c (.ro false 3 (roots.map e_TJVal))))) 6 (some (lstV zorder 0 1 order.length))) 7 (some (lstV zout 1 3 out.length))) 13 (some (lstV zorder 0 1 order.length))) 14 (some (I (r_.length : Int)))) 15 (some (I v15))), (upd (upd (fun _ => none) 0 (lstB zorder 1 (order.map eI))) 1 (lstB zout 3 (out.map e_TJCell))), 2⟩ → R_ s
noncomputable def clerestoryref4_MovedCells_l0 (r_ : (List Int)) (h_ : (List TJCell)) (roots : (List TJVal)) (K0_ : (List Int) → (List TJCell) → Option ((List TJCell) × (List TJVal))) : Nat → (List Int) → (List TJCell) → Int → Option ((List TJCell) × (List TJVal))
  | 0, _, _, _ => none
  | k + 1, order, out, v15 =>
    if decide (v15 < (r_.length : Int)) then
      (at? order v15).bind fun x_ =>
      (at? h_ x_).bind fun x_1 =>
      (at? h_ x_).bind fun x_2 =>
      (at? h_ x_).bind fun x_3 =>
      (clerestoryref4_renumbered x_3.Vals order).bind fun r_1 =>
      (app? 56 out [(⟨x_1.Kind, x_2.Names, r_1⟩ : TJCell)]).bind fun r_2 =>
      (clerestoryref4_MovedCells_l0 r_ h_ roots K0_ k) order r_2 (wi (v15 + 1))
    else
      K0_ order out
theorem clerestoryref4_MovedCells_l0_ok {Γ : Glob} {Q : AExit → St → Prop} {r_ : (List Int)} {h_ : (List TJCell)} {roots : (List TJVal)} {K0_ : (List Int) → (List TJCell) → Option ((List TJCell) × (List TJVal))} {k : Nat} {order : (List Int)} {out : (List TJCell)} {v15 : Int} {zorder : Bool} (hzorder : zorder = true → order = []) {zout : Bool} (hzout : zout = true → out = []) {o : ((List TJCell) × (List TJVal))} (h : clerestoryref4_MovedCells_l0 r_ h_ roots K0_ k order out v15 = some o)
    (hK0 : clerestoryref4_MovedCells_l0_E0 roots K0_ o (Q (.exit 0)))
    (hr : ∀ s, Ends a26.results 0 (clerestoryref4_MovedCells_post o) .ret s → Q .ret s) :
    Sv Try.prog Γ 0 (.loop a26_c0) Q ⟨(upd (upd (upd (upd (upd (upd (upd (fun _ => none) 0 (some (.c (.ro false 3 (h_.map e_TJCell))))) 1 (some (.c (.ro false 3 (roots.map e_TJVal))))) 6 (some (lstV zorder 0 1 order.length))) 7 (some (lstV zout 1 3 out.length))) 13 (some (lstV zorder 0 1 order.length))) 14 (some (I (r_.length : Int)))) 15 (some (I v15))), (upd (upd (fun _ => none) 0 (lstB zorder 1 (order.map eI))) 1 (lstB zout 3 (out.map e_TJCell))), 2⟩ := by
  refine Sv.loop (I := clerestoryref4_MovedCells_l0_I h_ roots r_ (clerestoryref4_MovedCells_l0 r_ h_ roots K0_) o) (fun k s hI => ?_) ⟨order, out, v15, zorder, hzorder, zout, hzout, h, rfl⟩
  clear h
  clear hzout hzorder zout zorder v15 out order
  obtain ⟨order, out, v15, zorder, hzorder, zout, hzout, h, rfl⟩ := hI
  cases k with
  | zero => cases h
  | succ k =>
  rw [clerestoryref4_MovedCells_l0] at h
  have hself : clerestoryref4_MovedCells_l0_H h_ roots r_ (clerestoryref4_MovedCells_l0 r_ h_ roots K0_ k) o (rnd 0 (clerestoryref4_MovedCells_l0_I h_ roots r_ (clerestoryref4_MovedCells_l0 r_ h_ roots K0_) o) k Q) := fun order out v15 zorder hzorder zout hzout h s hw => ⟨_, k, hw, Nat.lt_succ_self k, order, out, v15, zorder, hzorder, zout, hzout, h, rfl⟩
  refine Sv.seq ?_
  refine Sv.region ?_
  refine un (a1 (v := (B (decide (v15 < (r_.length : Int))))) rfl ?_)
  refine dnil ?_
  refine Sv.seq ?_
  refine Sv.cond (b := decide (v15 < (r_.length : Int))) rfl (fun hc1 => ?_) (fun hc1 => ?_)
  · replace h := ifT hc1 h
    refine Sv.skip ?_
    refine Sv.seq ?_
    refine Sv.block ?_
    refine Sv.seq ?_
    refine Sv.region ?_
    obtain ⟨x_, hx1, h⟩ := bnd h
    refine un (a1 (v := (.c (.ref 0 1 v15.toNat 0))) (s_iaddrL rfl rfl hzorder hx1) ?_)
    refine un (a1 (v := (I x_)) (s_loadL (z := zorder) (e := eI) rfl rfl hzorder hx1 rfl rfl) ?_)
    refine un (a1 rfl ?_)
    refine dnil ?_
    refine Sv.drawn ?_
    refine un (a1 rfl ?_)
    refine un (a1 rfl ?_)
    refine un (a1 rfl ?_)
    obtain ⟨x_1, hx2, h⟩ := bnd h
    refine un (a1 (v := (.c (.rop [cI x_1.Kind, .ro false 1 (x_1.Names.map eStr), .ro false 3 (x_1.Vals.map e_TJVal)]))) (s_iaddr (e := e_TJCell) (xs := h_) rfl rfl hx2) ?_)
    refine un (a1 (v := (.c (.rop [cI x_1.Kind, .ro false 1 (x_1.Names.map eStr), .ro false 3 (x_1.Vals.map e_TJVal)]))) rfl ?_)
    refine un (a1 (v := (I x_1.Kind)) rfl ?_)
    refine un (a1 rfl ?_)
    refine un (a1 rfl ?_)
    obtain ⟨x_2, hx3, h⟩ := bnd h
    refine un (a1 (v := (.c (.rop [cI x_2.Kind, .ro false 1 (x_2.Names.map eStr), .ro false 3 (x_2.Vals.map e_TJVal)]))) (s_iaddr (e := e_TJCell) (xs := h_) rfl rfl hx3) ?_)
    refine un (a1 (v := (.c (.rop [.ro false 1 (x_2.Names.map eStr), .ro false 3 (x_2.Vals.map e_TJVal)]))) rfl ?_)
    refine un (a1 (v := (.c (.ro false 1 (x_2.Names.map eStr)))) rfl ?_)
    refine un (a1 rfl ?_)
    refine un (a1 rfl ?_)
    obtain ⟨x_3, hx4, h⟩ := bnd h
    refine un (a1 (v := (.c (.rop [cI x_3.Kind, .ro false 1 (x_3.Names.map eStr), .ro false 3 (x_3.Vals.map e_TJVal)]))) (s_iaddr (e := e_TJCell) (xs := h_) rfl rfl hx4) ?_)
    refine un (a1 (v := (.c (.rop [.ro false 3 (x_3.Vals.map e_TJVal)]))) rfl ?_)
    refine un (a1 (v := (.c (.ro false 3 (x_3.Vals.map e_TJVal)))) rfl ?_)
    refine un (a1 rfl ?_)
    obtain ⟨r_1, hr2, h⟩ := bnd h
    refine un (ac_gen (bs := []) («as» := [(.c (.ro false 3 (x_3.Vals.map e_TJVal))), (.c (.ro false 1 (order.map eI)))]) (h2 := (upd _ 0 none)) (h1 := (fun _ => none)) (clerestoryref4_renumbered_ok hr2) rfl (.cons (avAs_free rfl) (.cons (.c (lstC_ro (es := List.map eI order) rfl (List.length_map eI).symm (map_nil_of hzorder) (gone rfl) (fr_map fun _ => rfl))) .nil)) (hsub_none (hsub_refl _)) (.nil _) (fun _ => rfl) (by decide) (by decide) (.cons (avAs_free rfl) (.cons (avAs_free rfl) .nil)) .nil ?_)
    rintro _ _ _ hn ⟨z_1, hz_1, rfl, rfl, rfl⟩
    refine ⟨.inr ⟨(by cases z_1 <;> rfl), (.row (cl_map fun _ => rfl) .nil)⟩, (upd (rem [] _) 2 (lstB z_1 3 (r_1.map e_TJVal))), fun hbd => (m3_cons (m3_row rfl (fr_map fun _ => rfl)) (m3_rem (in_nil _) (.cons (by decide) .nil) hbd)), (lstV z_1 2 3 r_1.length), 3, (by cases z_1 <;> rfl), rfl, ?_⟩
    refine un (a1 (v := (.agg [cI x_1.Kind, .ro false 1 (x_2.Names.map eStr), lstC z_1 2 3 r_1.length])) rfl ?_)
    refine dweak (show Weak 0 _ ⟨(upd (upd (upd (upd (upd (upd (upd (upd (upd (upd (upd (upd (upd (upd (upd (upd (upd (upd (upd (upd (upd (upd (upd (upd (upd (upd (upd (upd (upd (upd (fun _ => none) 0 (some (.c (.ro false 3 (h_.map e_TJCell))))) 1 (some (.c (.ro false 3 (roots.map e_TJVal))))) 6 (some (lstV zorder 0 1 order.length))) 7 (some (lstV zout 1 3 out.length))) 9 (some (I x_))) 13 (some (lstV zorder 0 1 order.length))) 14 (some (I (r_.length : Int)))) 15 (some (I v15))) 16 (some (B (decide (v15 < (r_.length : Int)))))) 17 (some (.c (.ref 0 1 v15.toNat 0)))) 18 (some (I x_))) 19 (some (lstV zout 1 3 out.length))) 20 (some (.c (.ro false 3 (h_.map e_TJCell))))) 21 (some (I x_))) 22 (some (.c (.rop [cI x_1.Kind, .ro false 1 (x_1.Names.map eStr), .ro false 3 (x_1.Vals.map e_TJVal)])))) 23 (some (.c (.rop [cI x_1.Kind, .ro false 1 (x_1.Names.map eStr), .ro false 3 (x_1.Vals.map e_TJVal)])))) 24 (some (I x_1.Kind))) 25 (some (.c (.ro false 3 (h_.map e_TJCell))))) 26 (some (I x_))) 27 (some (.c (.rop [cI x_2.Kind, .ro false 1 (x_2.Names.map eStr), .ro false 3 (x_2.Vals.map e_TJVal)])))) 28 (some (.c (.rop [.ro false 1 (x_2.Names.map eStr), .ro false 3 (x_2.Vals.map e_TJVal)])))) 29 (some (.c (.ro false 1 (x_2.Names.map eStr))))) 30 (some (.c (.ro false 3 (h_.map e_TJCell))))) 31 (some (I x_))) 32 (some (.c (.rop [cI x_3.Kind, .ro false 1 (x_3.Names.map eStr), .ro false 3 (x_3.Vals.map e_TJVal)])))) 33 (some (.c (.rop [.ro false 3 (x_3.Vals.map e_TJVal)])))) 34 (some (.c (.ro false 3 (x_3.Vals.map e_TJVal))))) 35 (some (lstV zorder 0 1 order.length))) 36 (some (.c (.ro false 3 (r_1.map e_TJVal))))) 37 (some (.agg [cI x_1.Kind, .ro false 1 (x_2.Names.map eStr), .ro false 3 (r_1.map e_TJVal)]))), (upd (upd (fun _ => none) 0 (lstB zorder 1 (order.map eI))) 1 (lstB zout 3 (out.map e_TJCell))), 3⟩ from (weak_canon [0, 1, 1002] rfl (by decide) (by decide) (fun b h => absurd h (Nat.not_lt_zero _)) (.cons rfl (avAs_agg (.cons (.same rfl) (.cons (.same rfl) (.cons (lstC_ro (es := List.map e_TJVal r_1) rfl (List.length_map e_TJVal).symm (map_nil_of hz_1) (fun b x hx => not_in (bs := [0, 1, 1002]) rfl b (((.cons (by decide) (.cons (by decide) .nil)) : HLt _ _) b x hx)) (fr_map fun _ => rfl)) .nil)))) (.cons rfl (.c (lstC_ro (es := List.map e_TJVal r_1) rfl (List.length_map e_TJVal).symm (map_nil_of hz_1) (fun b x hx => not_in (bs := [0, 1, 1002]) rfl b (((.cons (by decide) (.cons (by decide) .nil)) : HLt _ _) b x hx)) (fr_map fun _ => rfl))) (.cons rfl (.c (lstC_ren rfl (by decide))) (.cons rfl (avAs_free rfl) (.cons rfl (avAs_free rfl) (.cons rfl (avAs_free rfl) (.cons rfl (avAs_free rfl) (.cons rfl (avAs_free rfl) (.cons rfl (avAs_free rfl) (.cons rfl (avAs_free rfl) (.cons rfl (avAs_free rfl) (.cons rfl (avAs_free rfl) (.cons rfl (avAs_free rfl) (.cons rfl (avAs_free rfl) (.cons rfl (avAs_free rfl) (.cons rfl (avAs_free rfl) (.cons rfl (avAs_free rfl) (.cons rfl (avAs_free rfl) (.cons rfl (.c (lstC_ren rfl (by decide))) (.cons rfl (avAs_free rfl) (.cons rfl (.c (.ref rfl (by decide))) (.cons rfl (avAs_free rfl) (.cons rfl (avAs_free rfl) (.cons rfl (avAs_free rfl) (.cons rfl (.c (lstC_ren rfl (by decide))) (.cons rfl (avAs_free rfl) (.cons rfl (.c (lstC_ren rfl (by decide))) (.cons rfl (.c (lstC_ren rfl (by decide))) (.cons rfl (avAs_free rfl) (.cons rfl (avAs_free rfl) .nil)))))))))))))))))))))))))))))) (.row (by decide) rfl (fr_map fun _ => rfl) (.row (by decide) rfl (fr_map fun _ => rfl) .nil)))) ?_
    refine un (a2v (v := (lstV false 3 3 [(⟨x_1.Kind, x_2.Names, r_1⟩ : TJCell)].length)) (h' := upd _ 3 (lstB false 3 ([(⟨x_1.Kind, x_2.Names, r_1⟩ : TJCell)].map e_TJCell))) (n' := 4) rfl rfl (fun h => by cases h) ?_)
    obtain ⟨r_2, hr3, h⟩ := bnd h
    have hz1 : (zout && [(⟨x_1.Kind, x_2.Names, r_1⟩ : TJCell)].isEmpty) = true → r_2 = [] := app_nil (z := zout) (ys := [(⟨x_1.Kind, x_2.Names, r_1⟩ : TJCell)]) hzout hr3
    refine un (a2v rfl (s_app (xs := out) (ys := [(⟨x_1.Kind, x_2.Names, r_1⟩ : TJCell)]) (e := e_TJCell) (z := zout) (b := 1) rfl rfl hzout rfl rfl (slc_lst rfl (List.length_map _).symm (map_nil_of (fun h => by cases h))) hr3) (fun h => by cases h) ?_)
    refine un (a1 rfl ?_)
    refine dnil ?_
    refine Sv.region ?_
    refine un (a1 (v := (I (wi (v15 + 1)))) rfl ?_)
    refine un (a1 rfl ?_)
    refine dnil ?_
    exact hself order r_2 (wi (v15 + 1)) zorder hzorder (zout && [(⟨x_1.Kind, x_2.Names, r_1⟩ : TJCell)].isEmpty) hz1 h _ (weak_canon [0, 4] rfl (by decide) (by decide) (fun b h => absurd h (Nat.not_lt_zero _)) (.cons rfl (avAs_free rfl) (.cons rfl (avAs_free rfl) (.cons rfl (.c (lstC_ren rfl (by decide))) (.cons rfl (.c (lstC_ren rfl (by decide))) (.cons rfl (.c (lstC_ren rfl (by decide))) (.cons rfl (avAs_free rfl) (.cons rfl (avAs_free rfl) .nil))))))) (.row (by decide) rfl (fr_map fun _ => rfl) (.row (by decide) rfl (fr_map fun _ => rfl) .nil)))
  · replace h := ifF hc1 h
    refine Sv.exit ?_
    exact hK0 order out zorder hzorder zout hzout h _ (weak_canon [0, 1] rfl (by decide) (by decide) (fun b h => absurd h (Nat.not_lt_zero _)) (.cons rfl (.c (lstC_ren rfl (by decide))) (.cons rfl (.c (lstC_ren rfl (by decide))) (.cons rfl (avAs_free rfl) .nil))) (.row (by decide) rfl (fr_map fun _ => rfl) (.row (by decide) rfl (fr_map fun _ => rfl) .nil)))
/-- clerestory/clerestoryref4.MovedCells -/
noncomputable def clerestoryref4_MovedCells (h_ : (List TJCell)) (roots : (List TJVal)) : Option ((List TJCell) × (List TJVal)) :=
  (clerestoryref4_ReachedCells h_ roots).bind fun r_ =>
  lim fun kk => clerestoryref4_MovedCells_l0 r_ h_ roots (fun (order1 : (List Int)) (out1 : (List TJCell)) => 
      (clerestoryref4_renumbered roots order1).bind fun r_3 =>
      some (out1, r_3)) kk r_ ([] : List TJCell) 0
theorem clerestoryref4_MovedCells_ok {Γ : Glob} {h_ : (List TJCell)} {roots : (List TJVal)} {r : ((List TJCell) × (List TJVal))} (h : clerestoryref4_MovedCells h_ roots = some r) : ACalls Try.prog Γ 26 [(.c (.ro false 3 (h_.map e_TJCell))), (.c (.ro false 3 (roots.map e_TJVal)))] (fun _ => none) 0 (clerestoryref4_MovedCells_post r) := by
  refine acalls_of_sv hmix c26 (R := clerestoryref4_MovedCells_post r) ?_
  unfold clerestoryref4_MovedCells at h
  refine Sv.seq ?_
  refine Sv.region ?_
  refine un (a1 rfl ?_)
  refine un (a1 rfl ?_)
  refine dnil ?_
  refine Sv.seq ?_
  refine Sv.region ?_
  refine un (a1 rfl ?_)
  refine un (a1 rfl ?_)
  obtain ⟨r_, hr1, h⟩ := bnd h
  refine un (ac_gen (bs := []) («as» := [(.c (.ro false 3 (h_.map e_TJCell))), (.c (.ro false 3 (roots.map e_TJVal)))]) (h2 := _) (h1 := (fun _ => none)) (clerestoryref4_ReachedCells_ok hr1) rfl (.cons (avAs_free rfl) (.cons (avAs_free rfl) .nil)) (hsub_refl _) (.nil _) (fun _ => rfl) (by decide) (by decide) (.cons (avAs_free rfl) (.cons (avAs_free rfl) .nil)) .nil ?_)
  rintro _ _ _ hn ⟨z_, hz_, rfl, rfl, rfl⟩
  refine ⟨.inl rfl, (upd (rem [] _) 0 (lstB z_ 1 (r_.map eI))), fun hbd => (m3_cons (m3_row rfl (fr_map fun _ => rfl)) (m3_rem (in_nil _) (.cons (by decide) .nil) hbd)), (lstV z_ 0 1 r_.length), 1, (by cases z_ <;> rfl), rfl, ?_⟩
  refine un (a1 rfl ?_)
  refine dnil ?_
  refine Sv.seq ?_
  refine Sv.region ?_
  refine un (a1 rfl ?_)
  refine dnil ?_
  refine Sv.seq ?_
  refine Sv.seq ?_
  refine Sv.region ?_
  refine un (a1 rfl ?_)
  refine un (a1 (v := (I (r_.length : Int))) (s_lenL rfl (len_nil_of hz_)) ?_)
  refine un (a1 rfl ?_)
  refine dnil ?_
  refine Sv.block ?_
  obtain ⟨kk, h⟩ := lim_some h
  refine Sv.weak (weak_canon [0, 1000] rfl (by decide) (by decide) (fun b h => absurd h (Nat.not_lt_zero _)) (.cons rfl (avAs_free rfl) (.cons rfl (avAs_free rfl) (.cons rfl (.c (lstC_ren rfl (by decide))) (.cons rfl (.c (.same rfl)) (.cons rfl (.c (lstC_ren rfl (by decide))) (.cons rfl (avAs_free rfl) (.cons rfl (avAs_free rfl) .nil))))))) (.non (by decide) (.row (by decide) rfl (fr_map fun _ => rfl) .nil))) (clerestoryref4_MovedCells_l0_ok hz_ (fun _ => rfl) h ?_ (fun s hs => hs))
  · intro order1 out1 zorder1 hzorder1 zout1 hzout1 h _ hw1
    refine Sv.weak hw1 ?_
    refine Sv.seq ?_
    refine Sv.region ?_
    refine un (a1 rfl ?_)
    refine un (a1 rfl ?_)
    refine un (a1 rfl ?_)
    obtain ⟨r_3, hr4, h⟩ := bnd h
    refine un (ac_gen (bs := []) («as» := [(.c (.ro false 3 (roots.map e_TJVal))), (.c (.ro false 1 (order1.map eI)))]) (h2 := (upd _ 0 none)) (h1 := (fun _ => none)) (clerestoryref4_renumbered_ok hr4) rfl (.cons (avAs_free rfl) (.cons (.c (lstC_ro (es := List.map eI order1) rfl (List.length_map eI).symm (map_nil_of hzorder1) (gone rfl) (fr_map fun _ => rfl))) .nil)) (hsub_none (hsub_refl _)) (.nil _) (fun _ => rfl) (by decide) (by decide) (.cons (avAs_free rfl) (.cons (avAs_free rfl) .nil)) .nil ?_)
    rintro _ _ _ hn ⟨z_2, hz_2, rfl, rfl, rfl⟩
    refine ⟨.inr ⟨(by cases z_2 <;> rfl), (.row (cl_map fun _ => rfl) .nil)⟩, (upd (rem [] _) 2 (lstB z_2 3 (r_3.map e_TJVal))), fun hbd => (m3_cons (m3_row rfl (fr_map fun _ => rfl)) (m3_rem (in_nil _) (.cons (by decide) .nil) hbd)), (lstV z_2 2 3 r_3.length), 3, (by cases z_2 <;> rfl), rfl, ?_⟩
    refine un (a1 rfl ?_)
    refine un (a1 rfl ?_)
    refine dnil ?_
    refine Sv.ret ?_
    replace h := Option.some.inj h
    subst h
    exact ⟨_, .refl _, _, rfl, ⟨upd (fun _ => none) 0 (some (.tup [(lstV zout1 0 3 out1.length), (lstV z_2 1 3 r_3.length)])), (upd (upd (fun _ => none) 0 (lstB zout1 3 (out1.map e_TJCell))) 1 (lstB z_2 3 (r_3.map e_TJVal))), 2⟩, (.tup [(lstV zout1 0 3 out1.length), (lstV z_2 1 3 r_3.length)]), weak_canon2 [1, 2] [0, 1] (by decide) (by decide) (fun b h => absurd h (Nat.not_lt_zero _)) (.cons (by decide) (.cons (by decide) .nil)) (.cons rfl (avAs_tup (.cons (.c (lstC_ren rfl (by decide))) (.cons (.c (lstC_ren rfl (by decide))) .nil))) .nil) (.row (by decide) rfl (fr_map fun _ => rfl) (.row (by decide) rfl (fr_map fun _ => rfl) .nil)), rfl, zout1, hzout1, z_2, hz_2, rfl, rfl, rfl⟩
theorem slices_Values_int_ok {Γ : Glob} (x_ : List Int) : CPure Try.prog Γ 29 [.c (.ro false 1 (x_.map eI))] (.c (.fn (.func 60) [] [.rop [.ro false 1 (x_.map eI)]])) := values_ok
noncomputable abbrev slices_Sorted_int (x_ : List Int) : Option (List Int) := sorted? x_
theorem slices_Sorted_int_ok {Γ : Glob} {x_ r : List Int} (h : slices_Sorted_int x_ = some r) : ACalls Try.prog Γ 28 [.c (.fn (.func 60) [] [.rop [.ro false 1 (x_.map eI)]])] (fun _ => none) 0 (fun v h' n' => ∃ z : Bool, (z = true → r = []) ∧ v = lstV z 0 1 r.length ∧ (h' = (upd (fun _ => none) 0 (lstB z 1 (r.map eI)))) ∧ n' = 1) := sorted_ok h
def a27_c0 : ACode := (.seq (.region [⟨(some 14), (.bin .lss (.tmp 13) (.tmp 12)), none⟩])
 (.seq (.cond (.tmp 14) .skip (.exit 0))
 (.seq (.block 1 (.seq (.region [⟨(some 15), (.mov (.tmp 13)), none⟩, ⟨(some 5), (.mov (.tmp 15)), none⟩])
 (.seq (.drawn (.fin [(⟨(some 16), (.mov (.tmp 0)), none⟩, (0, 0)), (⟨(some 17), (.mov (.tmp 5)), none⟩, (0, 1)), (⟨(some 18), (.iaddr 1 (.tmp 16) (.tmp 17)), none⟩, (0, 2)), (⟨(some 19), (.load false 1 (.tmp 18)), none⟩, (0, 3)), (⟨(some 20), (.mov (.tmp 1)), none⟩, (0, 4)), (⟨(some 21), (.mov (.tmp 5)), none⟩, (0, 5)), (⟨(some 22), (.iaddr 1 (.tmp 20) (.tmp 21)), none⟩, (0, 6)), (⟨(some 23), (.load false 1 (.tmp 22)), none⟩, (0, 7)), (⟨(some 24), (.bin .neq (.tmp 19) (.tmp 23)), none⟩, (0, 8))]))
 (.cond (.tmp 24) (.seq (.region [⟨(some 4), (.mov (.const (.c (.val (.bool false))))), none⟩])
 .ret) .skip))))
 (.region [⟨(some 25), (.bin .add (.tmp 13) (.const (.c (.val (.int .i64 1))))), none⟩, ⟨(some 13), (.mov (.tmp 25)), none⟩]))))
def a27 : AFunc := ⟨2, [(.tmp 4)], (.seq (.region [⟨(some 4), (.mov (.const (.c (.val (.bool false))))), none⟩])
 (.seq (.seq (.region [⟨(some 6), (.mov (.tmp 0)), none⟩, ⟨(some 7), (.len (.tmp 6)), none⟩, ⟨(some 8), (.mov (.tmp 1)), none⟩, ⟨(some 9), (.len (.tmp 8)), none⟩, ⟨(some 10), (.bin .neq (.tmp 7) (.tmp 9)), none⟩])
 (.cond (.tmp 10) (.seq (.region [⟨(some 4), (.mov (.const (.c (.val (.bool false))))), none⟩])
 .ret) .skip))
 (.seq (.seq (.region [⟨(some 11), (.mov (.tmp 0)), none⟩, ⟨(some 12), (.len (.tmp 11)), none⟩, ⟨(some 13), (.mov (.const (.c (.val (.int .i64 0))))), none⟩])
 (.block 0 (.loop a27_c0)))
 (.seq (.region [⟨(some 4), (.mov (.const (.c (.val (.bool true))))), none⟩])
 .ret))))⟩
set_option maxRecDepth 100000 in
theorem c27 : compFunc Try.prog 27 = some a27 := by kernel_rfl
def slices_Equal_int_post (r : Bool) : AV → Heap → Nat → Prop := fun v h' n' => v = (B r) ∧ (h' = (fun _ => none)) ∧ n' = 0
abbrev slices_Equal_int_l0_E0 (F_ : Unit → Option Bool) (o : Bool) (R_ : St → Prop) : Prop := ∀ (_ : Unit), F_ () = some o → ∀ s, Weak 0 s ⟨(fun _ => none), (fun _ => none), 0⟩ → R_ s
abbrev slices_Equal_int_l0_I (s1 : (List Int)) (s2 : (List Int)) (F_ : Nat → Int → Option Bool) (o : Bool) : Nat → St → Prop := fun k s => ∃ (v13 : Int), F_ k v13 = some o ∧ s = ⟨(upd (upd (upd (upd (fun _ => none) 0 (some (.c (.ro false 1 (s1.map eI))))) 1 (some (.c (.ro false 1 (s2.map eI))))) 12 (some (I (s1.length : Int)))) 13 (some (I v13))), (fun _ => none), 0⟩
abbrev slices_Equal_int_l0_H (s1 : (List Int)) (s2 : (List Int)) (F_ : Int → Option Bool) (o : Bool) (R_ : St → Prop) : Prop := ∀ (v13 : Int), F_ v13 = some o → ∀ s, Weak 0 s ⟨(upd (upd (upd (upd (fun _ => none) 0 (some (.c (.ro false 1 (s1.map eI))))) 1 (some (.c (.ro false 1 (s2.map eI))))) 12 (some (I (s1.length : Int)))) 13 (some (I v13))), (fun _ => none), 0⟩ → R_ s
noncomputable def slices_Equal_int_l0 (s1 : (List Int)) (s2 : (List Int)) (K0_ : Unit → Option Bool) : Nat → Int → Option Bool
  | 0, _ => none
  | k + 1, v13 =>
    if decide (v13 < (s1.length : Int)) then
      (at? s1 v13).bind fun x_ =>
      (at? s2 v13).bind fun x_1 =>
      if (!decide (x_ = x_1)) then
        some false
      else
        (slices_Equal_int_l0 s1 s2 K0_ k) (wi (v13 + 1))
    else
      K0_ ()
theorem slices_Equal_int_l0_ok {Γ : Glob} {Q : AExit → St → Prop} {s1 : (List Int)} {s2 : (List Int)} {K0_ : Unit → Option Bool} {k : Nat} {v13 : Int} {o : Bool} (h : slices_Equal_int_l0 s1 s2 K0_ k v13 = some o)
    (hK0 : slices_Equal_int_l0_E0 K0_ o (Q (.exit 0)))
    (hr : ∀ s, Ends a27.results 0 (slices_Equal_int_post o) .ret s → Q .ret s) :
    Sv Try.prog Γ 0 (.loop a27_c0) Q ⟨(upd (upd (upd (upd (fun _ => none) 0 (some (.c (.ro false 1 (s1.map eI))))) 1 (some (.c (.ro false 1 (s2.map eI))))) 12 (some (I (s1.length : Int)))) 13 (some (I v13))), (fun _ => none), 0⟩ := by
  refine Sv.loop (I := slices_Equal_int_l0_I s1 s2 (slices_Equal_int_l0 s1 s2 K0_) o) (fun k s hI => ?_) ⟨v13, h, rfl⟩
  clear h
  clear v13
  obtain ⟨v13, h, rfl⟩ := hI
  cases k with
  | zero => cases h
  | succ k =>
  rw [slices_Equal_int_l0] at h
  have hself : slices_Equal_int_l0_H s1 s2 (slices_Equal_int_l0 s1 s2 K0_ k) o (rnd 0 (slices_Equal_int_l0_I s1 s2 (slices_Equal_int_l0 s1 s2 K0_) o) k Q) := fun v13 h s hw => ⟨_, k, hw, Nat.lt_succ_self k, v13, h, rfl⟩
  refine Sv.seq ?_
  refine Sv.region ?_
  refine un (a1 (v := (B (decide (v13 < (s1.length : Int))))) rfl ?_)
  refine dnil ?_
  refine Sv.seq ?_
  refine Sv.cond (b := decide (v13 < (s1.length : Int))) rfl (fun hc2 => ?_) (fun hc2 => ?_)
  · replace h := ifT hc2 h
    refine Sv.skip ?_
    refine Sv.seq ?_
    refine Sv.block ?_
    refine Sv.seq ?_
    refine Sv.region ?_
    refine un (a1 rfl ?_)
    refine un (a1 rfl ?_)
    refine dnil ?_
    refine Sv.seq ?_
    refine Sv.drawn ?_
    refine un (a1 rfl ?_)
    refine un (a1 rfl ?_)
    obtain ⟨x_, hx1, h⟩ := bnd h
    refine un (a1 (v := (.c (.rop [cI x_]))) (s_iaddr (e := eI) (xs := s1) rfl rfl hx1) ?_)
    refine un (a1 (v := (I x_)) rfl ?_)
    refine un (a1 rfl ?_)
    refine un (a1 rfl ?_)
    obtain ⟨x_1, hx2, h⟩ := bnd h
    refine un (a1 (v := (.c (.rop [cI x_1]))) (s_iaddr (e := eI) (xs := s2) rfl rfl hx2) ?_)
    refine un (a1 (v := (I x_1)) rfl ?_)
    refine un (a1 (v := (B (!decide (x_ = x_1)))) rfl ?_)
    refine dnil ?_
    refine Sv.cond (b := (!decide (x_ = x_1))) rfl (fun hc3 => ?_) (fun hc3 => ?_)
    · replace h := ifT hc3 h
      refine Sv.seq ?_
      refine Sv.region ?_
      refine un (a1 rfl ?_)
      refine dnil ?_
      refine Sv.ret ?_
      replace h := Option.some.inj h
      subst h
      exact hr _ ⟨_, .refl _, _, rfl, ⟨upd (fun _ => none) 0 (some (B false)), (fun _ => none), 0⟩, (B false), weak_canon [] rfl List.nodup_nil (Nat.le_refl _) (fun b h => absurd h (Nat.not_lt_zero _)) (.cons rfl (avAs_free rfl) .nil) .nil, rfl, rfl, rfl, rfl⟩
    · replace h := ifF hc3 h
      refine Sv.skip ?_
      refine Sv.region ?_
      refine un (a1 (v := (I (wi (v13 + 1)))) rfl ?_)
      refine un (a1 rfl ?_)
      refine dnil ?_
      exact hself (wi (v13 + 1)) h _ (weak_canon [] rfl (by decide) (by decide) (fun b h => absurd h (Nat.not_lt_zero _)) (.cons rfl (avAs_free rfl) (.cons rfl (avAs_free rfl) (.cons rfl (avAs_free rfl) (.cons rfl (avAs_free rfl) .nil)))) .nil)
  · replace h := ifF hc2 h
    refine Sv.exit ?_
    exact hK0 () h _ (weak_canon [] rfl (by decide) (by decide) (fun b h => absurd h (Nat.not_lt_zero _)) .nil .nil)
/-- slices.Equal(()int,int) -/
noncomputable def slices_Equal_int (s1 : (List Int)) (s2 : (List Int)) : Option Bool :=
  if (!decide ((s1.length : Int) = (s2.length : Int))) then
    some false
  else
    lim fun kk => slices_Equal_int_l0 s1 s2 (fun (_ : Unit) => 
        some true) kk 0
theorem slices_Equal_int_ok {Γ : Glob} {s1 : (List Int)} {s2 : (List Int)} {r : Bool} (h : slices_Equal_int s1 s2 = some r) : CPure Try.prog Γ 27 [(.c (.ro false 1 (s1.map eI))), (.c (.ro false 1 (s2.map eI)))] (B r) := by
  refine acalls_of_sv hmix c27 (R := slices_Equal_int_post r) ?_
  unfold slices_Equal_int at h
  refine Sv.seq ?_
  refine Sv.region ?_
  refine un (a1 rfl ?_)
  refine dnil ?_
  refine Sv.seq ?_
  refine Sv.seq ?_
  refine Sv.region ?_
  refine un (a1 rfl ?_)
  refine un (a1 (v := (I (s1.length : Int))) (s_len (e := eI) (xs := s1) rfl) ?_)
  refine un (a1 rfl ?_)
  refine un (a1 (v := (I (s2.length : Int))) (s_len (e := eI) (xs := s2) rfl) ?_)
  refine un (a1 (v := (B (!decide ((s1.length : Int) = (s2.length : Int))))) rfl ?_)
  refine dnil ?_
  refine Sv.cond (b := (!decide ((s1.length : Int) = (s2.length : Int)))) rfl (fun hc1 => ?_) (fun hc1 => ?_)
  · replace h := ifT hc1 h
    refine Sv.seq ?_
    refine Sv.region ?_
    refine un (a1 rfl ?_)
    refine dnil ?_
    refine Sv.ret ?_
    replace h := Option.some.inj h
    subst h
    exact ⟨_, .refl _, _, rfl, ⟨upd (fun _ => none) 0 (some (B false)), (fun _ => none), 0⟩, (B false), weak_canon [] rfl List.nodup_nil (Nat.le_refl _) (fun b h => absurd h (Nat.not_lt_zero _)) (.cons rfl (avAs_free rfl) .nil) .nil, rfl, rfl, rfl, rfl⟩
  · replace h := ifF hc1 h
    refine Sv.skip ?_
    refine Sv.seq ?_
    refine Sv.seq ?_
    refine Sv.region ?_
    refine un (a1 rfl ?_)
    refine un (a1 (v := (I (s1.length : Int))) (s_len (e := eI) (xs := s1) rfl) ?_)
    refine un (a1 rfl ?_)
    refine dnil ?_
    refine Sv.block ?_
    obtain ⟨kk, h⟩ := lim_some h
    refine Sv.weak (weak_canon [] rfl (by decide) (by decide) (fun b h => absurd h (Nat.not_lt_zero _)) (.cons rfl (avAs_free rfl) (.cons rfl (avAs_free rfl) (.cons rfl (avAs_free rfl) (.cons rfl (avAs_free rfl) .nil)))) .nil) (slices_Equal_int_l0_ok h ?_ (fun s hs => hs))
    · intro _ h _ hw1
      refine Sv.weak hw1 ?_
      refine Sv.seq ?_
      refine Sv.region ?_
      refine un (a1 rfl ?_)
      refine dnil ?_
      refine Sv.ret ?_
      replace h := Option.some.inj h
      subst h
      exact ⟨_, .refl _, _, rfl, ⟨upd (fun _ => none) 0 (some (B true)), (fun _ => none), 0⟩, (B true), weak_canon [] rfl List.nodup_nil (Nat.le_refl _) (fun b h => absurd h (Nat.not_lt_zero _)) (.cons rfl (avAs_free rfl) .nil) .nil, rfl, rfl, rfl, rfl⟩
def a63_c0 : ACode := (.seq (.region [⟨(some 14), (.bin .lss (.tmp 13) (.tmp 12)), none⟩])
 (.seq (.cond (.tmp 14) .skip (.exit 0))
 (.seq (.block 1 (.seq (.region [⟨(some 15), (.mov (.tmp 13)), none⟩, ⟨(some 5), (.mov (.tmp 15)), none⟩])
 (.seq (.drawn (.fin [(⟨(some 16), (.mov (.tmp 0)), none⟩, (0, 0)), (⟨(some 17), (.mov (.tmp 5)), none⟩, (0, 1)), (⟨(some 18), (.iaddr 1 (.tmp 16) (.tmp 17)), none⟩, (0, 2)), (⟨(some 19), (.load false 1 (.tmp 18)), none⟩, (0, 3)), (⟨(some 20), (.mov (.tmp 1)), none⟩, (0, 4)), (⟨(some 21), (.mov (.tmp 5)), none⟩, (0, 5)), (⟨(some 22), (.iaddr 1 (.tmp 20) (.tmp 21)), none⟩, (0, 6)), (⟨(some 23), (.load false 1 (.tmp 22)), none⟩, (0, 7)), (⟨(some 24), (.bin .neq (.tmp 19) (.tmp 23)), none⟩, (0, 8))]))
 (.cond (.tmp 24) (.seq (.region [⟨(some 4), (.mov (.const (.c (.val (.bool false))))), none⟩])
 .ret) .skip))))
 (.region [⟨(some 25), (.bin .add (.tmp 13) (.const (.c (.val (.int .i64 1))))), none⟩, ⟨(some 13), (.mov (.tmp 25)), none⟩]))))
def a63 : AFunc := ⟨2, [(.tmp 4)], (.seq (.region [⟨(some 4), (.mov (.const (.c (.val (.bool false))))), none⟩])
 (.seq (.seq (.region [⟨(some 6), (.mov (.tmp 0)), none⟩, ⟨(some 7), (.len (.tmp 6)), none⟩, ⟨(some 8), (.mov (.tmp 1)), none⟩, ⟨(some 9), (.len (.tmp 8)), none⟩, ⟨(some 10), (.bin .neq (.tmp 7) (.tmp 9)), none⟩])
 (.cond (.tmp 10) (.seq (.region [⟨(some 4), (.mov (.const (.c (.val (.bool false))))), none⟩])
 .ret) .skip))
 (.seq (.seq (.region [⟨(some 11), (.mov (.tmp 0)), none⟩, ⟨(some 12), (.len (.tmp 11)), none⟩, ⟨(some 13), (.mov (.const (.c (.val (.int .i64 0))))), none⟩])
 (.block 0 (.loop a63_c0)))
 (.seq (.region [⟨(some 4), (.mov (.const (.c (.val (.bool true))))), none⟩])
 .ret))))⟩
set_option maxRecDepth 100000 in
theorem c63 : compFunc Try.prog 63 = some a63 := by kernel_rfl
def slices_Equal_string_post (r : Bool) : AV → Heap → Nat → Prop := fun v h' n' => v = (B r) ∧ (h' = (fun _ => none)) ∧ n' = 0
abbrev slices_Equal_string_l0_E0 (F_ : Unit → Option Bool) (o : Bool) (R_ : St → Prop) : Prop := ∀ (_ : Unit), F_ () = some o → ∀ s, Weak 0 s ⟨(fun _ => none), (fun _ => none), 0⟩ → R_ s
abbrev slices_Equal_string_l0_I (s1 : (List (List UInt8))) (s2 : (List (List UInt8))) (F_ : Nat → Int → Option Bool) (o : Bool) : Nat → St → Prop := fun k s => ∃ (v13 : Int), F_ k v13 = some o ∧ s = ⟨(upd (upd (upd (upd (fun _ => none) 0 (some (.c (.ro false 1 (s1.map eStr))))) 1 (some (.c (.ro false 1 (s2.map eStr))))) 12 (some (I (s1.length : Int)))) 13 (some (I v13))), (fun _ => none), 0⟩
abbrev slices_Equal_string_l0_H (s1 : (List (List UInt8))) (s2 : (List (List UInt8))) (F_ : Int → Option Bool) (o : Bool) (R_ : St → Prop) : Prop := ∀ (v13 : Int), F_ v13 = some o → ∀ s, Weak 0 s ⟨(upd (upd (upd (upd (fun _ => none) 0 (some (.c (.ro false 1 (s1.map eStr))))) 1 (some (.c (.ro false 1 (s2.map eStr))))) 12 (some (I (s1.length : Int)))) 13 (some (I v13))), (fun _ => none), 0⟩ → R_ s
noncomputable def slices_Equal_string_l0 (s1 : (List (List UInt8))) (s2 : (List (List UInt8))) (K0_ : Unit → Option Bool) : Nat → Int → Option Bool
  | 0, _ => none
  | k + 1, v13 =>
    if decide (v13 < (s1.length : Int)) then
      (at? s1 v13).bind fun x_ =>
      (at? s2 v13).bind fun x_1 =>
      if (!decide (x_ = x_1)) then
        some false
      else
        (slices_Equal_string_l0 s1 s2 K0_ k) (wi (v13 + 1))
    else
      K0_ ()
theorem slices_Equal_string_l0_ok {Γ : Glob} {Q : AExit → St → Prop} {s1 : (List (List UInt8))} {s2 : (List (List UInt8))} {K0_ : Unit → Option Bool} {k : Nat} {v13 : Int} {o : Bool} (h : slices_Equal_string_l0 s1 s2 K0_ k v13 = some o)
    (hK0 : slices_Equal_string_l0_E0 K0_ o (Q (.exit 0)))
    (hr : ∀ s, Ends a63.results 0 (slices_Equal_string_post o) .ret s → Q .ret s) :
    Sv Try.prog Γ 0 (.loop a63_c0) Q ⟨(upd (upd (upd (upd (fun _ => none) 0 (some (.c (.ro false 1 (s1.map eStr))))) 1 (some (.c (.ro false 1 (s2.map eStr))))) 12 (some (I (s1.length : Int)))) 13 (some (I v13))), (fun _ => none), 0⟩ := by
  refine Sv.loop (I := slices_Equal_string_l0_I s1 s2 (slices_Equal_string_l0 s1 s2 K0_) o) (fun k s hI => ?_) ⟨v13, h, rfl⟩
  clear h
  clear v13
  obtain ⟨v13, h, rfl⟩ := hI
  cases k with
  | zero => cases h
  | succ k =>
  rw [slices_Equal_string_l0] at h
  have hself : slices_Equal_string_l0_H s1 s2 (slices_Equal_string_l0 s1 s2 K0_ k) o (rnd 0 (slices_Equal_string_l0_I s1 s2 (slices_Equal_string_l0 s1 s2 K0_) o) k Q) := fun v13 h s hw => ⟨_, k, hw, Nat.lt_succ_self k, v13, h, rfl⟩
  refine Sv.seq ?_
  refine Sv.region ?_
  refine un (a1 (v := (B (decide (v13 < (s1.length : Int))))) rfl ?_)
  refine dnil ?_
  refine Sv.seq ?_
  refine Sv.cond (b := decide (v13 < (s1.length : Int))) rfl (fun hc2 => ?_) (fun hc2 => ?_)
  · replace h := ifT hc2 h
    refine Sv.skip ?_
    refine Sv.seq ?_
    refine Sv.block ?_
    refine Sv.seq ?_
    refine Sv.region ?_
    refine un (a1 rfl ?_)
    refine un (a1 rfl ?_)
    refine dnil ?_
    refine Sv.seq ?_
    refine Sv.drawn ?_
    refine un (a1 rfl ?_)
    refine un (a1 rfl ?_)
    obtain ⟨x_, hx1, h⟩ := bnd h
    refine un (a1 (v := (.c (.rop [.str x_]))) (s_iaddr (e := eStr) (xs := s1) rfl rfl hx1) ?_)
    refine un (a1 (v := (S x_)) rfl ?_)
    refine un (a1 rfl ?_)
    refine un (a1 rfl ?_)
    obtain ⟨x_1, hx2, h⟩ := bnd h
    refine un (a1 (v := (.c (.rop [.str x_1]))) (s_iaddr (e := eStr) (xs := s2) rfl rfl hx2) ?_)
    refine un (a1 (v := (S x_1)) rfl ?_)
    refine un (a1 (v := (B (!decide (x_ = x_1)))) rfl ?_)
    refine dnil ?_
    refine Sv.cond (b := (!decide (x_ = x_1))) rfl (fun hc3 => ?_) (fun hc3 => ?_)
    · replace h := ifT hc3 h
      refine Sv.seq ?_
      refine Sv.region ?_
      refine un (a1 rfl ?_)
      refine dnil ?_
      refine Sv.ret ?_
      replace h := Option.some.inj h
      subst h
      exact hr _ ⟨_, .refl _, _, rfl, ⟨upd (fun _ => none) 0 (some (B false)), (fun _ => none), 0⟩, (B false), weak_canon [] rfl List.nodup_nil (Nat.le_refl _) (fun b h => absurd h (Nat.not_lt_zero _)) (.cons rfl (avAs_free rfl) .nil) .nil, rfl, rfl, rfl, rfl⟩
    · replace h := ifF hc3 h
      refine Sv.skip ?_
      refine Sv.region ?_
      refine un (a1 (v := (I (wi (v13 + 1)))) rfl ?_)
      refine un (a1 rfl ?_)
      refine dnil ?_
      exact hself (wi (v13 + 1)) h _ (weak_canon [] rfl (by decide) (by decide) (fun b h => absurd h (Nat.not_lt_zero _)) (.cons rfl (avAs_free rfl) (.cons rfl (avAs_free rfl) (.cons rfl (avAs_free rfl) (.cons rfl (avAs_free rfl) .nil)))) .nil)
  · replace h := ifF hc2 h
    refine Sv.exit ?_
    exact hK0 () h _ (weak_canon [] rfl (by decide) (by decide) (fun b h => absurd h (Nat.not_lt_zero _)) .nil .nil)
/-- slices.Equal(()string,string) -/
noncomputable def slices_Equal_string (s1 : (List (List UInt8))) (s2 : (List (List UInt8))) : Option Bool :=
  if (!decide ((s1.length : Int) = (s2.length : Int))) then
    some false
  else
    lim fun kk => slices_Equal_string_l0 s1 s2 (fun (_ : Unit) => 
        some true) kk 0
theorem slices_Equal_string_ok {Γ : Glob} {s1 : (List (List UInt8))} {s2 : (List (List UInt8))} {r : Bool} (h : slices_Equal_string s1 s2 = some r) : CPure Try.prog Γ 63 [(.c (.ro false 1 (s1.map eStr))), (.c (.ro false 1 (s2.map eStr)))] (B r) := by
  refine acalls_of_sv hmix c63 (R := slices_Equal_string_post r) ?_
  unfold slices_Equal_string at h
  refine Sv.seq ?_
  refine Sv.region ?_
  refine un (a1 rfl ?_)
  refine dnil ?_
  refine Sv.seq ?_
  refine Sv.seq ?_
  refine Sv.region ?_
  refine un (a1 rfl ?_)
  refine un (a1 (v := (I (s1.length : Int))) (s_len (e := eStr) (xs := s1) rfl) ?_)
  refine un (a1 rfl ?_)
  refine un (a1 (v := (I (s2.length : Int))) (s_len (e := eStr) (xs := s2) rfl) ?_)
  refine un (a1 (v := (B (!decide ((s1.length : Int) = (s2.length : Int))))) rfl ?_)
  refine dnil ?_
  refine Sv.cond (b := (!decide ((s1.length : Int) = (s2.length : Int)))) rfl (fun hc1 => ?_) (fun hc1 => ?_)
  · replace h := ifT hc1 h
    refine Sv.seq ?_
    refine Sv.region ?_
    refine un (a1 rfl ?_)
    refine dnil ?_
    refine Sv.ret ?_
    replace h := Option.some.inj h
    subst h
    exact ⟨_, .refl _, _, rfl, ⟨upd (fun _ => none) 0 (some (B false)), (fun _ => none), 0⟩, (B false), weak_canon [] rfl List.nodup_nil (Nat.le_refl _) (fun b h => absurd h (Nat.not_lt_zero _)) (.cons rfl (avAs_free rfl) .nil) .nil, rfl, rfl, rfl, rfl⟩
  · replace h := ifF hc1 h
    refine Sv.skip ?_
    refine Sv.seq ?_
    refine Sv.seq ?_
    refine Sv.region ?_
    refine un (a1 rfl ?_)
    refine un (a1 (v := (I (s1.length : Int))) (s_len (e := eStr) (xs := s1) rfl) ?_)
    refine un (a1 rfl ?_)
    refine dnil ?_
    refine Sv.block ?_
    obtain ⟨kk, h⟩ := lim_some h
    refine Sv.weak (weak_canon [] rfl (by decide) (by decide) (fun b h => absurd h (Nat.not_lt_zero _)) (.cons rfl (avAs_free rfl) (.cons rfl (avAs_free rfl) (.cons rfl (avAs_free rfl) (.cons rfl (avAs_free rfl) .nil)))) .nil) (slices_Equal_string_l0_ok h ?_ (fun s hs => hs))
    · intro _ h _ hw1
      refine Sv.weak hw1 ?_
      refine Sv.seq ?_
      refine Sv.region ?_
      refine un (a1 rfl ?_)
      refine dnil ?_
      refine Sv.ret ?_
      replace h := Option.some.inj h
      subst h
      exact ⟨_, .refl _, _, rfl, ⟨upd (fun _ => none) 0 (some (B true)), (fun _ => none), 0⟩, (B true), weak_canon [] rfl List.nodup_nil (Nat.le_refl _) (fun b h => absurd h (Nat.not_lt_zero _)) (.cons rfl (avAs_free rfl) .nil) .nil, rfl, rfl, rfl, rfl⟩
def a31_c0 : ACode := (.seq (.region [⟨(some 14), (.bin .lss (.tmp 13) (.tmp 12)), none⟩])
 (.seq (.cond (.tmp 14) .skip (.exit 0))
 (.seq (.block 1 (.seq (.region [⟨(some 15), (.mov (.tmp 13)), none⟩, ⟨(some 5), (.mov (.tmp 15)), none⟩])
 (.seq (.drawn (.fin [(⟨(some 16), (.mov (.tmp 0)), none⟩, (0, 0)), (⟨(some 17), (.mov (.tmp 5)), none⟩, (0, 1)), (⟨(some 18), (.iaddr 3 (.tmp 16) (.tmp 17)), none⟩, (0, 2)), (⟨(some 19), (.load true 3 (.tmp 18)), none⟩, (0, 3)), (⟨(some 20), (.mov (.tmp 1)), none⟩, (0, 4)), (⟨(some 21), (.mov (.tmp 5)), none⟩, (0, 5)), (⟨(some 22), (.iaddr 3 (.tmp 20) (.tmp 21)), none⟩, (0, 6)), (⟨(some 23), (.load true 3 (.tmp 22)), none⟩, (0, 7)), (⟨(some 24), (.eqs true true [.i, .i, .s] (.tmp 19) (.tmp 23)), none⟩, (0, 8))]))
 (.cond (.tmp 24) (.seq (.region [⟨(some 4), (.mov (.const (.c (.val (.bool false))))), none⟩])
 .ret) .skip))))
 (.region [⟨(some 25), (.bin .add (.tmp 13) (.const (.c (.val (.int .i64 1))))), none⟩, ⟨(some 13), (.mov (.tmp 25)), none⟩]))))
def a31 : AFunc := ⟨2, [(.tmp 4)], (.seq (.region [⟨(some 4), (.mov (.const (.c (.val (.bool false))))), none⟩])
 (.seq (.seq (.region [⟨(some 6), (.mov (.tmp 0)), none⟩, ⟨(some 7), (.len (.tmp 6)), none⟩, ⟨(some 8), (.mov (.tmp 1)), none⟩, ⟨(some 9), (.len (.tmp 8)), none⟩, ⟨(some 10), (.bin .neq (.tmp 7) (.tmp 9)), none⟩])
 (.cond (.tmp 10) (.seq (.region [⟨(some 4), (.mov (.const (.c (.val (.bool false))))), none⟩])
 .ret) .skip))
 (.seq (.seq (.region [⟨(some 11), (.mov (.tmp 0)), none⟩, ⟨(some 12), (.len (.tmp 11)), none⟩, ⟨(some 13), (.mov (.const (.c (.val (.int .i64 0))))), none⟩])
 (.block 0 (.loop a31_c0)))
 (.seq (.region [⟨(some 4), (.mov (.const (.c (.val (.bool true))))), none⟩])
 .ret))))⟩
set_option maxRecDepth 100000 in
theorem c31 : compFunc Try.prog 31 = some a31 := by kernel_rfl
def slices_Equal_JVal_post (r : Bool) : AV → Heap → Nat → Prop := fun v h' n' => v = (B r) ∧ (h' = (fun _ => none)) ∧ n' = 0
abbrev slices_Equal_JVal_l0_E0 (F_ : Unit → Option Bool) (o : Bool) (R_ : St → Prop) : Prop := ∀ (_ : Unit), F_ () = some o → ∀ s, Weak 0 s ⟨(fun _ => none), (fun _ => none), 0⟩ → R_ s
abbrev slices_Equal_JVal_l0_I (s1 : (List TJVal)) (s2 : (List TJVal)) (F_ : Nat → Int → Option Bool) (o : Bool) : Nat → St → Prop := fun k s => ∃ (v13 : Int), F_ k v13 = some o ∧ s = ⟨(upd (upd (upd (upd (fun _ => none) 0 (some (.c (.ro false 3 (s1.map e_TJVal))))) 1 (some (.c (.ro false 3 (s2.map e_TJVal))))) 12 (some (I (s1.length : Int)))) 13 (some (I v13))), (fun _ => none), 0⟩
abbrev slices_Equal_JVal_l0_H (s1 : (List TJVal)) (s2 : (List TJVal)) (F_ : Int → Option Bool) (o : Bool) (R_ : St → Prop) : Prop := ∀ (v13 : Int), F_ v13 = some o → ∀ s, Weak 0 s ⟨(upd (upd (upd (upd (fun _ => none) 0 (some (.c (.ro false 3 (s1.map e_TJVal))))) 1 (some (.c (.ro false 3 (s2.map e_TJVal))))) 12 (some (I (s1.length : Int)))) 13 (some (I v13))), (fun _ => none), 0⟩ → R_ s
noncomputable def slices_Equal_JVal_l0 (s1 : (List TJVal)) (s2 : (List TJVal)) (K0_ : Unit → Option Bool) : Nat → Int → Option Bool
  | 0, _ => none
  | k + 1, v13 =>
    if decide (v13 < (s1.length : Int)) then
      (at? s1 v13).bind fun x_ =>
      (at? s2 v13).bind fun x_1 =>
      letIn (!(decide (x_.Kind = x_1.Kind) && (decide (x_.N = x_1.N) && (decide (x_.S = x_1.S) && true)))) fun v24 : Bool =>
      if v24 then
        some false
      else
        (slices_Equal_JVal_l0 s1 s2 K0_ k) (wi (v13 + 1))
    else
      K0_ ()
theorem slices_Equal_JVal_l0_ok {Γ : Glob} {Q : AExit → St → Prop} {s1 : (List TJVal)} {s2 : (List TJVal)} {K0_ : Unit → Option Bool} {k : Nat} {v13 : Int} {o : Bool} (h : slices_Equal_JVal_l0 s1 s2 K0_ k v13 = some o)
    (hK0 : slices_Equal_JVal_l0_E0 K0_ o (Q (.exit 0)))
    (hr : ∀ s, Ends a31.results 0 (slices_Equal_JVal_post o) .ret s → Q .ret s) :
    Sv Try.prog Γ 0 (.loop a31_c0) Q ⟨(upd (upd (upd (upd (fun _ => none) 0 (some (.c (.ro false 3 (s1.map e_TJVal))))) 1 (some (.c (.ro false 3 (s2.map e_TJVal))))) 12 (some (I (s1.length : Int)))) 13 (some (I v13))), (fun _ => none), 0⟩ := by
  refine Sv.loop (I := slices_Equal_JVal_l0_I s1 s2 (slices_Equal_JVal_l0 s1 s2 K0_) o) (fun k s hI => ?_) ⟨v13, h, rfl⟩
  clear h
  clear v13
  obtain ⟨v13, h, rfl⟩ := hI
  cases k with
  | zero => cases h
  | succ k =>
  rw [slices_Equal_JVal_l0] at h
  have hself : slices_Equal_JVal_l0_H s1 s2 (slices_Equal_JVal_l0 s1 s2 K0_ k) o (rnd 0 (slices_Equal_JVal_l0_I s1 s2 (slices_Equal_JVal_l0 s1 s2 K0_) o) k Q) := fun v13 h s hw => ⟨_, k, hw, Nat.lt_succ_self k, v13, h, rfl⟩
  refine Sv.seq ?_
  refine Sv.region ?_
  refine un (a1 (v := (B (decide (v13 < (s1.length : Int))))) rfl ?_)
  refine dnil ?_
  refine Sv.seq ?_
  refine Sv.cond (b := decide (v13 < (s1.length : Int))) rfl (fun hc2 => ?_) (fun hc2 => ?_)
  · replace h := ifT hc2 h
    refine Sv.skip ?_
    refine Sv.seq ?_
    refine Sv.block ?_
    refine Sv.seq ?_
    refine Sv.region ?_
    refine un (a1 rfl ?_)
    refine un (a1 rfl ?_)
    refine dnil ?_
    refine Sv.seq ?_
    refine Sv.drawn ?_
    refine un (a1 rfl ?_)
    refine un (a1 rfl ?_)
    obtain ⟨x_, hx1, h⟩ := bnd h
    refine un (a1 (v := (.c (.rop [cI x_.Kind, cI x_.N, .str x_.S]))) (s_iaddr (e := e_TJVal) (xs := s1) rfl rfl hx1) ?_)
    refine un (a1 (v := (.agg [cI x_.Kind, cI x_.N, .str x_.S])) rfl ?_)
    refine un (a1 rfl ?_)
    refine un (a1 rfl ?_)
    obtain ⟨x_1, hx2, h⟩ := bnd h
    refine un (a1 (v := (.c (.rop [cI x_1.Kind, cI x_1.N, .str x_1.S]))) (s_iaddr (e := e_TJVal) (xs := s2) rfl rfl hx2) ?_)
    refine un (a1 (v := (.agg [cI x_1.Kind, cI x_1.N, .str x_1.S])) rfl ?_)
    obtain ⟨v24, hv24⟩ : ∃ v24 : Bool, v24 = (!(decide (x_.Kind = x_1.Kind) && (decide (x_.N = x_1.N) && (decide (x_.S = x_1.S) && true)))) := ⟨_, rfl⟩
    replace h := letAt hv24 h
    refine un (a1 (v := (B v24)) (by rw [hv24]; rfl) ?_)
    clear hv24
    refine dnil ?_
    refine Sv.cond (b := v24) rfl (fun hc3 => ?_) (fun hc3 => ?_)
    · replace h := ifT hc3 h
      refine Sv.seq ?_
      refine Sv.region ?_
      refine un (a1 rfl ?_)
      refine dnil ?_
      refine Sv.ret ?_
      replace h := Option.some.inj h
      subst h
      exact hr _ ⟨_, .refl _, _, rfl, ⟨upd (fun _ => none) 0 (some (B false)), (fun _ => none), 0⟩, (B false), weak_canon [] rfl List.nodup_nil (Nat.le_refl _) (fun b h => absurd h (Nat.not_lt_zero _)) (.cons rfl (avAs_free rfl) .nil) .nil, rfl, rfl, rfl, rfl⟩
    · replace h := ifF hc3 h
      refine Sv.skip ?_
      refine Sv.region ?_
      refine un (a1 (v := (I (wi (v13 + 1)))) rfl ?_)
      refine un (a1 rfl ?_)
      refine dnil ?_
      exact hself (wi (v13 + 1)) h _ (weak_canon [] rfl (by decide) (by decide) (fun b h => absurd h (Nat.not_lt_zero _)) (.cons rfl (avAs_free rfl) (.cons rfl (avAs_free rfl) (.cons rfl (avAs_free rfl) (.cons rfl (avAs_free rfl) .nil)))) .nil)
  · replace h := ifF hc2 h
    refine Sv.exit ?_
    exact hK0 () h _ (weak_canon [] rfl (by decide) (by decide) (fun b h => absurd h (Nat.not_lt_zero _)) .nil .nil)
/-- slices.Equal(()clerestory/api.JVal,clerestory/api.JVal) -/
noncomputable def slices_Equal_JVal (s1 : (List TJVal)) (s2 : (List TJVal)) : Option Bool :=
  if (!decide ((s1.length : Int) = (s2.length : Int))) then
    some false
  else
    lim fun kk => slices_Equal_JVal_l0 s1 s2 (fun (_ : Unit) => 
        some true) kk 0
theorem slices_Equal_JVal_ok {Γ : Glob} {s1 : (List TJVal)} {s2 : (List TJVal)} {r : Bool} (h : slices_Equal_JVal s1 s2 = some r) : CPure Try.prog Γ 31 [(.c (.ro false 3 (s1.map e_TJVal))), (.c (.ro false 3 (s2.map e_TJVal)))] (B r) := by
  refine acalls_of_sv hmix c31 (R := slices_Equal_JVal_post r) ?_
  unfold slices_Equal_JVal at h
  refine Sv.seq ?_
  refine Sv.region ?_
  refine un (a1 rfl ?_)
  refine dnil ?_
  refine Sv.seq ?_
  refine Sv.seq ?_
  refine Sv.region ?_
  refine un (a1 rfl ?_)
  refine un (a1 (v := (I (s1.length : Int))) (s_len (e := e_TJVal) (xs := s1) rfl) ?_)
  refine un (a1 rfl ?_)
  refine un (a1 (v := (I (s2.length : Int))) (s_len (e := e_TJVal) (xs := s2) rfl) ?_)
  refine un (a1 (v := (B (!decide ((s1.length : Int) = (s2.length : Int))))) rfl ?_)
  refine dnil ?_
  refine Sv.cond (b := (!decide ((s1.length : Int) = (s2.length : Int)))) rfl (fun hc1 => ?_) (fun hc1 => ?_)
  · replace h := ifT hc1 h
    refine Sv.seq ?_
    refine Sv.region ?_
    refine un (a1 rfl ?_)
    refine dnil ?_
    refine Sv.ret ?_
    replace h := Option.some.inj h
    subst h
    exact ⟨_, .refl _, _, rfl, ⟨upd (fun _ => none) 0 (some (B false)), (fun _ => none), 0⟩, (B false), weak_canon [] rfl List.nodup_nil (Nat.le_refl _) (fun b h => absurd h (Nat.not_lt_zero _)) (.cons rfl (avAs_free rfl) .nil) .nil, rfl, rfl, rfl, rfl⟩
  · replace h := ifF hc1 h
    refine Sv.skip ?_
    refine Sv.seq ?_
    refine Sv.seq ?_
    refine Sv.region ?_
    refine un (a1 rfl ?_)
    refine un (a1 (v := (I (s1.length : Int))) (s_len (e := e_TJVal) (xs := s1) rfl) ?_)
    refine un (a1 rfl ?_)
    refine dnil ?_
    refine Sv.block ?_
    obtain ⟨kk, h⟩ := lim_some h
    refine Sv.weak (weak_canon [] rfl (by decide) (by decide) (fun b h => absurd h (Nat.not_lt_zero _)) (.cons rfl (avAs_free rfl) (.cons rfl (avAs_free rfl) (.cons rfl (avAs_free rfl) (.cons rfl (avAs_free rfl) .nil)))) .nil) (slices_Equal_JVal_l0_ok h ?_ (fun s hs => hs))
    · intro _ h _ hw1
      refine Sv.weak hw1 ?_
      refine Sv.seq ?_
      refine Sv.region ?_
      refine un (a1 rfl ?_)
      refine dnil ?_
      refine Sv.ret ?_
      replace h := Option.some.inj h
      subst h
      exact ⟨_, .refl _, _, rfl, ⟨upd (fun _ => none) 0 (some (B true)), (fun _ => none), 0⟩, (B true), weak_canon [] rfl List.nodup_nil (Nat.le_refl _) (fun b h => absurd h (Nat.not_lt_zero _)) (.cons rfl (avAs_free rfl) .nil) .nil, rfl, rfl, rfl, rfl⟩
def a62_c0 : ACode := .ret
def a62 : AFunc := ⟨2, [(.tmp 4)], (.seq (.region [⟨(some 2), (.box (.tmp 0)), none⟩, ⟨(some 3), (.box (.tmp 1)), none⟩, ⟨(some 4), (.mov (.const (.c (.val (.bool false))))), none⟩])
 (.seq (.region [⟨(some 5), (.faddr 0 (.tmp 2)), none⟩, ⟨(some 6), (.load false 1 (.tmp 5)), none⟩, ⟨(some 7), (.faddr 0 (.tmp 3)), none⟩, ⟨(some 8), (.load false 1 (.tmp 7)), none⟩, ⟨(some 9), (.bin .eql (.tmp 6) (.tmp 8)), none⟩, ⟨(some 10), (.mov (.tmp 9)), none⟩, ⟨(some 11), (.faddr 1 (.tmp 2)), (some (10, true))⟩, ⟨(some 12), (.load false 1 (.tmp 11)), (some (10, true))⟩, ⟨(some 13), (.faddr 1 (.tmp 3)), (some (10, true))⟩, ⟨(some 14), (.load false 1 (.tmp 13)), (some (10, true))⟩, ⟨(some 15), (.call 63 [(.tmp 12), (.tmp 14)]), (some (10, true))⟩, ⟨(some 16), (.pick (.tmp 10) (.tmp 15) (.const (.c (.val (.bool false))))), none⟩, ⟨(some 17), (.mov (.tmp 16)), none⟩, ⟨(some 18), (.faddr 2 (.tmp 2)), (some (17, true))⟩, ⟨(some 19), (.load false 1 (.tmp 18)), (some (17, true))⟩, ⟨(some 20), (.faddr 2 (.tmp 3)), (some (17, true))⟩, ⟨(some 21), (.load false 1 (.tmp 20)), (some (17, true))⟩, ⟨(some 22), (.call 31 [(.tmp 19), (.tmp 21)]), (some (17, true))⟩, ⟨(some 23), (.pick (.tmp 17) (.tmp 22) (.const (.c (.val (.bool false))))), none⟩, ⟨(some 4), (.mov (.tmp 23)), none⟩])
 a62_c0))⟩
set_option maxRecDepth 100000 in
theorem c62 : compFunc Try.prog 62 = some a62 := by kernel_rfl
def clerestoryref4_SameCells_fn1_post (r : Bool) : AV → Heap → Nat → Prop := fun v h' n' => v = (B r) ∧ (h' = (fun _ => none)) ∧ n' = 0
noncomputable def clerestoryref4_SameCells_fn1_j1 (v4 : Bool) : Option Bool :=
  some v4
theorem clerestoryref4_SameCells_fn1_j1_ok {Γ : Glob} {v4 : Bool} {o : Bool} (h : clerestoryref4_SameCells_fn1_j1 v4 = some o) :
    Sv Try.prog Γ 0 a62_c0 (Ends a62.results 0 (clerestoryref4_SameCells_fn1_post o)) ⟨(upd (fun _ => none) 4 (some (B v4))), (fun _ => none), 0⟩ := by
  unfold clerestoryref4_SameCells_fn1_j1 at h
  refine Sv.ret ?_
  replace h := Option.some.inj h
  subst h
  exact ⟨_, .refl _, _, rfl, ⟨upd (fun _ => none) 0 (some (B v4)), (fun _ => none), 0⟩, (B v4), weak_canon [] rfl List.nodup_nil (Nat.le_refl _) (fun b h => absurd h (Nat.not_lt_zero _)) (.cons rfl (avAs_free rfl) .nil) .nil, rfl, rfl, rfl, rfl⟩
/-- clerestory/clerestoryref4.SameCells$1 -/
noncomputable def clerestoryref4_SameCells_fn1 (x_ : TJCell) (y_ : TJCell) : Option Bool :=
  if decide (x_.Kind = y_.Kind) then
    (slices_Equal_string x_.Names y_.Names).bind fun r_ =>
    if r_ then
      (slices_Equal_JVal x_.Vals y_.Vals).bind fun r_1 =>
      clerestoryref4_SameCells_fn1_j1 r_1
    else
      clerestoryref4_SameCells_fn1_j1 false
  else
    clerestoryref4_SameCells_fn1_j1 false
theorem clerestoryref4_SameCells_fn1_ok {Γ : Glob} {x_ : TJCell} {y_ : TJCell} {r : Bool} (h : clerestoryref4_SameCells_fn1 x_ y_ = some r) : CPure Try.prog Γ 62 [(.agg [cI x_.Kind, .ro false 1 (x_.Names.map eStr), .ro false 3 (x_.Vals.map e_TJVal)]), (.agg [cI y_.Kind, .ro false 1 (y_.Names.map eStr), .ro false 3 (y_.Vals.map e_TJVal)])] (B r) := by
  refine acalls_of_sv hmix c62 (R := clerestoryref4_SameCells_fn1_post r) ?_
  unfold clerestoryref4_SameCells_fn1 at h
  refine Sv.seq ?_
  refine Sv.region ?_
  refine un (a2v (v := (.c (.ref 0 3 0 0))) (h' := upd _ 0 (some (.cells 3 [[cI x_.Kind, .ro false 1 (x_.Names.map eStr), .ro false 3 (x_.Vals.map e_TJVal)]]))) (n' := 1) rfl rfl (fun h => by cases h) ?_)
  refine un (a2v (v := (.c (.ref 1 3 0 0))) (h' := upd _ 1 (some (.cells 3 [[cI y_.Kind, .ro false 1 (y_.Names.map eStr), .ro false 3 (y_.Vals.map e_TJVal)]]))) (n' := 2) rfl rfl (fun h => by cases h) ?_)
  refine un (a1 rfl ?_)
  refine dnil ?_
  refine Sv.seq ?_
  refine Sv.region ?_
  refine un (a1 (v := (.c (.ref 0 3 0 0))) rfl ?_)
  refine un (a1 (v := (I x_.Kind)) rfl ?_)
  refine un (a1 (v := (.c (.ref 1 3 0 0))) rfl ?_)
  refine un (a1 (v := (I y_.Kind)) rfl ?_)
  refine un (a1 (v := (B (decide (x_.Kind = y_.Kind)))) rfl ?_)
  refine un (a1 rfl ?_)
  refine split2 (fun hc1 => ?_) (fun hc1 => ?_)
  · replace h := ifT hc1 h
    refine gt rfl (a1 (v := (.c (.ref 0 3 0 1))) rfl ?_)
    refine gt rfl (a1 (v := (.c (.ro false 1 (x_.Names.map eStr)))) rfl ?_)
    refine gt rfl (a1 (v := (.c (.ref 1 3 0 1))) rfl ?_)
    refine gt rfl (a1 (v := (.c (.ro false 1 (y_.Names.map eStr)))) rfl ?_)
    obtain ⟨r_, hr1, h⟩ := bnd h
    refine gt rfl (ac_pure (slices_Equal_string_ok hr1) rfl rfl rfl ?_)
    refine un (a1 (v := (B r_)) rfl ?_)
    refine un (a1 rfl ?_)
    refine split2 (fun hc2 => ?_) (fun hc2 => ?_)
    · replace h := ifT hc2 h
      refine gt rfl (a1 (v := (.c (.ref 0 3 0 2))) rfl ?_)
      refine gt rfl (a1 (v := (.c (.ro false 3 (x_.Vals.map e_TJVal)))) rfl ?_)
      refine gt rfl (a1 (v := (.c (.ref 1 3 0 2))) rfl ?_)
      refine gt rfl (a1 (v := (.c (.ro false 3 (y_.Vals.map e_TJVal)))) rfl ?_)
      obtain ⟨r_1, hr2, h⟩ := bnd h
      refine gt rfl (ac_pure (slices_Equal_JVal_ok hr2) rfl rfl rfl ?_)
      refine un (a1 (v := (B r_1)) rfl ?_)
      refine un (a1 rfl ?_)
      refine dnil ?_
      exact Sv.weak (weak_canon [] rfl (by decide) (by decide) (fun b h => absurd h (Nat.not_lt_zero _)) (.cons rfl (avAs_free rfl) .nil) .nil) (clerestoryref4_SameCells_fn1_j1_ok h)
    · replace h := ifF hc2 h
      refine gs rfl rfl ?_
      refine gs rfl rfl ?_
      refine gs rfl rfl ?_
      refine gs rfl rfl ?_
      refine gs rfl rfl ?_
      refine un (a1 (v := (B false)) rfl ?_)
      refine un (a1 rfl ?_)
      refine dnil ?_
      exact Sv.weak (weak_canon [] rfl (by decide) (by decide) (fun b h => absurd h (Nat.not_lt_zero _)) (.cons rfl (avAs_free rfl) .nil) .nil) (clerestoryref4_SameCells_fn1_j1_ok h)
  · replace h := ifF hc1 h
    refine gs rfl rfl ?_
    refine gs rfl rfl ?_
    refine gs rfl rfl ?_
    refine gs rfl rfl ?_
    refine gs rfl rfl ?_
    refine un (a1 (v := (B false)) rfl ?_)
    refine un (a1 rfl ?_)
    refine gs rfl rfl ?_
    refine gs rfl rfl ?_
    refine gs rfl rfl ?_
    refine gs rfl rfl ?_
    refine gs rfl rfl ?_
    refine un (a1 (v := (B false)) rfl ?_)
    refine un (a1 rfl ?_)
    refine dnil ?_
    exact Sv.weak (weak_canon [] rfl (by decide) (by decide) (fun b h => absurd h (Nat.not_lt_zero _)) (.cons rfl (avAs_free rfl) .nil) .nil) (clerestoryref4_SameCells_fn1_j1_ok h)
def a61_c0 : ACode := (.seq (.region [⟨(some 18), (.bin .lss (.tmp 17) (.tmp 16)), none⟩])
 (.seq (.cond (.tmp 18) .skip (.exit 0))
 (.seq (.block 1 (.seq (.region [⟨(some 19), (.mov (.tmp 17)), none⟩, ⟨(some 20), (.iaddr 3 (.tmp 15) (.tmp 17)), none⟩, ⟨(some 21), (.load true 3 (.tmp 20)), none⟩, ⟨(some 8), (.box (.const (.agg [(.val (.int .i64 0)), (.ro true 1 []), (.ro true 3 [])]))), none⟩, ⟨(some 7), (.mov (.tmp 19)), none⟩, ⟨none, (.store 3 (.tmp 8) (.tmp 21)), none⟩])
 (.seq (.region [⟨(some 22), (.mov (.tmp 1)), none⟩, ⟨(some 23), (.mov (.tmp 7)), none⟩, ⟨(some 24), (.iaddr 3 (.tmp 22) (.tmp 23)), none⟩, ⟨(some 25), (.load true 3 (.tmp 24)), none⟩, ⟨(some 9), (.box (.const (.agg [(.val (.int .i64 0)), (.ro true 1 []), (.ro true 3 [])]))), none⟩, ⟨none, (.store 3 (.tmp 9) (.tmp 25)), none⟩])
 (.seq (.region [⟨(some 26), (.mov (.tmp 2)), none⟩, ⟨(some 27), (.load true 3 (.tmp 8)), none⟩, ⟨(some 28), (.load true 3 (.tmp 9)), none⟩, ⟨(some 29), (.callv (.tmp 26) [(.tmp 27), (.tmp 28)]), none⟩, ⟨(some 30), (.un .not (.tmp 29)), none⟩])
 (.cond (.tmp 30) (.seq (.region [⟨(some 6), (.mov (.const (.c (.val (.bool false))))), none⟩])
 .ret) .skip)))))
 (.region [⟨(some 31), (.bin .add (.tmp 17) (.const (.c (.val (.int .i64 1))))), none⟩, ⟨(some 17), (.mov (.tmp 31)), none⟩]))))
def a61 : AFunc := ⟨3, [(.tmp 6)], (.seq (.region [⟨(some 6), (.mov (.const (.c (.val (.bool false))))), none⟩])
 (.seq (.seq (.region [⟨(some 10), (.mov (.tmp 0)), none⟩, ⟨(some 11), (.len (.tmp 10)), none⟩, ⟨(some 12), (.mov (.tmp 1)), none⟩, ⟨(some 13), (.len (.tmp 12)), none⟩, ⟨(some 14), (.bin .neq (.tmp 11) (.tmp 13)), none⟩])
 (.cond (.tmp 14) (.seq (.region [⟨(some 6), (.mov (.const (.c (.val (.bool false))))), none⟩])
 .ret) .skip))
 (.seq (.seq (.region [⟨(some 15), (.mov (.tmp 0)), none⟩, ⟨(some 16), (.len (.tmp 15)), none⟩, ⟨(some 17), (.mov (.const (.c (.val (.int .i64 0))))), none⟩])
 (.block 0 (.loop a61_c0)))
 (.seq (.region [⟨(some 6), (.mov (.const (.c (.val (.bool true))))), none⟩])
 .ret))))⟩
set_option maxRecDepth 100000 in
theorem c61 : compFunc Try.prog 61 = some a61 := by kernel_rfl
def slices_EqualFunc_JCell_post (r : Bool) : AV → Heap → Nat → Prop := fun v h' n' => v = (B r) ∧ (h' = (fun _ => none)) ∧ n' = 0
abbrev slices_EqualFunc_JCell_l0_E0 (F_ : Unit → Option Bool) (o : Bool) (R_ : St → Prop) : Prop := ∀ (_ : Unit), F_ () = some o → ∀ s, Weak 0 s ⟨(fun _ => none), (fun _ => none), 0⟩ → R_ s
abbrev slices_EqualFunc_JCell_l0_I (s2 : (List TJCell)) (s1 : (List TJCell)) (F_ : Nat → Int → Option Bool) (o : Bool) : Nat → St → Prop := fun k s => ∃ (v17 : Int), F_ k v17 = some o ∧ s = ⟨(upd (upd (upd (upd (upd (fun _ => none) 1 (some (.c (.ro false 3 (s2.map e_TJCell))))) 2 (some (.c (.fn (.func 62) [] [])))) 15 (some (.c (.ro false 3 (s1.map e_TJCell))))) 16 (some (I (s1.length : Int)))) 17 (some (I v17))), (fun _ => none), 0⟩
abbrev slices_EqualFunc_JCell_l0_H (s2 : (List TJCell)) (s1 : (List TJCell)) (F_ : Int → Option Bool) (o : Bool) (R_ : St → Prop) : Prop := ∀ (v17 : Int), F_ v17 = some o → ∀ s, Weak 0 s ⟨(upd (upd (upd (upd (upd (fun _ => none) 1 (some (.c (.ro false 3 (s2.map e_TJCell))))) 2 (some (.c (.fn (.func 62) [] [])))) 15 (some (.c (.ro false 3 (s1.map e_TJCell))))) 16 (some (I (s1.length : Int)))) 17 (some (I v17))), (fun _ => none), 0⟩ → R_ s
noncomputable def slices_EqualFunc_JCell_l0 (s1 : (List TJCell)) (s2 : (List TJCell)) (K0_ : Unit → Option Bool) : Nat → Int → Option Bool
  | 0, _ => none
  | k + 1, v17 =>
    if decide (v17 < (s1.length : Int)) then
      (at? s1 v17).bind fun x_ =>
      (at? s2 v17).bind fun x_1 =>
      (clerestoryref4_SameCells_fn1 x_ x_1).bind fun r_ =>
      if (!r_) then
        some false
      else
        (slices_EqualFunc_JCell_l0 s1 s2 K0_ k) (wi (v17 + 1))
    else
      K0_ ()
theorem slices_EqualFunc_JCell_l0_ok {Γ : Glob} {Q : AExit → St → Prop} {s1 : (List TJCell)} {s2 : (List TJCell)} {K0_ : Unit → Option Bool} {k : Nat} {v17 : Int} {o : Bool} (h : slices_EqualFunc_JCell_l0 s1 s2 K0_ k v17 = some o)
    (hK0 : slices_EqualFunc_JCell_l0_E0 K0_ o (Q (.exit 0)))
    (hr : ∀ s, Ends a61.results 0 (slices_EqualFunc_JCell_post o) .ret s → Q .ret s) :
    Sv Try.prog Γ 0 (.loop a61_c0) Q ⟨(upd (upd (upd (upd (upd (fun _ => none) 1 (some (.c (.ro false 3 (s2.map e_TJCell))))) 2 (some (.c (.fn (.func 62) [] [])))) 15 (some (.c (.ro false 3 (s1.map e_TJCell))))) 16 (some (I (s1.length : Int)))) 17 (some (I v17))), (fun _ => none), 0⟩ := by
  refine Sv.loop (I := slices_EqualFunc_JCell_l0_I s2 s1 (slices_EqualFunc_JCell_l0 s1 s2 K0_) o) (fun k s hI => ?_) ⟨v17, h, rfl⟩
  clear h
  clear v17
  obtain ⟨v17, h, rfl⟩ := hI
  cases k with
  | zero => cases h
  | succ k =>
  rw [slices_EqualFunc_JCell_l0] at h
  have hself : slices_EqualFunc_JCell_l0_H s2 s1 (slices_EqualFunc_JCell_l0 s1 s2 K0_ k) o (rnd 0 (slices_EqualFunc_JCell_l0_I s2 s1 (slices_EqualFunc_JCell_l0 s1 s2 K0_) o) k Q) := fun v17 h s hw => ⟨_, k, hw, Nat.lt_succ_self k, v17, h, rfl⟩
  refine Sv.seq ?_
  refine Sv.region ?_
  refine un (a1 (v := (B (decide (v17 < (s1.length : Int))))) rfl ?_)
  refine dnil ?_
  refine Sv.seq ?_
  refine Sv.cond (b := decide (v17 < (s1.length : Int))) rfl (fun hc2 => ?_) (fun hc2 => ?_)
  · replace h := ifT hc2 h
    refine Sv.skip ?_
    refine Sv.seq ?_
    refine Sv.block ?_
    refine Sv.seq ?_
    refine Sv.region ?_
    refine un (a1 rfl ?_)
    obtain ⟨x_, hx1, h⟩ := bnd h
    refine un (a1 (v := (.c (.rop [cI x_.Kind, .ro false 1 (x_.Names.map eStr), .ro false 3 (x_.Vals.map e_TJVal)]))) (s_iaddr (e := e_TJCell) (xs := s1) rfl rfl hx1) ?_)
    refine un (a1 (v := (.agg [cI x_.Kind, .ro false 1 (x_.Names.map eStr), .ro false 3 (x_.Vals.map e_TJVal)])) rfl ?_)
    refine un (a2v (v := (.c (.ref 0 3 0 0))) (h' := upd _ 0 (some (.cells 3 [[cI 0, .ro true 1 [], .ro true 3 []]]))) (n' := 1) rfl rfl (fun h => by cases h) ?_)
    refine un (a1 rfl ?_)
    refine un (a2n (h' := upd _ 0 (some (.cells 3 [[cI x_.Kind, .ro false 1 (x_.Names.map eStr), .ro false 3 (x_.Vals.map e_TJVal)]]))) (n' := 1) rfl rfl (fun h => by cases h) ?_)
    refine dnil ?_
    refine Sv.seq ?_
    refine Sv.region ?_
    refine un (a1 rfl ?_)
    refine un (a1 rfl ?_)
    obtain ⟨x_1, hx2, h⟩ := bnd h
    refine un (a1 (v := (.c (.rop [cI x_1.Kind, .ro false 1 (x_1.Names.map eStr), .ro false 3 (x_1.Vals.map e_TJVal)]))) (s_iaddr (e := e_TJCell) (xs := s2) rfl rfl hx2) ?_)
    refine un (a1 (v := (.agg [cI x_1.Kind, .ro false 1 (x_1.Names.map eStr), .ro false 3 (x_1.Vals.map e_TJVal)])) rfl ?_)
    refine un (a2v (v := (.c (.ref 1 3 0 0))) (h' := upd _ 1 (some (.cells 3 [[cI 0, .ro true 1 [], .ro true 3 []]]))) (n' := 2) rfl rfl (fun h => by cases h) ?_)
    refine un (a2n (h' := upd _ 1 (some (.cells 3 [[cI x_1.Kind, .ro false 1 (x_1.Names.map eStr), .ro false 3 (x_1.Vals.map e_TJVal)]]))) (n' := 2) rfl rfl (fun h => by cases h) ?_)
    refine dnil ?_
    refine Sv.seq ?_
    refine Sv.region ?_
    refine un (a1 rfl ?_)
    refine un (a1 (v := (.agg [cI x_.Kind, .ro false 1 (x_.Names.map eStr), .ro false 3 (x_.Vals.map e_TJVal)])) rfl ?_)
    refine un (a1 (v := (.agg [cI x_1.Kind, .ro false 1 (x_1.Names.map eStr), .ro false 3 (x_1.Vals.map e_TJVal)])) rfl ?_)
    obtain ⟨r_, hr1, h⟩ := bnd h
    refine un (acv_gen (bs := []) («as» := [(.agg [cI x_.Kind, .ro false 1 (x_.Names.map eStr), .ro false 3 (x_.Vals.map e_TJVal)]), (.agg [cI x_1.Kind, .ro false 1 (x_1.Names.map eStr), .ro false 3 (x_1.Vals.map e_TJVal)])]) (h2 := _) (h1 := (fun _ => none)) rfl (by kernel_rfl) (clerestoryref4_SameCells_fn1_ok hr1) rfl (.cons (avAs_free rfl) (.cons (avAs_free rfl) .nil)) (hsub_refl _) (.nil _) (fun _ => rfl) (by decide) (by decide) (.cons (avAs_free rfl) (.cons (avAs_free rfl) .nil)) .nil ?_)
    rintro _ _ _ hn ⟨rfl, rfl, rfl⟩
    refine ⟨.inl rfl, (rem [] _), fun hbd => (m3_rem (in_nil _) (.nil) hbd), (B r_), 2, rfl, rfl, ?_⟩
    refine un (a1 (v := (B (!r_))) rfl ?_)
    refine dnil ?_
    refine Sv.cond (b := (!r_)) rfl (fun hc3 => ?_) (fun hc3 => ?_)
    · replace h := ifT hc3 h
      refine Sv.seq ?_
      refine Sv.region ?_
      refine un (a1 rfl ?_)
      refine dnil ?_
      refine Sv.ret ?_
      replace h := Option.some.inj h
      subst h
      exact hr _ ⟨_, .refl _, _, rfl, ⟨upd (fun _ => none) 0 (some (B false)), (fun _ => none), 0⟩, (B false), weak_canon [] rfl List.nodup_nil (Nat.le_refl _) (fun b h => absurd h (Nat.not_lt_zero _)) (.cons rfl (avAs_free rfl) .nil) .nil, rfl, rfl, rfl, rfl⟩
    · replace h := ifF hc3 h
      refine Sv.skip ?_
      refine Sv.region ?_
      refine un (a1 (v := (I (wi (v17 + 1)))) rfl ?_)
      refine un (a1 rfl ?_)
      refine dnil ?_
      exact hself (wi (v17 + 1)) h _ (weak_canon [] rfl (by decide) (by decide) (fun b h => absurd h (Nat.not_lt_zero _)) (.cons rfl (avAs_free rfl) (.cons rfl (avAs_free rfl) (.cons rfl (avAs_free rfl) (.cons rfl (avAs_free rfl) (.cons rfl (avAs_free rfl) .nil))))) .nil)
  · replace h := ifF hc2 h
    refine Sv.exit ?_
    exact hK0 () h _ (weak_canon [] rfl (by decide) (by decide) (fun b h => absurd h (Nat.not_lt_zero _)) .nil .nil)
/-- slices.EqualFunc(()clerestory/api.JCell,()clerestory/api.JCell,clerestory/api.JCell,clerestory/api.JCell) -/
noncomputable def slices_EqualFunc_JCell (s1 : (List TJCell)) (s2 : (List TJCell)) : Option Bool :=
  if (!decide ((s1.length : Int) = (s2.length : Int))) then
    some false
  else
    lim fun kk => slices_EqualFunc_JCell_l0 s1 s2 (fun (_ : Unit) => 
        some true) kk 0
theorem slices_EqualFunc_JCell_ok {Γ : Glob} {s1 : (List TJCell)} {s2 : (List TJCell)} {r : Bool} (h : slices_EqualFunc_JCell s1 s2 = some r) : CPure Try.prog Γ 61 [(.c (.ro false 3 (s1.map e_TJCell))), (.c (.ro false 3 (s2.map e_TJCell))), (.c (.fn (.func 62) [] []))] (B r) := by
  refine acalls_of_sv hmix c61 (R := slices_EqualFunc_JCell_post r) ?_
  unfold slices_EqualFunc_JCell at h
  refine Sv.seq ?_
  refine Sv.region ?_
  refine un (a1 rfl ?_)
  refine dnil ?_
  refine Sv.seq ?_
  refine Sv.seq ?_
  refine Sv.region ?_
  refine un (a1 rfl ?_)
  refine un (a1 (v := (I (s1.length : Int))) (s_len (e := e_TJCell) (xs := s1) rfl) ?_)
  refine un (a1 rfl ?_)
  refine un (a1 (v := (I (s2.length : Int))) (s_len (e := e_TJCell) (xs := s2) rfl) ?_)
  refine un (a1 (v := (B (!decide ((s1.length : Int) = (s2.length : Int))))) rfl ?_)
  refine dnil ?_
  refine Sv.cond (b := (!decide ((s1.length : Int) = (s2.length : Int)))) rfl (fun hc1 => ?_) (fun hc1 => ?_)
  · replace h := ifT hc1 h
    refine Sv.seq ?_
    refine Sv.region ?_
    refine un (a1 rfl ?_)
    refine dnil ?_
    refine Sv.ret ?_
    replace h := Option.some.inj h
    subst h
    exact ⟨_, .refl _, _, rfl, ⟨upd (fun _ => none) 0 (some (B false)), (fun _ => none), 0⟩, (B false), weak_canon [] rfl List.nodup_nil (Nat.le_refl _) (fun b h => absurd h (Nat.not_lt_zero _)) (.cons rfl (avAs_free rfl) .nil) .nil, rfl, rfl, rfl, rfl⟩
  · replace h := ifF hc1 h
    refine Sv.skip ?_
    refine Sv.seq ?_
    refine Sv.seq ?_
    refine Sv.region ?_
    refine un (a1 rfl ?_)
    refine un (a1 (v := (I (s1.length : Int))) (s_len (e := e_TJCell) (xs := s1) rfl) ?_)
    refine un (a1 rfl ?_)
    refine dnil ?_
    refine Sv.block ?_
    obtain ⟨kk, h⟩ := lim_some h
    refine Sv.weak (weak_canon [] rfl (by decide) (by decide) (fun b h => absurd h (Nat.not_lt_zero _)) (.cons rfl (avAs_free rfl) (.cons rfl (avAs_free rfl) (.cons rfl (avAs_free rfl) (.cons rfl (avAs_free rfl) (.cons rfl (avAs_free rfl) .nil))))) .nil) (slices_EqualFunc_JCell_l0_ok h ?_ (fun s hs => hs))
    · intro _ h _ hw1
      refine Sv.weak hw1 ?_
      refine Sv.seq ?_
      refine Sv.region ?_
      refine un (a1 rfl ?_)
      refine dnil ?_
      refine Sv.ret ?_
      replace h := Option.some.inj h
      subst h
      exact ⟨_, .refl _, _, rfl, ⟨upd (fun _ => none) 0 (some (B true)), (fun _ => none), 0⟩, (B true), weak_canon [] rfl List.nodup_nil (Nat.le_refl _) (fun b h => absurd h (Nat.not_lt_zero _)) (.cons rfl (avAs_free rfl) .nil) .nil, rfl, rfl, rfl, rfl⟩
def a30 : AFunc := ⟨2, [(.tmp 4)], (.seq (.region [⟨(some 4), (.mov (.const (.c (.val (.bool false))))), none⟩])
 (.seq (.region [⟨(some 5), (.mov (.tmp 0)), none⟩, ⟨(some 6), (.mov (.tmp 1)), none⟩, ⟨(some 7), (.call 61 [(.tmp 5), (.tmp 6), (.const (.c (.fn (.func 62) [] [])))]), none⟩, ⟨(some 4), (.mov (.tmp 7)), none⟩])
 .ret))⟩
set_option maxRecDepth 100000 in
theorem c30 : compFunc Try.prog 30 = some a30 := by kernel_rfl
def clerestoryref4_SameCells_post (r : Bool) : AV → Heap → Nat → Prop := fun v h' n' => v = (B r) ∧ (h' = (fun _ => none)) ∧ n' = 0
/-- clerestory/clerestoryref4.SameCells -/
noncomputable def clerestoryref4_SameCells (a_ : (List TJCell)) (b_ : (List TJCell)) : Option Bool :=
  (slices_EqualFunc_JCell a_ b_).bind fun r_ =>
  some r_
theorem clerestoryref4_SameCells_ok {Γ : Glob} {a_ : (List TJCell)} {b_ : (List TJCell)} {r : Bool} (h : clerestoryref4_SameCells a_ b_ = some r) : CPure Try.prog Γ 30 [(.c (.ro false 3 (a_.map e_TJCell))), (.c (.ro false 3 (b_.map e_TJCell)))] (B r) := by
  refine acalls_of_sv hmix c30 (R := clerestoryref4_SameCells_post r) ?_
  unfold clerestoryref4_SameCells at h
  refine Sv.seq ?_
  refine Sv.region ?_
  refine un (a1 rfl ?_)
  refine dnil ?_
  refine Sv.seq ?_
  refine Sv.region ?_
  refine un (a1 rfl ?_)
  refine un (a1 rfl ?_)
  obtain ⟨r_, hr1, h⟩ := bnd h
  refine un (ac_pure (slices_EqualFunc_JCell_ok hr1) rfl rfl rfl ?_)
  refine un (a1 rfl ?_)
  refine dnil ?_
  refine Sv.ret ?_
  replace h := Option.some.inj h
  subst h
  exact ⟨_, .refl _, _, rfl, ⟨upd (fun _ => none) 0 (some (B r_)), (fun _ => none), 0⟩, (B r_), weak_canon [] rfl List.nodup_nil (Nat.le_refl _) (fun b h => absurd h (Nat.not_lt_zero _)) (.cons rfl (avAs_free rfl) .nil) .nil, rfl, rfl, rfl, rfl⟩
end Go.Proofs.YtoomjemboekooaaBv
