/- Printed by a program of mine (bgen.py): plain functions, and the walks that show that the code comes to what they answer. -/
import Derived.Test.YtgfcmhomndofaaaRows
import Derived.Test.YtgfcmhomndofaaaBv22
namespace Go.Proofs.YtgfcmhomndofaaaBv
open Go
set_option linter.unusedVariables false
set_option maxRecDepth 100000
theorem hmix : Try.prog.follows .mixedOrders = true := by kernel_rfl
structure TSGiven where
  Name : (List UInt8)
  Value : (List UInt8)
  Origin : Int
  Important : Bool
  Weight : Int
  Place : Int
def e_TSGiven (x : TSGiven) : List Cel := [.str x.Name, .str x.Value, cI x.Origin, cB x.Important, cI x.Weight, cI x.Place]
def a71 : AFunc := ⟨1, [(.tmp 2)], (.seq (.region [⟨(some 1), (.box (.tmp 0)), none⟩, ⟨(some 2), (.mov (.const (.c (.val (.int .i64 0))))), none⟩])
 (.seq (.seq (.region [⟨(some 3), (.faddr 3 (.tmp 1)), none⟩, ⟨(some 4), (.load false 1 (.tmp 3)), none⟩, ⟨(some 5), (.un .not (.tmp 4)), none⟩])
 (.cond (.tmp 5) (.seq (.region [⟨(some 6), (.faddr 2 (.tmp 1)), none⟩, ⟨(some 7), (.load false 1 (.tmp 6)), none⟩, ⟨(some 2), (.mov (.tmp 7)), none⟩])
 .ret) .skip))
 (.seq (.seq (.region [⟨(some 8), (.faddr 2 (.tmp 1)), none⟩, ⟨(some 9), (.load false 1 (.tmp 8)), none⟩])
 (.block 0 (.seq (.region [⟨(some 11), (.bin .eql (.tmp 9) (.const (.c (.val (.int .i64 1))))), none⟩, ⟨(some 10), (.mov (.tmp 11)), none⟩])
 (.cond (.tmp 10) (.seq (.region [⟨(some 2), (.mov (.const (.c (.val (.int .i64 3))))), none⟩])
 .ret) (.seq (.region [⟨(some 13), (.bin .eql (.tmp 9) (.const (.c (.val (.int .i64 2))))), none⟩, ⟨(some 12), (.mov (.tmp 13)), none⟩])
 (.cond (.tmp 12) (.seq (.region [⟨(some 2), (.mov (.const (.c (.val (.int .i64 4))))), none⟩])
 .ret) .skip))))))
 (.seq (.region [⟨(some 2), (.mov (.const (.c (.val (.int .i64 5))))), none⟩])
 .ret))))⟩
set_option maxRecDepth 100000 in
theorem c71 : compFunc Try.prog 71 = some a71 := by kernel_rfl
def cascade_rank_post (r : Int) : AV → Heap → Nat → Prop := fun v h' n' => v = (I r) ∧ (h' = (fun _ => none)) ∧ n' = 0
/-- clerestory/cascade.rank -/
def cascade_rank (g_ : TSGiven) : Int :=
  if (!g_.Important) then
    g_.Origin
  else
    if decide (g_.Origin = 1) then
      3
    else
      if decide (g_.Origin = 2) then
        4
      else
        5
theorem cascade_rank_ok {Γ : Glob} (g_ : TSGiven) : CPure Try.prog Γ 71 [(.agg [.str g_.Name, .str g_.Value, cI g_.Origin, cB g_.Important, cI g_.Weight, cI g_.Place])] (I (cascade_rank g_)) := by
  generalize h : cascade_rank g_ = o
  refine acalls_of_sv hmix c71 (R := cascade_rank_post o) ?_
  unfold cascade_rank at h
  refine Sv.seq ?_
  refine Sv.region ?_
  refine un (a2v (v := (.c (.ref 0 6 0 0))) (h' := upd _ 0 (some (.cells 6 [[.str g_.Name, .str g_.Value, cI g_.Origin, cB g_.Important, cI g_.Weight, cI g_.Place]]))) (n' := 1) rfl rfl (fun h => by cases h) ?_)
  refine un (a1 rfl ?_)
  refine dnil ?_
  refine Sv.seq ?_
  refine Sv.seq ?_
  refine Sv.region ?_
  refine un (a1 (v := (.c (.ref 0 6 0 3))) rfl ?_)
  refine un (a1 (v := (B g_.Important)) rfl ?_)
  refine un (a1 (v := (B (!g_.Important))) rfl ?_)
  refine dnil ?_
  refine Sv.cond (b := (!g_.Important)) rfl (fun hc1 => ?_) (fun hc1 => ?_)
  · replace h := ifT hc1 h
    refine Sv.seq ?_
    refine Sv.region ?_
    refine un (a1 (v := (.c (.ref 0 6 0 2))) rfl ?_)
    refine un (a1 (v := (I g_.Origin)) rfl ?_)
    refine un (a1 rfl ?_)
    refine dnil ?_
    refine Sv.ret ?_
    subst h
    exact ⟨_, .refl _, _, rfl, ⟨upd (fun _ => none) 0 (some (I g_.Origin)), (fun _ => none), 0⟩, (I g_.Origin), weak_canon [] rfl List.nodup_nil (Nat.le_refl _) (fun b h => absurd h (Nat.not_lt_zero _)) (.cons rfl (avAs_free rfl) .nil) .nil, rfl, rfl, rfl, rfl⟩
  · replace h := ifF hc1 h
    refine Sv.skip ?_
    refine Sv.seq ?_
    refine Sv.seq ?_
    refine Sv.region ?_
    refine un (a1 (v := (.c (.ref 0 6 0 2))) rfl ?_)
    refine un (a1 (v := (I g_.Origin)) rfl ?_)
    refine dnil ?_
    refine Sv.block ?_
    refine Sv.seq ?_
    refine Sv.region ?_
    refine un (a1 (v := (B (decide (g_.Origin = 1)))) rfl ?_)
    refine un (a1 rfl ?_)
    refine dnil ?_
    refine Sv.cond (b := decide (g_.Origin = 1)) rfl (fun hc2 => ?_) (fun hc2 => ?_)
    · replace h := ifT hc2 h
      refine Sv.seq ?_
      refine Sv.region ?_
      refine un (a1 rfl ?_)
      refine dnil ?_
      refine Sv.ret ?_
      subst h
      exact ⟨_, .refl _, _, rfl, ⟨upd (fun _ => none) 0 (some (I 3)), (fun _ => none), 0⟩, (I 3), weak_canon [] rfl List.nodup_nil (Nat.le_refl _) (fun b h => absurd h (Nat.not_lt_zero _)) (.cons rfl (avAs_free rfl) .nil) .nil, rfl, rfl, rfl, rfl⟩
    · replace h := ifF hc2 h
      refine Sv.seq ?_
      refine Sv.region ?_
      refine un (a1 (v := (B (decide (g_.Origin = 2)))) rfl ?_)
      refine un (a1 rfl ?_)
      refine dnil ?_
      refine Sv.cond (b := decide (g_.Origin = 2)) rfl (fun hc3 => ?_) (fun hc3 => ?_)
      · replace h := ifT hc3 h
        refine Sv.seq ?_
        refine Sv.region ?_
        refine un (a1 rfl ?_)
        refine dnil ?_
        refine Sv.ret ?_
        subst h
        exact ⟨_, .refl _, _, rfl, ⟨upd (fun _ => none) 0 (some (I 4)), (fun _ => none), 0⟩, (I 4), weak_canon [] rfl List.nodup_nil (Nat.le_refl _) (fun b h => absurd h (Nat.not_lt_zero _)) (.cons rfl (avAs_free rfl) .nil) .nil, rfl, rfl, rfl, rfl⟩
      · replace h := ifF hc3 h
        refine Sv.skip ?_
        refine Sv.seq ?_
        refine Sv.region ?_
        refine un (a1 rfl ?_)
        refine dnil ?_
        refine Sv.ret ?_
        subst h
        exact ⟨_, .refl _, _, rfl, ⟨upd (fun _ => none) 0 (some (I 5)), (fun _ => none), 0⟩, (I 5), weak_canon [] rfl List.nodup_nil (Nat.le_refl _) (fun b h => absurd h (Nat.not_lt_zero _)) (.cons rfl (avAs_free rfl) .nil) .nil, rfl, rfl, rfl, rfl⟩
def a89 : AFunc := ⟨1, [(.tmp 2)], (.seq (.region [⟨(some 2), (.mov (.const (.c (.val (.bool false))))), none⟩])
 (.seq (.region [⟨(some 3), (.mov (.tmp 0)), none⟩, ⟨(some 4), (.mov (.tmp 0)), none⟩, ⟨(some 5), (.bin .neq (.tmp 3) (.tmp 4)), none⟩, ⟨(some 2), (.mov (.tmp 5)), none⟩])
 .ret))⟩
set_option maxRecDepth 100000 in
theorem c89 : compFunc Try.prog 89 = some a89 := by kernel_rfl
def cmp_isNaN_int_post (r : Bool) : AV → Heap → Nat → Prop := fun v h' n' => v = (B r) ∧ (h' = (fun _ => none)) ∧ n' = 0
/-- cmp.isNaN(int) -/
def cmp_isNaN_int (x_ : Int) : Bool :=
  (!decide (x_ = x_))
theorem cmp_isNaN_int_ok {Γ : Glob} (x_ : Int) : CPure Try.prog Γ 89 [(I x_)] (B (cmp_isNaN_int x_)) := by
  generalize h : cmp_isNaN_int x_ = o
  refine acalls_of_sv hmix c89 (R := cmp_isNaN_int_post o) ?_
  unfold cmp_isNaN_int at h
  refine Sv.seq ?_
  refine Sv.region ?_
  refine un (a1 rfl ?_)
  refine dnil ?_
  refine Sv.seq ?_
  refine Sv.region ?_
  refine un (a1 rfl ?_)
  refine un (a1 rfl ?_)
  refine un (a1 (v := (B (!decide (x_ = x_)))) rfl ?_)
  refine un (a1 rfl ?_)
  refine dnil ?_
  refine Sv.ret ?_
  subst h
  exact ⟨_, .refl _, _, rfl, ⟨upd (fun _ => none) 0 (some (B (!decide (x_ = x_)))), (fun _ => none), 0⟩, (B (!decide (x_ = x_))), weak_canon [] rfl List.nodup_nil (Nat.le_refl _) (fun b h => absurd h (Nat.not_lt_zero _)) (.cons rfl (avAs_free rfl) .nil) .nil, rfl, rfl, rfl, rfl⟩
def a70 : AFunc := ⟨2, [(.tmp 4)], (.seq (.region [⟨(some 4), (.mov (.const (.c (.val (.int .i64 0))))), none⟩])
 (.seq (.region [⟨(some 7), (.mov (.tmp 0)), none⟩, ⟨(some 8), (.call 89 [(.tmp 7)]), none⟩, ⟨(some 5), (.mov (.tmp 8)), none⟩])
 (.seq (.region [⟨(some 9), (.mov (.tmp 1)), none⟩, ⟨(some 10), (.call 89 [(.tmp 9)]), none⟩, ⟨(some 6), (.mov (.tmp 10)), none⟩])
 (.seq (.seq (.region [⟨(some 11), (.mov (.tmp 5)), none⟩])
 (.cond (.tmp 11) (.seq (.seq (.region [⟨(some 12), (.mov (.tmp 6)), none⟩])
 (.cond (.tmp 12) (.seq (.region [⟨(some 4), (.mov (.const (.c (.val (.int .i64 0))))), none⟩])
 .ret) .skip))
 (.seq (.region [⟨(some 4), (.mov (.const (.c (.val (.int .i64 (-1)))))), none⟩])
 .ret)) .skip))
 (.seq (.seq (.region [⟨(some 13), (.mov (.tmp 6)), none⟩])
 (.cond (.tmp 13) (.seq (.region [⟨(some 4), (.mov (.const (.c (.val (.int .i64 1))))), none⟩])
 .ret) .skip))
 (.seq (.seq (.region [⟨(some 14), (.mov (.tmp 0)), none⟩, ⟨(some 15), (.mov (.tmp 1)), none⟩, ⟨(some 16), (.bin .lss (.tmp 14) (.tmp 15)), none⟩])
 (.cond (.tmp 16) (.seq (.region [⟨(some 4), (.mov (.const (.c (.val (.int .i64 (-1)))))), none⟩])
 .ret) .skip))
 (.seq (.seq (.region [⟨(some 17), (.mov (.tmp 0)), none⟩, ⟨(some 18), (.mov (.tmp 1)), none⟩, ⟨(some 19), (.bin .gtr (.tmp 17) (.tmp 18)), none⟩])
 (.cond (.tmp 19) (.seq (.region [⟨(some 4), (.mov (.const (.c (.val (.int .i64 1))))), none⟩])
 .ret) .skip))
 (.seq (.region [⟨(some 4), (.mov (.const (.c (.val (.int .i64 0))))), none⟩])
 .ret))))))))⟩
set_option maxRecDepth 100000 in
theorem c70 : compFunc Try.prog 70 = some a70 := by kernel_rfl
def cmp_Compare_int_post (r : Int) : AV → Heap → Nat → Prop := fun v h' n' => v = (I r) ∧ (h' = (fun _ => none)) ∧ n' = 0
/-- cmp.Compare(int) -/
def cmp_Compare_int (x_ : Int) (y_ : Int) : Int :=
  if (cmp_isNaN_int x_) then
    if (cmp_isNaN_int y_) then
      0
    else
      (-1)
  else
    if (cmp_isNaN_int y_) then
      1
    else
      if decide (x_ < y_) then
        (-1)
      else
        if decide (y_ < x_) then
          1
        else
          0
theorem cmp_Compare_int_ok {Γ : Glob} (x_ : Int) (y_ : Int) : CPure Try.prog Γ 70 [(I x_), (I y_)] (I (cmp_Compare_int x_ y_)) := by
  generalize h : cmp_Compare_int x_ y_ = o
  refine acalls_of_sv hmix c70 (R := cmp_Compare_int_post o) ?_
  unfold cmp_Compare_int at h
  refine Sv.seq ?_
  refine Sv.region ?_
  refine un (a1 rfl ?_)
  refine dnil ?_
  refine Sv.seq ?_
  refine Sv.region ?_
  refine un (a1 rfl ?_)
  refine un (ac_pure (cmp_isNaN_int_ok (Γ := Γ) x_) rfl rfl rfl ?_)
  refine un (a1 rfl ?_)
  refine dnil ?_
  refine Sv.seq ?_
  refine Sv.region ?_
  refine un (a1 rfl ?_)
  refine un (ac_pure (cmp_isNaN_int_ok (Γ := Γ) y_) rfl rfl rfl ?_)
  refine un (a1 rfl ?_)
  refine dnil ?_
  refine Sv.seq ?_
  refine Sv.seq ?_
  refine Sv.region ?_
  refine un (a1 rfl ?_)
  refine dnil ?_
  refine Sv.cond (b := (cmp_isNaN_int x_)) rfl (fun hc1 => ?_) (fun hc1 => ?_)
  · replace h := ifT hc1 h
    refine Sv.seq ?_
    refine Sv.seq ?_
    refine Sv.region ?_
    refine un (a1 rfl ?_)
    refine dnil ?_
    refine Sv.cond (b := (cmp_isNaN_int y_)) rfl (fun hc2 => ?_) (fun hc2 => ?_)
    · replace h := ifT hc2 h
      refine Sv.seq ?_
      refine Sv.region ?_
      refine un (a1 rfl ?_)
      refine dnil ?_
      refine Sv.ret ?_
      subst h
      exact ⟨_, .refl _, _, rfl, ⟨upd (fun _ => none) 0 (some (I 0)), (fun _ => none), 0⟩, (I 0), weak_canon [] rfl List.nodup_nil (Nat.le_refl _) (fun b h => absurd h (Nat.not_lt_zero _)) (.cons rfl (avAs_free rfl) .nil) .nil, rfl, rfl, rfl, rfl⟩
    · replace h := ifF hc2 h
      refine Sv.skip ?_
      refine Sv.seq ?_
      refine Sv.region ?_
      refine un (a1 rfl ?_)
      refine dnil ?_
      refine Sv.ret ?_
      subst h
      exact ⟨_, .refl _, _, rfl, ⟨upd (fun _ => none) 0 (some (I (-1))), (fun _ => none), 0⟩, (I (-1)), weak_canon [] rfl List.nodup_nil (Nat.le_refl _) (fun b h => absurd h (Nat.not_lt_zero _)) (.cons rfl (avAs_free rfl) .nil) .nil, rfl, rfl, rfl, rfl⟩
  · replace h := ifF hc1 h
    refine Sv.skip ?_
    refine Sv.seq ?_
    refine Sv.seq ?_
    refine Sv.region ?_
    refine un (a1 rfl ?_)
    refine dnil ?_
    refine Sv.cond (b := (cmp_isNaN_int y_)) rfl (fun hc3 => ?_) (fun hc3 => ?_)
    · replace h := ifT hc3 h
      refine Sv.seq ?_
      refine Sv.region ?_
      refine un (a1 rfl ?_)
      refine dnil ?_
      refine Sv.ret ?_
      subst h
      exact ⟨_, .refl _, _, rfl, ⟨upd (fun _ => none) 0 (some (I 1)), (fun _ => none), 0⟩, (I 1), weak_canon [] rfl List.nodup_nil (Nat.le_refl _) (fun b h => absurd h (Nat.not_lt_zero _)) (.cons rfl (avAs_free rfl) .nil) .nil, rfl, rfl, rfl, rfl⟩
    · replace h := ifF hc3 h
      refine Sv.skip ?_
      refine Sv.seq ?_
      refine Sv.seq ?_
      refine Sv.region ?_
      refine un (a1 rfl ?_)
      refine un (a1 rfl ?_)
      refine un (a1 (v := (B (decide (x_ < y_)))) rfl ?_)
      refine dnil ?_
      refine Sv.cond (b := decide (x_ < y_)) rfl (fun hc4 => ?_) (fun hc4 => ?_)
      · replace h := ifT hc4 h
        refine Sv.seq ?_
        refine Sv.region ?_
        refine un (a1 rfl ?_)
        refine dnil ?_
        refine Sv.ret ?_
        subst h
        exact ⟨_, .refl _, _, rfl, ⟨upd (fun _ => none) 0 (some (I (-1))), (fun _ => none), 0⟩, (I (-1)), weak_canon [] rfl List.nodup_nil (Nat.le_refl _) (fun b h => absurd h (Nat.not_lt_zero _)) (.cons rfl (avAs_free rfl) .nil) .nil, rfl, rfl, rfl, rfl⟩
      · replace h := ifF hc4 h
        refine Sv.skip ?_
        refine Sv.seq ?_
        refine Sv.seq ?_
        refine Sv.region ?_
        refine un (a1 rfl ?_)
        refine un (a1 rfl ?_)
        refine un (a1 (v := (B (decide (y_ < x_)))) rfl ?_)
        refine dnil ?_
        refine Sv.cond (b := decide (y_ < x_)) rfl (fun hc5 => ?_) (fun hc5 => ?_)
        · replace h := ifT hc5 h
          refine Sv.seq ?_
          refine Sv.region ?_
          refine un (a1 rfl ?_)
          refine dnil ?_
          refine Sv.ret ?_
          subst h
          exact ⟨_, .refl _, _, rfl, ⟨upd (fun _ => none) 0 (some (I 1)), (fun _ => none), 0⟩, (I 1), weak_canon [] rfl List.nodup_nil (Nat.le_refl _) (fun b h => absurd h (Nat.not_lt_zero _)) (.cons rfl (avAs_free rfl) .nil) .nil, rfl, rfl, rfl, rfl⟩
        · replace h := ifF hc5 h
          refine Sv.skip ?_
          refine Sv.seq ?_
          refine Sv.region ?_
          refine un (a1 rfl ?_)
          refine dnil ?_
          refine Sv.ret ?_
          subst h
          exact ⟨_, .refl _, _, rfl, ⟨upd (fun _ => none) 0 (some (I 0)), (fun _ => none), 0⟩, (I 0), weak_canon [] rfl List.nodup_nil (Nat.le_refl _) (fun b h => absurd h (Nat.not_lt_zero _)) (.cons rfl (avAs_free rfl) .nil) .nil, rfl, rfl, rfl, rfl⟩
def a69_c0 : ACode := (.seq (.region [⟨(some 9), (.bin .lss (.tmp 8) (.tmp 7)), none⟩])
 (.seq (.cond (.tmp 9) .skip (.exit 0))
 (.seq (.block 1 (.seq (.region [⟨(some 10), (.iaddr 1 (.tmp 6) (.tmp 8)), none⟩, ⟨(some 11), (.load false 1 (.tmp 10)), none⟩, ⟨(some 5), (.mov (.tmp 11)), none⟩])
 (.seq (.region [⟨(some 12), (.mov (.tmp 5)), none⟩, ⟨(some 13), (.mov (.tmp 3)), none⟩, ⟨(some 14), (.bin .neq (.tmp 12) (.tmp 13)), none⟩])
 (.cond (.tmp 14) (.seq (.region [⟨(some 15), (.mov (.tmp 5)), none⟩, ⟨(some 2), (.mov (.tmp 15)), none⟩])
 .ret) .skip))))
 (.region [⟨(some 16), (.bin .add (.tmp 8) (.const (.c (.val (.int .i64 1))))), none⟩, ⟨(some 8), (.mov (.tmp 16)), none⟩]))))
def a69 : AFunc := ⟨1, [(.tmp 2)], (.seq (.region [⟨(some 2), (.mov (.const (.c (.val (.int .i64 0))))), none⟩])
 (.seq (.region [⟨(some 3), (.mov (.const (.c (.val (.int .i64 0))))), none⟩])
 (.seq (.seq (.region [⟨(some 6), (.mov (.tmp 0)), none⟩, ⟨(some 7), (.len (.tmp 6)), none⟩, ⟨(some 8), (.mov (.const (.c (.val (.int .i64 0))))), none⟩])
 (.block 0 (.loop a69_c0)))
 (.seq (.region [⟨(some 17), (.mov (.tmp 3)), none⟩, ⟨(some 2), (.mov (.tmp 17)), none⟩])
 .ret))))⟩
set_option maxRecDepth 100000 in
theorem c69 : compFunc Try.prog 69 = some a69 := by kernel_rfl
def cmp_Or_int_post (r : Int) : AV → Heap → Nat → Prop := fun v h' n' => v = (I r) ∧ (h' = (fun _ => none)) ∧ n' = 0
noncomputable def cmp_Or_int_l0 (vals : (List Int)) (K0_ : Unit → Option Int) : Nat → Int → Option Int
  | 0, _ => none
  | k + 1, v8 =>
    if decide (v8 < (vals.length : Int)) then
      (at? vals v8).bind fun x_ =>
      if (!decide (x_ = 0)) then
        some x_
      else
        (cmp_Or_int_l0 vals K0_ k) (wi (v8 + 1))
    else
      K0_ ()
theorem cmp_Or_int_l0_ok {Γ : Glob} {Q : AExit → St → Prop} {vals : (List Int)} {K0_ : Unit → Option Int} {k : Nat} {v8 : Int} {o : Int} (h : cmp_Or_int_l0 vals K0_ k v8 = some o)
    (hK0 : ∀ (_ : Unit), K0_ () = some o → ∀ s, Weak 0 s ⟨(upd (fun _ => none) 3 (some (I 0))), (fun _ => none), 0⟩ → Q (.exit 0) s)
    (hr : ∀ s, Ends a69.results 0 (cmp_Or_int_post o) .ret s → Q .ret s) :
    Sv Try.prog Γ 0 (.loop a69_c0) Q ⟨(upd (upd (upd (upd (fun _ => none) 3 (some (I 0))) 6 (some (.c (.ro false 1 (vals.map eI))))) 7 (some (I (vals.length : Int)))) 8 (some (I v8))), (fun _ => none), 0⟩ := by
  refine Sv.loop (I := fun k s => ∃ (v8 : Int), cmp_Or_int_l0 vals K0_ k v8 = some o ∧ s = ⟨(upd (upd (upd (upd (fun _ => none) 3 (some (I 0))) 6 (some (.c (.ro false 1 (vals.map eI))))) 7 (some (I (vals.length : Int)))) 8 (some (I v8))), (fun _ => none), 0⟩) (fun k s hI => ?_) ⟨v8, h, rfl⟩
  clear h
  clear v8
  obtain ⟨v8, h, rfl⟩ := hI
  cases k with
  | zero => cases h
  | succ k =>
  rw [cmp_Or_int_l0] at h
  have hself : ∀ (v8 : Int), (cmp_Or_int_l0 vals K0_ k) v8 = some o → ∀ s, Weak 0 s ⟨(upd (upd (upd (upd (fun _ => none) 3 (some (I 0))) 6 (some (.c (.ro false 1 (vals.map eI))))) 7 (some (I (vals.length : Int)))) 8 (some (I v8))), (fun _ => none), 0⟩ → (AThen (fun s' => ∃ s'' k', Weak 0 s' s'' ∧ k' < k + 1 ∧ (fun k s => ∃ (v8 : Int), cmp_Or_int_l0 vals K0_ k v8 = some o ∧ s = ⟨(upd (upd (upd (upd (fun _ => none) 3 (some (I 0))) 6 (some (.c (.ro false 1 (vals.map eI))))) 7 (some (I (vals.length : Int)))) 8 (some (I v8))), (fun _ => none), 0⟩) k' s'') Q) .normal s := fun v8 h s hw => ⟨_, k, hw, Nat.lt_succ_self k, v8, h, rfl⟩
  refine Sv.seq ?_
  refine Sv.region ?_
  refine un (a1 (v := (B (decide (v8 < (vals.length : Int))))) rfl ?_)
  refine dnil ?_
  refine Sv.seq ?_
  refine Sv.cond (b := decide (v8 < (vals.length : Int))) rfl (fun hc1 => ?_) (fun hc1 => ?_)
  · replace h := ifT hc1 h
    refine Sv.skip ?_
    refine Sv.seq ?_
    refine Sv.block ?_
    refine Sv.seq ?_
    refine Sv.region ?_
    obtain ⟨x_, hx1, h⟩ := bnd h
    refine un (a1 (v := (.c (.rop [cI x_]))) (s_iaddr (e := eI) (xs := vals) rfl rfl hx1) ?_)
    refine un (a1 (v := (I x_)) rfl ?_)
    refine un (a1 rfl ?_)
    refine dnil ?_
    refine Sv.seq ?_
    refine Sv.region ?_
    refine un (a1 rfl ?_)
    refine un (a1 rfl ?_)
    refine un (a1 (v := (B (!decide (x_ = 0)))) rfl ?_)
    refine dnil ?_
    refine Sv.cond (b := (!decide (x_ = 0))) rfl (fun hc2 => ?_) (fun hc2 => ?_)
    · replace h := ifT hc2 h
      refine Sv.seq ?_
      refine Sv.region ?_
      refine un (a1 rfl ?_)
      refine un (a1 rfl ?_)
      refine dnil ?_
      refine Sv.ret ?_
      replace h := Option.some.inj h
      subst h
      exact hr _ ⟨_, .refl _, _, rfl, ⟨upd (fun _ => none) 0 (some (I x_)), (fun _ => none), 0⟩, (I x_), weak_canon [] rfl List.nodup_nil (Nat.le_refl _) (fun b h => absurd h (Nat.not_lt_zero _)) (.cons rfl (avAs_free rfl) .nil) .nil, rfl, rfl, rfl, rfl⟩
    · replace h := ifF hc2 h
      refine Sv.skip ?_
      refine Sv.region ?_
      refine un (a1 (v := (I (wi (v8 + 1)))) rfl ?_)
      refine un (a1 rfl ?_)
      refine dnil ?_
      exact hself (wi (v8 + 1)) h _ (weak_canon [] rfl (by decide) (by decide) (fun b h => absurd h (Nat.not_lt_zero _)) (.cons rfl (avAs_free rfl) (.cons rfl (avAs_free rfl) (.cons rfl (avAs_free rfl) (.cons rfl (avAs_free rfl) .nil)))) .nil)
  · replace h := ifF hc1 h
    refine Sv.exit ?_
    exact hK0 () h _ (weak_canon [] rfl (by decide) (by decide) (fun b h => absurd h (Nat.not_lt_zero _)) (.cons rfl (avAs_free rfl) .nil) .nil)
/-- cmp.Or(int) -/
noncomputable def cmp_Or_int (vals : (List Int)) : Option Int :=
  lim fun kk => cmp_Or_int_l0 vals (fun (_ : Unit) => 
      some 0) kk 0
theorem cmp_Or_int_ok {Γ : Glob} {vals : (List Int)} {r : Int} (h : cmp_Or_int vals = some r) : CPure Try.prog Γ 69 [(.c (.ro false 1 (vals.map eI)))] (I r) := by
  refine acalls_of_sv hmix c69 (R := cmp_Or_int_post r) ?_
  unfold cmp_Or_int at h
  refine Sv.seq ?_
  refine Sv.region ?_
  refine un (a1 rfl ?_)
  refine dnil ?_
  refine Sv.seq ?_
  refine Sv.region ?_
  refine un (a1 rfl ?_)
  refine dnil ?_
  refine Sv.seq ?_
  refine Sv.seq ?_
  refine Sv.region ?_
  refine un (a1 rfl ?_)
  refine un (a1 (v := (I (vals.length : Int))) (s_len (e := eI) (xs := vals) rfl) ?_)
  refine un (a1 rfl ?_)
  refine dnil ?_
  refine Sv.block ?_
  obtain ⟨kk, h⟩ := lim_some h
  refine Sv.weak (weak_canon [] rfl (by decide) (by decide) (fun b h => absurd h (Nat.not_lt_zero _)) (.cons rfl (avAs_free rfl) (.cons rfl (avAs_free rfl) (.cons rfl (avAs_free rfl) (.cons rfl (avAs_free rfl) .nil)))) .nil) (cmp_Or_int_l0_ok h ?_ (fun s hs => hs))
  · intro _ h _ hw1
    refine Sv.weak hw1 ?_
    refine Sv.seq ?_
    refine Sv.region ?_
    refine un (a1 rfl ?_)
    refine un (a1 rfl ?_)
    refine dnil ?_
    refine Sv.ret ?_
    replace h := Option.some.inj h
    subst h
    exact ⟨_, .refl _, _, rfl, ⟨upd (fun _ => none) 0 (some (I 0)), (fun _ => none), 0⟩, (I 0), weak_canon [] rfl List.nodup_nil (Nat.le_refl _) (fun b h => absurd h (Nat.not_lt_zero _)) (.cons rfl (avAs_free rfl) .nil) .nil, rfl, rfl, rfl, rfl⟩
def a43 : AFunc := ⟨2, [(.tmp 4)], (.seq (.region [⟨(some 2), (.box (.tmp 0)), none⟩, ⟨(some 3), (.box (.tmp 1)), none⟩, ⟨(some 4), (.mov (.const (.c (.val (.int .i64 0))))), none⟩])
 (.seq (.drawn (.fin [(⟨(some 5), (.load true 6 (.tmp 2)), none⟩, (0, 0)), (⟨(some 7), (.load true 6 (.tmp 3)), none⟩, (0, 2)), (⟨(some 10), (.faddr 4 (.tmp 2)), none⟩, (0, 5)), (⟨(some 11), (.load false 1 (.tmp 10)), none⟩, (0, 6)), (⟨(some 12), (.faddr 4 (.tmp 3)), none⟩, (0, 7)), (⟨(some 13), (.load false 1 (.tmp 12)), none⟩, (0, 8)), (⟨(some 15), (.faddr 5 (.tmp 2)), none⟩, (0, 10)), (⟨(some 16), (.load false 1 (.tmp 15)), none⟩, (0, 11)), (⟨(some 17), (.faddr 5 (.tmp 3)), none⟩, (0, 12)), (⟨(some 18), (.load false 1 (.tmp 17)), none⟩, (0, 13)), (⟨(some 6), (.call 71 [(.tmp 5)]), none⟩, (1, 1)), (⟨(some 8), (.call 71 [(.tmp 7)]), none⟩, (1, 3)), (⟨(some 9), (.call 70 [(.tmp 6), (.tmp 8)]), none⟩, (1, 4)), (⟨(some 14), (.call 70 [(.tmp 11), (.tmp 13)]), none⟩, (1, 9)), (⟨(some 19), (.call 70 [(.tmp 16), (.tmp 18)]), none⟩, (2, 14)), (⟨(some 20), (.bslice 1 [(.val (.int .i64 0))] 3 [(0, (.tmp 9)), (1, (.tmp 14)), (2, (.tmp 19))]), none⟩, (2, 15)), (⟨(some 21), (.call 69 [(.tmp 20)]), none⟩, (2, 16)), (⟨(some 4), (.mov (.tmp 21)), none⟩, (0, 17))]))
 .ret))⟩
set_option maxRecDepth 100000 in
theorem c43 : compFunc Try.prog 43 = some a43 := by kernel_rfl
def cascade_compare_post (r : Int) : AV → Heap → Nat → Prop := fun v h' n' => v = (I r) ∧ (h' = (fun _ => none)) ∧ n' = 0
/-- clerestory/cascade.compare -/
noncomputable def cascade_compare (a_ : TSGiven) (b_ : TSGiven) : Option Int :=
  letIn [(cmp_Compare_int (cascade_rank a_) (cascade_rank b_)), (cmp_Compare_int a_.Weight b_.Weight), (cmp_Compare_int a_.Place b_.Place)] fun row : List Int =>
  (cmp_Or_int row).bind fun r_ =>
  some r_
theorem cascade_compare_ok {Γ : Glob} {a_ : TSGiven} {b_ : TSGiven} {r : Int} (h : cascade_compare a_ b_ = some r) : CPure Try.prog Γ 43 [(.agg [.str a_.Name, .str a_.Value, cI a_.Origin, cB a_.Important, cI a_.Weight, cI a_.Place]), (.agg [.str b_.Name, .str b_.Value, cI b_.Origin, cB b_.Important, cI b_.Weight, cI b_.Place])] (I r) := by
  refine acalls_of_sv hmix c43 (R := cascade_compare_post r) ?_
  unfold cascade_compare at h
  refine Sv.seq ?_
  refine Sv.region ?_
  refine un (a2v (v := (.c (.ref 0 6 0 0))) (h' := upd _ 0 (some (.cells 6 [[.str a_.Name, .str a_.Value, cI a_.Origin, cB a_.Important, cI a_.Weight, cI a_.Place]]))) (n' := 1) rfl rfl (fun h => by cases h) ?_)
  refine un (a2v (v := (.c (.ref 1 6 0 0))) (h' := upd _ 1 (some (.cells 6 [[.str b_.Name, .str b_.Value, cI b_.Origin, cB b_.Important, cI b_.Weight, cI b_.Place]]))) (n' := 2) rfl rfl (fun h => by cases h) ?_)
  refine un (a1 rfl ?_)
  refine dnil ?_
  refine Sv.seq ?_
  refine Sv.drawn ?_
  refine un (a1 (v := (.agg [.str a_.Name, .str a_.Value, cI a_.Origin, cB a_.Important, cI a_.Weight, cI a_.Place])) rfl ?_)
  refine un (a1 (v := (.agg [.str b_.Name, .str b_.Value, cI b_.Origin, cB b_.Important, cI b_.Weight, cI b_.Place])) rfl ?_)
  refine un (a1 (v := (.c (.ref 0 6 0 4))) rfl ?_)
  refine un (a1 (v := (I a_.Weight)) rfl ?_)
  refine un (a1 (v := (.c (.ref 1 6 0 4))) rfl ?_)
  refine un (a1 (v := (I b_.Weight)) rfl ?_)
  refine un (a1 (v := (.c (.ref 0 6 0 5))) rfl ?_)
  refine un (a1 (v := (I a_.Place)) rfl ?_)
  refine un (a1 (v := (.c (.ref 1 6 0 5))) rfl ?_)
  refine un (a1 (v := (I b_.Place)) rfl ?_)
  refine un (ac_pure (cascade_rank_ok (Γ := Γ) a_) rfl rfl rfl ?_)
  refine un (ac_pure (cascade_rank_ok (Γ := Γ) b_) rfl rfl rfl ?_)
  refine un (ac_pure (cmp_Compare_int_ok (Γ := Γ) (cascade_rank a_) (cascade_rank b_)) rfl rfl rfl ?_)
  refine un (ac_pure (cmp_Compare_int_ok (Γ := Γ) a_.Weight b_.Weight) rfl rfl rfl ?_)
  refine un (ac_pure (cmp_Compare_int_ok (Γ := Γ) a_.Place b_.Place) rfl rfl rfl ?_)
  obtain ⟨row, hrow⟩ : ∃ row : List Int, row = [(cmp_Compare_int (cascade_rank a_) (cascade_rank b_)), (cmp_Compare_int a_.Weight b_.Weight), (cmp_Compare_int a_.Place b_.Place)] := ⟨_, rfl⟩
  replace h := letAt hrow h
  refine un (a2v (v := (lstV false 2 1 row.length)) (h' := upd _ 2 (lstB false 1 (row.map eI))) (n' := 3) rfl (by rw [hrow]; rfl) (fun h => by cases h) ?_)
  clear hrow
  obtain ⟨r_, hr1, h⟩ := bnd h
  refine un (ac_lend (h2 := (upd _ 2 none)) (cmp_Or_int_ok hr1) rfl (.cons (.c (lstC_ro (es := List.map eI row) rfl (List.length_map eI).symm (map_nil_of (fun h => by cases h)) (gone rfl) (fr_map fun _ => rfl))) .nil) (hsub_none (hsub_refl _)) rfl rfl (.inr rfl) ?_)
  refine un (a1 rfl ?_)
  refine dnil ?_
  refine Sv.ret ?_
  replace h := Option.some.inj h
  subst h
  exact ⟨_, .refl _, _, rfl, ⟨upd (fun _ => none) 0 (some (I r_)), (fun _ => none), 0⟩, (I r_), weak_canon [] rfl List.nodup_nil (Nat.le_refl _) (fun b h => absurd h (Nat.not_lt_zero _)) (.cons rfl (avAs_free rfl) .nil) .nil, rfl, rfl, rfl, rfl⟩
def a33 : AFunc := ⟨2, [(.tmp 4)], (.seq (.region [⟨(some 2), (.box (.tmp 0)), none⟩, ⟨(some 3), (.box (.tmp 1)), none⟩, ⟨(some 4), (.mov (.const (.c (.val (.bool false))))), none⟩])
 (.seq (.region [⟨(some 5), (.load true 6 (.tmp 2)), none⟩, ⟨(some 6), (.load true 6 (.tmp 3)), none⟩, ⟨(some 7), (.call 43 [(.tmp 5), (.tmp 6)]), none⟩, ⟨(some 8), (.bin .lss (.tmp 7) (.const (.c (.val (.int .i64 0))))), none⟩, ⟨(some 4), (.mov (.tmp 8)), none⟩])
 .ret))⟩
set_option maxRecDepth 100000 in
theorem c33 : compFunc Try.prog 33 = some a33 := by kernel_rfl
def cascade_Less_post (r : Bool) : AV → Heap → Nat → Prop := fun v h' n' => v = (B r) ∧ (h' = (fun _ => none)) ∧ n' = 0
/-- clerestory/cascade.Less -/
noncomputable def cascade_Less (a_ : TSGiven) (b_ : TSGiven) : Option Bool :=
  (cascade_compare a_ b_).bind fun r_ =>
  some (decide (r_ < 0))
theorem cascade_Less_ok {Γ : Glob} {a_ : TSGiven} {b_ : TSGiven} {r : Bool} (h : cascade_Less a_ b_ = some r) : CPure Try.prog Γ 33 [(.agg [.str a_.Name, .str a_.Value, cI a_.Origin, cB a_.Important, cI a_.Weight, cI a_.Place]), (.agg [.str b_.Name, .str b_.Value, cI b_.Origin, cB b_.Important, cI b_.Weight, cI b_.Place])] (B r) := by
  refine acalls_of_sv hmix c33 (R := cascade_Less_post r) ?_
  unfold cascade_Less at h
  refine Sv.seq ?_
  refine Sv.region ?_
  refine un (a2v (v := (.c (.ref 0 6 0 0))) (h' := upd _ 0 (some (.cells 6 [[.str a_.Name, .str a_.Value, cI a_.Origin, cB a_.Important, cI a_.Weight, cI a_.Place]]))) (n' := 1) rfl rfl (fun h => by cases h) ?_)
  refine un (a2v (v := (.c (.ref 1 6 0 0))) (h' := upd _ 1 (some (.cells 6 [[.str b_.Name, .str b_.Value, cI b_.Origin, cB b_.Important, cI b_.Weight, cI b_.Place]]))) (n' := 2) rfl rfl (fun h => by cases h) ?_)
  refine un (a1 rfl ?_)
  refine dnil ?_
  refine Sv.seq ?_
  refine Sv.region ?_
  refine un (a1 (v := (.agg [.str a_.Name, .str a_.Value, cI a_.Origin, cB a_.Important, cI a_.Weight, cI a_.Place])) rfl ?_)
  refine un (a1 (v := (.agg [.str b_.Name, .str b_.Value, cI b_.Origin, cB b_.Important, cI b_.Weight, cI b_.Place])) rfl ?_)
  obtain ⟨r_, hr1, h⟩ := bnd h
  refine un (ac_pure (cascade_compare_ok hr1) rfl rfl rfl ?_)
  refine un (a1 (v := (B (decide (r_ < 0)))) rfl ?_)
  refine un (a1 rfl ?_)
  refine dnil ?_
  refine Sv.ret ?_
  replace h := Option.some.inj h
  subst h
  exact ⟨_, .refl _, _, rfl, ⟨upd (fun _ => none) 0 (some (B (decide (r_ < 0)))), (fun _ => none), 0⟩, (B (decide (r_ < 0))), weak_canon [] rfl List.nodup_nil (Nat.le_refl _) (fun b h => absurd h (Nat.not_lt_zero _)) (.cons rfl (avAs_free rfl) .nil) .nil, rfl, rfl, rfl, rfl⟩
def a18_c0 : ACode := .ret
def a18 : AFunc := ⟨0, [(.tmp 0)], (.seq (.region [⟨(some 0), (.mov (.const (.c (.val (.bool false))))), none⟩])
 (.seq (.region [⟨(some 1), (.build [(.str []), (.str []), (.val (.int .i64 0)), (.val (.bool false)), (.val (.int .i64 0)), (.val (.int .i64 0))] [(2, (1, (.const (.c (.val (.int .i64 1))))))]), none⟩, ⟨(some 2), (.build [(.str []), (.str []), (.val (.int .i64 0)), (.val (.bool false)), (.val (.int .i64 0)), (.val (.int .i64 0))] [(2, (1, (.const (.c (.val (.int .i64 2))))))]), none⟩, ⟨(some 3), (.call 33 [(.tmp 1), (.tmp 2)]), none⟩, ⟨(some 4), (.mov (.tmp 3)), none⟩, ⟨(some 5), (.build [(.str []), (.str []), (.val (.int .i64 0)), (.val (.bool false)), (.val (.int .i64 0)), (.val (.int .i64 0))] [(2, (1, (.const (.c (.val (.int .i64 1)))))), (3, (1, (.const (.c (.val (.bool true))))))]), (some (4, true))⟩, ⟨(some 6), (.build [(.str []), (.str []), (.val (.int .i64 0)), (.val (.bool false)), (.val (.int .i64 0)), (.val (.int .i64 0))] [(2, (1, (.const (.c (.val (.int .i64 2))))))]), (some (4, true))⟩, ⟨(some 7), (.call 33 [(.tmp 5), (.tmp 6)]), (some (4, true))⟩, ⟨(some 8), (.un .not (.tmp 7)), (some (4, true))⟩, ⟨(some 9), (.pick (.tmp 4) (.tmp 8) (.const (.c (.val (.bool false))))), none⟩, ⟨(some 0), (.mov (.tmp 9)), none⟩])
 a18_c0))⟩
set_option maxRecDepth 100000 in
theorem c18 : compFunc Try.prog 18 = some a18 := by kernel_rfl
def clerestorylaw2_own_post (r : Bool) : AV → Heap → Nat → Prop := fun v h' n' => v = (B r) ∧ (h' = (fun _ => none)) ∧ n' = 0
noncomputable def clerestorylaw2_own_j1 (v0 : Bool) : Option Bool :=
  some v0
theorem clerestorylaw2_own_j1_ok {Γ : Glob} {v0 : Bool} {o : Bool} (h : clerestorylaw2_own_j1 v0 = some o) :
    Sv Try.prog Γ 0 a18_c0 (Ends a18.results 0 (clerestorylaw2_own_post o)) ⟨(upd (fun _ => none) 0 (some (B v0))), (fun _ => none), 0⟩ := by
  unfold clerestorylaw2_own_j1 at h
  refine Sv.ret ?_
  replace h := Option.some.inj h
  subst h
  exact ⟨_, .refl _, _, rfl, ⟨upd (fun _ => none) 0 (some (B v0)), (fun _ => none), 0⟩, (B v0), weak_canon [] rfl List.nodup_nil (Nat.le_refl _) (fun b h => absurd h (Nat.not_lt_zero _)) (.cons rfl (avAs_free rfl) .nil) .nil, rfl, rfl, rfl, rfl⟩
/-- clerestory/clerestorylaw2.own -/
noncomputable def clerestorylaw2_own : Option Bool :=
  (cascade_Less (⟨[], [], 1, false, 0, 0⟩ : TSGiven) (⟨[], [], 2, false, 0, 0⟩ : TSGiven)).bind fun r_ =>
  if r_ then
    (cascade_Less (⟨[], [], 1, true, 0, 0⟩ : TSGiven) (⟨[], [], 2, false, 0, 0⟩ : TSGiven)).bind fun r_1 =>
    clerestorylaw2_own_j1 (!r_1)
  else
    clerestorylaw2_own_j1 false
theorem clerestorylaw2_own_ok {Γ : Glob} {r : Bool} (h : clerestorylaw2_own = some r) : CPure Try.prog Γ 18 [] (B r) := by
  refine acalls_of_sv hmix c18 (R := clerestorylaw2_own_post r) ?_
  unfold clerestorylaw2_own at h
  refine Sv.seq ?_
  refine Sv.region ?_
  refine un (a1 rfl ?_)
  refine dnil ?_
  refine Sv.seq ?_
  refine Sv.region ?_
  refine un (a1 (v := (.agg [.str [], .str [], cI 1, cB false, cI 0, cI 0])) rfl ?_)
  refine un (a1 (v := (.agg [.str [], .str [], cI 2, cB false, cI 0, cI 0])) rfl ?_)
  obtain ⟨r_, hr1, h⟩ := bnd h
  refine un (ac_pure (cascade_Less_ok hr1) rfl rfl rfl ?_)
  refine un (a1 rfl ?_)
  refine split2 (fun hc1 => ?_) (fun hc1 => ?_)
  · replace h := ifT hc1 h
    refine gt rfl (a1 (v := (.agg [.str [], .str [], cI 1, cB true, cI 0, cI 0])) rfl ?_)
    refine gt rfl (a1 (v := (.agg [.str [], .str [], cI 2, cB false, cI 0, cI 0])) rfl ?_)
    obtain ⟨r_1, hr2, h⟩ := bnd h
    refine gt rfl (ac_pure (cascade_Less_ok hr2) rfl rfl rfl ?_)
    refine gt rfl (a1 (v := (B (!r_1))) rfl ?_)
    refine un (a1 (v := (B (!r_1))) rfl ?_)
    refine un (a1 rfl ?_)
    refine dnil ?_
    exact Sv.weak (weak_canon [] rfl (by decide) (by decide) (fun b h => absurd h (Nat.not_lt_zero _)) (.cons rfl (avAs_free rfl) .nil) .nil) (clerestorylaw2_own_j1_ok h)
  · replace h := ifF hc1 h
    refine gs rfl rfl ?_
    refine gs rfl rfl ?_
    refine gs rfl rfl ?_
    refine gs rfl rfl ?_
    refine un (a1 (v := (B false)) rfl ?_)
    refine un (a1 rfl ?_)
    refine dnil ?_
    exact Sv.weak (weak_canon [] rfl (by decide) (by decide) (fun b h => absurd h (Nat.not_lt_zero _)) (.cons rfl (avAs_free rfl) .nil) .nil) (clerestorylaw2_own_j1_ok h)
def a55 : AFunc := ⟨3, [(.tmp 5)], (.seq (.region [⟨(some 5), (.mov (.const (.c (.val (.int .i64 0))))), none⟩])
 (.seq (.drawn (.fin [(⟨(some 6), (.load false 1 (.tmp 2)), none⟩, (0, 0)), (⟨(some 7), (.mov (.tmp 0)), none⟩, (0, 1)), (⟨(some 8), (.iaddr 6 (.tmp 6) (.tmp 7)), none⟩, (0, 2)), (⟨(some 9), (.load true 6 (.tmp 8)), none⟩, (0, 3)), (⟨(some 10), (.load false 1 (.tmp 2)), none⟩, (0, 4)), (⟨(some 11), (.mov (.tmp 1)), none⟩, (0, 5)), (⟨(some 12), (.iaddr 6 (.tmp 10) (.tmp 11)), none⟩, (0, 6)), (⟨(some 13), (.load true 6 (.tmp 12)), none⟩, (0, 7)), (⟨(some 14), (.call 43 [(.tmp 9), (.tmp 13)]), none⟩, (2, 8)), (⟨(some 5), (.mov (.tmp 14)), none⟩, (0, 9))]))
 .ret))⟩
set_option maxRecDepth 100000 in
theorem c55 : compFunc Try.prog 55 = some a55 := by kernel_rfl
def cascade_Order_fn1_post (r : Int) : AV → Heap → Nat → Prop := fun v h' n' => v = (I r) ∧ (h' = (fun _ => none)) ∧ n' = 0
/-- clerestory/cascade.Order$1 -/
noncomputable def cascade_Order_fn1 (i_ : Int) (k_ : Int) (v2 : (List TSGiven)) : Option Int :=
  (at? v2 i_).bind fun x_ =>
  (at? v2 k_).bind fun x_1 =>
  (cascade_compare x_ x_1).bind fun r_ =>
  some r_
theorem cascade_Order_fn1_ok {Γ : Glob} {i_ : Int} {k_ : Int} {v2 : (List TSGiven)} {r : Int} (h : cascade_Order_fn1 i_ k_ v2 = some r) : CPure Try.prog Γ 55 [(I i_), (I k_), (.c (.rop [.ro false 6 (v2.map e_TSGiven)]))] (I r) := by
  refine acalls_of_sv hmix c55 (R := cascade_Order_fn1_post r) ?_
  unfold cascade_Order_fn1 at h
  refine Sv.seq ?_
  refine Sv.region ?_
  refine un (a1 rfl ?_)
  refine dnil ?_
  refine Sv.seq ?_
  refine Sv.drawn ?_
  refine un (a1 (v := (.c (.ro false 6 (v2.map e_TSGiven)))) rfl ?_)
  refine un (a1 rfl ?_)
  obtain ⟨x_, hx1, h⟩ := bnd h
  refine un (a1 (v := (.c (.rop [.str x_.Name, .str x_.Value, cI x_.Origin, cB x_.Important, cI x_.Weight, cI x_.Place]))) (s_iaddr (e := e_TSGiven) (xs := v2) rfl rfl hx1) ?_)
  refine un (a1 (v := (.agg [.str x_.Name, .str x_.Value, cI x_.Origin, cB x_.Important, cI x_.Weight, cI x_.Place])) rfl ?_)
  refine un (a1 (v := (.c (.ro false 6 (v2.map e_TSGiven)))) rfl ?_)
  refine un (a1 rfl ?_)
  obtain ⟨x_1, hx2, h⟩ := bnd h
  refine un (a1 (v := (.c (.rop [.str x_1.Name, .str x_1.Value, cI x_1.Origin, cB x_1.Important, cI x_1.Weight, cI x_1.Place]))) (s_iaddr (e := e_TSGiven) (xs := v2) rfl rfl hx2) ?_)
  refine un (a1 (v := (.agg [.str x_1.Name, .str x_1.Value, cI x_1.Origin, cB x_1.Important, cI x_1.Weight, cI x_1.Place])) rfl ?_)
  obtain ⟨r_, hr1, h⟩ := bnd h
  refine un (ac_pure (cascade_compare_ok hr1) rfl rfl rfl ?_)
  refine un (a1 rfl ?_)
  refine dnil ?_
  refine Sv.ret ?_
  replace h := Option.some.inj h
  subst h
  exact ⟨_, .refl _, _, rfl, ⟨upd (fun _ => none) 0 (some (I r_)), (fun _ => none), 0⟩, (I r_), weak_canon [] rfl List.nodup_nil (Nat.le_refl _) (fun b h => absurd h (Nat.not_lt_zero _)) (.cons rfl (avAs_free rfl) .nil) .nil, rfl, rfl, rfl, rfl⟩
def a90_c0 : ACode := (.cond (.tmp 34) .skip (.exit 2))
def a90_c1 : ACode := (.seq (.block 3 (.drawn (.fin [(⟨(some 37), (.mov (.tmp 0)), none⟩, (0, 0)), (⟨(some 38), (.mov (.tmp 9)), none⟩, (0, 1)), (⟨(some 39), (.mov (.tmp 0)), none⟩, (0, 2)), (⟨(some 40), (.mov (.tmp 9)), none⟩, (0, 3)), (⟨(some 41), (.bin .sub (.tmp 40) (.const (.c (.val (.int .i64 1))))), none⟩, (0, 4)), (⟨(some 42), (.mov (.tmp 0)), none⟩, (0, 5)), (⟨(some 43), (.mov (.tmp 9)), none⟩, (0, 6)), (⟨(some 44), (.bin .sub (.tmp 43) (.const (.c (.val (.int .i64 1))))), none⟩, (0, 7)), (⟨(some 45), (.iaddr 1 (.tmp 42) (.tmp 44)), none⟩, (0, 8)), (⟨(some 46), (.load false 1 (.tmp 45)), none⟩, (0, 9)), (⟨(some 47), (.mov (.tmp 0)), none⟩, (0, 10)), (⟨(some 48), (.mov (.tmp 9)), none⟩, (0, 11)), (⟨(some 49), (.iaddr 1 (.tmp 47) (.tmp 48)), none⟩, (0, 12)), (⟨(some 50), (.load false 1 (.tmp 49)), none⟩, (0, 13)), (⟨(some 51), (.iaddr 1 (.tmp 37) (.tmp 38)), none⟩, (0, 14)), (⟨none, (.store 1 (.tmp 51) (.tmp 46)), none⟩, (2, 15)), (⟨(some 52), (.iaddr 1 (.tmp 39) (.tmp 41)), none⟩, (0, 16)), (⟨none, (.store 1 (.tmp 52) (.tmp 50)), none⟩, (2, 17))])))
 (.region [⟨(some 35), (.mov (.tmp 9)), none⟩, ⟨(some 36), (.bin .sub (.tmp 35) (.const (.c (.val (.int .i64 1))))), none⟩, ⟨(some 9), (.mov (.tmp 36)), none⟩]))
def a90_c2 : ACode := (.seq (.seq (.drawn (.fin [(⟨(some 18), (.mov (.tmp 9)), none⟩, (0, 0)), (⟨(some 19), (.mov (.tmp 1)), none⟩, (0, 1)), (⟨(some 20), (.bin .gtr (.tmp 18) (.tmp 19)), none⟩, (0, 2)), (⟨(some 21), (.mov (.tmp 20)), none⟩, (0, 3)), (⟨(some 22), (.mov (.tmp 3)), (some (21, true))⟩, (0, 4)), (⟨(some 23), (.mov (.tmp 0)), (some (21, true))⟩, (0, 5)), (⟨(some 24), (.mov (.tmp 9)), (some (21, true))⟩, (0, 6)), (⟨(some 25), (.iaddr 1 (.tmp 23) (.tmp 24)), (some (21, true))⟩, (0, 7)), (⟨(some 26), (.load false 1 (.tmp 25)), (some (21, true))⟩, (0, 8)), (⟨(some 27), (.mov (.tmp 0)), (some (21, true))⟩, (0, 9)), (⟨(some 28), (.mov (.tmp 9)), (some (21, true))⟩, (0, 10)), (⟨(some 29), (.bin .sub (.tmp 28) (.const (.c (.val (.int .i64 1))))), (some (21, true))⟩, (0, 11)), (⟨(some 30), (.iaddr 1 (.tmp 27) (.tmp 29)), (some (21, true))⟩, (0, 12)), (⟨(some 31), (.load false 1 (.tmp 30)), (some (21, true))⟩, (0, 13)), (⟨(some 32), (.callv (.tmp 22) [(.tmp 26), (.tmp 31)]), (some (21, true))⟩, (2, 14)), (⟨(some 33), (.bin .lss (.tmp 32) (.const (.c (.val (.int .i64 0))))), (some (21, true))⟩, (0, 15)), (⟨(some 34), (.pick (.tmp 21) (.tmp 33) (.const (.c (.val (.bool false))))), none⟩, (0, 16))]))
 a90_c0)
 a90_c1)
def a90_c3 : ACode := (.seq (.seq (.region [⟨(some 12), (.mov (.tmp 8)), none⟩, ⟨(some 13), (.mov (.tmp 2)), none⟩, ⟨(some 14), (.bin .lss (.tmp 12) (.tmp 13)), none⟩])
 (.cond (.tmp 14) .skip (.exit 0)))
 (.seq (.block 1 (.seq (.region [⟨(some 17), (.mov (.tmp 8)), none⟩, ⟨(some 9), (.mov (.tmp 17)), none⟩])
 (.block 2 (.loop a90_c2))))
 (.region [⟨(some 15), (.mov (.tmp 8)), none⟩, ⟨(some 16), (.bin .add (.tmp 15) (.const (.c (.val (.int .i64 1))))), none⟩, ⟨(some 8), (.mov (.tmp 16)), none⟩])))
def a90 : AFunc := ⟨4, [], (.seq (.region [⟨(some 10), (.mov (.tmp 1)), none⟩, ⟨(some 11), (.bin .add (.tmp 10) (.const (.c (.val (.int .i64 1))))), none⟩, ⟨(some 8), (.mov (.tmp 11)), none⟩])
 (.block 0 (.loop a90_c3)))⟩
set_option maxRecDepth 100000 in
theorem c90 : compFunc Try.prog 90 = some a90 := by kernel_rfl
def slices_insertionSortCmpFunc_int_post (zdata : Bool) (r : (List Int)) : AV → Heap → Nat → Prop := fun v h' n' => v = (.tup []) ∧ (h' = (upd (fun _ => none) 0 (lstB zdata 1 (r.map eI)))) ∧ n' = 1
abbrev slices_insertionSortCmpFunc_int_q0 (Γ : Glob) (Q : AExit → St → Prop) : AExit → St → Prop := AThen (Sv Try.prog Γ 1 a90_c1 Q) Q
noncomputable def slices_insertionSortCmpFunc_int_j9 (j_ : Int) (a_ : Int) (b_ : Int) (cmpc : (List TSGiven)) (i_ : Int) (self : (List Int) → Int → Option (List Int)) (K2_ : (List Int) → Option (List Int)) (data5 : (List Int)) (v34 : Bool) : Option (List Int) :=
  if v34 then
    (at? data5 (wi (j_ - 1))).bind fun x_ =>
    (at? data5 j_).bind fun x_1 =>
    (at? data5 j_).bind fun x_2 =>
    (at? (data5.set j_.toNat x_) (wi (j_ - 1))).bind fun x_3 =>
    self ((data5.set j_.toNat x_).set (wi (j_ - 1)).toNat x_1) (wi (j_ - 1))
  else
    K2_ data5
theorem slices_insertionSortCmpFunc_int_j9_ok {Γ : Glob} {Q : AExit → St → Prop} {zdata : Bool} {j_ : Int} {a_ : Int} {b_ : Int} {cmpc : (List TSGiven)} {i_ : Int} {self : (List Int) → Int → Option (List Int)} {K2_ : (List Int) → Option (List Int)} {data5 : (List Int)} {v34 : Bool} (hzdata5 : zdata = true → data5 = []) {o : (List Int)} (h : slices_insertionSortCmpFunc_int_j9 j_ a_ b_ cmpc i_ self K2_ data5 v34 = some o)
    (hself : ∀ (data3 : (List Int)) (j_ : Int) (_ : zdata = true → data3 = []), self data3 j_ = some o → ∀ s, Weak 1 s ⟨(upd (upd (upd (upd (upd (upd (fun _ => none) 0 (some (lstV zdata 0 1 data3.length))) 1 (some (I a_))) 2 (some (I b_))) 3 (some (.c (.fn (.func 55) [] [.rop [.ro false 6 (cmpc.map e_TSGiven)]])))) 8 (some (I i_))) 9 (some (I j_))), (upd (fun _ => none) 0 (lstB zdata 1 (data3.map eI))), 1⟩ → (Q) .normal s)
    (hK2 : ∀ (data4 : (List Int)) (_ : zdata = true → data4 = []), K2_ data4 = some o → ∀ s, Weak 1 s ⟨(upd (upd (upd (upd (upd (fun _ => none) 0 (some (lstV zdata 0 1 data4.length))) 1 (some (I a_))) 2 (some (I b_))) 3 (some (.c (.fn (.func 55) [] [.rop [.ro false 6 (cmpc.map e_TSGiven)]])))) 8 (some (I i_))), (upd (fun _ => none) 0 (lstB zdata 1 (data4.map eI))), 1⟩ → Q (.exit 2) s)
    (hr : ∀ s, Ends a90.results 1 (slices_insertionSortCmpFunc_int_post zdata o) .ret s → Q .ret s) :
    Sv Try.prog Γ 1 a90_c0 (slices_insertionSortCmpFunc_int_q0 Γ Q) ⟨(upd (upd (upd (upd (upd (upd (upd (fun _ => none) 0 (some (lstV zdata 0 1 data5.length))) 1 (some (I a_))) 2 (some (I b_))) 3 (some (.c (.fn (.func 55) [] [.rop [.ro false 6 (cmpc.map e_TSGiven)]])))) 8 (some (I i_))) 9 (some (I j_))) 34 (some (B v34))), (upd (fun _ => none) 0 (lstB zdata 1 (data5.map eI))), 1⟩ := by
  unfold slices_insertionSortCmpFunc_int_j9 at h
  refine Sv.cond (b := v34) rfl (fun hc2 => ?_) (fun hc2 => ?_)
  · replace h := ifT hc2 h
    refine Sv.skip ?_
    refine Sv.seq ?_
    refine Sv.block ?_
    refine Sv.drawn ?_
    refine un (a1 rfl ?_)
    refine un (a1 rfl ?_)
    refine un (a1 rfl ?_)
    refine un (a1 rfl ?_)
    refine un (a1 (v := (I (wi (j_ - 1)))) rfl ?_)
    refine un (a1 rfl ?_)
    refine un (a1 rfl ?_)
    refine un (a1 (v := (I (wi (j_ - 1)))) rfl ?_)
    obtain ⟨x_, hx1, h⟩ := bnd h
    refine un (a1 (v := (.c (.ref 0 1 (wi (j_ - 1)).toNat 0))) (s_iaddrL rfl rfl hzdata5 hx1) ?_)
    refine un (a1 (v := (I x_)) (s_loadL (e := eI) rfl rfl hzdata5 hx1 rfl rfl) ?_)
    refine un (a1 rfl ?_)
    refine un (a1 rfl ?_)
    obtain ⟨x_1, hx2, h⟩ := bnd h
    refine un (a1 (v := (.c (.ref 0 1 j_.toNat 0))) (s_iaddrL rfl rfl hzdata5 hx2) ?_)
    refine un (a1 (v := (I x_1)) (s_loadL (e := eI) rfl rfl hzdata5 hx2 rfl rfl) ?_)
    obtain ⟨x_2, hx3, h⟩ := bnd h
    refine un (a1 (v := (.c (.ref 0 1 j_.toNat 0))) (s_iaddrL rfl rfl hzdata5 hx3) ?_)
    refine un (a2n (h' := upd _ 0 (lstB zdata 1 ((data5.set j_.toNat x_).map eI))) (n' := 1) rfl (s_storeL (e := eI) (q' := x_) rfl rfl hzdata5 hx3 rfl rfl rfl (Nat.le_of_ble_eq_true rfl) rfl) (fun h => by cases h) ?_)
    try rw [len_set data5 j_.toNat x_]
    obtain ⟨x_3, hx4, h⟩ := bnd h
    refine un (a1 (v := (.c (.ref 0 1 (wi (j_ - 1)).toNat 0))) (s_iaddrL rfl rfl (hz_len hzdata5 (len_set data5 j_.toNat x_)) hx4) ?_)
    refine un (a2n (h' := upd _ 0 (lstB zdata 1 (((data5.set j_.toNat x_).set (wi (j_ - 1)).toNat x_1).map eI))) (n' := 1) rfl (s_storeL (e := eI) (q' := x_1) rfl rfl (hz_len hzdata5 (len_set data5 j_.toNat x_)) hx4 rfl rfl rfl (Nat.le_of_ble_eq_true rfl) rfl) (fun h => by cases h) ?_)
    try rw [len_set (data5.set j_.toNat x_) (wi (j_ - 1)).toNat x_1]
    refine dnil ?_
    refine Sv.region ?_
    refine un (a1 rfl ?_)
    refine un (a1 (v := (I (wi (j_ - 1)))) rfl ?_)
    refine un (a1 rfl ?_)
    refine dnil ?_
    exact hself ((data5.set j_.toNat x_).set (wi (j_ - 1)).toNat x_1) (wi (j_ - 1)) (hz_len (hz_len hzdata5 (len_set data5 j_.toNat x_)) (len_set (data5.set j_.toNat x_) (wi (j_ - 1)).toNat x_1)) h _ (weak_canon [0] rfl (by decide) (by decide) (by decide) (.cons rfl (avAs_free rfl) (.cons rfl (avAs_free rfl) (.cons rfl (.c (fn_as .nil (.cons (.same rfl) .nil))) (.cons rfl (avAs_free rfl) (.cons rfl (avAs_free rfl) (.cons rfl (.c (lstC_ren rfl (by decide))) .nil)))))) (.row (by decide) rfl (fr_map fun _ => rfl) .nil))
  · replace h := ifF hc2 h
    refine Sv.exit ?_
    exact hK2 data5 hzdata5 h _ (weak_canon [0] rfl (by decide) (by decide) (by decide) (.cons rfl (avAs_free rfl) (.cons rfl (.c (fn_as .nil (.cons (.same rfl) .nil))) (.cons rfl (avAs_free rfl) (.cons rfl (avAs_free rfl) (.cons rfl (.c (lstC_ren rfl (by decide))) .nil))))) (.row (by decide) rfl (fr_map fun _ => rfl) .nil))
noncomputable def slices_insertionSortCmpFunc_int_l3 (a_ : Int) (cmpc : (List TSGiven)) (b_ : Int) (i_ : Int) (K2_ : (List Int) → Option (List Int)) : Nat → (List Int) → Int → Option (List Int)
  | 0, _, _ => none
  | k + 1, data3, j_ =>
    if decide (a_ < j_) then
      (at? data3 j_).bind fun x_4 =>
      (at? data3 (wi (j_ - 1))).bind fun x_5 =>
      (cascade_Order_fn1 x_4 x_5 cmpc).bind fun r_ =>
      slices_insertionSortCmpFunc_int_j9 j_ a_ b_ cmpc i_ (slices_insertionSortCmpFunc_int_l3 a_ cmpc b_ i_ K2_ k) K2_ data3 (decide (r_ < 0))
    else
      slices_insertionSortCmpFunc_int_j9 j_ a_ b_ cmpc i_ (slices_insertionSortCmpFunc_int_l3 a_ cmpc b_ i_ K2_ k) K2_ data3 false
theorem slices_insertionSortCmpFunc_int_l3_ok {Γ : Glob} {Q : AExit → St → Prop} {zdata : Bool} {a_ : Int} {cmpc : (List TSGiven)} {b_ : Int} {i_ : Int} {K2_ : (List Int) → Option (List Int)} {k : Nat} {data3 : (List Int)} {j_ : Int} (hzdata3 : zdata = true → data3 = []) {o : (List Int)} (h : slices_insertionSortCmpFunc_int_l3 a_ cmpc b_ i_ K2_ k data3 j_ = some o)
    (hK2 : ∀ (data4 : (List Int)) (_ : zdata = true → data4 = []), K2_ data4 = some o → ∀ s, Weak 1 s ⟨(upd (upd (upd (upd (upd (fun _ => none) 0 (some (lstV zdata 0 1 data4.length))) 1 (some (I a_))) 2 (some (I b_))) 3 (some (.c (.fn (.func 55) [] [.rop [.ro false 6 (cmpc.map e_TSGiven)]])))) 8 (some (I i_))), (upd (fun _ => none) 0 (lstB zdata 1 (data4.map eI))), 1⟩ → Q (.exit 2) s)
    (hr : ∀ s, Ends a90.results 1 (slices_insertionSortCmpFunc_int_post zdata o) .ret s → Q .ret s) :
    Sv Try.prog Γ 1 (.loop a90_c2) Q ⟨(upd (upd (upd (upd (upd (upd (fun _ => none) 0 (some (lstV zdata 0 1 data3.length))) 1 (some (I a_))) 2 (some (I b_))) 3 (some (.c (.fn (.func 55) [] [.rop [.ro false 6 (cmpc.map e_TSGiven)]])))) 8 (some (I i_))) 9 (some (I j_))), (upd (fun _ => none) 0 (lstB zdata 1 (data3.map eI))), 1⟩ := by
  refine Sv.loop (I := fun k s => ∃ (data3 : (List Int)), ∃ (j_ : Int), (zdata = true → data3 = []) ∧ slices_insertionSortCmpFunc_int_l3 a_ cmpc b_ i_ K2_ k data3 j_ = some o ∧ s = ⟨(upd (upd (upd (upd (upd (upd (fun _ => none) 0 (some (lstV zdata 0 1 data3.length))) 1 (some (I a_))) 2 (some (I b_))) 3 (some (.c (.fn (.func 55) [] [.rop [.ro false 6 (cmpc.map e_TSGiven)]])))) 8 (some (I i_))) 9 (some (I j_))), (upd (fun _ => none) 0 (lstB zdata 1 (data3.map eI))), 1⟩) (fun k s hI => ?_) ⟨data3, j_, hzdata3, h, rfl⟩
  clear h
  clear hzdata3 j_ data3
  obtain ⟨data3, j_, hzdata3, h, rfl⟩ := hI
  cases k with
  | zero => cases h
  | succ k =>
  rw [slices_insertionSortCmpFunc_int_l3] at h
  have hself : ∀ (data3 : (List Int)) (j_ : Int) (_ : zdata = true → data3 = []), (slices_insertionSortCmpFunc_int_l3 a_ cmpc b_ i_ K2_ k) data3 j_ = some o → ∀ s, Weak 1 s ⟨(upd (upd (upd (upd (upd (upd (fun _ => none) 0 (some (lstV zdata 0 1 data3.length))) 1 (some (I a_))) 2 (some (I b_))) 3 (some (.c (.fn (.func 55) [] [.rop [.ro false 6 (cmpc.map e_TSGiven)]])))) 8 (some (I i_))) 9 (some (I j_))), (upd (fun _ => none) 0 (lstB zdata 1 (data3.map eI))), 1⟩ → (AThen (fun s' => ∃ s'' k', Weak 1 s' s'' ∧ k' < k + 1 ∧ (fun k s => ∃ (data3 : (List Int)), ∃ (j_ : Int), (zdata = true → data3 = []) ∧ slices_insertionSortCmpFunc_int_l3 a_ cmpc b_ i_ K2_ k data3 j_ = some o ∧ s = ⟨(upd (upd (upd (upd (upd (upd (fun _ => none) 0 (some (lstV zdata 0 1 data3.length))) 1 (some (I a_))) 2 (some (I b_))) 3 (some (.c (.fn (.func 55) [] [.rop [.ro false 6 (cmpc.map e_TSGiven)]])))) 8 (some (I i_))) 9 (some (I j_))), (upd (fun _ => none) 0 (lstB zdata 1 (data3.map eI))), 1⟩) k' s'') Q) .normal s := fun data3 j_ hzdata3 h s hw => ⟨_, k, hw, Nat.lt_succ_self k, data3, j_, hzdata3, h, rfl⟩
  refine Sv.seq ?_
  refine Sv.seq ?_
  refine Sv.drawn ?_
  refine un (a1 rfl ?_)
  refine un (a1 rfl ?_)
  refine un (a1 (v := (B (decide (a_ < j_)))) rfl ?_)
  refine un (a1 rfl ?_)
  refine split2 (fun hc3 => ?_) (fun hc3 => ?_)
  · replace h := ifT hc3 h
    refine gt rfl (a1 rfl ?_)
    refine gt rfl (a1 rfl ?_)
    refine gt rfl (a1 rfl ?_)
    obtain ⟨x_4, hx5, h⟩ := bnd h
    refine gt rfl (a1 (v := (.c (.ref 0 1 j_.toNat 0))) (s_iaddrL rfl rfl hzdata3 hx5) ?_)
    refine gt rfl (a1 (v := (I x_4)) (s_loadL (e := eI) rfl rfl hzdata3 hx5 rfl rfl) ?_)
    refine gt rfl (a1 rfl ?_)
    refine gt rfl (a1 rfl ?_)
    refine gt rfl (a1 (v := (I (wi (j_ - 1)))) rfl ?_)
    obtain ⟨x_5, hx6, h⟩ := bnd h
    refine gt rfl (a1 (v := (.c (.ref 0 1 (wi (j_ - 1)).toNat 0))) (s_iaddrL rfl rfl hzdata3 hx6) ?_)
    refine gt rfl (a1 (v := (I x_5)) (s_loadL (e := eI) rfl rfl hzdata3 hx6 rfl rfl) ?_)
    obtain ⟨r_, hr1, h⟩ := bnd h
    refine gt rfl (acv_gen (bs := []) («as» := [(I x_4), (I x_5), (.c (.rop [.ro false 6 (cmpc.map e_TSGiven)]))]) (h2 := _) (h1 := (fun _ => none)) rfl (by kernel_rfl) (cascade_Order_fn1_ok hr1) rfl (.cons (avAs_free rfl) (.cons (avAs_free rfl) (.cons (avAs_free rfl) .nil))) (hsub_refl _) (.nil _) (fun _ => rfl) (by decide) (by decide) (.cons (avAs_free rfl) (.cons (avAs_free rfl) (.cons (avAs_free rfl) .nil))) .nil ?_)
    rintro _ _ _ hn ⟨rfl, rfl, rfl⟩
    refine ⟨.inl rfl, (rem [] _), fun hbd => (m3_rem (in_nil _) (.nil) hbd), (I r_), 1, rfl, rfl, ?_⟩
    refine gt rfl (a1 (v := (B (decide (r_ < 0)))) rfl ?_)
    refine un (a1 (v := (B (decide (r_ < 0)))) rfl ?_)
    refine dnil ?_
    exact Sv.weak (weak_canon [0] rfl (by decide) (by decide) (by decide) (.cons rfl (avAs_free rfl) (.cons rfl (avAs_free rfl) (.cons rfl (avAs_free rfl) (.cons rfl (.c (fn_as .nil (.cons (.same rfl) .nil))) (.cons rfl (avAs_free rfl) (.cons rfl (avAs_free rfl) (.cons rfl (.c (lstC_ren rfl (by decide))) .nil))))))) (.row (by decide) rfl (fr_map fun _ => rfl) .nil)) (slices_insertionSortCmpFunc_int_j9_ok hzdata3 h hself hK2 hr)
  · replace h := ifF hc3 h
    refine gs rfl rfl ?_
    refine gs rfl rfl ?_
    refine gs rfl rfl ?_
    refine gs rfl rfl ?_
    refine gs rfl rfl ?_
    refine gs rfl rfl ?_
    refine gs rfl rfl ?_
    refine gs rfl rfl ?_
    refine gs rfl rfl ?_
    refine gs rfl rfl ?_
    refine gs rfl rfl ?_
    refine gs rfl rfl ?_
    refine un (a1 (v := (B false)) rfl ?_)
    refine dnil ?_
    exact Sv.weak (weak_canon [0] rfl (by decide) (by decide) (by decide) (.cons rfl (avAs_free rfl) (.cons rfl (avAs_free rfl) (.cons rfl (avAs_free rfl) (.cons rfl (.c (fn_as .nil (.cons (.same rfl) .nil))) (.cons rfl (avAs_free rfl) (.cons rfl (avAs_free rfl) (.cons rfl (.c (lstC_ren rfl (by decide))) .nil))))))) (.row (by decide) rfl (fr_map fun _ => rfl) .nil)) (slices_insertionSortCmpFunc_int_j9_ok hzdata3 h hself hK2 hr)
noncomputable def slices_insertionSortCmpFunc_int_l2 (b_ : Int) (a_ : Int) (cmpc : (List TSGiven)) (K0_ : (List Int) → Option (List Int)) : Nat → (List Int) → Int → Option (List Int)
  | 0, _, _ => none
  | k + 1, data1, i_ =>
    if decide (i_ < b_) then
      lim fun kk => slices_insertionSortCmpFunc_int_l3 a_ cmpc b_ i_ (fun (data4 : (List Int)) => 
          (slices_insertionSortCmpFunc_int_l2 b_ a_ cmpc K0_ k) data4 (wi (i_ + 1))) kk data1 i_
    else
      K0_ data1
theorem slices_insertionSortCmpFunc_int_l2_ok {Γ : Glob} {Q : AExit → St → Prop} {zdata : Bool} {b_ : Int} {a_ : Int} {cmpc : (List TSGiven)} {K0_ : (List Int) → Option (List Int)} {k : Nat} {data1 : (List Int)} {i_ : Int} (hzdata1 : zdata = true → data1 = []) {o : (List Int)} (h : slices_insertionSortCmpFunc_int_l2 b_ a_ cmpc K0_ k data1 i_ = some o)
    (hK0 : ∀ (data2 : (List Int)) (_ : zdata = true → data2 = []), K0_ data2 = some o → ∀ s, Weak 1 s ⟨(upd (fun _ => none) 0 (some (lstV zdata 0 1 data2.length))), (upd (fun _ => none) 0 (lstB zdata 1 (data2.map eI))), 1⟩ → Q (.exit 0) s)
    (hr : ∀ s, Ends a90.results 1 (slices_insertionSortCmpFunc_int_post zdata o) .ret s → Q .ret s) :
    Sv Try.prog Γ 1 (.loop a90_c3) Q ⟨(upd (upd (upd (upd (upd (fun _ => none) 0 (some (lstV zdata 0 1 data1.length))) 1 (some (I a_))) 2 (some (I b_))) 3 (some (.c (.fn (.func 55) [] [.rop [.ro false 6 (cmpc.map e_TSGiven)]])))) 8 (some (I i_))), (upd (fun _ => none) 0 (lstB zdata 1 (data1.map eI))), 1⟩ := by
  refine Sv.loop (I := fun k s => ∃ (data1 : (List Int)), ∃ (i_ : Int), (zdata = true → data1 = []) ∧ slices_insertionSortCmpFunc_int_l2 b_ a_ cmpc K0_ k data1 i_ = some o ∧ s = ⟨(upd (upd (upd (upd (upd (fun _ => none) 0 (some (lstV zdata 0 1 data1.length))) 1 (some (I a_))) 2 (some (I b_))) 3 (some (.c (.fn (.func 55) [] [.rop [.ro false 6 (cmpc.map e_TSGiven)]])))) 8 (some (I i_))), (upd (fun _ => none) 0 (lstB zdata 1 (data1.map eI))), 1⟩) (fun k s hI => ?_) ⟨data1, i_, hzdata1, h, rfl⟩
  clear h
  clear hzdata1 i_ data1
  obtain ⟨data1, i_, hzdata1, h, rfl⟩ := hI
  cases k with
  | zero => cases h
  | succ k =>
  rw [slices_insertionSortCmpFunc_int_l2] at h
  have hself : ∀ (data1 : (List Int)) (i_ : Int) (_ : zdata = true → data1 = []), (slices_insertionSortCmpFunc_int_l2 b_ a_ cmpc K0_ k) data1 i_ = some o → ∀ s, Weak 1 s ⟨(upd (upd (upd (upd (upd (fun _ => none) 0 (some (lstV zdata 0 1 data1.length))) 1 (some (I a_))) 2 (some (I b_))) 3 (some (.c (.fn (.func 55) [] [.rop [.ro false 6 (cmpc.map e_TSGiven)]])))) 8 (some (I i_))), (upd (fun _ => none) 0 (lstB zdata 1 (data1.map eI))), 1⟩ → (AThen (fun s' => ∃ s'' k', Weak 1 s' s'' ∧ k' < k + 1 ∧ (fun k s => ∃ (data1 : (List Int)), ∃ (i_ : Int), (zdata = true → data1 = []) ∧ slices_insertionSortCmpFunc_int_l2 b_ a_ cmpc K0_ k data1 i_ = some o ∧ s = ⟨(upd (upd (upd (upd (upd (fun _ => none) 0 (some (lstV zdata 0 1 data1.length))) 1 (some (I a_))) 2 (some (I b_))) 3 (some (.c (.fn (.func 55) [] [.rop [.ro false 6 (cmpc.map e_TSGiven)]])))) 8 (some (I i_))), (upd (fun _ => none) 0 (lstB zdata 1 (data1.map eI))), 1⟩) k' s'') Q) .normal s := fun data1 i_ hzdata1 h s hw => ⟨_, k, hw, Nat.lt_succ_self k, data1, i_, hzdata1, h, rfl⟩
  refine Sv.seq ?_
  refine Sv.seq ?_
  refine Sv.region ?_
  refine un (a1 rfl ?_)
  refine un (a1 rfl ?_)
  refine un (a1 (v := (B (decide (i_ < b_)))) rfl ?_)
  refine dnil ?_
  refine Sv.cond (b := decide (i_ < b_)) rfl (fun hc1 => ?_) (fun hc1 => ?_)
  · replace h := ifT hc1 h
    refine Sv.skip ?_
    refine Sv.seq ?_
    refine Sv.block ?_
    refine Sv.seq ?_
    refine Sv.region ?_
    refine un (a1 rfl ?_)
    refine un (a1 rfl ?_)
    refine dnil ?_
    refine Sv.block ?_
    obtain ⟨kk, h⟩ := lim_some h
    refine Sv.weak (weak_canon [0] rfl (by decide) (by decide) (by decide) (.cons rfl (avAs_free rfl) (.cons rfl (avAs_free rfl) (.cons rfl (.c (fn_as .nil (.cons (.same rfl) .nil))) (.cons rfl (avAs_free rfl) (.cons rfl (avAs_free rfl) (.cons rfl (.c (lstC_ren rfl (by decide))) .nil)))))) (.row (by decide) rfl (fr_map fun _ => rfl) .nil)) (slices_insertionSortCmpFunc_int_l3_ok hzdata1 h ?_ hr)
    · intro data4 hzdata4 h _ hw1
      refine Sv.weak hw1 ?_
      refine Sv.region ?_
      refine un (a1 rfl ?_)
      refine un (a1 (v := (I (wi (i_ + 1)))) rfl ?_)
      refine un (a1 rfl ?_)
      refine dnil ?_
      exact hself data4 (wi (i_ + 1)) hzdata4 h _ (weak_canon [0] rfl (by decide) (by decide) (by decide) (.cons rfl (avAs_free rfl) (.cons rfl (.c (fn_as .nil (.cons (.same rfl) .nil))) (.cons rfl (avAs_free rfl) (.cons rfl (avAs_free rfl) (.cons rfl (.c (lstC_ren rfl (by decide))) .nil))))) (.row (by decide) rfl (fr_map fun _ => rfl) .nil))
  · replace h := ifF hc1 h
    refine Sv.exit ?_
    exact hK0 data1 hzdata1 h _ (weak_canon [0] rfl (by decide) (by decide) (by decide) (.cons rfl (.c (lstC_ren rfl (by decide))) .nil) (.row (by decide) rfl (fr_map fun _ => rfl) .nil))
/-- slices.insertionSortCmpFunc(int) -/
noncomputable def slices_insertionSortCmpFunc_int (data : (List Int)) (a_ : Int) (b_ : Int) (cmpc : (List TSGiven)) : Option (List Int) :=
  lim fun kk1 => slices_insertionSortCmpFunc_int_l2 b_ a_ cmpc (fun (data2 : (List Int)) => 
      some data2) kk1 data (wi (a_ + 1))
theorem slices_insertionSortCmpFunc_int_ok {Γ : Glob} {data : (List Int)} {a_ : Int} {b_ : Int} {cmpc : (List TSGiven)} {zdata : Bool} (hzdata : zdata = true → data = []) {r : (List Int)} (h : slices_insertionSortCmpFunc_int data a_ b_ cmpc = some r) : ACalls Try.prog Γ 90 [(lstV zdata 0 1 data.length), (I a_), (I b_), (.c (.fn (.func 55) [] [.rop [.ro false 6 (cmpc.map e_TSGiven)]]))] (upd (fun _ => none) 0 (lstB zdata 1 (data.map eI))) 1 (slices_insertionSortCmpFunc_int_post zdata r) := by
  refine acalls_of_sv hmix c90 (R := slices_insertionSortCmpFunc_int_post zdata r) ?_
  unfold slices_insertionSortCmpFunc_int at h
  refine Sv.seq ?_
  refine Sv.region ?_
  refine un (a1 rfl ?_)
  refine un (a1 (v := (I (wi (a_ + 1)))) rfl ?_)
  refine un (a1 rfl ?_)
  refine dnil ?_
  refine Sv.block ?_
  obtain ⟨kk1, h⟩ := lim_some h
  refine Sv.weak (weak_canon [0] rfl (by decide) (by decide) (by decide) (.cons rfl (avAs_free rfl) (.cons rfl (.c (fn_as .nil (.cons (.same rfl) .nil))) (.cons rfl (avAs_free rfl) (.cons rfl (avAs_free rfl) (.cons rfl (.c (lstC_ren rfl (by decide))) .nil))))) (.row (by decide) rfl (fr_map fun _ => rfl) .nil)) (slices_insertionSortCmpFunc_int_l2_ok hzdata h ?_ (fun s hs => hs))
  · intro data2 hzdata2 h _ hw2
    replace h := Option.some.inj h
    subst h
    exact ⟨_, hw2, _, rfl, ⟨upd (fun _ => none) 0 (some (.tup [])), (upd (fun _ => none) 0 (lstB zdata 1 (data2.map eI))), 1⟩, (.tup []), weak_canon2 [0] [0] (by decide) (by decide) (by decide) (.cons (by decide) .nil) (.cons rfl (avAs_tup .nil) .nil) (.row (by decide) rfl (fr_map fun _ => rfl) .nil), rfl, rfl, rfl, rfl⟩
def a102_c0 : ACode := (.seq (.seq (.region [⟨(some 11), (.mov (.tmp 10)), none⟩, ⟨(some 12), (.mov (.tmp 3)), none⟩, ⟨(some 13), (.bin .lss (.tmp 11) (.tmp 12)), none⟩])
 (.cond (.tmp 13) .skip (.exit 0)))
 (.seq (.block 1 (.drawn (.fin [(⟨(some 16), (.mov (.tmp 0)), none⟩, (0, 0)), (⟨(some 17), (.mov (.tmp 1)), none⟩, (0, 1)), (⟨(some 18), (.mov (.tmp 10)), none⟩, (0, 2)), (⟨(some 19), (.bin .add (.tmp 17) (.tmp 18)), none⟩, (0, 3)), (⟨(some 20), (.mov (.tmp 0)), none⟩, (0, 4)), (⟨(some 21), (.mov (.tmp 2)), none⟩, (0, 5)), (⟨(some 22), (.mov (.tmp 10)), none⟩, (0, 6)), (⟨(some 23), (.bin .add (.tmp 21) (.tmp 22)), none⟩, (0, 7)), (⟨(some 24), (.mov (.tmp 0)), none⟩, (0, 8)), (⟨(some 25), (.mov (.tmp 2)), none⟩, (0, 9)), (⟨(some 26), (.mov (.tmp 10)), none⟩, (0, 10)), (⟨(some 27), (.bin .add (.tmp 25) (.tmp 26)), none⟩, (0, 11)), (⟨(some 28), (.iaddr 1 (.tmp 24) (.tmp 27)), none⟩, (0, 12)), (⟨(some 29), (.load false 1 (.tmp 28)), none⟩, (0, 13)), (⟨(some 30), (.mov (.tmp 0)), none⟩, (0, 14)), (⟨(some 31), (.mov (.tmp 1)), none⟩, (0, 15)), (⟨(some 32), (.mov (.tmp 10)), none⟩, (0, 16)), (⟨(some 33), (.bin .add (.tmp 31) (.tmp 32)), none⟩, (0, 17)), (⟨(some 34), (.iaddr 1 (.tmp 30) (.tmp 33)), none⟩, (0, 18)), (⟨(some 35), (.load false 1 (.tmp 34)), none⟩, (0, 19)), (⟨(some 36), (.iaddr 1 (.tmp 16) (.tmp 19)), none⟩, (0, 20)), (⟨none, (.store 1 (.tmp 36) (.tmp 29)), none⟩, (2, 21)), (⟨(some 37), (.iaddr 1 (.tmp 20) (.tmp 23)), none⟩, (0, 22)), (⟨none, (.store 1 (.tmp 37) (.tmp 35)), none⟩, (2, 23))])))
 (.region [⟨(some 14), (.mov (.tmp 10)), none⟩, ⟨(some 15), (.bin .add (.tmp 14) (.const (.c (.val (.int .i64 1))))), none⟩, ⟨(some 10), (.mov (.tmp 15)), none⟩])))
def a102 : AFunc := ⟨5, [], (.seq (.region [⟨(some 10), (.mov (.const (.c (.val (.int .i64 0))))), none⟩])
 (.block 0 (.loop a102_c0)))⟩
set_option maxRecDepth 100000 in
theorem c102 : compFunc Try.prog 102 = some a102 := by kernel_rfl
def slices_swapRangeCmpFunc_int_post (zdata : Bool) (r : (List Int)) : AV → Heap → Nat → Prop := fun v h' n' => v = (.tup []) ∧ (h' = (upd (fun _ => none) 0 (lstB zdata 1 (r.map eI)))) ∧ n' = 1
noncomputable def slices_swapRangeCmpFunc_int_l0 (n_ : Int) (b_ : Int) (a_ : Int) (K0_ : (List Int) → Option (List Int)) : Nat → (List Int) → Int → Option (List Int)
  | 0, _, _ => none
  | k + 1, data1, i_ =>
    if decide (i_ < n_) then
      (at? data1 (wi (b_ + i_))).bind fun x_ =>
      (at? data1 (wi (a_ + i_))).bind fun x_1 =>
      (at? data1 (wi (a_ + i_))).bind fun x_2 =>
      (at? (data1.set (wi (a_ + i_)).toNat x_) (wi (b_ + i_))).bind fun x_3 =>
      (slices_swapRangeCmpFunc_int_l0 n_ b_ a_ K0_ k) ((data1.set (wi (a_ + i_)).toNat x_).set (wi (b_ + i_)).toNat x_1) (wi (i_ + 1))
    else
      K0_ data1
theorem slices_swapRangeCmpFunc_int_l0_ok {Γ : Glob} {Q : AExit → St → Prop} {zdata : Bool} {n_ : Int} {b_ : Int} {a_ : Int} {K0_ : (List Int) → Option (List Int)} {k : Nat} {data1 : (List Int)} {i_ : Int} (hzdata1 : zdata = true → data1 = []) {o : (List Int)} (h : slices_swapRangeCmpFunc_int_l0 n_ b_ a_ K0_ k data1 i_ = some o)
    (hK0 : ∀ (data2 : (List Int)) (_ : zdata = true → data2 = []), K0_ data2 = some o → ∀ s, Weak 1 s ⟨(upd (fun _ => none) 0 (some (lstV zdata 0 1 data2.length))), (upd (fun _ => none) 0 (lstB zdata 1 (data2.map eI))), 1⟩ → Q (.exit 0) s)
    (hr : ∀ s, Ends a102.results 1 (slices_swapRangeCmpFunc_int_post zdata o) .ret s → Q .ret s) :
    Sv Try.prog Γ 1 (.loop a102_c0) Q ⟨(upd (upd (upd (upd (upd (fun _ => none) 0 (some (lstV zdata 0 1 data1.length))) 1 (some (I a_))) 2 (some (I b_))) 3 (some (I n_))) 10 (some (I i_))), (upd (fun _ => none) 0 (lstB zdata 1 (data1.map eI))), 1⟩ := by
  refine Sv.loop (I := fun k s => ∃ (data1 : (List Int)), ∃ (i_ : Int), (zdata = true → data1 = []) ∧ slices_swapRangeCmpFunc_int_l0 n_ b_ a_ K0_ k data1 i_ = some o ∧ s = ⟨(upd (upd (upd (upd (upd (fun _ => none) 0 (some (lstV zdata 0 1 data1.length))) 1 (some (I a_))) 2 (some (I b_))) 3 (some (I n_))) 10 (some (I i_))), (upd (fun _ => none) 0 (lstB zdata 1 (data1.map eI))), 1⟩) (fun k s hI => ?_) ⟨data1, i_, hzdata1, h, rfl⟩
  clear h
  clear hzdata1 i_ data1
  obtain ⟨data1, i_, hzdata1, h, rfl⟩ := hI
  cases k with
  | zero => cases h
  | succ k =>
  rw [slices_swapRangeCmpFunc_int_l0] at h
  have hself : ∀ (data1 : (List Int)) (i_ : Int) (_ : zdata = true → data1 = []), (slices_swapRangeCmpFunc_int_l0 n_ b_ a_ K0_ k) data1 i_ = some o → ∀ s, Weak 1 s ⟨(upd (upd (upd (upd (upd (fun _ => none) 0 (some (lstV zdata 0 1 data1.length))) 1 (some (I a_))) 2 (some (I b_))) 3 (some (I n_))) 10 (some (I i_))), (upd (fun _ => none) 0 (lstB zdata 1 (data1.map eI))), 1⟩ → (AThen (fun s' => ∃ s'' k', Weak 1 s' s'' ∧ k' < k + 1 ∧ (fun k s => ∃ (data1 : (List Int)), ∃ (i_ : Int), (zdata = true → data1 = []) ∧ slices_swapRangeCmpFunc_int_l0 n_ b_ a_ K0_ k data1 i_ = some o ∧ s = ⟨(upd (upd (upd (upd (upd (fun _ => none) 0 (some (lstV zdata 0 1 data1.length))) 1 (some (I a_))) 2 (some (I b_))) 3 (some (I n_))) 10 (some (I i_))), (upd (fun _ => none) 0 (lstB zdata 1 (data1.map eI))), 1⟩) k' s'') Q) .normal s := fun data1 i_ hzdata1 h s hw => ⟨_, k, hw, Nat.lt_succ_self k, data1, i_, hzdata1, h, rfl⟩
  refine Sv.seq ?_
  refine Sv.seq ?_
  refine Sv.region ?_
  refine un (a1 rfl ?_)
  refine un (a1 rfl ?_)
  refine un (a1 (v := (B (decide (i_ < n_)))) rfl ?_)
  refine dnil ?_
  refine Sv.cond (b := decide (i_ < n_)) rfl (fun hc1 => ?_) (fun hc1 => ?_)
  · replace h := ifT hc1 h
    refine Sv.skip ?_
    refine Sv.seq ?_
    refine Sv.block ?_
    refine Sv.drawn ?_
    refine un (a1 rfl ?_)
    refine un (a1 rfl ?_)
    refine un (a1 rfl ?_)
    refine un (a1 (v := (I (wi (a_ + i_)))) rfl ?_)
    refine un (a1 rfl ?_)
    refine un (a1 rfl ?_)
    refine un (a1 rfl ?_)
    refine un (a1 (v := (I (wi (b_ + i_)))) rfl ?_)
    refine un (a1 rfl ?_)
    refine un (a1 rfl ?_)
    refine un (a1 rfl ?_)
    refine un (a1 (v := (I (wi (b_ + i_)))) rfl ?_)
    obtain ⟨x_, hx1, h⟩ := bnd h
    refine un (a1 (v := (.c (.ref 0 1 (wi (b_ + i_)).toNat 0))) (s_iaddrL rfl rfl hzdata1 hx1) ?_)
    refine un (a1 (v := (I x_)) (s_loadL (e := eI) rfl rfl hzdata1 hx1 rfl rfl) ?_)
    refine un (a1 rfl ?_)
    refine un (a1 rfl ?_)
    refine un (a1 rfl ?_)
    refine un (a1 (v := (I (wi (a_ + i_)))) rfl ?_)
    obtain ⟨x_1, hx2, h⟩ := bnd h
    refine un (a1 (v := (.c (.ref 0 1 (wi (a_ + i_)).toNat 0))) (s_iaddrL rfl rfl hzdata1 hx2) ?_)
    refine un (a1 (v := (I x_1)) (s_loadL (e := eI) rfl rfl hzdata1 hx2 rfl rfl) ?_)
    obtain ⟨x_2, hx3, h⟩ := bnd h
    refine un (a1 (v := (.c (.ref 0 1 (wi (a_ + i_)).toNat 0))) (s_iaddrL rfl rfl hzdata1 hx3) ?_)
    refine un (a2n (h' := upd _ 0 (lstB zdata 1 ((data1.set (wi (a_ + i_)).toNat x_).map eI))) (n' := 1) rfl (s_storeL (e := eI) (q' := x_) rfl rfl hzdata1 hx3 rfl rfl rfl (Nat.le_of_ble_eq_true rfl) rfl) (fun h => by cases h) ?_)
    try rw [len_set data1 (wi (a_ + i_)).toNat x_]
    obtain ⟨x_3, hx4, h⟩ := bnd h
    refine un (a1 (v := (.c (.ref 0 1 (wi (b_ + i_)).toNat 0))) (s_iaddrL rfl rfl (hz_len hzdata1 (len_set data1 (wi (a_ + i_)).toNat x_)) hx4) ?_)
    refine un (a2n (h' := upd _ 0 (lstB zdata 1 (((data1.set (wi (a_ + i_)).toNat x_).set (wi (b_ + i_)).toNat x_1).map eI))) (n' := 1) rfl (s_storeL (e := eI) (q' := x_1) rfl rfl (hz_len hzdata1 (len_set data1 (wi (a_ + i_)).toNat x_)) hx4 rfl rfl rfl (Nat.le_of_ble_eq_true rfl) rfl) (fun h => by cases h) ?_)
    try rw [len_set (data1.set (wi (a_ + i_)).toNat x_) (wi (b_ + i_)).toNat x_1]
    refine dnil ?_
    refine Sv.region ?_
    refine un (a1 rfl ?_)
    refine un (a1 (v := (I (wi (i_ + 1)))) rfl ?_)
    refine un (a1 rfl ?_)
    refine dnil ?_
    exact hself ((data1.set (wi (a_ + i_)).toNat x_).set (wi (b_ + i_)).toNat x_1) (wi (i_ + 1)) (hz_len (hz_len hzdata1 (len_set data1 (wi (a_ + i_)).toNat x_)) (len_set (data1.set (wi (a_ + i_)).toNat x_) (wi (b_ + i_)).toNat x_1)) h _ (weak_canon [0] rfl (by decide) (by decide) (by decide) (.cons rfl (avAs_free rfl) (.cons rfl (avAs_free rfl) (.cons rfl (avAs_free rfl) (.cons rfl (avAs_free rfl) (.cons rfl (.c (lstC_ren rfl (by decide))) .nil))))) (.row (by decide) rfl (fr_map fun _ => rfl) .nil))
  · replace h := ifF hc1 h
    refine Sv.exit ?_
    exact hK0 data1 hzdata1 h _ (weak_canon [0] rfl (by decide) (by decide) (by decide) (.cons rfl (.c (lstC_ren rfl (by decide))) .nil) (.row (by decide) rfl (fr_map fun _ => rfl) .nil))
/-- slices.swapRangeCmpFunc(int) -/
noncomputable def slices_swapRangeCmpFunc_int (data : (List Int)) (a_ : Int) (b_ : Int) (n_ : Int) (cmpc : (List TSGiven)) : Option (List Int) :=
  lim fun kk => slices_swapRangeCmpFunc_int_l0 n_ b_ a_ (fun (data2 : (List Int)) => 
      some data2) kk data 0
theorem slices_swapRangeCmpFunc_int_ok {Γ : Glob} {data : (List Int)} {a_ : Int} {b_ : Int} {n_ : Int} {cmpc : (List TSGiven)} {zdata : Bool} (hzdata : zdata = true → data = []) {r : (List Int)} (h : slices_swapRangeCmpFunc_int data a_ b_ n_ cmpc = some r) : ACalls Try.prog Γ 102 [(lstV zdata 0 1 data.length), (I a_), (I b_), (I n_), (.c (.fn (.func 55) [] [.rop [.ro false 6 (cmpc.map e_TSGiven)]]))] (upd (fun _ => none) 0 (lstB zdata 1 (data.map eI))) 1 (slices_swapRangeCmpFunc_int_post zdata r) := by
  refine acalls_of_sv hmix c102 (R := slices_swapRangeCmpFunc_int_post zdata r) ?_
  unfold slices_swapRangeCmpFunc_int at h
  refine Sv.seq ?_
  refine Sv.region ?_
  refine un (a1 rfl ?_)
  refine dnil ?_
  refine Sv.block ?_
  obtain ⟨kk, h⟩ := lim_some h
  refine Sv.weak (weak_canon [0] rfl (by decide) (by decide) (by decide) (.cons rfl (avAs_free rfl) (.cons rfl (avAs_free rfl) (.cons rfl (avAs_free rfl) (.cons rfl (avAs_free rfl) (.cons rfl (.c (lstC_ren rfl (by decide))) .nil))))) (.row (by decide) rfl (fr_map fun _ => rfl) .nil)) (slices_swapRangeCmpFunc_int_l0_ok hzdata h ?_ (fun s hs => hs))
  · intro data2 hzdata2 h _ hw1
    replace h := Option.some.inj h
    subst h
    exact ⟨_, hw1, _, rfl, ⟨upd (fun _ => none) 0 (some (.tup [])), (upd (fun _ => none) 0 (lstB zdata 1 (data2.map eI))), 1⟩, (.tup []), weak_canon2 [0] [0] (by decide) (by decide) (by decide) (.cons (by decide) .nil) (.cons rfl (avAs_tup .nil) .nil) (.row (by decide) rfl (fr_map fun _ => rfl) .nil), rfl, rfl, rfl, rfl⟩
def a99_c0 : ACode := (.seq (.seq (.region [⟨(some 18), (.mov (.tmp 10)), none⟩, ⟨(some 19), (.mov (.tmp 11)), none⟩, ⟨(some 20), (.bin .neq (.tmp 18) (.tmp 19)), none⟩])
 (.cond (.tmp 20) .skip (.exit 0)))
 (.block 1 (.seq (.region [⟨(some 21), (.mov (.tmp 10)), none⟩, ⟨(some 22), (.mov (.tmp 11)), none⟩, ⟨(some 23), (.bin .gtr (.tmp 21) (.tmp 22)), none⟩])
 (.cond (.tmp 23) (.seq (.region [⟨(some 24), (.mov (.tmp 0)), none⟩, ⟨(some 25), (.mov (.tmp 2)), none⟩, ⟨(some 26), (.mov (.tmp 10)), none⟩, ⟨(some 27), (.bin .sub (.tmp 25) (.tmp 26)), none⟩, ⟨(some 28), (.mov (.tmp 2)), none⟩, ⟨(some 29), (.mov (.tmp 11)), none⟩, ⟨(some 30), (.mov (.tmp 4)), none⟩, ⟨(some 31), (.call 102 [(.tmp 24), (.tmp 27), (.tmp 28), (.tmp 29), (.tmp 30)]), none⟩])
 (.region [⟨(some 32), (.mov (.tmp 10)), none⟩, ⟨(some 33), (.mov (.tmp 11)), none⟩, ⟨(some 34), (.bin .sub (.tmp 32) (.tmp 33)), none⟩, ⟨(some 10), (.mov (.tmp 34)), none⟩])) (.seq (.region [⟨(some 35), (.mov (.tmp 0)), none⟩, ⟨(some 36), (.mov (.tmp 2)), none⟩, ⟨(some 37), (.mov (.tmp 10)), none⟩, ⟨(some 38), (.bin .sub (.tmp 36) (.tmp 37)), none⟩, ⟨(some 39), (.mov (.tmp 2)), none⟩, ⟨(some 40), (.mov (.tmp 11)), none⟩, ⟨(some 41), (.bin .add (.tmp 39) (.tmp 40)), none⟩, ⟨(some 42), (.mov (.tmp 10)), none⟩, ⟨(some 43), (.bin .sub (.tmp 41) (.tmp 42)), none⟩, ⟨(some 44), (.mov (.tmp 10)), none⟩, ⟨(some 45), (.mov (.tmp 4)), none⟩, ⟨(some 46), (.call 102 [(.tmp 35), (.tmp 38), (.tmp 43), (.tmp 44), (.tmp 45)]), none⟩])
 (.region [⟨(some 47), (.mov (.tmp 11)), none⟩, ⟨(some 48), (.mov (.tmp 10)), none⟩, ⟨(some 49), (.bin .sub (.tmp 47) (.tmp 48)), none⟩, ⟨(some 11), (.mov (.tmp 49)), none⟩]))))))
def a99 : AFunc := ⟨5, [], (.seq (.region [⟨(some 12), (.mov (.tmp 2)), none⟩, ⟨(some 13), (.mov (.tmp 1)), none⟩, ⟨(some 14), (.bin .sub (.tmp 12) (.tmp 13)), none⟩, ⟨(some 10), (.mov (.tmp 14)), none⟩])
 (.seq (.region [⟨(some 15), (.mov (.tmp 3)), none⟩, ⟨(some 16), (.mov (.tmp 2)), none⟩, ⟨(some 17), (.bin .sub (.tmp 15) (.tmp 16)), none⟩, ⟨(some 11), (.mov (.tmp 17)), none⟩])
 (.seq (.block 0 (.loop a99_c0))
 (.region [⟨(some 50), (.mov (.tmp 0)), none⟩, ⟨(some 51), (.mov (.tmp 2)), none⟩, ⟨(some 52), (.mov (.tmp 10)), none⟩, ⟨(some 53), (.bin .sub (.tmp 51) (.tmp 52)), none⟩, ⟨(some 54), (.mov (.tmp 2)), none⟩, ⟨(some 55), (.mov (.tmp 10)), none⟩, ⟨(some 56), (.mov (.tmp 4)), none⟩, ⟨(some 57), (.call 102 [(.tmp 50), (.tmp 53), (.tmp 54), (.tmp 55), (.tmp 56)]), none⟩]))))⟩
set_option maxRecDepth 100000 in
theorem c99 : compFunc Try.prog 99 = some a99 := by kernel_rfl
def slices_rotateCmpFunc_int_post (zdata : Bool) (r : (List Int)) : AV → Heap → Nat → Prop := fun v h' n' => v = (.tup []) ∧ (h' = (upd (fun _ => none) 0 (lstB zdata 1 (r.map eI)))) ∧ n' = 1
noncomputable def slices_rotateCmpFunc_int_l0 (m_ : Int) (cmpc : (List TSGiven)) (K0_ : (List Int) → Int → Option (List Int)) : Nat → (List Int) → Int → Int → Option (List Int)
  | 0, _, _, _ => none
  | k + 1, data1, i_, j_ =>
    if (!decide (i_ = j_)) then
      if decide (j_ < i_) then
        (slices_swapRangeCmpFunc_int data1 (wi (m_ - i_)) m_ j_ cmpc).bind fun r_ =>
        guardLen data1 r_ <|
        (slices_rotateCmpFunc_int_l0 m_ cmpc K0_ k) r_ (wi (i_ - j_)) j_
      else
        (slices_swapRangeCmpFunc_int data1 (wi (m_ - i_)) (wi ((wi (m_ + j_)) - i_)) i_ cmpc).bind fun r_1 =>
        guardLen data1 r_1 <|
        (slices_rotateCmpFunc_int_l0 m_ cmpc K0_ k) r_1 i_ (wi (j_ - i_))
    else
      K0_ data1 i_
theorem slices_rotateCmpFunc_int_l0_ok {Γ : Glob} {Q : AExit → St → Prop} {zdata : Bool} {m_ : Int} {cmpc : (List TSGiven)} {K0_ : (List Int) → Int → Option (List Int)} {k : Nat} {data1 : (List Int)} {i_ : Int} {j_ : Int} (hzdata1 : zdata = true → data1 = []) {o : (List Int)} (h : slices_rotateCmpFunc_int_l0 m_ cmpc K0_ k data1 i_ j_ = some o)
    (hK0 : ∀ (data2 : (List Int)) (i_1 : Int) (_ : zdata = true → data2 = []), K0_ data2 i_1 = some o → ∀ s, Weak 1 s ⟨(upd (upd (upd (upd (fun _ => none) 0 (some (lstV zdata 0 1 data2.length))) 2 (some (I m_))) 4 (some (.c (.fn (.func 55) [] [.rop [.ro false 6 (cmpc.map e_TSGiven)]])))) 10 (some (I i_1))), (upd (fun _ => none) 0 (lstB zdata 1 (data2.map eI))), 1⟩ → Q (.exit 0) s)
    (hr : ∀ s, Ends a99.results 1 (slices_rotateCmpFunc_int_post zdata o) .ret s → Q .ret s) :
    Sv Try.prog Γ 1 (.loop a99_c0) Q ⟨(upd (upd (upd (upd (upd (fun _ => none) 0 (some (lstV zdata 0 1 data1.length))) 2 (some (I m_))) 4 (some (.c (.fn (.func 55) [] [.rop [.ro false 6 (cmpc.map e_TSGiven)]])))) 10 (some (I i_))) 11 (some (I j_))), (upd (fun _ => none) 0 (lstB zdata 1 (data1.map eI))), 1⟩ := by
  refine Sv.loop (I := fun k s => ∃ (data1 : (List Int)), ∃ (i_ : Int), ∃ (j_ : Int), (zdata = true → data1 = []) ∧ slices_rotateCmpFunc_int_l0 m_ cmpc K0_ k data1 i_ j_ = some o ∧ s = ⟨(upd (upd (upd (upd (upd (fun _ => none) 0 (some (lstV zdata 0 1 data1.length))) 2 (some (I m_))) 4 (some (.c (.fn (.func 55) [] [.rop [.ro false 6 (cmpc.map e_TSGiven)]])))) 10 (some (I i_))) 11 (some (I j_))), (upd (fun _ => none) 0 (lstB zdata 1 (data1.map eI))), 1⟩) (fun k s hI => ?_) ⟨data1, i_, j_, hzdata1, h, rfl⟩
  clear h
  clear hzdata1 j_ i_ data1
  obtain ⟨data1, i_, j_, hzdata1, h, rfl⟩ := hI
  cases k with
  | zero => cases h
  | succ k =>
  rw [slices_rotateCmpFunc_int_l0] at h
  have hself : ∀ (data1 : (List Int)) (i_ : Int) (j_ : Int) (_ : zdata = true → data1 = []), (slices_rotateCmpFunc_int_l0 m_ cmpc K0_ k) data1 i_ j_ = some o → ∀ s, Weak 1 s ⟨(upd (upd (upd (upd (upd (fun _ => none) 0 (some (lstV zdata 0 1 data1.length))) 2 (some (I m_))) 4 (some (.c (.fn (.func 55) [] [.rop [.ro false 6 (cmpc.map e_TSGiven)]])))) 10 (some (I i_))) 11 (some (I j_))), (upd (fun _ => none) 0 (lstB zdata 1 (data1.map eI))), 1⟩ → (AThen (fun s' => ∃ s'' k', Weak 1 s' s'' ∧ k' < k + 1 ∧ (fun k s => ∃ (data1 : (List Int)), ∃ (i_ : Int), ∃ (j_ : Int), (zdata = true → data1 = []) ∧ slices_rotateCmpFunc_int_l0 m_ cmpc K0_ k data1 i_ j_ = some o ∧ s = ⟨(upd (upd (upd (upd (upd (fun _ => none) 0 (some (lstV zdata 0 1 data1.length))) 2 (some (I m_))) 4 (some (.c (.fn (.func 55) [] [.rop [.ro false 6 (cmpc.map e_TSGiven)]])))) 10 (some (I i_))) 11 (some (I j_))), (upd (fun _ => none) 0 (lstB zdata 1 (data1.map eI))), 1⟩) k' s'') Q) .normal s := fun data1 i_ j_ hzdata1 h s hw => ⟨_, k, hw, Nat.lt_succ_self k, data1, i_, j_, hzdata1, h, rfl⟩
  refine Sv.seq ?_
  refine Sv.seq ?_
  refine Sv.region ?_
  refine un (a1 rfl ?_)
  refine un (a1 rfl ?_)
  refine un (a1 (v := (B (!decide (i_ = j_)))) rfl ?_)
  refine dnil ?_
  refine Sv.cond (b := (!decide (i_ = j_))) rfl (fun hc1 => ?_) (fun hc1 => ?_)
  · replace h := ifT hc1 h
    refine Sv.skip ?_
    refine Sv.block ?_
    refine Sv.seq ?_
    refine Sv.region ?_
    refine un (a1 rfl ?_)
    refine un (a1 rfl ?_)
    refine un (a1 (v := (B (decide (j_ < i_)))) rfl ?_)
    refine dnil ?_
    refine Sv.cond (b := decide (j_ < i_)) rfl (fun hc2 => ?_) (fun hc2 => ?_)
    · replace h := ifT hc2 h
      refine Sv.seq ?_
      refine Sv.region ?_
      refine un (a1 rfl ?_)
      refine un (a1 rfl ?_)
      refine un (a1 rfl ?_)
      refine un (a1 (v := (I (wi (m_ - i_)))) rfl ?_)
      refine un (a1 rfl ?_)
      refine un (a1 rfl ?_)
      refine un (a1 rfl ?_)
      obtain ⟨r_, hr1, h⟩ := bnd h
      refine un (ac_gen (bs := [0]) («as» := [(lstV zdata 0 1 data1.length), (I (wi (m_ - i_))), (I m_), (I j_), (.c (.fn (.func 55) [] [.rop [.ro false 6 (cmpc.map e_TSGiven)]]))]) (h2 := _) (h1 := (upd (fun _ => none) 0 (lstB zdata 1 (data1.map eI)))) (slices_swapRangeCmpFunc_int_ok hzdata1 hr1) rfl (.cons (.c (lstC_ren rfl (by decide))) (.cons (avAs_free rfl) (.cons (avAs_free rfl) (.cons (avAs_free rfl) (.cons (.c (fn_as .nil (.cons (.same rfl) .nil))) .nil))))) (hsub_refl _) (.cons rfl (.nil _)) (fun h => by cases h) (by decide) (by decide) (.cons (.c (lstC_ren rfl (by decide))) (.cons (avAs_free rfl) (.cons (avAs_free rfl) (.cons (avAs_free rfl) (.cons (.c (fn_as .nil (.cons (.same rfl) .nil))) .nil))))) (.row (by decide) rfl (fr_map fun _ => rfl) .nil) ?_)
      rintro _ _ _ hn ⟨rfl, rfl, rfl⟩
      refine ⟨.inl rfl, (upd (rem [0] _) 0 (lstB zdata 1 (r_.map eI))), fun hbd => (m3_cons (m3_row rfl (fr_map fun _ => rfl)) (m3_rem (in_cons (by decide) (in_nil _)) (.cons (by decide) .nil) hbd)), (.tup []), 1, rfl, rfl, ?_⟩
      obtain ⟨hlen, h⟩ := guard_some h
      try rw [hlen]
      refine dnil ?_
      refine Sv.region ?_
      refine un (a1 rfl ?_)
      refine un (a1 rfl ?_)
      refine un (a1 (v := (I (wi (i_ - j_)))) rfl ?_)
      refine un (a1 rfl ?_)
      refine dnil ?_
      exact hself r_ (wi (i_ - j_)) j_ (hz_len hzdata1 hlen) h _ (weak_canon [0] rfl (by decide) (by decide) (by decide) (.cons rfl (avAs_free rfl) (.cons rfl (avAs_free rfl) (.cons rfl (.c (fn_as .nil (.cons (.same rfl) .nil))) (.cons rfl (avAs_free rfl) (.cons rfl (.c (lstC_ren rfl (by decide))) .nil))))) (.row (by decide) rfl (fr_map fun _ => rfl) .nil))
    · replace h := ifF hc2 h
      refine Sv.seq ?_
      refine Sv.region ?_
      refine un (a1 rfl ?_)
      refine un (a1 rfl ?_)
      refine un (a1 rfl ?_)
      refine un (a1 (v := (I (wi (m_ - i_)))) rfl ?_)
      refine un (a1 rfl ?_)
      refine un (a1 rfl ?_)
      refine un (a1 (v := (I (wi (m_ + j_)))) rfl ?_)
      refine un (a1 rfl ?_)
      refine un (a1 (v := (I (wi ((wi (m_ + j_)) - i_)))) rfl ?_)
      refine un (a1 rfl ?_)
      refine un (a1 rfl ?_)
      obtain ⟨r_1, hr2, h⟩ := bnd h
      refine un (ac_gen (bs := [0]) («as» := [(lstV zdata 0 1 data1.length), (I (wi (m_ - i_))), (I (wi ((wi (m_ + j_)) - i_))), (I i_), (.c (.fn (.func 55) [] [.rop [.ro false 6 (cmpc.map e_TSGiven)]]))]) (h2 := _) (h1 := (upd (fun _ => none) 0 (lstB zdata 1 (data1.map eI)))) (slices_swapRangeCmpFunc_int_ok hzdata1 hr2) rfl (.cons (.c (lstC_ren rfl (by decide))) (.cons (avAs_free rfl) (.cons (avAs_free rfl) (.cons (avAs_free rfl) (.cons (.c (fn_as .nil (.cons (.same rfl) .nil))) .nil))))) (hsub_refl _) (.cons rfl (.nil _)) (fun h => by cases h) (by decide) (by decide) (.cons (.c (lstC_ren rfl (by decide))) (.cons (avAs_free rfl) (.cons (avAs_free rfl) (.cons (avAs_free rfl) (.cons (.c (fn_as .nil (.cons (.same rfl) .nil))) .nil))))) (.row (by decide) rfl (fr_map fun _ => rfl) .nil) ?_)
      rintro _ _ _ hn ⟨rfl, rfl, rfl⟩
      refine ⟨.inl rfl, (upd (rem [0] _) 0 (lstB zdata 1 (r_1.map eI))), fun hbd => (m3_cons (m3_row rfl (fr_map fun _ => rfl)) (m3_rem (in_cons (by decide) (in_nil _)) (.cons (by decide) .nil) hbd)), (.tup []), 1, rfl, rfl, ?_⟩
      obtain ⟨hlen1, h⟩ := guard_some h
      try rw [hlen1]
      refine dnil ?_
      refine Sv.region ?_
      refine un (a1 rfl ?_)
      refine un (a1 rfl ?_)
      refine un (a1 (v := (I (wi (j_ - i_)))) rfl ?_)
      refine un (a1 rfl ?_)
      refine dnil ?_
      exact hself r_1 i_ (wi (j_ - i_)) (hz_len hzdata1 hlen1) h _ (weak_canon [0] rfl (by decide) (by decide) (by decide) (.cons rfl (avAs_free rfl) (.cons rfl (avAs_free rfl) (.cons rfl (.c (fn_as .nil (.cons (.same rfl) .nil))) (.cons rfl (avAs_free rfl) (.cons rfl (.c (lstC_ren rfl (by decide))) .nil))))) (.row (by decide) rfl (fr_map fun _ => rfl) .nil))
  · replace h := ifF hc1 h
    refine Sv.exit ?_
    exact hK0 data1 i_ hzdata1 h _ (weak_canon [0] rfl (by decide) (by decide) (by decide) (.cons rfl (avAs_free rfl) (.cons rfl (.c (fn_as .nil (.cons (.same rfl) .nil))) (.cons rfl (avAs_free rfl) (.cons rfl (.c (lstC_ren rfl (by decide))) .nil)))) (.row (by decide) rfl (fr_map fun _ => rfl) .nil))
/-- slices.rotateCmpFunc(int) -/
noncomputable def slices_rotateCmpFunc_int (data : (List Int)) (a_ : Int) (m_ : Int) (b_ : Int) (cmpc : (List TSGiven)) : Option (List Int) :=
  lim fun kk => slices_rotateCmpFunc_int_l0 m_ cmpc (fun (data2 : (List Int)) (i_1 : Int) => 
      (slices_swapRangeCmpFunc_int data2 (wi (m_ - i_1)) m_ i_1 cmpc).bind fun r_2 =>
      guardLen data2 r_2 <|
      some r_2) kk data (wi (m_ - a_)) (wi (b_ - m_))
theorem slices_rotateCmpFunc_int_ok {Γ : Glob} {data : (List Int)} {a_ : Int} {m_ : Int} {b_ : Int} {cmpc : (List TSGiven)} {zdata : Bool} (hzdata : zdata = true → data = []) {r : (List Int)} (h : slices_rotateCmpFunc_int data a_ m_ b_ cmpc = some r) : ACalls Try.prog Γ 99 [(lstV zdata 0 1 data.length), (I a_), (I m_), (I b_), (.c (.fn (.func 55) [] [.rop [.ro false 6 (cmpc.map e_TSGiven)]]))] (upd (fun _ => none) 0 (lstB zdata 1 (data.map eI))) 1 (slices_rotateCmpFunc_int_post zdata r) := by
  refine acalls_of_sv hmix c99 (R := slices_rotateCmpFunc_int_post zdata r) ?_
  unfold slices_rotateCmpFunc_int at h
  refine Sv.seq ?_
  refine Sv.region ?_
  refine un (a1 rfl ?_)
  refine un (a1 rfl ?_)
  refine un (a1 (v := (I (wi (m_ - a_)))) rfl ?_)
  refine un (a1 rfl ?_)
  refine dnil ?_
  refine Sv.seq ?_
  refine Sv.region ?_
  refine un (a1 rfl ?_)
  refine un (a1 rfl ?_)
  refine un (a1 (v := (I (wi (b_ - m_)))) rfl ?_)
  refine un (a1 rfl ?_)
  refine dnil ?_
  refine Sv.seq ?_
  refine Sv.block ?_
  obtain ⟨kk, h⟩ := lim_some h
  refine Sv.weak (weak_canon [0] rfl (by decide) (by decide) (by decide) (.cons rfl (avAs_free rfl) (.cons rfl (avAs_free rfl) (.cons rfl (.c (fn_as .nil (.cons (.same rfl) .nil))) (.cons rfl (avAs_free rfl) (.cons rfl (.c (lstC_ren rfl (by decide))) .nil))))) (.row (by decide) rfl (fr_map fun _ => rfl) .nil)) (slices_rotateCmpFunc_int_l0_ok hzdata h ?_ (fun s hs => hs))
  · intro data2 i_1 hzdata2 h _ hw1
    refine Sv.weak hw1 ?_
    refine Sv.region ?_
    refine un (a1 rfl ?_)
    refine un (a1 rfl ?_)
    refine un (a1 rfl ?_)
    refine un (a1 (v := (I (wi (m_ - i_1)))) rfl ?_)
    refine un (a1 rfl ?_)
    refine un (a1 rfl ?_)
    refine un (a1 rfl ?_)
    obtain ⟨r_2, hr3, h⟩ := bnd h
    refine un (ac_gen (bs := [0]) («as» := [(lstV zdata 0 1 data2.length), (I (wi (m_ - i_1))), (I m_), (I i_1), (.c (.fn (.func 55) [] [.rop [.ro false 6 (cmpc.map e_TSGiven)]]))]) (h2 := _) (h1 := (upd (fun _ => none) 0 (lstB zdata 1 (data2.map eI)))) (slices_swapRangeCmpFunc_int_ok hzdata2 hr3) rfl (.cons (.c (lstC_ren rfl (by decide))) (.cons (avAs_free rfl) (.cons (avAs_free rfl) (.cons (avAs_free rfl) (.cons (.c (fn_as .nil (.cons (.same rfl) .nil))) .nil))))) (hsub_refl _) (.cons rfl (.nil _)) (fun h => by cases h) (by decide) (by decide) (.cons (.c (lstC_ren rfl (by decide))) (.cons (avAs_free rfl) (.cons (avAs_free rfl) (.cons (avAs_free rfl) (.cons (.c (fn_as .nil (.cons (.same rfl) .nil))) .nil))))) (.row (by decide) rfl (fr_map fun _ => rfl) .nil) ?_)
    rintro _ _ _ hn ⟨rfl, rfl, rfl⟩
    refine ⟨.inl rfl, (upd (rem [0] _) 0 (lstB zdata 1 (r_2.map eI))), fun hbd => (m3_cons (m3_row rfl (fr_map fun _ => rfl)) (m3_rem (in_cons (by decide) (in_nil _)) (.cons (by decide) .nil) hbd)), (.tup []), 1, rfl, rfl, ?_⟩
    obtain ⟨hlen2, h⟩ := guard_some h
    try rw [hlen2]
    refine dnil ?_
    replace h := Option.some.inj h
    subst h
    exact ⟨_, .refl _, _, rfl, ⟨upd (fun _ => none) 0 (some (.tup [])), (upd (fun _ => none) 0 (lstB zdata 1 (r_2.map eI))), 1⟩, (.tup []), weak_canon2 [0] [0] (by decide) (by decide) (by decide) (.cons (by decide) .nil) (.cons rfl (avAs_tup .nil) .nil) (.row (by decide) rfl (fr_map fun _ => rfl) .nil), rfl, rfl, rfl, rfl⟩
def a91_c0 : ACode := (.seq (.seq (.region [⟨(some 31), (.mov (.tmp 10)), none⟩, ⟨(some 32), (.mov (.tmp 11)), none⟩, ⟨(some 33), (.bin .lss (.tmp 31) (.tmp 32)), none⟩])
 (.cond (.tmp 33) .skip (.exit 0)))
 (.block 1 (.seq (.region [⟨(some 34), (.mov (.tmp 10)), none⟩, ⟨(some 35), (.mov (.tmp 11)), none⟩, ⟨(some 36), (.bin .add (.tmp 34) (.tmp 35)), none⟩, ⟨(some 37), (.conv .u64 (.tmp 36)), none⟩, ⟨(some 38), (.bin .shr (.tmp 37) (.const (.c (.val (.int .u64 1))))), none⟩, ⟨(some 39), (.conv .i64 (.tmp 38)), none⟩, ⟨(some 12), (.mov (.tmp 39)), none⟩])
 (.seq (.drawn (.fin [(⟨(some 40), (.mov (.tmp 4)), none⟩, (0, 0)), (⟨(some 41), (.mov (.tmp 0)), none⟩, (0, 1)), (⟨(some 42), (.mov (.tmp 12)), none⟩, (0, 2)), (⟨(some 43), (.iaddr 1 (.tmp 41) (.tmp 42)), none⟩, (0, 3)), (⟨(some 44), (.load false 1 (.tmp 43)), none⟩, (0, 4)), (⟨(some 45), (.mov (.tmp 0)), none⟩, (0, 5)), (⟨(some 46), (.mov (.tmp 1)), none⟩, (0, 6)), (⟨(some 47), (.iaddr 1 (.tmp 45) (.tmp 46)), none⟩, (0, 7)), (⟨(some 48), (.load false 1 (.tmp 47)), none⟩, (0, 8)), (⟨(some 49), (.callv (.tmp 40) [(.tmp 44), (.tmp 48)]), none⟩, (2, 9)), (⟨(some 50), (.bin .lss (.tmp 49) (.const (.c (.val (.int .i64 0))))), none⟩, (0, 10))]))
 (.cond (.tmp 50) (.region [⟨(some 51), (.mov (.tmp 12)), none⟩, ⟨(some 52), (.bin .add (.tmp 51) (.const (.c (.val (.int .i64 1))))), none⟩, ⟨(some 10), (.mov (.tmp 52)), none⟩]) (.region [⟨(some 53), (.mov (.tmp 12)), none⟩, ⟨(some 11), (.mov (.tmp 53)), none⟩]))))))
def a91_c1 : ACode := (.seq (.seq (.region [⟨(some 55), (.mov (.tmp 13)), none⟩, ⟨(some 56), (.mov (.tmp 10)), none⟩, ⟨(some 57), (.bin .sub (.tmp 56) (.const (.c (.val (.int .i64 1))))), none⟩, ⟨(some 58), (.bin .lss (.tmp 55) (.tmp 57)), none⟩])
 (.cond (.tmp 58) .skip (.exit 2)))
 (.seq (.block 3 (.drawn (.fin [(⟨(some 61), (.mov (.tmp 0)), none⟩, (0, 0)), (⟨(some 62), (.mov (.tmp 13)), none⟩, (0, 1)), (⟨(some 63), (.mov (.tmp 0)), none⟩, (0, 2)), (⟨(some 64), (.mov (.tmp 13)), none⟩, (0, 3)), (⟨(some 65), (.bin .add (.tmp 64) (.const (.c (.val (.int .i64 1))))), none⟩, (0, 4)), (⟨(some 66), (.mov (.tmp 0)), none⟩, (0, 5)), (⟨(some 67), (.mov (.tmp 13)), none⟩, (0, 6)), (⟨(some 68), (.bin .add (.tmp 67) (.const (.c (.val (.int .i64 1))))), none⟩, (0, 7)), (⟨(some 69), (.iaddr 1 (.tmp 66) (.tmp 68)), none⟩, (0, 8)), (⟨(some 70), (.load false 1 (.tmp 69)), none⟩, (0, 9)), (⟨(some 71), (.mov (.tmp 0)), none⟩, (0, 10)), (⟨(some 72), (.mov (.tmp 13)), none⟩, (0, 11)), (⟨(some 73), (.iaddr 1 (.tmp 71) (.tmp 72)), none⟩, (0, 12)), (⟨(some 74), (.load false 1 (.tmp 73)), none⟩, (0, 13)), (⟨(some 75), (.iaddr 1 (.tmp 61) (.tmp 62)), none⟩, (0, 14)), (⟨none, (.store 1 (.tmp 75) (.tmp 70)), none⟩, (2, 15)), (⟨(some 76), (.iaddr 1 (.tmp 63) (.tmp 65)), none⟩, (0, 16)), (⟨none, (.store 1 (.tmp 76) (.tmp 74)), none⟩, (2, 17))])))
 (.region [⟨(some 59), (.mov (.tmp 13)), none⟩, ⟨(some 60), (.bin .add (.tmp 59) (.const (.c (.val (.int .i64 1))))), none⟩, ⟨(some 13), (.mov (.tmp 60)), none⟩])))
def a91_c2 : ACode := (.seq (.seq (.region [⟨(some 83), (.mov (.tmp 14)), none⟩, ⟨(some 84), (.mov (.tmp 15)), none⟩, ⟨(some 85), (.bin .lss (.tmp 83) (.tmp 84)), none⟩])
 (.cond (.tmp 85) .skip (.exit 4)))
 (.block 5 (.seq (.region [⟨(some 86), (.mov (.tmp 14)), none⟩, ⟨(some 87), (.mov (.tmp 15)), none⟩, ⟨(some 88), (.bin .add (.tmp 86) (.tmp 87)), none⟩, ⟨(some 89), (.conv .u64 (.tmp 88)), none⟩, ⟨(some 90), (.bin .shr (.tmp 89) (.const (.c (.val (.int .u64 1))))), none⟩, ⟨(some 91), (.conv .i64 (.tmp 90)), none⟩, ⟨(some 16), (.mov (.tmp 91)), none⟩])
 (.seq (.drawn (.fin [(⟨(some 92), (.mov (.tmp 4)), none⟩, (0, 0)), (⟨(some 93), (.mov (.tmp 0)), none⟩, (0, 1)), (⟨(some 94), (.mov (.tmp 2)), none⟩, (0, 2)), (⟨(some 95), (.iaddr 1 (.tmp 93) (.tmp 94)), none⟩, (0, 3)), (⟨(some 96), (.load false 1 (.tmp 95)), none⟩, (0, 4)), (⟨(some 97), (.mov (.tmp 0)), none⟩, (0, 5)), (⟨(some 98), (.mov (.tmp 16)), none⟩, (0, 6)), (⟨(some 99), (.iaddr 1 (.tmp 97) (.tmp 98)), none⟩, (0, 7)), (⟨(some 100), (.load false 1 (.tmp 99)), none⟩, (0, 8)), (⟨(some 101), (.callv (.tmp 92) [(.tmp 96), (.tmp 100)]), none⟩, (2, 9)), (⟨(some 102), (.bin .lss (.tmp 101) (.const (.c (.val (.int .i64 0))))), none⟩, (0, 10)), (⟨(some 103), (.un .not (.tmp 102)), none⟩, (0, 11))]))
 (.cond (.tmp 103) (.region [⟨(some 104), (.mov (.tmp 16)), none⟩, ⟨(some 105), (.bin .add (.tmp 104) (.const (.c (.val (.int .i64 1))))), none⟩, ⟨(some 14), (.mov (.tmp 105)), none⟩]) (.region [⟨(some 106), (.mov (.tmp 16)), none⟩, ⟨(some 15), (.mov (.tmp 106)), none⟩]))))))
def a91_c3 : ACode := (.seq (.seq (.region [⟨(some 108), (.mov (.tmp 17)), none⟩, ⟨(some 109), (.mov (.tmp 14)), none⟩, ⟨(some 110), (.bin .gtr (.tmp 108) (.tmp 109)), none⟩])
 (.cond (.tmp 110) .skip (.exit 6)))
 (.seq (.block 7 (.drawn (.fin [(⟨(some 113), (.mov (.tmp 0)), none⟩, (0, 0)), (⟨(some 114), (.mov (.tmp 17)), none⟩, (0, 1)), (⟨(some 115), (.mov (.tmp 0)), none⟩, (0, 2)), (⟨(some 116), (.mov (.tmp 17)), none⟩, (0, 3)), (⟨(some 117), (.bin .sub (.tmp 116) (.const (.c (.val (.int .i64 1))))), none⟩, (0, 4)), (⟨(some 118), (.mov (.tmp 0)), none⟩, (0, 5)), (⟨(some 119), (.mov (.tmp 17)), none⟩, (0, 6)), (⟨(some 120), (.bin .sub (.tmp 119) (.const (.c (.val (.int .i64 1))))), none⟩, (0, 7)), (⟨(some 121), (.iaddr 1 (.tmp 118) (.tmp 120)), none⟩, (0, 8)), (⟨(some 122), (.load false 1 (.tmp 121)), none⟩, (0, 9)), (⟨(some 123), (.mov (.tmp 0)), none⟩, (0, 10)), (⟨(some 124), (.mov (.tmp 17)), none⟩, (0, 11)), (⟨(some 125), (.iaddr 1 (.tmp 123) (.tmp 124)), none⟩, (0, 12)), (⟨(some 126), (.load false 1 (.tmp 125)), none⟩, (0, 13)), (⟨(some 127), (.iaddr 1 (.tmp 113) (.tmp 114)), none⟩, (0, 14)), (⟨none, (.store 1 (.tmp 127) (.tmp 122)), none⟩, (2, 15)), (⟨(some 128), (.iaddr 1 (.tmp 115) (.tmp 117)), none⟩, (0, 16)), (⟨none, (.store 1 (.tmp 128) (.tmp 126)), none⟩, (2, 17))])))
 (.region [⟨(some 111), (.mov (.tmp 17)), none⟩, ⟨(some 112), (.bin .sub (.tmp 111) (.const (.c (.val (.int .i64 1))))), none⟩, ⟨(some 17), (.mov (.tmp 112)), none⟩])))
def a91_c5 : ACode := (.seq (.seq (.region [⟨(some 149), (.mov (.tmp 20)), none⟩, ⟨(some 150), (.mov (.tmp 21)), none⟩, ⟨(some 151), (.bin .lss (.tmp 149) (.tmp 150)), none⟩])
 (.cond (.tmp 151) .skip (.exit 8)))
 (.block 9 (.seq (.region [⟨(some 152), (.mov (.tmp 20)), none⟩, ⟨(some 153), (.mov (.tmp 21)), none⟩, ⟨(some 154), (.bin .add (.tmp 152) (.tmp 153)), none⟩, ⟨(some 155), (.conv .u64 (.tmp 154)), none⟩, ⟨(some 156), (.bin .shr (.tmp 155) (.const (.c (.val (.int .u64 1))))), none⟩, ⟨(some 157), (.conv .i64 (.tmp 156)), none⟩, ⟨(some 23), (.mov (.tmp 157)), none⟩])
 (.seq (.drawn (.fin [(⟨(some 158), (.mov (.tmp 4)), none⟩, (0, 0)), (⟨(some 159), (.mov (.tmp 0)), none⟩, (0, 1)), (⟨(some 160), (.mov (.tmp 22)), none⟩, (0, 2)), (⟨(some 161), (.mov (.tmp 23)), none⟩, (0, 3)), (⟨(some 162), (.bin .sub (.tmp 160) (.tmp 161)), none⟩, (0, 4)), (⟨(some 163), (.iaddr 1 (.tmp 159) (.tmp 162)), none⟩, (0, 5)), (⟨(some 164), (.load false 1 (.tmp 163)), none⟩, (0, 6)), (⟨(some 165), (.mov (.tmp 0)), none⟩, (0, 7)), (⟨(some 166), (.mov (.tmp 23)), none⟩, (0, 8)), (⟨(some 167), (.iaddr 1 (.tmp 165) (.tmp 166)), none⟩, (0, 9)), (⟨(some 168), (.load false 1 (.tmp 167)), none⟩, (0, 10)), (⟨(some 169), (.callv (.tmp 158) [(.tmp 164), (.tmp 168)]), none⟩, (2, 11)), (⟨(some 170), (.bin .lss (.tmp 169) (.const (.c (.val (.int .i64 0))))), none⟩, (0, 12)), (⟨(some 171), (.un .not (.tmp 170)), none⟩, (0, 13))]))
 (.cond (.tmp 171) (.region [⟨(some 172), (.mov (.tmp 23)), none⟩, ⟨(some 173), (.bin .add (.tmp 172) (.const (.c (.val (.int .i64 1))))), none⟩, ⟨(some 20), (.mov (.tmp 173)), none⟩]) (.region [⟨(some 174), (.mov (.tmp 23)), none⟩, ⟨(some 21), (.mov (.tmp 174)), none⟩]))))))
def a91_c7 : ACode := (.seq (.region [⟨(some 206), (.mov (.tmp 18)), none⟩, ⟨(some 207), (.mov (.tmp 24)), none⟩, ⟨(some 208), (.bin .lss (.tmp 206) (.tmp 207)), none⟩, ⟨(some 209), (.mov (.tmp 208)), none⟩, ⟨(some 210), (.mov (.tmp 24)), (some (209, true))⟩, ⟨(some 211), (.mov (.tmp 3)), (some (209, true))⟩, ⟨(some 212), (.bin .lss (.tmp 210) (.tmp 211)), (some (209, true))⟩, ⟨(some 213), (.pick (.tmp 209) (.tmp 212) (.const (.c (.val (.bool false))))), none⟩])
 (.cond (.tmp 213) (.region [⟨(some 214), (.mov (.tmp 0)), none⟩, ⟨(some 215), (.mov (.tmp 18)), none⟩, ⟨(some 216), (.mov (.tmp 24)), none⟩, ⟨(some 217), (.mov (.tmp 3)), none⟩, ⟨(some 218), (.mov (.tmp 4)), none⟩, ⟨(some 219), (.call 91 [(.tmp 214), (.tmp 215), (.tmp 216), (.tmp 217), (.tmp 218)]), none⟩]) .skip))
def a91_c6 : ACode := (.seq (.seq (.region [⟨(some 192), (.mov (.tmp 1)), none⟩, ⟨(some 193), (.mov (.tmp 20)), none⟩, ⟨(some 194), (.bin .lss (.tmp 192) (.tmp 193)), none⟩, ⟨(some 195), (.mov (.tmp 194)), none⟩, ⟨(some 196), (.mov (.tmp 20)), (some (195, true))⟩, ⟨(some 197), (.mov (.tmp 18)), (some (195, true))⟩, ⟨(some 198), (.bin .lss (.tmp 196) (.tmp 197)), (some (195, true))⟩, ⟨(some 199), (.pick (.tmp 195) (.tmp 198) (.const (.c (.val (.bool false))))), none⟩])
 (.cond (.tmp 199) (.region [⟨(some 200), (.mov (.tmp 0)), none⟩, ⟨(some 201), (.mov (.tmp 1)), none⟩, ⟨(some 202), (.mov (.tmp 20)), none⟩, ⟨(some 203), (.mov (.tmp 18)), none⟩, ⟨(some 204), (.mov (.tmp 4)), none⟩, ⟨(some 205), (.call 91 [(.tmp 200), (.tmp 201), (.tmp 202), (.tmp 203), (.tmp 204)]), none⟩]) .skip))
 a91_c7)
def a91_c4 : ACode := (.seq (.region [⟨(some 147), (.mov (.tmp 19)), none⟩, ⟨(some 148), (.bin .sub (.tmp 147) (.const (.c (.val (.int .i64 1))))), none⟩, ⟨(some 22), (.mov (.tmp 148)), none⟩])
 (.seq (.block 8 (.loop a91_c5))
 (.seq (.region [⟨(some 175), (.mov (.tmp 19)), none⟩, ⟨(some 176), (.mov (.tmp 20)), none⟩, ⟨(some 177), (.bin .sub (.tmp 175) (.tmp 176)), none⟩, ⟨(some 24), (.mov (.tmp 177)), none⟩])
 (.seq (.seq (.region [⟨(some 178), (.mov (.tmp 20)), none⟩, ⟨(some 179), (.mov (.tmp 2)), none⟩, ⟨(some 180), (.bin .lss (.tmp 178) (.tmp 179)), none⟩, ⟨(some 181), (.mov (.tmp 180)), none⟩, ⟨(some 182), (.mov (.tmp 2)), (some (181, true))⟩, ⟨(some 183), (.mov (.tmp 24)), (some (181, true))⟩, ⟨(some 184), (.bin .lss (.tmp 182) (.tmp 183)), (some (181, true))⟩, ⟨(some 185), (.pick (.tmp 181) (.tmp 184) (.const (.c (.val (.bool false))))), none⟩])
 (.cond (.tmp 185) (.region [⟨(some 186), (.mov (.tmp 0)), none⟩, ⟨(some 187), (.mov (.tmp 20)), none⟩, ⟨(some 188), (.mov (.tmp 2)), none⟩, ⟨(some 189), (.mov (.tmp 24)), none⟩, ⟨(some 190), (.mov (.tmp 4)), none⟩, ⟨(some 191), (.call 99 [(.tmp 186), (.tmp 187), (.tmp 188), (.tmp 189), (.tmp 190)]), none⟩]) .skip))
 a91_c6))))
def a91 : AFunc := ⟨5, [], (.seq (.seq (.region [⟨(some 25), (.mov (.tmp 2)), none⟩, ⟨(some 26), (.mov (.tmp 1)), none⟩, ⟨(some 27), (.bin .sub (.tmp 25) (.tmp 26)), none⟩, ⟨(some 28), (.bin .eql (.tmp 27) (.const (.c (.val (.int .i64 1))))), none⟩])
 (.cond (.tmp 28) (.seq (.region [⟨(some 29), (.mov (.tmp 2)), none⟩, ⟨(some 10), (.mov (.tmp 29)), none⟩])
 (.seq (.region [⟨(some 30), (.mov (.tmp 3)), none⟩, ⟨(some 11), (.mov (.tmp 30)), none⟩])
 (.seq (.block 0 (.loop a91_c0))
 (.seq (.seq (.region [⟨(some 54), (.mov (.tmp 1)), none⟩, ⟨(some 13), (.mov (.tmp 54)), none⟩])
 (.block 2 (.loop a91_c1)))
 .ret)))) .skip))
 (.seq (.seq (.region [⟨(some 77), (.mov (.tmp 3)), none⟩, ⟨(some 78), (.mov (.tmp 2)), none⟩, ⟨(some 79), (.bin .sub (.tmp 77) (.tmp 78)), none⟩, ⟨(some 80), (.bin .eql (.tmp 79) (.const (.c (.val (.int .i64 1))))), none⟩])
 (.cond (.tmp 80) (.seq (.region [⟨(some 81), (.mov (.tmp 1)), none⟩, ⟨(some 14), (.mov (.tmp 81)), none⟩])
 (.seq (.region [⟨(some 82), (.mov (.tmp 2)), none⟩, ⟨(some 15), (.mov (.tmp 82)), none⟩])
 (.seq (.block 4 (.loop a91_c2))
 (.seq (.seq (.region [⟨(some 107), (.mov (.tmp 2)), none⟩, ⟨(some 17), (.mov (.tmp 107)), none⟩])
 (.block 6 (.loop a91_c3)))
 .ret)))) .skip))
 (.seq (.region [⟨(some 129), (.mov (.tmp 1)), none⟩, ⟨(some 130), (.mov (.tmp 3)), none⟩, ⟨(some 131), (.bin .add (.tmp 129) (.tmp 130)), none⟩, ⟨(some 132), (.conv .u64 (.tmp 131)), none⟩, ⟨(some 133), (.bin .shr (.tmp 132) (.const (.c (.val (.int .u64 1))))), none⟩, ⟨(some 134), (.conv .i64 (.tmp 133)), none⟩, ⟨(some 18), (.mov (.tmp 134)), none⟩])
 (.seq (.region [⟨(some 135), (.mov (.tmp 18)), none⟩, ⟨(some 136), (.mov (.tmp 2)), none⟩, ⟨(some 137), (.bin .add (.tmp 135) (.tmp 136)), none⟩, ⟨(some 19), (.mov (.tmp 137)), none⟩])
 (.seq (.region [⟨(some 20), (.mov (.const (.c (.val (.int .i64 0))))), none⟩, ⟨(some 21), (.mov (.const (.c (.val (.int .i64 0))))), none⟩])
 (.seq (.seq (.region [⟨(some 138), (.mov (.tmp 2)), none⟩, ⟨(some 139), (.mov (.tmp 18)), none⟩, ⟨(some 140), (.bin .gtr (.tmp 138) (.tmp 139)), none⟩])
 (.cond (.tmp 140) (.seq (.region [⟨(some 141), (.mov (.tmp 19)), none⟩, ⟨(some 142), (.mov (.tmp 3)), none⟩, ⟨(some 143), (.bin .sub (.tmp 141) (.tmp 142)), none⟩, ⟨(some 20), (.mov (.tmp 143)), none⟩])
 (.region [⟨(some 144), (.mov (.tmp 18)), none⟩, ⟨(some 21), (.mov (.tmp 144)), none⟩])) (.seq (.region [⟨(some 145), (.mov (.tmp 1)), none⟩, ⟨(some 20), (.mov (.tmp 145)), none⟩])
 (.region [⟨(some 146), (.mov (.tmp 2)), none⟩, ⟨(some 21), (.mov (.tmp 146)), none⟩]))))
 a91_c4))))))⟩
set_option maxRecDepth 100000 in
theorem c91 : compFunc Try.prog 91 = some a91 := by kernel_rfl
def slices_symMergeCmpFunc_int_post (zdata : Bool) (r : (List Int)) : AV → Heap → Nat → Prop := fun v h' n' => v = (.tup []) ∧ (h' = (upd (fun _ => none) 0 (lstB zdata 1 (r.map eI)))) ∧ n' = 1
def slices_symMergeCmpFunc_int_Rec (Γ : Glob) (recf : (List Int) → Int → Int → Int → (List TSGiven) → Option (List Int)) : Prop := ∀ (data : (List Int)) (a_ : Int) (m_ : Int) (b_ : Int) (cmpc : (List TSGiven)) (zdata : Bool) (hzdata : zdata = true → data = []) (r : (List Int)), recf data a_ m_ b_ cmpc = some r → ACalls Try.prog Γ 91 [(lstV zdata 0 1 data.length), (I a_), (I m_), (I b_), (.c (.fn (.func 55) [] [.rop [.ro false 6 (cmpc.map e_TSGiven)]]))] (upd (fun _ => none) 0 (lstB zdata 1 (data.map eI))) 1 (slices_symMergeCmpFunc_int_post zdata r)
noncomputable def slices_symMergeCmpFunc_int_l0 (data : (List Int)) (a_ : Int) (cmpc : (List TSGiven)) (K0_ : Int → Option (List Int)) : Nat → Int → Int → Option (List Int)
  | 0, _, _ => none
  | k + 1, i_, j_ =>
    if decide (i_ < j_) then
      (at? data (wr .i64 (shr .u64 (wr .u64 (wi (i_ + j_))) 1))).bind fun x_ =>
      (at? data a_).bind fun x_1 =>
      (cascade_Order_fn1 x_ x_1 cmpc).bind fun r_ =>
      if decide (r_ < 0) then
        (slices_symMergeCmpFunc_int_l0 data a_ cmpc K0_ k) (wi ((wr .i64 (shr .u64 (wr .u64 (wi (i_ + j_))) 1)) + 1)) j_
      else
        (slices_symMergeCmpFunc_int_l0 data a_ cmpc K0_ k) i_ (wr .i64 (shr .u64 (wr .u64 (wi (i_ + j_))) 1))
    else
      K0_ i_
theorem slices_symMergeCmpFunc_int_l0_ok {Γ : Glob} {Q : AExit → St → Prop} {zdata : Bool} {data : (List Int)} {a_ : Int} {cmpc : (List TSGiven)} {K0_ : Int → Option (List Int)} (hzdata : zdata = true → data = []) {k : Nat} {i_ : Int} {j_ : Int} {o : (List Int)} (h : slices_symMergeCmpFunc_int_l0 data a_ cmpc K0_ k i_ j_ = some o)
    (hK0 : ∀ (i_1 : Int), K0_ i_1 = some o → ∀ s, Weak 1 s ⟨(upd (upd (upd (fun _ => none) 0 (some (lstV zdata 0 1 data.length))) 1 (some (I a_))) 10 (some (I i_1))), (upd (fun _ => none) 0 (lstB zdata 1 (data.map eI))), 1⟩ → Q (.exit 0) s)
    (hr : ∀ s, Ends a91.results 1 (slices_symMergeCmpFunc_int_post zdata o) .ret s → Q .ret s) :
    Sv Try.prog Γ 1 (.loop a91_c0) Q ⟨(upd (upd (upd (upd (upd (fun _ => none) 0 (some (lstV zdata 0 1 data.length))) 1 (some (I a_))) 4 (some (.c (.fn (.func 55) [] [.rop [.ro false 6 (cmpc.map e_TSGiven)]])))) 10 (some (I i_))) 11 (some (I j_))), (upd (fun _ => none) 0 (lstB zdata 1 (data.map eI))), 1⟩ := by
  refine Sv.loop (I := fun k s => ∃ (i_ : Int), ∃ (j_ : Int), slices_symMergeCmpFunc_int_l0 data a_ cmpc K0_ k i_ j_ = some o ∧ s = ⟨(upd (upd (upd (upd (upd (fun _ => none) 0 (some (lstV zdata 0 1 data.length))) 1 (some (I a_))) 4 (some (.c (.fn (.func 55) [] [.rop [.ro false 6 (cmpc.map e_TSGiven)]])))) 10 (some (I i_))) 11 (some (I j_))), (upd (fun _ => none) 0 (lstB zdata 1 (data.map eI))), 1⟩) (fun k s hI => ?_) ⟨i_, j_, h, rfl⟩
  clear h
  clear j_ i_
  obtain ⟨i_, j_, h, rfl⟩ := hI
  cases k with
  | zero => cases h
  | succ k =>
  rw [slices_symMergeCmpFunc_int_l0] at h
  have hself : ∀ (i_ : Int) (j_ : Int), (slices_symMergeCmpFunc_int_l0 data a_ cmpc K0_ k) i_ j_ = some o → ∀ s, Weak 1 s ⟨(upd (upd (upd (upd (upd (fun _ => none) 0 (some (lstV zdata 0 1 data.length))) 1 (some (I a_))) 4 (some (.c (.fn (.func 55) [] [.rop [.ro false 6 (cmpc.map e_TSGiven)]])))) 10 (some (I i_))) 11 (some (I j_))), (upd (fun _ => none) 0 (lstB zdata 1 (data.map eI))), 1⟩ → (AThen (fun s' => ∃ s'' k', Weak 1 s' s'' ∧ k' < k + 1 ∧ (fun k s => ∃ (i_ : Int), ∃ (j_ : Int), slices_symMergeCmpFunc_int_l0 data a_ cmpc K0_ k i_ j_ = some o ∧ s = ⟨(upd (upd (upd (upd (upd (fun _ => none) 0 (some (lstV zdata 0 1 data.length))) 1 (some (I a_))) 4 (some (.c (.fn (.func 55) [] [.rop [.ro false 6 (cmpc.map e_TSGiven)]])))) 10 (some (I i_))) 11 (some (I j_))), (upd (fun _ => none) 0 (lstB zdata 1 (data.map eI))), 1⟩) k' s'') Q) .normal s := fun i_ j_ h s hw => ⟨_, k, hw, Nat.lt_succ_self k, i_, j_, h, rfl⟩
  refine Sv.seq ?_
  refine Sv.seq ?_
  refine Sv.region ?_
  refine un (a1 rfl ?_)
  refine un (a1 rfl ?_)
  refine un (a1 (v := (B (decide (i_ < j_)))) rfl ?_)
  refine dnil ?_
  refine Sv.cond (b := decide (i_ < j_)) rfl (fun hc2 => ?_) (fun hc2 => ?_)
  · replace h := ifT hc2 h
    refine Sv.skip ?_
    refine Sv.block ?_
    refine Sv.seq ?_
    refine Sv.region ?_
    refine un (a1 rfl ?_)
    refine un (a1 rfl ?_)
    refine un (a1 (v := (I (wi (i_ + j_)))) rfl ?_)
    refine un (a1 (v := (.c (.val (.int .u64 (wr .u64 (wi (i_ + j_))))))) rfl ?_)
    refine un (a1 (v := (.c (.val (.int .u64 (shr .u64 (wr .u64 (wi (i_ + j_))) 1))))) rfl ?_)
    refine un (a1 (v := (I (wr .i64 (shr .u64 (wr .u64 (wi (i_ + j_))) 1)))) rfl ?_)
    refine un (a1 rfl ?_)
    refine dnil ?_
    refine Sv.seq ?_
    refine Sv.drawn ?_
    refine un (a1 rfl ?_)
    refine un (a1 rfl ?_)
    refine un (a1 rfl ?_)
    obtain ⟨x_, hx1, h⟩ := bnd h
    refine un (a1 (v := (.c (.ref 0 1 (wr .i64 (shr .u64 (wr .u64 (wi (i_ + j_))) 1)).toNat 0))) (s_iaddrL rfl rfl hzdata hx1) ?_)
    refine un (a1 (v := (I x_)) (s_loadL (e := eI) rfl rfl hzdata hx1 rfl rfl) ?_)
    refine un (a1 rfl ?_)
    refine un (a1 rfl ?_)
    obtain ⟨x_1, hx2, h⟩ := bnd h
    refine un (a1 (v := (.c (.ref 0 1 a_.toNat 0))) (s_iaddrL rfl rfl hzdata hx2) ?_)
    refine un (a1 (v := (I x_1)) (s_loadL (e := eI) rfl rfl hzdata hx2 rfl rfl) ?_)
    obtain ⟨r_, hr1, h⟩ := bnd h
    refine un (acv_gen (bs := []) («as» := [(I x_), (I x_1), (.c (.rop [.ro false 6 (cmpc.map e_TSGiven)]))]) (h2 := _) (h1 := (fun _ => none)) rfl (by kernel_rfl) (cascade_Order_fn1_ok hr1) rfl (.cons (avAs_free rfl) (.cons (avAs_free rfl) (.cons (avAs_free rfl) .nil))) (hsub_refl _) (.nil _) (fun _ => rfl) (by decide) (by decide) (.cons (avAs_free rfl) (.cons (avAs_free rfl) (.cons (avAs_free rfl) .nil))) .nil ?_)
    rintro _ _ _ hn ⟨rfl, rfl, rfl⟩
    refine ⟨.inl rfl, (rem [] _), fun hbd => (m3_rem (in_nil _) (.nil) hbd), (I r_), 1, rfl, rfl, ?_⟩
    refine un (a1 (v := (B (decide (r_ < 0)))) rfl ?_)
    refine dnil ?_
    refine Sv.cond (b := decide (r_ < 0)) rfl (fun hc3 => ?_) (fun hc3 => ?_)
    · replace h := ifT hc3 h
      refine Sv.region ?_
      refine un (a1 rfl ?_)
      refine un (a1 (v := (I (wi ((wr .i64 (shr .u64 (wr .u64 (wi (i_ + j_))) 1)) + 1)))) rfl ?_)
      refine un (a1 rfl ?_)
      refine dnil ?_
      exact hself (wi ((wr .i64 (shr .u64 (wr .u64 (wi (i_ + j_))) 1)) + 1)) j_ h _ (weak_canon [0] rfl (by decide) (by decide) (by decide) (.cons rfl (avAs_free rfl) (.cons rfl (avAs_free rfl) (.cons rfl (.c (fn_as .nil (.cons (.same rfl) .nil))) (.cons rfl (avAs_free rfl) (.cons rfl (.c (lstC_ren rfl (by decide))) .nil))))) (.row (by decide) rfl (fr_map fun _ => rfl) .nil))
    · replace h := ifF hc3 h
      refine Sv.region ?_
      refine un (a1 rfl ?_)
      refine un (a1 rfl ?_)
      refine dnil ?_
      exact hself i_ (wr .i64 (shr .u64 (wr .u64 (wi (i_ + j_))) 1)) h _ (weak_canon [0] rfl (by decide) (by decide) (by decide) (.cons rfl (avAs_free rfl) (.cons rfl (avAs_free rfl) (.cons rfl (.c (fn_as .nil (.cons (.same rfl) .nil))) (.cons rfl (avAs_free rfl) (.cons rfl (.c (lstC_ren rfl (by decide))) .nil))))) (.row (by decide) rfl (fr_map fun _ => rfl) .nil))
  · replace h := ifF hc2 h
    refine Sv.exit ?_
    exact hK0 i_ h _ (weak_canon [0] rfl (by decide) (by decide) (by decide) (.cons rfl (avAs_free rfl) (.cons rfl (avAs_free rfl) (.cons rfl (.c (lstC_ren rfl (by decide))) .nil))) (.row (by decide) rfl (fr_map fun _ => rfl) .nil))
noncomputable def slices_symMergeCmpFunc_int_l1 (i_1 : Int) (K2_ : (List Int) → Option (List Int)) : Nat → (List Int) → Int → Option (List Int)
  | 0, _, _ => none
  | k + 1, data1, k_ =>
    if decide (k_ < (wi (i_1 - 1))) then
      (at? data1 (wi (k_ + 1))).bind fun x_2 =>
      (at? data1 k_).bind fun x_3 =>
      (at? data1 k_).bind fun x_4 =>
      (at? (data1.set k_.toNat x_2) (wi (k_ + 1))).bind fun x_5 =>
      (slices_symMergeCmpFunc_int_l1 i_1 K2_ k) ((data1.set k_.toNat x_2).set (wi (k_ + 1)).toNat x_3) (wi (k_ + 1))
    else
      K2_ data1
theorem slices_symMergeCmpFunc_int_l1_ok {Γ : Glob} {Q : AExit → St → Prop} {zdata : Bool} {i_1 : Int} {K2_ : (List Int) → Option (List Int)} {k : Nat} {data1 : (List Int)} {k_ : Int} (hzdata1 : zdata = true → data1 = []) {o : (List Int)} (h : slices_symMergeCmpFunc_int_l1 i_1 K2_ k data1 k_ = some o)
    (hK2 : ∀ (data2 : (List Int)) (_ : zdata = true → data2 = []), K2_ data2 = some o → ∀ s, Weak 1 s ⟨(upd (fun _ => none) 0 (some (lstV zdata 0 1 data2.length))), (upd (fun _ => none) 0 (lstB zdata 1 (data2.map eI))), 1⟩ → Q (.exit 2) s)
    (hr : ∀ s, Ends a91.results 1 (slices_symMergeCmpFunc_int_post zdata o) .ret s → Q .ret s) :
    Sv Try.prog Γ 1 (.loop a91_c1) Q ⟨(upd (upd (upd (fun _ => none) 0 (some (lstV zdata 0 1 data1.length))) 10 (some (I i_1))) 13 (some (I k_))), (upd (fun _ => none) 0 (lstB zdata 1 (data1.map eI))), 1⟩ := by
  refine Sv.loop (I := fun k s => ∃ (data1 : (List Int)), ∃ (k_ : Int), (zdata = true → data1 = []) ∧ slices_symMergeCmpFunc_int_l1 i_1 K2_ k data1 k_ = some o ∧ s = ⟨(upd (upd (upd (fun _ => none) 0 (some (lstV zdata 0 1 data1.length))) 10 (some (I i_1))) 13 (some (I k_))), (upd (fun _ => none) 0 (lstB zdata 1 (data1.map eI))), 1⟩) (fun k s hI => ?_) ⟨data1, k_, hzdata1, h, rfl⟩
  clear h
  clear hzdata1 k_ data1
  obtain ⟨data1, k_, hzdata1, h, rfl⟩ := hI
  cases k with
  | zero => cases h
  | succ k =>
  rw [slices_symMergeCmpFunc_int_l1] at h
  have hself : ∀ (data1 : (List Int)) (k_ : Int) (_ : zdata = true → data1 = []), (slices_symMergeCmpFunc_int_l1 i_1 K2_ k) data1 k_ = some o → ∀ s, Weak 1 s ⟨(upd (upd (upd (fun _ => none) 0 (some (lstV zdata 0 1 data1.length))) 10 (some (I i_1))) 13 (some (I k_))), (upd (fun _ => none) 0 (lstB zdata 1 (data1.map eI))), 1⟩ → (AThen (fun s' => ∃ s'' k', Weak 1 s' s'' ∧ k' < k + 1 ∧ (fun k s => ∃ (data1 : (List Int)), ∃ (k_ : Int), (zdata = true → data1 = []) ∧ slices_symMergeCmpFunc_int_l1 i_1 K2_ k data1 k_ = some o ∧ s = ⟨(upd (upd (upd (fun _ => none) 0 (some (lstV zdata 0 1 data1.length))) 10 (some (I i_1))) 13 (some (I k_))), (upd (fun _ => none) 0 (lstB zdata 1 (data1.map eI))), 1⟩) k' s'') Q) .normal s := fun data1 k_ hzdata1 h s hw => ⟨_, k, hw, Nat.lt_succ_self k, data1, k_, hzdata1, h, rfl⟩
  refine Sv.seq ?_
  refine Sv.seq ?_
  refine Sv.region ?_
  refine un (a1 rfl ?_)
  refine un (a1 rfl ?_)
  refine un (a1 (v := (I (wi (i_1 - 1)))) rfl ?_)
  refine un (a1 (v := (B (decide (k_ < (wi (i_1 - 1)))))) rfl ?_)
  refine dnil ?_
  refine Sv.cond (b := decide (k_ < (wi (i_1 - 1)))) rfl (fun hc4 => ?_) (fun hc4 => ?_)
  · replace h := ifT hc4 h
    refine Sv.skip ?_
    refine Sv.seq ?_
    refine Sv.block ?_
    refine Sv.drawn ?_
    refine un (a1 rfl ?_)
    refine un (a1 rfl ?_)
    refine un (a1 rfl ?_)
    refine un (a1 rfl ?_)
    refine un (a1 (v := (I (wi (k_ + 1)))) rfl ?_)
    refine un (a1 rfl ?_)
    refine un (a1 rfl ?_)
    refine un (a1 (v := (I (wi (k_ + 1)))) rfl ?_)
    obtain ⟨x_2, hx3, h⟩ := bnd h
    refine un (a1 (v := (.c (.ref 0 1 (wi (k_ + 1)).toNat 0))) (s_iaddrL rfl rfl hzdata1 hx3) ?_)
    refine un (a1 (v := (I x_2)) (s_loadL (e := eI) rfl rfl hzdata1 hx3 rfl rfl) ?_)
    refine un (a1 rfl ?_)
    refine un (a1 rfl ?_)
    obtain ⟨x_3, hx4, h⟩ := bnd h
    refine un (a1 (v := (.c (.ref 0 1 k_.toNat 0))) (s_iaddrL rfl rfl hzdata1 hx4) ?_)
    refine un (a1 (v := (I x_3)) (s_loadL (e := eI) rfl rfl hzdata1 hx4 rfl rfl) ?_)
    obtain ⟨x_4, hx5, h⟩ := bnd h
    refine un (a1 (v := (.c (.ref 0 1 k_.toNat 0))) (s_iaddrL rfl rfl hzdata1 hx5) ?_)
    refine un (a2n (h' := upd _ 0 (lstB zdata 1 ((data1.set k_.toNat x_2).map eI))) (n' := 1) rfl (s_storeL (e := eI) (q' := x_2) rfl rfl hzdata1 hx5 rfl rfl rfl (Nat.le_of_ble_eq_true rfl) rfl) (fun h => by cases h) ?_)
    try rw [len_set data1 k_.toNat x_2]
    obtain ⟨x_5, hx6, h⟩ := bnd h
    refine un (a1 (v := (.c (.ref 0 1 (wi (k_ + 1)).toNat 0))) (s_iaddrL rfl rfl (hz_len hzdata1 (len_set data1 k_.toNat x_2)) hx6) ?_)
    refine un (a2n (h' := upd _ 0 (lstB zdata 1 (((data1.set k_.toNat x_2).set (wi (k_ + 1)).toNat x_3).map eI))) (n' := 1) rfl (s_storeL (e := eI) (q' := x_3) rfl rfl (hz_len hzdata1 (len_set data1 k_.toNat x_2)) hx6 rfl rfl rfl (Nat.le_of_ble_eq_true rfl) rfl) (fun h => by cases h) ?_)
    try rw [len_set (data1.set k_.toNat x_2) (wi (k_ + 1)).toNat x_3]
    refine dnil ?_
    refine Sv.region ?_
    refine un (a1 rfl ?_)
    refine un (a1 (v := (I (wi (k_ + 1)))) rfl ?_)
    refine un (a1 rfl ?_)
    refine dnil ?_
    exact hself ((data1.set k_.toNat x_2).set (wi (k_ + 1)).toNat x_3) (wi (k_ + 1)) (hz_len (hz_len hzdata1 (len_set data1 k_.toNat x_2)) (len_set (data1.set k_.toNat x_2) (wi (k_ + 1)).toNat x_3)) h _ (weak_canon [0] rfl (by decide) (by decide) (by decide) (.cons rfl (avAs_free rfl) (.cons rfl (avAs_free rfl) (.cons rfl (.c (lstC_ren rfl (by decide))) .nil))) (.row (by decide) rfl (fr_map fun _ => rfl) .nil))
  · replace h := ifF hc4 h
    refine Sv.exit ?_
    exact hK2 data1 hzdata1 h _ (weak_canon [0] rfl (by decide) (by decide) (by decide) (.cons rfl (.c (lstC_ren rfl (by decide))) .nil) (.row (by decide) rfl (fr_map fun _ => rfl) .nil))
noncomputable def slices_symMergeCmpFunc_int_l2 (data : (List Int)) (m_ : Int) (cmpc : (List TSGiven)) (K4_ : Int → Option (List Int)) : Nat → Int → Int → Option (List Int)
  | 0, _, _ => none
  | k + 1, i_2, j_1 =>
    if decide (i_2 < j_1) then
      (at? data m_).bind fun x_6 =>
      (at? data (wr .i64 (shr .u64 (wr .u64 (wi (i_2 + j_1))) 1))).bind fun x_7 =>
      (cascade_Order_fn1 x_6 x_7 cmpc).bind fun r_1 =>
      if (!decide (r_1 < 0)) then
        (slices_symMergeCmpFunc_int_l2 data m_ cmpc K4_ k) (wi ((wr .i64 (shr .u64 (wr .u64 (wi (i_2 + j_1))) 1)) + 1)) j_1
      else
        (slices_symMergeCmpFunc_int_l2 data m_ cmpc K4_ k) i_2 (wr .i64 (shr .u64 (wr .u64 (wi (i_2 + j_1))) 1))
    else
      K4_ i_2
theorem slices_symMergeCmpFunc_int_l2_ok {Γ : Glob} {Q : AExit → St → Prop} {zdata : Bool} {data : (List Int)} {m_ : Int} {cmpc : (List TSGiven)} {K4_ : Int → Option (List Int)} (hzdata : zdata = true → data = []) {k : Nat} {i_2 : Int} {j_1 : Int} {o : (List Int)} (h : slices_symMergeCmpFunc_int_l2 data m_ cmpc K4_ k i_2 j_1 = some o)
    (hK4 : ∀ (i_3 : Int), K4_ i_3 = some o → ∀ s, Weak 1 s ⟨(upd (upd (upd (fun _ => none) 0 (some (lstV zdata 0 1 data.length))) 2 (some (I m_))) 14 (some (I i_3))), (upd (fun _ => none) 0 (lstB zdata 1 (data.map eI))), 1⟩ → Q (.exit 4) s)
    (hr : ∀ s, Ends a91.results 1 (slices_symMergeCmpFunc_int_post zdata o) .ret s → Q .ret s) :
    Sv Try.prog Γ 1 (.loop a91_c2) Q ⟨(upd (upd (upd (upd (upd (fun _ => none) 0 (some (lstV zdata 0 1 data.length))) 2 (some (I m_))) 4 (some (.c (.fn (.func 55) [] [.rop [.ro false 6 (cmpc.map e_TSGiven)]])))) 14 (some (I i_2))) 15 (some (I j_1))), (upd (fun _ => none) 0 (lstB zdata 1 (data.map eI))), 1⟩ := by
  refine Sv.loop (I := fun k s => ∃ (i_2 : Int), ∃ (j_1 : Int), slices_symMergeCmpFunc_int_l2 data m_ cmpc K4_ k i_2 j_1 = some o ∧ s = ⟨(upd (upd (upd (upd (upd (fun _ => none) 0 (some (lstV zdata 0 1 data.length))) 2 (some (I m_))) 4 (some (.c (.fn (.func 55) [] [.rop [.ro false 6 (cmpc.map e_TSGiven)]])))) 14 (some (I i_2))) 15 (some (I j_1))), (upd (fun _ => none) 0 (lstB zdata 1 (data.map eI))), 1⟩) (fun k s hI => ?_) ⟨i_2, j_1, h, rfl⟩
  clear h
  clear j_1 i_2
  obtain ⟨i_2, j_1, h, rfl⟩ := hI
  cases k with
  | zero => cases h
  | succ k =>
  rw [slices_symMergeCmpFunc_int_l2] at h
  have hself : ∀ (i_2 : Int) (j_1 : Int), (slices_symMergeCmpFunc_int_l2 data m_ cmpc K4_ k) i_2 j_1 = some o → ∀ s, Weak 1 s ⟨(upd (upd (upd (upd (upd (fun _ => none) 0 (some (lstV zdata 0 1 data.length))) 2 (some (I m_))) 4 (some (.c (.fn (.func 55) [] [.rop [.ro false 6 (cmpc.map e_TSGiven)]])))) 14 (some (I i_2))) 15 (some (I j_1))), (upd (fun _ => none) 0 (lstB zdata 1 (data.map eI))), 1⟩ → (AThen (fun s' => ∃ s'' k', Weak 1 s' s'' ∧ k' < k + 1 ∧ (fun k s => ∃ (i_2 : Int), ∃ (j_1 : Int), slices_symMergeCmpFunc_int_l2 data m_ cmpc K4_ k i_2 j_1 = some o ∧ s = ⟨(upd (upd (upd (upd (upd (fun _ => none) 0 (some (lstV zdata 0 1 data.length))) 2 (some (I m_))) 4 (some (.c (.fn (.func 55) [] [.rop [.ro false 6 (cmpc.map e_TSGiven)]])))) 14 (some (I i_2))) 15 (some (I j_1))), (upd (fun _ => none) 0 (lstB zdata 1 (data.map eI))), 1⟩) k' s'') Q) .normal s := fun i_2 j_1 h s hw => ⟨_, k, hw, Nat.lt_succ_self k, i_2, j_1, h, rfl⟩
  refine Sv.seq ?_
  refine Sv.seq ?_
  refine Sv.region ?_
  refine un (a1 rfl ?_)
  refine un (a1 rfl ?_)
  refine un (a1 (v := (B (decide (i_2 < j_1)))) rfl ?_)
  refine dnil ?_
  refine Sv.cond (b := decide (i_2 < j_1)) rfl (fun hc6 => ?_) (fun hc6 => ?_)
  · replace h := ifT hc6 h
    refine Sv.skip ?_
    refine Sv.block ?_
    refine Sv.seq ?_
    refine Sv.region ?_
    refine un (a1 rfl ?_)
    refine un (a1 rfl ?_)
    refine un (a1 (v := (I (wi (i_2 + j_1)))) rfl ?_)
    refine un (a1 (v := (.c (.val (.int .u64 (wr .u64 (wi (i_2 + j_1))))))) rfl ?_)
    refine un (a1 (v := (.c (.val (.int .u64 (shr .u64 (wr .u64 (wi (i_2 + j_1))) 1))))) rfl ?_)
    refine un (a1 (v := (I (wr .i64 (shr .u64 (wr .u64 (wi (i_2 + j_1))) 1)))) rfl ?_)
    refine un (a1 rfl ?_)
    refine dnil ?_
    refine Sv.seq ?_
    refine Sv.drawn ?_
    refine un (a1 rfl ?_)
    refine un (a1 rfl ?_)
    refine un (a1 rfl ?_)
    obtain ⟨x_6, hx7, h⟩ := bnd h
    refine un (a1 (v := (.c (.ref 0 1 m_.toNat 0))) (s_iaddrL rfl rfl hzdata hx7) ?_)
    refine un (a1 (v := (I x_6)) (s_loadL (e := eI) rfl rfl hzdata hx7 rfl rfl) ?_)
    refine un (a1 rfl ?_)
    refine un (a1 rfl ?_)
    obtain ⟨x_7, hx8, h⟩ := bnd h
    refine un (a1 (v := (.c (.ref 0 1 (wr .i64 (shr .u64 (wr .u64 (wi (i_2 + j_1))) 1)).toNat 0))) (s_iaddrL rfl rfl hzdata hx8) ?_)
    refine un (a1 (v := (I x_7)) (s_loadL (e := eI) rfl rfl hzdata hx8 rfl rfl) ?_)
    obtain ⟨r_1, hr2, h⟩ := bnd h
    refine un (acv_gen (bs := []) («as» := [(I x_6), (I x_7), (.c (.rop [.ro false 6 (cmpc.map e_TSGiven)]))]) (h2 := _) (h1 := (fun _ => none)) rfl (by kernel_rfl) (cascade_Order_fn1_ok hr2) rfl (.cons (avAs_free rfl) (.cons (avAs_free rfl) (.cons (avAs_free rfl) .nil))) (hsub_refl _) (.nil _) (fun _ => rfl) (by decide) (by decide) (.cons (avAs_free rfl) (.cons (avAs_free rfl) (.cons (avAs_free rfl) .nil))) .nil ?_)
    rintro _ _ _ hn ⟨rfl, rfl, rfl⟩
    refine ⟨.inl rfl, (rem [] _), fun hbd => (m3_rem (in_nil _) (.nil) hbd), (I r_1), 1, rfl, rfl, ?_⟩
    refine un (a1 (v := (B (decide (r_1 < 0)))) rfl ?_)
    refine un (a1 (v := (B (!decide (r_1 < 0)))) rfl ?_)
    refine dnil ?_
    refine Sv.cond (b := (!decide (r_1 < 0))) rfl (fun hc7 => ?_) (fun hc7 => ?_)
    · replace h := ifT hc7 h
      refine Sv.region ?_
      refine un (a1 rfl ?_)
      refine un (a1 (v := (I (wi ((wr .i64 (shr .u64 (wr .u64 (wi (i_2 + j_1))) 1)) + 1)))) rfl ?_)
      refine un (a1 rfl ?_)
      refine dnil ?_
      exact hself (wi ((wr .i64 (shr .u64 (wr .u64 (wi (i_2 + j_1))) 1)) + 1)) j_1 h _ (weak_canon [0] rfl (by decide) (by decide) (by decide) (.cons rfl (avAs_free rfl) (.cons rfl (avAs_free rfl) (.cons rfl (.c (fn_as .nil (.cons (.same rfl) .nil))) (.cons rfl (avAs_free rfl) (.cons rfl (.c (lstC_ren rfl (by decide))) .nil))))) (.row (by decide) rfl (fr_map fun _ => rfl) .nil))
    · replace h := ifF hc7 h
      refine Sv.region ?_
      refine un (a1 rfl ?_)
      refine un (a1 rfl ?_)
      refine dnil ?_
      exact hself i_2 (wr .i64 (shr .u64 (wr .u64 (wi (i_2 + j_1))) 1)) h _ (weak_canon [0] rfl (by decide) (by decide) (by decide) (.cons rfl (avAs_free rfl) (.cons rfl (avAs_free rfl) (.cons rfl (.c (fn_as .nil (.cons (.same rfl) .nil))) (.cons rfl (avAs_free rfl) (.cons rfl (.c (lstC_ren rfl (by decide))) .nil))))) (.row (by decide) rfl (fr_map fun _ => rfl) .nil))
  · replace h := ifF hc6 h
    refine Sv.exit ?_
    exact hK4 i_2 h _ (weak_canon [0] rfl (by decide) (by decide) (by decide) (.cons rfl (avAs_free rfl) (.cons rfl (avAs_free rfl) (.cons rfl (.c (lstC_ren rfl (by decide))) .nil))) (.row (by decide) rfl (fr_map fun _ => rfl) .nil))
noncomputable def slices_symMergeCmpFunc_int_l3 (i_3 : Int) (K6_ : (List Int) → Option (List Int)) : Nat → (List Int) → Int → Option (List Int)
  | 0, _, _ => none
  | k + 1, data3, k_1 =>
    if decide (i_3 < k_1) then
      (at? data3 (wi (k_1 - 1))).bind fun x_8 =>
      (at? data3 k_1).bind fun x_9 =>
      (at? data3 k_1).bind fun x_10 =>
      (at? (data3.set k_1.toNat x_8) (wi (k_1 - 1))).bind fun x_11 =>
      (slices_symMergeCmpFunc_int_l3 i_3 K6_ k) ((data3.set k_1.toNat x_8).set (wi (k_1 - 1)).toNat x_9) (wi (k_1 - 1))
    else
      K6_ data3
theorem slices_symMergeCmpFunc_int_l3_ok {Γ : Glob} {Q : AExit → St → Prop} {zdata : Bool} {i_3 : Int} {K6_ : (List Int) → Option (List Int)} {k : Nat} {data3 : (List Int)} {k_1 : Int} (hzdata3 : zdata = true → data3 = []) {o : (List Int)} (h : slices_symMergeCmpFunc_int_l3 i_3 K6_ k data3 k_1 = some o)
    (hK6 : ∀ (data4 : (List Int)) (_ : zdata = true → data4 = []), K6_ data4 = some o → ∀ s, Weak 1 s ⟨(upd (fun _ => none) 0 (some (lstV zdata 0 1 data4.length))), (upd (fun _ => none) 0 (lstB zdata 1 (data4.map eI))), 1⟩ → Q (.exit 6) s)
    (hr : ∀ s, Ends a91.results 1 (slices_symMergeCmpFunc_int_post zdata o) .ret s → Q .ret s) :
    Sv Try.prog Γ 1 (.loop a91_c3) Q ⟨(upd (upd (upd (fun _ => none) 0 (some (lstV zdata 0 1 data3.length))) 14 (some (I i_3))) 17 (some (I k_1))), (upd (fun _ => none) 0 (lstB zdata 1 (data3.map eI))), 1⟩ := by
  refine Sv.loop (I := fun k s => ∃ (data3 : (List Int)), ∃ (k_1 : Int), (zdata = true → data3 = []) ∧ slices_symMergeCmpFunc_int_l3 i_3 K6_ k data3 k_1 = some o ∧ s = ⟨(upd (upd (upd (fun _ => none) 0 (some (lstV zdata 0 1 data3.length))) 14 (some (I i_3))) 17 (some (I k_1))), (upd (fun _ => none) 0 (lstB zdata 1 (data3.map eI))), 1⟩) (fun k s hI => ?_) ⟨data3, k_1, hzdata3, h, rfl⟩
  clear h
  clear hzdata3 k_1 data3
  obtain ⟨data3, k_1, hzdata3, h, rfl⟩ := hI
  cases k with
  | zero => cases h
  | succ k =>
  rw [slices_symMergeCmpFunc_int_l3] at h
  have hself : ∀ (data3 : (List Int)) (k_1 : Int) (_ : zdata = true → data3 = []), (slices_symMergeCmpFunc_int_l3 i_3 K6_ k) data3 k_1 = some o → ∀ s, Weak 1 s ⟨(upd (upd (upd (fun _ => none) 0 (some (lstV zdata 0 1 data3.length))) 14 (some (I i_3))) 17 (some (I k_1))), (upd (fun _ => none) 0 (lstB zdata 1 (data3.map eI))), 1⟩ → (AThen (fun s' => ∃ s'' k', Weak 1 s' s'' ∧ k' < k + 1 ∧ (fun k s => ∃ (data3 : (List Int)), ∃ (k_1 : Int), (zdata = true → data3 = []) ∧ slices_symMergeCmpFunc_int_l3 i_3 K6_ k data3 k_1 = some o ∧ s = ⟨(upd (upd (upd (fun _ => none) 0 (some (lstV zdata 0 1 data3.length))) 14 (some (I i_3))) 17 (some (I k_1))), (upd (fun _ => none) 0 (lstB zdata 1 (data3.map eI))), 1⟩) k' s'') Q) .normal s := fun data3 k_1 hzdata3 h s hw => ⟨_, k, hw, Nat.lt_succ_self k, data3, k_1, hzdata3, h, rfl⟩
  refine Sv.seq ?_
  refine Sv.seq ?_
  refine Sv.region ?_
  refine un (a1 rfl ?_)
  refine un (a1 rfl ?_)
  refine un (a1 (v := (B (decide (i_3 < k_1)))) rfl ?_)
  refine dnil ?_
  refine Sv.cond (b := decide (i_3 < k_1)) rfl (fun hc8 => ?_) (fun hc8 => ?_)
  · replace h := ifT hc8 h
    refine Sv.skip ?_
    refine Sv.seq ?_
    refine Sv.block ?_
    refine Sv.drawn ?_
    refine un (a1 rfl ?_)
    refine un (a1 rfl ?_)
    refine un (a1 rfl ?_)
    refine un (a1 rfl ?_)
    refine un (a1 (v := (I (wi (k_1 - 1)))) rfl ?_)
    refine un (a1 rfl ?_)
    refine un (a1 rfl ?_)
    refine un (a1 (v := (I (wi (k_1 - 1)))) rfl ?_)
    obtain ⟨x_8, hx9, h⟩ := bnd h
    refine un (a1 (v := (.c (.ref 0 1 (wi (k_1 - 1)).toNat 0))) (s_iaddrL rfl rfl hzdata3 hx9) ?_)
    refine un (a1 (v := (I x_8)) (s_loadL (e := eI) rfl rfl hzdata3 hx9 rfl rfl) ?_)
    refine un (a1 rfl ?_)
    refine un (a1 rfl ?_)
    obtain ⟨x_9, hx10, h⟩ := bnd h
    refine un (a1 (v := (.c (.ref 0 1 k_1.toNat 0))) (s_iaddrL rfl rfl hzdata3 hx10) ?_)
    refine un (a1 (v := (I x_9)) (s_loadL (e := eI) rfl rfl hzdata3 hx10 rfl rfl) ?_)
    obtain ⟨x_10, hx11, h⟩ := bnd h
    refine un (a1 (v := (.c (.ref 0 1 k_1.toNat 0))) (s_iaddrL rfl rfl hzdata3 hx11) ?_)
    refine un (a2n (h' := upd _ 0 (lstB zdata 1 ((data3.set k_1.toNat x_8).map eI))) (n' := 1) rfl (s_storeL (e := eI) (q' := x_8) rfl rfl hzdata3 hx11 rfl rfl rfl (Nat.le_of_ble_eq_true rfl) rfl) (fun h => by cases h) ?_)
    try rw [len_set data3 k_1.toNat x_8]
    obtain ⟨x_11, hx12, h⟩ := bnd h
    refine un (a1 (v := (.c (.ref 0 1 (wi (k_1 - 1)).toNat 0))) (s_iaddrL rfl rfl (hz_len hzdata3 (len_set data3 k_1.toNat x_8)) hx12) ?_)
    refine un (a2n (h' := upd _ 0 (lstB zdata 1 (((data3.set k_1.toNat x_8).set (wi (k_1 - 1)).toNat x_9).map eI))) (n' := 1) rfl (s_storeL (e := eI) (q' := x_9) rfl rfl (hz_len hzdata3 (len_set data3 k_1.toNat x_8)) hx12 rfl rfl rfl (Nat.le_of_ble_eq_true rfl) rfl) (fun h => by cases h) ?_)
    try rw [len_set (data3.set k_1.toNat x_8) (wi (k_1 - 1)).toNat x_9]
    refine dnil ?_
    refine Sv.region ?_
    refine un (a1 rfl ?_)
    refine un (a1 (v := (I (wi (k_1 - 1)))) rfl ?_)
    refine un (a1 rfl ?_)
    refine dnil ?_
    exact hself ((data3.set k_1.toNat x_8).set (wi (k_1 - 1)).toNat x_9) (wi (k_1 - 1)) (hz_len (hz_len hzdata3 (len_set data3 k_1.toNat x_8)) (len_set (data3.set k_1.toNat x_8) (wi (k_1 - 1)).toNat x_9)) h _ (weak_canon [0] rfl (by decide) (by decide) (by decide) (.cons rfl (avAs_free rfl) (.cons rfl (avAs_free rfl) (.cons rfl (.c (lstC_ren rfl (by decide))) .nil))) (.row (by decide) rfl (fr_map fun _ => rfl) .nil))
  · replace h := ifF hc8 h
    refine Sv.exit ?_
    exact hK6 data3 hzdata3 h _ (weak_canon [0] rfl (by decide) (by decide) (by decide) (.cons rfl (.c (lstC_ren rfl (by decide))) .nil) (.row (by decide) rfl (fr_map fun _ => rfl) .nil))
noncomputable def slices_symMergeCmpFunc_int_l4 (a_ : Int) (b_ : Int) (m_ : Int) (data5 : (List Int)) (cmpc : (List TSGiven)) (K8_ : Int → Option (List Int)) : Nat → Int → Int → Option (List Int)
  | 0, _, _ => none
  | k + 1, start1, r_3 =>
    if decide (start1 < r_3) then
      letIn (wi ((wi ((wi ((wr .i64 (shr .u64 (wr .u64 (wi (a_ + b_))) 1)) + m_)) - 1)) - (wr .i64 (shr .u64 (wr .u64 (wi (start1 + r_3))) 1)))) fun v162 : Int =>
      (at? data5 v162).bind fun x_12 =>
      (at? data5 (wr .i64 (shr .u64 (wr .u64 (wi (start1 + r_3))) 1))).bind fun x_13 =>
      (cascade_Order_fn1 x_12 x_13 cmpc).bind fun r_4 =>
      if (!decide (r_4 < 0)) then
        (slices_symMergeCmpFunc_int_l4 a_ b_ m_ data5 cmpc K8_ k) (wi ((wr .i64 (shr .u64 (wr .u64 (wi (start1 + r_3))) 1)) + 1)) r_3
      else
        (slices_symMergeCmpFunc_int_l4 a_ b_ m_ data5 cmpc K8_ k) start1 (wr .i64 (shr .u64 (wr .u64 (wi (start1 + r_3))) 1))
    else
      K8_ start1
theorem slices_symMergeCmpFunc_int_l4_ok {Γ : Glob} {Q : AExit → St → Prop} {zdata : Bool} {a_ : Int} {b_ : Int} {m_ : Int} {data5 : (List Int)} {cmpc : (List TSGiven)} {K8_ : Int → Option (List Int)} (hzdata5 : zdata = true → data5 = []) {k : Nat} {start1 : Int} {r_3 : Int} {o : (List Int)} (h : slices_symMergeCmpFunc_int_l4 a_ b_ m_ data5 cmpc K8_ k start1 r_3 = some o)
    (hK8 : ∀ (start2 : Int), K8_ start2 = some o → ∀ s, Weak 1 s ⟨(upd (upd (upd (upd (upd (upd (upd (upd (fun _ => none) 0 (some (lstV zdata 0 1 data5.length))) 1 (some (I a_))) 2 (some (I m_))) 3 (some (I b_))) 4 (some (.c (.fn (.func 55) [] [.rop [.ro false 6 (cmpc.map e_TSGiven)]])))) 18 (some (I (wr .i64 (shr .u64 (wr .u64 (wi (a_ + b_))) 1))))) 19 (some (I (wi ((wr .i64 (shr .u64 (wr .u64 (wi (a_ + b_))) 1)) + m_))))) 20 (some (I start2))), (upd (fun _ => none) 0 (lstB zdata 1 (data5.map eI))), 1⟩ → Q (.exit 8) s)
    (hr : ∀ s, Ends a91.results 1 (slices_symMergeCmpFunc_int_post zdata o) .ret s → Q .ret s) :
    Sv Try.prog Γ 1 (.loop a91_c5) Q ⟨(upd (upd (upd (upd (upd (upd (upd (upd (upd (upd (fun _ => none) 0 (some (lstV zdata 0 1 data5.length))) 1 (some (I a_))) 2 (some (I m_))) 3 (some (I b_))) 4 (some (.c (.fn (.func 55) [] [.rop [.ro false 6 (cmpc.map e_TSGiven)]])))) 18 (some (I (wr .i64 (shr .u64 (wr .u64 (wi (a_ + b_))) 1))))) 19 (some (I (wi ((wr .i64 (shr .u64 (wr .u64 (wi (a_ + b_))) 1)) + m_))))) 20 (some (I start1))) 21 (some (I r_3))) 22 (some (I (wi ((wi ((wr .i64 (shr .u64 (wr .u64 (wi (a_ + b_))) 1)) + m_)) - 1))))), (upd (fun _ => none) 0 (lstB zdata 1 (data5.map eI))), 1⟩ := by
  refine Sv.loop (I := fun k s => ∃ (start1 : Int), ∃ (r_3 : Int), slices_symMergeCmpFunc_int_l4 a_ b_ m_ data5 cmpc K8_ k start1 r_3 = some o ∧ s = ⟨(upd (upd (upd (upd (upd (upd (upd (upd (upd (upd (fun _ => none) 0 (some (lstV zdata 0 1 data5.length))) 1 (some (I a_))) 2 (some (I m_))) 3 (some (I b_))) 4 (some (.c (.fn (.func 55) [] [.rop [.ro false 6 (cmpc.map e_TSGiven)]])))) 18 (some (I (wr .i64 (shr .u64 (wr .u64 (wi (a_ + b_))) 1))))) 19 (some (I (wi ((wr .i64 (shr .u64 (wr .u64 (wi (a_ + b_))) 1)) + m_))))) 20 (some (I start1))) 21 (some (I r_3))) 22 (some (I (wi ((wi ((wr .i64 (shr .u64 (wr .u64 (wi (a_ + b_))) 1)) + m_)) - 1))))), (upd (fun _ => none) 0 (lstB zdata 1 (data5.map eI))), 1⟩) (fun k s hI => ?_) ⟨start1, r_3, h, rfl⟩
  clear h
  clear r_3 start1
  obtain ⟨start1, r_3, h, rfl⟩ := hI
  cases k with
  | zero => cases h
  | succ k =>
  rw [slices_symMergeCmpFunc_int_l4] at h
  have hself : ∀ (start1 : Int) (r_3 : Int), (slices_symMergeCmpFunc_int_l4 a_ b_ m_ data5 cmpc K8_ k) start1 r_3 = some o → ∀ s, Weak 1 s ⟨(upd (upd (upd (upd (upd (upd (upd (upd (upd (upd (fun _ => none) 0 (some (lstV zdata 0 1 data5.length))) 1 (some (I a_))) 2 (some (I m_))) 3 (some (I b_))) 4 (some (.c (.fn (.func 55) [] [.rop [.ro false 6 (cmpc.map e_TSGiven)]])))) 18 (some (I (wr .i64 (shr .u64 (wr .u64 (wi (a_ + b_))) 1))))) 19 (some (I (wi ((wr .i64 (shr .u64 (wr .u64 (wi (a_ + b_))) 1)) + m_))))) 20 (some (I start1))) 21 (some (I r_3))) 22 (some (I (wi ((wi ((wr .i64 (shr .u64 (wr .u64 (wi (a_ + b_))) 1)) + m_)) - 1))))), (upd (fun _ => none) 0 (lstB zdata 1 (data5.map eI))), 1⟩ → (AThen (fun s' => ∃ s'' k', Weak 1 s' s'' ∧ k' < k + 1 ∧ (fun k s => ∃ (start1 : Int), ∃ (r_3 : Int), slices_symMergeCmpFunc_int_l4 a_ b_ m_ data5 cmpc K8_ k start1 r_3 = some o ∧ s = ⟨(upd (upd (upd (upd (upd (upd (upd (upd (upd (upd (fun _ => none) 0 (some (lstV zdata 0 1 data5.length))) 1 (some (I a_))) 2 (some (I m_))) 3 (some (I b_))) 4 (some (.c (.fn (.func 55) [] [.rop [.ro false 6 (cmpc.map e_TSGiven)]])))) 18 (some (I (wr .i64 (shr .u64 (wr .u64 (wi (a_ + b_))) 1))))) 19 (some (I (wi ((wr .i64 (shr .u64 (wr .u64 (wi (a_ + b_))) 1)) + m_))))) 20 (some (I start1))) 21 (some (I r_3))) 22 (some (I (wi ((wi ((wr .i64 (shr .u64 (wr .u64 (wi (a_ + b_))) 1)) + m_)) - 1))))), (upd (fun _ => none) 0 (lstB zdata 1 (data5.map eI))), 1⟩) k' s'') Q) .normal s := fun start1 r_3 h s hw => ⟨_, k, hw, Nat.lt_succ_self k, start1, r_3, h, rfl⟩
  refine Sv.seq ?_
  refine Sv.seq ?_
  refine Sv.region ?_
  refine un (a1 rfl ?_)
  refine un (a1 rfl ?_)
  refine un (a1 (v := (B (decide (start1 < r_3)))) rfl ?_)
  refine dnil ?_
  refine Sv.cond (b := decide (start1 < r_3)) rfl (fun hc9 => ?_) (fun hc9 => ?_)
  · replace h := ifT hc9 h
    refine Sv.skip ?_
    refine Sv.block ?_
    refine Sv.seq ?_
    refine Sv.region ?_
    refine un (a1 rfl ?_)
    refine un (a1 rfl ?_)
    refine un (a1 (v := (I (wi (start1 + r_3)))) rfl ?_)
    refine un (a1 (v := (.c (.val (.int .u64 (wr .u64 (wi (start1 + r_3))))))) rfl ?_)
    refine un (a1 (v := (.c (.val (.int .u64 (shr .u64 (wr .u64 (wi (start1 + r_3))) 1))))) rfl ?_)
    refine un (a1 (v := (I (wr .i64 (shr .u64 (wr .u64 (wi (start1 + r_3))) 1)))) rfl ?_)
    refine un (a1 rfl ?_)
    refine dnil ?_
    refine Sv.seq ?_
    refine Sv.drawn ?_
    refine un (a1 rfl ?_)
    refine un (a1 rfl ?_)
    refine un (a1 rfl ?_)
    refine un (a1 rfl ?_)
    obtain ⟨v162, hv162⟩ : ∃ v162 : Int, v162 = (wi ((wi ((wi ((wr .i64 (shr .u64 (wr .u64 (wi (a_ + b_))) 1)) + m_)) - 1)) - (wr .i64 (shr .u64 (wr .u64 (wi (start1 + r_3))) 1)))) := ⟨_, rfl⟩
    replace h := letAt hv162 h
    refine un (a1 (v := (I v162)) (by rw [hv162]; rfl) ?_)
    clear hv162
    obtain ⟨x_12, hx13, h⟩ := bnd h
    refine un (a1 (v := (.c (.ref 0 1 v162.toNat 0))) (s_iaddrL rfl rfl hzdata5 hx13) ?_)
    refine un (a1 (v := (I x_12)) (s_loadL (e := eI) rfl rfl hzdata5 hx13 rfl rfl) ?_)
    refine un (a1 rfl ?_)
    refine un (a1 rfl ?_)
    obtain ⟨x_13, hx14, h⟩ := bnd h
    refine un (a1 (v := (.c (.ref 0 1 (wr .i64 (shr .u64 (wr .u64 (wi (start1 + r_3))) 1)).toNat 0))) (s_iaddrL rfl rfl hzdata5 hx14) ?_)
    refine un (a1 (v := (I x_13)) (s_loadL (e := eI) rfl rfl hzdata5 hx14 rfl rfl) ?_)
    obtain ⟨r_4, hr3, h⟩ := bnd h
    refine un (acv_gen (bs := []) («as» := [(I x_12), (I x_13), (.c (.rop [.ro false 6 (cmpc.map e_TSGiven)]))]) (h2 := _) (h1 := (fun _ => none)) rfl (by kernel_rfl) (cascade_Order_fn1_ok hr3) rfl (.cons (avAs_free rfl) (.cons (avAs_free rfl) (.cons (avAs_free rfl) .nil))) (hsub_refl _) (.nil _) (fun _ => rfl) (by decide) (by decide) (.cons (avAs_free rfl) (.cons (avAs_free rfl) (.cons (avAs_free rfl) .nil))) .nil ?_)
    rintro _ _ _ hn ⟨rfl, rfl, rfl⟩
    refine ⟨.inl rfl, (rem [] _), fun hbd => (m3_rem (in_nil _) (.nil) hbd), (I r_4), 1, rfl, rfl, ?_⟩
    refine un (a1 (v := (B (decide (r_4 < 0)))) rfl ?_)
    refine un (a1 (v := (B (!decide (r_4 < 0)))) rfl ?_)
    refine dnil ?_
    refine Sv.cond (b := (!decide (r_4 < 0))) rfl (fun hc10 => ?_) (fun hc10 => ?_)
    · replace h := ifT hc10 h
      refine Sv.region ?_
      refine un (a1 rfl ?_)
      refine un (a1 (v := (I (wi ((wr .i64 (shr .u64 (wr .u64 (wi (start1 + r_3))) 1)) + 1)))) rfl ?_)
      refine un (a1 rfl ?_)
      refine dnil ?_
      exact hself (wi ((wr .i64 (shr .u64 (wr .u64 (wi (start1 + r_3))) 1)) + 1)) r_3 h _ (weak_canon [0] rfl (by decide) (by decide) (by decide) (.cons rfl (avAs_free rfl) (.cons rfl (avAs_free rfl) (.cons rfl (avAs_free rfl) (.cons rfl (avAs_free rfl) (.cons rfl (avAs_free rfl) (.cons rfl (.c (fn_as .nil (.cons (.same rfl) .nil))) (.cons rfl (avAs_free rfl) (.cons rfl (avAs_free rfl) (.cons rfl (avAs_free rfl) (.cons rfl (.c (lstC_ren rfl (by decide))) .nil)))))))))) (.row (by decide) rfl (fr_map fun _ => rfl) .nil))
    · replace h := ifF hc10 h
      refine Sv.region ?_
      refine un (a1 rfl ?_)
      refine un (a1 rfl ?_)
      refine dnil ?_
      exact hself start1 (wr .i64 (shr .u64 (wr .u64 (wi (start1 + r_3))) 1)) h _ (weak_canon [0] rfl (by decide) (by decide) (by decide) (.cons rfl (avAs_free rfl) (.cons rfl (avAs_free rfl) (.cons rfl (avAs_free rfl) (.cons rfl (avAs_free rfl) (.cons rfl (avAs_free rfl) (.cons rfl (.c (fn_as .nil (.cons (.same rfl) .nil))) (.cons rfl (avAs_free rfl) (.cons rfl (avAs_free rfl) (.cons rfl (avAs_free rfl) (.cons rfl (.c (lstC_ren rfl (by decide))) .nil)))))))))) (.row (by decide) rfl (fr_map fun _ => rfl) .nil))
  · replace h := ifF hc9 h
    refine Sv.exit ?_
    exact hK8 start1 h _ (weak_canon [0] rfl (by decide) (by decide) (by decide) (.cons rfl (avAs_free rfl) (.cons rfl (avAs_free rfl) (.cons rfl (avAs_free rfl) (.cons rfl (.c (fn_as .nil (.cons (.same rfl) .nil))) (.cons rfl (avAs_free rfl) (.cons rfl (avAs_free rfl) (.cons rfl (avAs_free rfl) (.cons rfl (.c (lstC_ren rfl (by decide))) .nil)))))))) (.row (by decide) rfl (fr_map fun _ => rfl) .nil))
noncomputable def slices_symMergeCmpFunc_int_j3 (a_ : Int) (b_ : Int) (v177 : Int) (recf : (List Int) → Int → Int → Int → (List TSGiven) → Option (List Int)) (cmpc : (List TSGiven)) (data7 : (List Int)) : Option (List Int) :=
  if ((decide ((wr .i64 (shr .u64 (wr .u64 (wi (a_ + b_))) 1)) < v177)) && (decide (v177 < b_))) then
    (recf data7 (wr .i64 (shr .u64 (wr .u64 (wi (a_ + b_))) 1)) v177 b_ cmpc).bind fun r_5 =>
    guardLen data7 r_5 <|
    some r_5
  else
    some data7
theorem slices_symMergeCmpFunc_int_j3_ok {Γ : Glob} {zdata : Bool} {a_ : Int} {b_ : Int} {v177 : Int} {recf : (List Int) → Int → Int → Int → (List TSGiven) → Option (List Int)} {cmpc : (List TSGiven)} {data7 : (List Int)} (hzdata7 : zdata = true → data7 = []) {o : (List Int)} (h : slices_symMergeCmpFunc_int_j3 a_ b_ v177 recf cmpc data7 = some o)
    (hrec : slices_symMergeCmpFunc_int_Rec Γ recf) :
    Sv Try.prog Γ 1 a91_c7 (Ends a91.results 1 (slices_symMergeCmpFunc_int_post zdata o)) ⟨(upd (upd (upd (upd (upd (fun _ => none) 0 (some (lstV zdata 0 1 data7.length))) 3 (some (I b_))) 4 (some (.c (.fn (.func 55) [] [.rop [.ro false 6 (cmpc.map e_TSGiven)]])))) 18 (some (I (wr .i64 (shr .u64 (wr .u64 (wi (a_ + b_))) 1))))) 24 (some (I v177))), (upd (fun _ => none) 0 (lstB zdata 1 (data7.map eI))), 1⟩ := by
  unfold slices_symMergeCmpFunc_int_j3 at h
  refine Sv.seq ?_
  refine Sv.region ?_
  refine un (a1 rfl ?_)
  refine un (a1 rfl ?_)
  refine un (a1 (v := (B (decide ((wr .i64 (shr .u64 (wr .u64 (wi (a_ + b_))) 1)) < v177)))) rfl ?_)
  refine un (a1 rfl ?_)
  refine gjoin 4 (d := 213) (v := (B ((decide ((wr .i64 (shr .u64 (wr .u64 (wi (a_ + b_))) 1)) < v177)) && (decide (v177 < b_))))) (fun X hX => ?_) ?_
  · refine split2 (fun hc11 => ?_) (fun hc11 => ?_)
    · refine gt rfl (a1 rfl ?_)
      refine gt rfl (a1 rfl ?_)
      refine gt rfl (a1 (v := (B (decide (v177 < b_)))) rfl ?_)
      refine un (a1 (v := (B (decide (v177 < b_)))) rfl ?_)
      refine dnil ?_
      exact hX _ (.putEq (by rw [hc11]; rfl) (.skip _ _ (.skip _ _ (.skip _ _ (.putEq (by rw [hc11]) (.refl _)) rfl) rfl) rfl))
    · refine gs rfl rfl ?_
      refine gs rfl rfl ?_
      refine gs rfl rfl ?_
      refine un (a1 (v := (B false)) rfl ?_)
      refine dnil ?_
      exact hX _ (.putEq (by rw [hc11]; rfl) (.skip _ _ (.skip _ _ (.skip _ _ (.putEq (by rw [hc11]) (.refl _)) rfl) rfl) rfl))
  refine dnil ?_
  refine Sv.cond (b := ((decide ((wr .i64 (shr .u64 (wr .u64 (wi (a_ + b_))) 1)) < v177)) && (decide (v177 < b_)))) rfl (fun hc12 => ?_) (fun hc12 => ?_)
  · replace h := ifT hc12 h
    refine Sv.region ?_
    refine un (a1 rfl ?_)
    refine un (a1 rfl ?_)
    refine un (a1 rfl ?_)
    refine un (a1 rfl ?_)
    refine un (a1 rfl ?_)
    obtain ⟨r_5, hr4, h⟩ := bnd h
    refine un (ac_gen (bs := [0]) («as» := [(lstV zdata 0 1 data7.length), (I (wr .i64 (shr .u64 (wr .u64 (wi (a_ + b_))) 1))), (I v177), (I b_), (.c (.fn (.func 55) [] [.rop [.ro false 6 (cmpc.map e_TSGiven)]]))]) (h2 := _) (h1 := (upd (fun _ => none) 0 (lstB zdata 1 (data7.map eI)))) (hrec data7 (wr .i64 (shr .u64 (wr .u64 (wi (a_ + b_))) 1)) v177 b_ cmpc _ hzdata7 _ hr4) rfl (.cons (.c (lstC_ren rfl (by decide))) (.cons (avAs_free rfl) (.cons (avAs_free rfl) (.cons (avAs_free rfl) (.cons (.c (fn_as .nil (.cons (.same rfl) .nil))) .nil))))) (hsub_refl _) (.cons rfl (.nil _)) (fun h => by cases h) (by decide) (by decide) (.cons (.c (lstC_ren rfl (by decide))) (.cons (avAs_free rfl) (.cons (avAs_free rfl) (.cons (avAs_free rfl) (.cons (.c (fn_as .nil (.cons (.same rfl) .nil))) .nil))))) (.row (by decide) rfl (fr_map fun _ => rfl) .nil) ?_)
    rintro _ _ _ hn ⟨rfl, rfl, rfl⟩
    refine ⟨.inl rfl, (upd (rem [0] _) 0 (lstB zdata 1 (r_5.map eI))), fun hbd => (m3_cons (m3_row rfl (fr_map fun _ => rfl)) (m3_rem (in_cons (by decide) (in_nil _)) (.cons (by decide) .nil) hbd)), (.tup []), 1, rfl, rfl, ?_⟩
    obtain ⟨hlen, h⟩ := guard_some h
    try rw [hlen]
    refine dnil ?_
    replace h := Option.some.inj h
    subst h
    exact ⟨_, .refl _, _, rfl, ⟨upd (fun _ => none) 0 (some (.tup [])), (upd (fun _ => none) 0 (lstB zdata 1 (r_5.map eI))), 1⟩, (.tup []), weak_canon2 [0] [0] (by decide) (by decide) (by decide) (.cons (by decide) .nil) (.cons rfl (avAs_tup .nil) .nil) (.row (by decide) rfl (fr_map fun _ => rfl) .nil), rfl, rfl, rfl, rfl⟩
  · replace h := ifF hc12 h
    refine Sv.skip ?_
    replace h := Option.some.inj h
    subst h
    exact ⟨_, .refl _, _, rfl, ⟨upd (fun _ => none) 0 (some (.tup [])), (upd (fun _ => none) 0 (lstB zdata 1 (data7.map eI))), 1⟩, (.tup []), weak_canon2 [0] [0] (by decide) (by decide) (by decide) (.cons (by decide) .nil) (.cons rfl (avAs_tup .nil) .nil) (.row (by decide) rfl (fr_map fun _ => rfl) .nil), rfl, rfl, rfl, rfl⟩
noncomputable def slices_symMergeCmpFunc_int_j2 (a_ : Int) (start2 : Int) (b_ : Int) (recf : (List Int) → Int → Int → Int → (List TSGiven) → Option (List Int)) (cmpc : (List TSGiven)) (v177 : Int) (data6 : (List Int)) : Option (List Int) :=
  if ((decide (a_ < start2)) && (decide (start2 < (wr .i64 (shr .u64 (wr .u64 (wi (a_ + b_))) 1))))) then
    (recf data6 a_ start2 (wr .i64 (shr .u64 (wr .u64 (wi (a_ + b_))) 1)) cmpc).bind fun r_6 =>
    guardLen data6 r_6 <|
    slices_symMergeCmpFunc_int_j3 a_ b_ v177 recf cmpc r_6
  else
    slices_symMergeCmpFunc_int_j3 a_ b_ v177 recf cmpc data6
theorem slices_symMergeCmpFunc_int_j2_ok {Γ : Glob} {zdata : Bool} {a_ : Int} {start2 : Int} {b_ : Int} {recf : (List Int) → Int → Int → Int → (List TSGiven) → Option (List Int)} {cmpc : (List TSGiven)} {v177 : Int} {data6 : (List Int)} (hzdata6 : zdata = true → data6 = []) {o : (List Int)} (h : slices_symMergeCmpFunc_int_j2 a_ start2 b_ recf cmpc v177 data6 = some o)
    (hrec : slices_symMergeCmpFunc_int_Rec Γ recf) :
    Sv Try.prog Γ 1 a91_c6 (Ends a91.results 1 (slices_symMergeCmpFunc_int_post zdata o)) ⟨(upd (upd (upd (upd (upd (upd (upd (fun _ => none) 0 (some (lstV zdata 0 1 data6.length))) 1 (some (I a_))) 3 (some (I b_))) 4 (some (.c (.fn (.func 55) [] [.rop [.ro false 6 (cmpc.map e_TSGiven)]])))) 18 (some (I (wr .i64 (shr .u64 (wr .u64 (wi (a_ + b_))) 1))))) 20 (some (I start2))) 24 (some (I v177))), (upd (fun _ => none) 0 (lstB zdata 1 (data6.map eI))), 1⟩ := by
  unfold slices_symMergeCmpFunc_int_j2 at h
  refine Sv.seq ?_
  refine Sv.seq ?_
  refine Sv.region ?_
  refine un (a1 rfl ?_)
  refine un (a1 rfl ?_)
  refine un (a1 (v := (B (decide (a_ < start2)))) rfl ?_)
  refine un (a1 rfl ?_)
  refine gjoin 4 (d := 199) (v := (B ((decide (a_ < start2)) && (decide (start2 < (wr .i64 (shr .u64 (wr .u64 (wi (a_ + b_))) 1))))))) (fun X hX => ?_) ?_
  · refine split2 (fun hc13 => ?_) (fun hc13 => ?_)
    · refine gt rfl (a1 rfl ?_)
      refine gt rfl (a1 rfl ?_)
      refine gt rfl (a1 (v := (B (decide (start2 < (wr .i64 (shr .u64 (wr .u64 (wi (a_ + b_))) 1)))))) rfl ?_)
      refine un (a1 (v := (B (decide (start2 < (wr .i64 (shr .u64 (wr .u64 (wi (a_ + b_))) 1)))))) rfl ?_)
      refine dnil ?_
      exact hX _ (.putEq (by rw [hc13]; rfl) (.skip _ _ (.skip _ _ (.skip _ _ (.putEq (by rw [hc13]) (.refl _)) rfl) rfl) rfl))
    · refine gs rfl rfl ?_
      refine gs rfl rfl ?_
      refine gs rfl rfl ?_
      refine un (a1 (v := (B false)) rfl ?_)
      refine dnil ?_
      exact hX _ (.putEq (by rw [hc13]; rfl) (.skip _ _ (.skip _ _ (.skip _ _ (.putEq (by rw [hc13]) (.refl _)) rfl) rfl) rfl))
  refine dnil ?_
  refine Sv.cond (b := ((decide (a_ < start2)) && (decide (start2 < (wr .i64 (shr .u64 (wr .u64 (wi (a_ + b_))) 1)))))) rfl (fun hc14 => ?_) (fun hc14 => ?_)
  · replace h := ifT hc14 h
    refine Sv.region ?_
    refine un (a1 rfl ?_)
    refine un (a1 rfl ?_)
    refine un (a1 rfl ?_)
    refine un (a1 rfl ?_)
    refine un (a1 rfl ?_)
    obtain ⟨r_6, hr5, h⟩ := bnd h
    refine un (ac_gen (bs := [0]) («as» := [(lstV zdata 0 1 data6.length), (I a_), (I start2), (I (wr .i64 (shr .u64 (wr .u64 (wi (a_ + b_))) 1))), (.c (.fn (.func 55) [] [.rop [.ro false 6 (cmpc.map e_TSGiven)]]))]) (h2 := _) (h1 := (upd (fun _ => none) 0 (lstB zdata 1 (data6.map eI)))) (hrec data6 a_ start2 (wr .i64 (shr .u64 (wr .u64 (wi (a_ + b_))) 1)) cmpc _ hzdata6 _ hr5) rfl (.cons (.c (lstC_ren rfl (by decide))) (.cons (avAs_free rfl) (.cons (avAs_free rfl) (.cons (avAs_free rfl) (.cons (.c (fn_as .nil (.cons (.same rfl) .nil))) .nil))))) (hsub_refl _) (.cons rfl (.nil _)) (fun h => by cases h) (by decide) (by decide) (.cons (.c (lstC_ren rfl (by decide))) (.cons (avAs_free rfl) (.cons (avAs_free rfl) (.cons (avAs_free rfl) (.cons (.c (fn_as .nil (.cons (.same rfl) .nil))) .nil))))) (.row (by decide) rfl (fr_map fun _ => rfl) .nil) ?_)
    rintro _ _ _ hn ⟨rfl, rfl, rfl⟩
    refine ⟨.inl rfl, (upd (rem [0] _) 0 (lstB zdata 1 (r_6.map eI))), fun hbd => (m3_cons (m3_row rfl (fr_map fun _ => rfl)) (m3_rem (in_cons (by decide) (in_nil _)) (.cons (by decide) .nil) hbd)), (.tup []), 1, rfl, rfl, ?_⟩
    obtain ⟨hlen1, h⟩ := guard_some h
    try rw [hlen1]
    refine dnil ?_
    exact Sv.weak (weak_canon [0] rfl (by decide) (by decide) (by decide) (.cons rfl (avAs_free rfl) (.cons rfl (avAs_free rfl) (.cons rfl (.c (fn_as .nil (.cons (.same rfl) .nil))) (.cons rfl (avAs_free rfl) (.cons rfl (.c (lstC_ren rfl (by decide))) .nil))))) (.row (by decide) rfl (fr_map fun _ => rfl) .nil)) (slices_symMergeCmpFunc_int_j3_ok (hz_len hzdata6 hlen1) h hrec)
  · replace h := ifF hc14 h
    refine Sv.skip ?_
    exact Sv.weak (weak_canon [0] rfl (by decide) (by decide) (by decide) (.cons rfl (avAs_free rfl) (.cons rfl (avAs_free rfl) (.cons rfl (.c (fn_as .nil (.cons (.same rfl) .nil))) (.cons rfl (avAs_free rfl) (.cons rfl (.c (lstC_ren rfl (by decide))) .nil))))) (.row (by decide) rfl (fr_map fun _ => rfl) .nil)) (slices_symMergeCmpFunc_int_j3_ok hzdata6 h hrec)
noncomputable def slices_symMergeCmpFunc_int_j1 (a_ : Int) (b_ : Int) (m_ : Int) (cmpc : (List TSGiven)) (recf : (List Int) → Int → Int → Int → (List TSGiven) → Option (List Int)) (data5 : (List Int)) (start : Int) (r_2 : Int) : Option (List Int) :=
  lim fun kk4 => slices_symMergeCmpFunc_int_l4 a_ b_ m_ data5 cmpc (fun (start2 : Int) => 
      letIn (wi ((wi ((wr .i64 (shr .u64 (wr .u64 (wi (a_ + b_))) 1)) + m_)) - start2)) fun v177 : Int =>
      if ((decide (start2 < m_)) && (decide (m_ < v177))) then
        (slices_rotateCmpFunc_int data5 start2 m_ v177 cmpc).bind fun r_7 =>
        guardLen data5 r_7 <|
        slices_symMergeCmpFunc_int_j2 a_ start2 b_ recf cmpc v177 r_7
      else
        slices_symMergeCmpFunc_int_j2 a_ start2 b_ recf cmpc v177 data5) kk4 start r_2
theorem slices_symMergeCmpFunc_int_j1_ok {Γ : Glob} {zdata : Bool} {a_ : Int} {b_ : Int} {m_ : Int} {cmpc : (List TSGiven)} {recf : (List Int) → Int → Int → Int → (List TSGiven) → Option (List Int)} {data5 : (List Int)} {start : Int} {r_2 : Int} (hzdata5 : zdata = true → data5 = []) {o : (List Int)} (h : slices_symMergeCmpFunc_int_j1 a_ b_ m_ cmpc recf data5 start r_2 = some o)
    (hrec : slices_symMergeCmpFunc_int_Rec Γ recf) :
    Sv Try.prog Γ 1 a91_c4 (Ends a91.results 1 (slices_symMergeCmpFunc_int_post zdata o)) ⟨(upd (upd (upd (upd (upd (upd (upd (upd (upd (fun _ => none) 0 (some (lstV zdata 0 1 data5.length))) 1 (some (I a_))) 2 (some (I m_))) 3 (some (I b_))) 4 (some (.c (.fn (.func 55) [] [.rop [.ro false 6 (cmpc.map e_TSGiven)]])))) 18 (some (I (wr .i64 (shr .u64 (wr .u64 (wi (a_ + b_))) 1))))) 19 (some (I (wi ((wr .i64 (shr .u64 (wr .u64 (wi (a_ + b_))) 1)) + m_))))) 20 (some (I start))) 21 (some (I r_2))), (upd (fun _ => none) 0 (lstB zdata 1 (data5.map eI))), 1⟩ := by
  unfold slices_symMergeCmpFunc_int_j1 at h
  refine Sv.seq ?_
  refine Sv.region ?_
  refine un (a1 rfl ?_)
  refine un (a1 (v := (I (wi ((wi ((wr .i64 (shr .u64 (wr .u64 (wi (a_ + b_))) 1)) + m_)) - 1)))) rfl ?_)
  refine un (a1 rfl ?_)
  refine dnil ?_
  refine Sv.seq ?_
  refine Sv.block ?_
  obtain ⟨kk4, h⟩ := lim_some h
  refine Sv.weak (weak_canon [0] rfl (by decide) (by decide) (by decide) (.cons rfl (avAs_free rfl) (.cons rfl (avAs_free rfl) (.cons rfl (avAs_free rfl) (.cons rfl (avAs_free rfl) (.cons rfl (avAs_free rfl) (.cons rfl (.c (fn_as .nil (.cons (.same rfl) .nil))) (.cons rfl (avAs_free rfl) (.cons rfl (avAs_free rfl) (.cons rfl (avAs_free rfl) (.cons rfl (.c (lstC_ren rfl (by decide))) .nil)))))))))) (.row (by decide) rfl (fr_map fun _ => rfl) .nil)) (slices_symMergeCmpFunc_int_l4_ok hzdata5 h ?_ (fun s hs => hs))
  · intro start2 h _ hw5
    refine Sv.weak hw5 ?_
    refine Sv.seq ?_
    refine Sv.region ?_
    refine un (a1 rfl ?_)
    refine un (a1 rfl ?_)
    obtain ⟨v177, hv177⟩ : ∃ v177 : Int, v177 = (wi ((wi ((wr .i64 (shr .u64 (wr .u64 (wi (a_ + b_))) 1)) + m_)) - start2)) := ⟨_, rfl⟩
    replace h := letAt hv177 h
    refine un (a1 (v := (I v177)) (by rw [hv177]; rfl) ?_)
    clear hv177
    refine un (a1 rfl ?_)
    refine dnil ?_
    refine Sv.seq ?_
    refine Sv.seq ?_
    refine Sv.region ?_
    refine un (a1 rfl ?_)
    refine un (a1 rfl ?_)
    refine un (a1 (v := (B (decide (start2 < m_)))) rfl ?_)
    refine un (a1 rfl ?_)
    refine gjoin 4 (d := 185) (v := (B ((decide (start2 < m_)) && (decide (m_ < v177))))) (fun X hX => ?_) ?_
    · refine split2 (fun hc15 => ?_) (fun hc15 => ?_)
      · refine gt rfl (a1 rfl ?_)
        refine gt rfl (a1 rfl ?_)
        refine gt rfl (a1 (v := (B (decide (m_ < v177)))) rfl ?_)
        refine un (a1 (v := (B (decide (m_ < v177)))) rfl ?_)
        refine dnil ?_
        exact hX _ (.putEq (by rw [hc15]; rfl) (.skip _ _ (.skip _ _ (.skip _ _ (.putEq (by rw [hc15]) (.refl _)) rfl) rfl) rfl))
      · refine gs rfl rfl ?_
        refine gs rfl rfl ?_
        refine gs rfl rfl ?_
        refine un (a1 (v := (B false)) rfl ?_)
        refine dnil ?_
        exact hX _ (.putEq (by rw [hc15]; rfl) (.skip _ _ (.skip _ _ (.skip _ _ (.putEq (by rw [hc15]) (.refl _)) rfl) rfl) rfl))
    refine dnil ?_
    refine Sv.cond (b := ((decide (start2 < m_)) && (decide (m_ < v177)))) rfl (fun hc16 => ?_) (fun hc16 => ?_)
    · replace h := ifT hc16 h
      refine Sv.region ?_
      refine un (a1 rfl ?_)
      refine un (a1 rfl ?_)
      refine un (a1 rfl ?_)
      refine un (a1 rfl ?_)
      refine un (a1 rfl ?_)
      obtain ⟨r_7, hr6, h⟩ := bnd h
      refine un (ac_gen (bs := [0]) («as» := [(lstV zdata 0 1 data5.length), (I start2), (I m_), (I v177), (.c (.fn (.func 55) [] [.rop [.ro false 6 (cmpc.map e_TSGiven)]]))]) (h2 := _) (h1 := (upd (fun _ => none) 0 (lstB zdata 1 (data5.map eI)))) (slices_rotateCmpFunc_int_ok hzdata5 hr6) rfl (.cons (.c (lstC_ren rfl (by decide))) (.cons (avAs_free rfl) (.cons (avAs_free rfl) (.cons (avAs_free rfl) (.cons (.c (fn_as .nil (.cons (.same rfl) .nil))) .nil))))) (hsub_refl _) (.cons rfl (.nil _)) (fun h => by cases h) (by decide) (by decide) (.cons (.c (lstC_ren rfl (by decide))) (.cons (avAs_free rfl) (.cons (avAs_free rfl) (.cons (avAs_free rfl) (.cons (.c (fn_as .nil (.cons (.same rfl) .nil))) .nil))))) (.row (by decide) rfl (fr_map fun _ => rfl) .nil) ?_)
      rintro _ _ _ hn ⟨rfl, rfl, rfl⟩
      refine ⟨.inl rfl, (upd (rem [0] _) 0 (lstB zdata 1 (r_7.map eI))), fun hbd => (m3_cons (m3_row rfl (fr_map fun _ => rfl)) (m3_rem (in_cons (by decide) (in_nil _)) (.cons (by decide) .nil) hbd)), (.tup []), 1, rfl, rfl, ?_⟩
      obtain ⟨hlen2, h⟩ := guard_some h
      try rw [hlen2]
      refine dnil ?_
      exact Sv.weak (weak_canon [0] rfl (by decide) (by decide) (by decide) (.cons rfl (avAs_free rfl) (.cons rfl (avAs_free rfl) (.cons rfl (avAs_free rfl) (.cons rfl (.c (fn_as .nil (.cons (.same rfl) .nil))) (.cons rfl (avAs_free rfl) (.cons rfl (avAs_free rfl) (.cons rfl (.c (lstC_ren rfl (by decide))) .nil))))))) (.row (by decide) rfl (fr_map fun _ => rfl) .nil)) (slices_symMergeCmpFunc_int_j2_ok (hz_len hzdata5 hlen2) h hrec)
    · replace h := ifF hc16 h
      refine Sv.skip ?_
      exact Sv.weak (weak_canon [0] rfl (by decide) (by decide) (by decide) (.cons rfl (avAs_free rfl) (.cons rfl (avAs_free rfl) (.cons rfl (avAs_free rfl) (.cons rfl (.c (fn_as .nil (.cons (.same rfl) .nil))) (.cons rfl (avAs_free rfl) (.cons rfl (avAs_free rfl) (.cons rfl (.c (lstC_ren rfl (by decide))) .nil))))))) (.row (by decide) rfl (fr_map fun _ => rfl) .nil)) (slices_symMergeCmpFunc_int_j2_ok hzdata5 h hrec)
/-- slices.symMergeCmpFunc(int) -/
noncomputable def slices_symMergeCmpFunc_int_r : Nat → (List Int) → Int → Int → Int → (List TSGiven) → Option (List Int)
  | 0, _, _, _, _, _ => none
  | k + 1, data, a_, m_, b_, cmpc =>
    if decide ((wi (m_ - a_)) = 1) then
      lim fun kk1 => slices_symMergeCmpFunc_int_l0 data a_ cmpc (fun (i_1 : Int) => 
          lim fun kk => slices_symMergeCmpFunc_int_l1 i_1 (fun (data2 : (List Int)) => 
              some data2) kk data a_) kk1 m_ b_
    else
      if decide ((wi (b_ - m_)) = 1) then
        lim fun kk3 => slices_symMergeCmpFunc_int_l2 data m_ cmpc (fun (i_3 : Int) => 
            lim fun kk2 => slices_symMergeCmpFunc_int_l3 i_3 (fun (data4 : (List Int)) => 
                some data4) kk2 data m_) kk3 a_ m_
      else
        if decide ((wr .i64 (shr .u64 (wr .u64 (wi (a_ + b_))) 1)) < m_) then
          slices_symMergeCmpFunc_int_j1 a_ b_ m_ cmpc (slices_symMergeCmpFunc_int_r k) data (wi ((wi ((wr .i64 (shr .u64 (wr .u64 (wi (a_ + b_))) 1)) + m_)) - b_)) (wr .i64 (shr .u64 (wr .u64 (wi (a_ + b_))) 1))
        else
          slices_symMergeCmpFunc_int_j1 a_ b_ m_ cmpc (slices_symMergeCmpFunc_int_r k) data a_ m_
noncomputable def slices_symMergeCmpFunc_int (data : (List Int)) (a_ : Int) (m_ : Int) (b_ : Int) (cmpc : (List TSGiven)) : Option (List Int) :=
  lim fun kr => slices_symMergeCmpFunc_int_r kr data a_ m_ b_ cmpc
theorem slices_symMergeCmpFunc_int_r_ok {Γ : Glob} (k : Nat) : slices_symMergeCmpFunc_int_Rec Γ (slices_symMergeCmpFunc_int_r k) := by
  induction k with
  | zero => intro data a_ m_ b_ cmpc zdata hzdata r h; cases h
  | succ k hrec =>
  intro data a_ m_ b_ cmpc zdata hzdata r h
  refine acalls_of_sv hmix c91 (R := slices_symMergeCmpFunc_int_post zdata r) ?_
  rw [slices_symMergeCmpFunc_int_r] at h
  refine Sv.seq ?_
  refine Sv.seq ?_
  refine Sv.region ?_
  refine un (a1 rfl ?_)
  refine un (a1 rfl ?_)
  refine un (a1 (v := (I (wi (m_ - a_)))) rfl ?_)
  refine un (a1 (v := (B (decide ((wi (m_ - a_)) = 1)))) rfl ?_)
  refine dnil ?_
  refine Sv.cond (b := decide ((wi (m_ - a_)) = 1)) rfl (fun hc1 => ?_) (fun hc1 => ?_)
  · replace h := ifT hc1 h
    refine Sv.seq ?_
    refine Sv.region ?_
    refine un (a1 rfl ?_)
    refine un (a1 rfl ?_)
    refine dnil ?_
    refine Sv.seq ?_
    refine Sv.region ?_
    refine un (a1 rfl ?_)
    refine un (a1 rfl ?_)
    refine dnil ?_
    refine Sv.seq ?_
    refine Sv.block ?_
    obtain ⟨kk1, h⟩ := lim_some h
    refine Sv.weak (weak_canon [0] rfl (by decide) (by decide) (by decide) (.cons rfl (avAs_free rfl) (.cons rfl (avAs_free rfl) (.cons rfl (.c (fn_as .nil (.cons (.same rfl) .nil))) (.cons rfl (avAs_free rfl) (.cons rfl (.c (lstC_ren rfl (by decide))) .nil))))) (.row (by decide) rfl (fr_map fun _ => rfl) .nil)) (slices_symMergeCmpFunc_int_l0_ok hzdata h ?_ (fun s hs => hs))
    · intro i_1 h _ hw1
      refine Sv.weak hw1 ?_
      refine Sv.seq ?_
      refine Sv.seq ?_
      refine Sv.region ?_
      refine un (a1 rfl ?_)
      refine un (a1 rfl ?_)
      refine dnil ?_
      refine Sv.block ?_
      obtain ⟨kk, h⟩ := lim_some h
      refine Sv.weak (weak_canon [0] rfl (by decide) (by decide) (by decide) (.cons rfl (avAs_free rfl) (.cons rfl (avAs_free rfl) (.cons rfl (.c (lstC_ren rfl (by decide))) .nil))) (.row (by decide) rfl (fr_map fun _ => rfl) .nil)) (slices_symMergeCmpFunc_int_l1_ok hzdata h ?_ (fun s hs => hs))
      · intro data2 hzdata2 h _ hw2
        refine Sv.weak hw2 ?_
        refine Sv.ret ?_
        replace h := Option.some.inj h
        subst h
        exact ⟨_, .refl _, _, rfl, ⟨upd (fun _ => none) 0 (some (.tup [])), (upd (fun _ => none) 0 (lstB zdata 1 (data2.map eI))), 1⟩, (.tup []), weak_canon2 [0] [0] (by decide) (by decide) (by decide) (.cons (by decide) .nil) (.cons rfl (avAs_tup .nil) .nil) (.row (by decide) rfl (fr_map fun _ => rfl) .nil), rfl, rfl, rfl, rfl⟩
  · replace h := ifF hc1 h
    refine Sv.skip ?_
    refine Sv.seq ?_
    refine Sv.seq ?_
    refine Sv.region ?_
    refine un (a1 rfl ?_)
    refine un (a1 rfl ?_)
    refine un (a1 (v := (I (wi (b_ - m_)))) rfl ?_)
    refine un (a1 (v := (B (decide ((wi (b_ - m_)) = 1)))) rfl ?_)
    refine dnil ?_
    refine Sv.cond (b := decide ((wi (b_ - m_)) = 1)) rfl (fun hc5 => ?_) (fun hc5 => ?_)
    · replace h := ifT hc5 h
      refine Sv.seq ?_
      refine Sv.region ?_
      refine un (a1 rfl ?_)
      refine un (a1 rfl ?_)
      refine dnil ?_
      refine Sv.seq ?_
      refine Sv.region ?_
      refine un (a1 rfl ?_)
      refine un (a1 rfl ?_)
      refine dnil ?_
      refine Sv.seq ?_
      refine Sv.block ?_
      obtain ⟨kk3, h⟩ := lim_some h
      refine Sv.weak (weak_canon [0] rfl (by decide) (by decide) (by decide) (.cons rfl (avAs_free rfl) (.cons rfl (avAs_free rfl) (.cons rfl (.c (fn_as .nil (.cons (.same rfl) .nil))) (.cons rfl (avAs_free rfl) (.cons rfl (.c (lstC_ren rfl (by decide))) .nil))))) (.row (by decide) rfl (fr_map fun _ => rfl) .nil)) (slices_symMergeCmpFunc_int_l2_ok hzdata h ?_ (fun s hs => hs))
      · intro i_3 h _ hw3
        refine Sv.weak hw3 ?_
        refine Sv.seq ?_
        refine Sv.seq ?_
        refine Sv.region ?_
        refine un (a1 rfl ?_)
        refine un (a1 rfl ?_)
        refine dnil ?_
        refine Sv.block ?_
        obtain ⟨kk2, h⟩ := lim_some h
        refine Sv.weak (weak_canon [0] rfl (by decide) (by decide) (by decide) (.cons rfl (avAs_free rfl) (.cons rfl (avAs_free rfl) (.cons rfl (.c (lstC_ren rfl (by decide))) .nil))) (.row (by decide) rfl (fr_map fun _ => rfl) .nil)) (slices_symMergeCmpFunc_int_l3_ok hzdata h ?_ (fun s hs => hs))
        · intro data4 hzdata4 h _ hw4
          refine Sv.weak hw4 ?_
          refine Sv.ret ?_
          replace h := Option.some.inj h
          subst h
          exact ⟨_, .refl _, _, rfl, ⟨upd (fun _ => none) 0 (some (.tup [])), (upd (fun _ => none) 0 (lstB zdata 1 (data4.map eI))), 1⟩, (.tup []), weak_canon2 [0] [0] (by decide) (by decide) (by decide) (.cons (by decide) .nil) (.cons rfl (avAs_tup .nil) .nil) (.row (by decide) rfl (fr_map fun _ => rfl) .nil), rfl, rfl, rfl, rfl⟩
    · replace h := ifF hc5 h
      refine Sv.skip ?_
      refine Sv.seq ?_
      refine Sv.region ?_
      refine un (a1 rfl ?_)
      refine un (a1 rfl ?_)
      refine un (a1 (v := (I (wi (a_ + b_)))) rfl ?_)
      refine un (a1 (v := (.c (.val (.int .u64 (wr .u64 (wi (a_ + b_))))))) rfl ?_)
      refine un (a1 (v := (.c (.val (.int .u64 (shr .u64 (wr .u64 (wi (a_ + b_))) 1))))) rfl ?_)
      refine un (a1 (v := (I (wr .i64 (shr .u64 (wr .u64 (wi (a_ + b_))) 1)))) rfl ?_)
      refine un (a1 rfl ?_)
      refine dnil ?_
      refine Sv.seq ?_
      refine Sv.region ?_
      refine un (a1 rfl ?_)
      refine un (a1 rfl ?_)
      refine un (a1 (v := (I (wi ((wr .i64 (shr .u64 (wr .u64 (wi (a_ + b_))) 1)) + m_)))) rfl ?_)
      refine un (a1 rfl ?_)
      refine dnil ?_
      refine Sv.seq ?_
      refine Sv.region ?_
      refine un (a1 rfl ?_)
      refine un (a1 rfl ?_)
      refine dnil ?_
      refine Sv.seq ?_
      refine Sv.seq ?_
      refine Sv.region ?_
      refine un (a1 rfl ?_)
      refine un (a1 rfl ?_)
      refine un (a1 (v := (B (decide ((wr .i64 (shr .u64 (wr .u64 (wi (a_ + b_))) 1)) < m_)))) rfl ?_)
      refine dnil ?_
      refine Sv.cond (b := decide ((wr .i64 (shr .u64 (wr .u64 (wi (a_ + b_))) 1)) < m_)) rfl (fun hc17 => ?_) (fun hc17 => ?_)
      · replace h := ifT hc17 h
        refine Sv.seq ?_
        refine Sv.region ?_
        refine un (a1 rfl ?_)
        refine un (a1 rfl ?_)
        refine un (a1 (v := (I (wi ((wi ((wr .i64 (shr .u64 (wr .u64 (wi (a_ + b_))) 1)) + m_)) - b_)))) rfl ?_)
        refine un (a1 rfl ?_)
        refine dnil ?_
        refine Sv.region ?_
        refine un (a1 rfl ?_)
        refine un (a1 rfl ?_)
        refine dnil ?_
        exact Sv.weak (weak_canon [0] rfl (by decide) (by decide) (by decide) (.cons rfl (avAs_free rfl) (.cons rfl (avAs_free rfl) (.cons rfl (avAs_free rfl) (.cons rfl (avAs_free rfl) (.cons rfl (.c (fn_as .nil (.cons (.same rfl) .nil))) (.cons rfl (avAs_free rfl) (.cons rfl (avAs_free rfl) (.cons rfl (avAs_free rfl) (.cons rfl (.c (lstC_ren rfl (by decide))) .nil))))))))) (.row (by decide) rfl (fr_map fun _ => rfl) .nil)) (slices_symMergeCmpFunc_int_j1_ok hzdata h hrec)
      · replace h := ifF hc17 h
        refine Sv.seq ?_
        refine Sv.region ?_
        refine un (a1 rfl ?_)
        refine un (a1 rfl ?_)
        refine dnil ?_
        refine Sv.region ?_
        refine un (a1 rfl ?_)
        refine un (a1 rfl ?_)
        refine dnil ?_
        exact Sv.weak (weak_canon [0] rfl (by decide) (by decide) (by decide) (.cons rfl (avAs_free rfl) (.cons rfl (avAs_free rfl) (.cons rfl (avAs_free rfl) (.cons rfl (avAs_free rfl) (.cons rfl (.c (fn_as .nil (.cons (.same rfl) .nil))) (.cons rfl (avAs_free rfl) (.cons rfl (avAs_free rfl) (.cons rfl (avAs_free rfl) (.cons rfl (.c (lstC_ren rfl (by decide))) .nil))))))))) (.row (by decide) rfl (fr_map fun _ => rfl) .nil)) (slices_symMergeCmpFunc_int_j1_ok hzdata h hrec)
theorem slices_symMergeCmpFunc_int_ok {Γ : Glob} {data : (List Int)} {a_ : Int} {m_ : Int} {b_ : Int} {cmpc : (List TSGiven)} {zdata : Bool} (hzdata : zdata = true → data = []) {r : (List Int)} (h : slices_symMergeCmpFunc_int data a_ m_ b_ cmpc = some r) : ACalls Try.prog Γ 91 [(lstV zdata 0 1 data.length), (I a_), (I m_), (I b_), (.c (.fn (.func 55) [] [.rop [.ro false 6 (cmpc.map e_TSGiven)]]))] (upd (fun _ => none) 0 (lstB zdata 1 (data.map eI))) 1 (slices_symMergeCmpFunc_int_post zdata r) := by
  unfold slices_symMergeCmpFunc_int at h
  obtain ⟨k, h⟩ := lim_some h
  exact slices_symMergeCmpFunc_int_r_ok k data a_ m_ b_ cmpc zdata hzdata r h
def a77_c0 : ACode := (.seq (.seq (.region [⟨(some 11), (.mov (.tmp 8)), none⟩, ⟨(some 12), (.mov (.tmp 1)), none⟩, ⟨(some 13), (.bin .leq (.tmp 11) (.tmp 12)), none⟩])
 (.cond (.tmp 13) .skip (.exit 0)))
 (.block 1 (.seq (.region [⟨(some 14), (.mov (.tmp 0)), none⟩, ⟨(some 15), (.mov (.tmp 7)), none⟩, ⟨(some 16), (.mov (.tmp 8)), none⟩, ⟨(some 17), (.mov (.tmp 2)), none⟩, ⟨(some 18), (.call 90 [(.tmp 14), (.tmp 15), (.tmp 16), (.tmp 17)]), none⟩])
 (.seq (.region [⟨(some 19), (.mov (.tmp 8)), none⟩, ⟨(some 7), (.mov (.tmp 19)), none⟩])
 (.region [⟨(some 20), (.mov (.tmp 8)), none⟩, ⟨(some 21), (.mov (.tmp 6)), none⟩, ⟨(some 22), (.bin .add (.tmp 20) (.tmp 21)), none⟩, ⟨(some 8), (.mov (.tmp 22)), none⟩])))))
def a77_c1 : ACode := (.seq (.seq (.region [⟨(some 33), (.mov (.tmp 8)), none⟩, ⟨(some 34), (.mov (.tmp 1)), none⟩, ⟨(some 35), (.bin .leq (.tmp 33) (.tmp 34)), none⟩])
 (.cond (.tmp 35) .skip (.exit 4)))
 (.block 5 (.seq (.region [⟨(some 36), (.mov (.tmp 0)), none⟩, ⟨(some 37), (.mov (.tmp 7)), none⟩, ⟨(some 38), (.mov (.tmp 7)), none⟩, ⟨(some 39), (.mov (.tmp 6)), none⟩, ⟨(some 40), (.bin .add (.tmp 38) (.tmp 39)), none⟩, ⟨(some 41), (.mov (.tmp 8)), none⟩, ⟨(some 42), (.mov (.tmp 2)), none⟩, ⟨(some 43), (.call 91 [(.tmp 36), (.tmp 37), (.tmp 40), (.tmp 41), (.tmp 42)]), none⟩])
 (.seq (.region [⟨(some 44), (.mov (.tmp 8)), none⟩, ⟨(some 7), (.mov (.tmp 44)), none⟩])
 (.region [⟨(some 45), (.mov (.tmp 8)), none⟩, ⟨(some 46), (.mov (.tmp 6)), none⟩, ⟨(some 47), (.bin .mul (.const (.c (.val (.int .i64 2)))) (.tmp 46)), none⟩, ⟨(some 48), (.bin .add (.tmp 45) (.tmp 47)), none⟩, ⟨(some 8), (.mov (.tmp 48)), none⟩])))))
def a77_c2 : ACode := (.region [⟨(some 61), (.mov (.tmp 6)), none⟩, ⟨(some 62), (.bin .mul (.tmp 61) (.const (.c (.val (.int .i64 2))))), none⟩, ⟨(some 6), (.mov (.tmp 62)), none⟩])
def a77_c3 : ACode := (.seq (.seq (.region [⟨(some 28), (.mov (.tmp 6)), none⟩, ⟨(some 29), (.mov (.tmp 1)), none⟩, ⟨(some 30), (.bin .lss (.tmp 28) (.tmp 29)), none⟩])
 (.cond (.tmp 30) .skip (.exit 2)))
 (.block 3 (.seq (.region [⟨(some 31), (.mov (.tmp 6)), none⟩, ⟨(some 32), (.bin .mul (.const (.c (.val (.int .i64 2)))) (.tmp 31)), none⟩, ⟨(some 7), (.mov (.const (.c (.val (.int .i64 0))))), none⟩, ⟨(some 8), (.mov (.tmp 32)), none⟩])
 (.seq (.block 4 (.loop a77_c1))
 (.seq (.seq (.region [⟨(some 49), (.mov (.tmp 7)), none⟩, ⟨(some 50), (.mov (.tmp 6)), none⟩, ⟨(some 51), (.bin .add (.tmp 49) (.tmp 50)), none⟩, ⟨(some 9), (.mov (.tmp 51)), none⟩])
 (.seq (.region [⟨(some 52), (.mov (.tmp 9)), none⟩, ⟨(some 53), (.mov (.tmp 1)), none⟩, ⟨(some 54), (.bin .lss (.tmp 52) (.tmp 53)), none⟩])
 (.cond (.tmp 54) (.region [⟨(some 55), (.mov (.tmp 0)), none⟩, ⟨(some 56), (.mov (.tmp 7)), none⟩, ⟨(some 57), (.mov (.tmp 9)), none⟩, ⟨(some 58), (.mov (.tmp 1)), none⟩, ⟨(some 59), (.mov (.tmp 2)), none⟩, ⟨(some 60), (.call 91 [(.tmp 55), (.tmp 56), (.tmp 57), (.tmp 58), (.tmp 59)]), none⟩]) .skip)))
 a77_c2)))))
def a77 : AFunc := ⟨3, [], (.seq (.region [⟨(some 6), (.mov (.const (.c (.val (.int .i64 20))))), none⟩])
 (.seq (.region [⟨(some 10), (.mov (.tmp 6)), none⟩, ⟨(some 7), (.mov (.const (.c (.val (.int .i64 0))))), none⟩, ⟨(some 8), (.mov (.tmp 10)), none⟩])
 (.seq (.block 0 (.loop a77_c0))
 (.seq (.region [⟨(some 23), (.mov (.tmp 0)), none⟩, ⟨(some 24), (.mov (.tmp 7)), none⟩, ⟨(some 25), (.mov (.tmp 1)), none⟩, ⟨(some 26), (.mov (.tmp 2)), none⟩, ⟨(some 27), (.call 90 [(.tmp 23), (.tmp 24), (.tmp 25), (.tmp 26)]), none⟩])
 (.block 2 (.loop a77_c3))))))⟩
set_option maxRecDepth 100000 in
theorem c77 : compFunc Try.prog 77 = some a77 := by kernel_rfl
def slices_stableCmpFunc_int_post (zdata : Bool) (r : (List Int)) : AV → Heap → Nat → Prop := fun v h' n' => v = (.tup []) ∧ (h' = (upd (fun _ => none) 0 (lstB zdata 1 (r.map eI)))) ∧ n' = 1
noncomputable def slices_stableCmpFunc_int_l0 (n_ : Int) (cmpc : (List TSGiven)) (K0_ : (List Int) → Int → Option (List Int)) : Nat → (List Int) → Int → Int → Option (List Int)
  | 0, _, _, _ => none
  | k + 1, data1, a_, b_ =>
    if decide (b_ ≤ n_) then
      (slices_insertionSortCmpFunc_int data1 a_ b_ cmpc).bind fun r_ =>
      guardLen data1 r_ <|
      (slices_stableCmpFunc_int_l0 n_ cmpc K0_ k) r_ b_ (wi (b_ + 20))
    else
      K0_ data1 a_
theorem slices_stableCmpFunc_int_l0_ok {Γ : Glob} {Q : AExit → St → Prop} {zdata : Bool} {n_ : Int} {cmpc : (List TSGiven)} {K0_ : (List Int) → Int → Option (List Int)} {k : Nat} {data1 : (List Int)} {a_ : Int} {b_ : Int} (hzdata1 : zdata = true → data1 = []) {o : (List Int)} (h : slices_stableCmpFunc_int_l0 n_ cmpc K0_ k data1 a_ b_ = some o)
    (hK0 : ∀ (data2 : (List Int)) (a_1 : Int) (_ : zdata = true → data2 = []), K0_ data2 a_1 = some o → ∀ s, Weak 1 s ⟨(upd (upd (upd (upd (upd (fun _ => none) 0 (some (lstV zdata 0 1 data2.length))) 1 (some (I n_))) 2 (some (.c (.fn (.func 55) [] [.rop [.ro false 6 (cmpc.map e_TSGiven)]])))) 6 (some (I 20))) 7 (some (I a_1))), (upd (fun _ => none) 0 (lstB zdata 1 (data2.map eI))), 1⟩ → Q (.exit 0) s)
    (hr : ∀ s, Ends a77.results 1 (slices_stableCmpFunc_int_post zdata o) .ret s → Q .ret s) :
    Sv Try.prog Γ 1 (.loop a77_c0) Q ⟨(upd (upd (upd (upd (upd (upd (fun _ => none) 0 (some (lstV zdata 0 1 data1.length))) 1 (some (I n_))) 2 (some (.c (.fn (.func 55) [] [.rop [.ro false 6 (cmpc.map e_TSGiven)]])))) 6 (some (I 20))) 7 (some (I a_))) 8 (some (I b_))), (upd (fun _ => none) 0 (lstB zdata 1 (data1.map eI))), 1⟩ := by
  refine Sv.loop (I := fun k s => ∃ (data1 : (List Int)), ∃ (a_ : Int), ∃ (b_ : Int), (zdata = true → data1 = []) ∧ slices_stableCmpFunc_int_l0 n_ cmpc K0_ k data1 a_ b_ = some o ∧ s = ⟨(upd (upd (upd (upd (upd (upd (fun _ => none) 0 (some (lstV zdata 0 1 data1.length))) 1 (some (I n_))) 2 (some (.c (.fn (.func 55) [] [.rop [.ro false 6 (cmpc.map e_TSGiven)]])))) 6 (some (I 20))) 7 (some (I a_))) 8 (some (I b_))), (upd (fun _ => none) 0 (lstB zdata 1 (data1.map eI))), 1⟩) (fun k s hI => ?_) ⟨data1, a_, b_, hzdata1, h, rfl⟩
  clear h
  clear hzdata1 b_ a_ data1
  obtain ⟨data1, a_, b_, hzdata1, h, rfl⟩ := hI
  cases k with
  | zero => cases h
  | succ k =>
  rw [slices_stableCmpFunc_int_l0] at h
  have hself : ∀ (data1 : (List Int)) (a_ : Int) (b_ : Int) (_ : zdata = true → data1 = []), (slices_stableCmpFunc_int_l0 n_ cmpc K0_ k) data1 a_ b_ = some o → ∀ s, Weak 1 s ⟨(upd (upd (upd (upd (upd (upd (fun _ => none) 0 (some (lstV zdata 0 1 data1.length))) 1 (some (I n_))) 2 (some (.c (.fn (.func 55) [] [.rop [.ro false 6 (cmpc.map e_TSGiven)]])))) 6 (some (I 20))) 7 (some (I a_))) 8 (some (I b_))), (upd (fun _ => none) 0 (lstB zdata 1 (data1.map eI))), 1⟩ → (AThen (fun s' => ∃ s'' k', Weak 1 s' s'' ∧ k' < k + 1 ∧ (fun k s => ∃ (data1 : (List Int)), ∃ (a_ : Int), ∃ (b_ : Int), (zdata = true → data1 = []) ∧ slices_stableCmpFunc_int_l0 n_ cmpc K0_ k data1 a_ b_ = some o ∧ s = ⟨(upd (upd (upd (upd (upd (upd (fun _ => none) 0 (some (lstV zdata 0 1 data1.length))) 1 (some (I n_))) 2 (some (.c (.fn (.func 55) [] [.rop [.ro false 6 (cmpc.map e_TSGiven)]])))) 6 (some (I 20))) 7 (some (I a_))) 8 (some (I b_))), (upd (fun _ => none) 0 (lstB zdata 1 (data1.map eI))), 1⟩) k' s'') Q) .normal s := fun data1 a_ b_ hzdata1 h s hw => ⟨_, k, hw, Nat.lt_succ_self k, data1, a_, b_, hzdata1, h, rfl⟩
  refine Sv.seq ?_
  refine Sv.seq ?_
  refine Sv.region ?_
  refine un (a1 rfl ?_)
  refine un (a1 rfl ?_)
  refine un (a1 (v := (B (decide (b_ ≤ n_)))) rfl ?_)
  refine dnil ?_
  refine Sv.cond (b := decide (b_ ≤ n_)) rfl (fun hc1 => ?_) (fun hc1 => ?_)
  · replace h := ifT hc1 h
    refine Sv.skip ?_
    refine Sv.block ?_
    refine Sv.seq ?_
    refine Sv.region ?_
    refine un (a1 rfl ?_)
    refine un (a1 rfl ?_)
    refine un (a1 rfl ?_)
    refine un (a1 rfl ?_)
    obtain ⟨r_, hr1, h⟩ := bnd h
    refine un (ac_gen (bs := [0]) («as» := [(lstV zdata 0 1 data1.length), (I a_), (I b_), (.c (.fn (.func 55) [] [.rop [.ro false 6 (cmpc.map e_TSGiven)]]))]) (h2 := _) (h1 := (upd (fun _ => none) 0 (lstB zdata 1 (data1.map eI)))) (slices_insertionSortCmpFunc_int_ok hzdata1 hr1) rfl (.cons (.c (lstC_ren rfl (by decide))) (.cons (avAs_free rfl) (.cons (avAs_free rfl) (.cons (.c (fn_as .nil (.cons (.same rfl) .nil))) .nil)))) (hsub_refl _) (.cons rfl (.nil _)) (fun h => by cases h) (by decide) (by decide) (.cons (.c (lstC_ren rfl (by decide))) (.cons (avAs_free rfl) (.cons (avAs_free rfl) (.cons (.c (fn_as .nil (.cons (.same rfl) .nil))) .nil)))) (.row (by decide) rfl (fr_map fun _ => rfl) .nil) ?_)
    rintro _ _ _ hn ⟨rfl, rfl, rfl⟩
    refine ⟨.inl rfl, (upd (rem [0] _) 0 (lstB zdata 1 (r_.map eI))), fun hbd => (m3_cons (m3_row rfl (fr_map fun _ => rfl)) (m3_rem (in_cons (by decide) (in_nil _)) (.cons (by decide) .nil) hbd)), (.tup []), 1, rfl, rfl, ?_⟩
    obtain ⟨hlen, h⟩ := guard_some h
    try rw [hlen]
    refine dnil ?_
    refine Sv.seq ?_
    refine Sv.region ?_
    refine un (a1 rfl ?_)
    refine un (a1 rfl ?_)
    refine dnil ?_
    refine Sv.region ?_
    refine un (a1 rfl ?_)
    refine un (a1 rfl ?_)
    refine un (a1 (v := (I (wi (b_ + 20)))) rfl ?_)
    refine un (a1 rfl ?_)
    refine dnil ?_
    exact hself r_ b_ (wi (b_ + 20)) (hz_len hzdata1 hlen) h _ (weak_canon [0] rfl (by decide) (by decide) (by decide) (.cons rfl (avAs_free rfl) (.cons rfl (avAs_free rfl) (.cons rfl (avAs_free rfl) (.cons rfl (.c (fn_as .nil (.cons (.same rfl) .nil))) (.cons rfl (avAs_free rfl) (.cons rfl (.c (lstC_ren rfl (by decide))) .nil)))))) (.row (by decide) rfl (fr_map fun _ => rfl) .nil))
  · replace h := ifF hc1 h
    refine Sv.exit ?_
    exact hK0 data1 a_ hzdata1 h _ (weak_canon [0] rfl (by decide) (by decide) (by decide) (.cons rfl (avAs_free rfl) (.cons rfl (avAs_free rfl) (.cons rfl (.c (fn_as .nil (.cons (.same rfl) .nil))) (.cons rfl (avAs_free rfl) (.cons rfl (.c (lstC_ren rfl (by decide))) .nil))))) (.row (by decide) rfl (fr_map fun _ => rfl) .nil))
noncomputable def slices_stableCmpFunc_int_l4 (n_ : Int) (blockSize : Int) (cmpc : (List TSGiven)) (K4_ : (List Int) → Int → Option (List Int)) : Nat → (List Int) → Int → Int → Option (List Int)
  | 0, _, _, _ => none
  | k + 1, data5, a_2, b_1 =>
    if decide (b_1 ≤ n_) then
      (slices_symMergeCmpFunc_int data5 a_2 (wi (a_2 + blockSize)) b_1 cmpc).bind fun r_2 =>
      guardLen data5 r_2 <|
      (slices_stableCmpFunc_int_l4 n_ blockSize cmpc K4_ k) r_2 b_1 (wi (b_1 + (wi (2 * blockSize))))
    else
      K4_ data5 a_2
theorem slices_stableCmpFunc_int_l4_ok {Γ : Glob} {Q : AExit → St → Prop} {zdata : Bool} {n_ : Int} {blockSize : Int} {cmpc : (List TSGiven)} {K4_ : (List Int) → Int → Option (List Int)} {k : Nat} {data5 : (List Int)} {a_2 : Int} {b_1 : Int} (hzdata5 : zdata = true → data5 = []) {o : (List Int)} (h : slices_stableCmpFunc_int_l4 n_ blockSize cmpc K4_ k data5 a_2 b_1 = some o)
    (hK4 : ∀ (data6 : (List Int)) (a_3 : Int) (_ : zdata = true → data6 = []), K4_ data6 a_3 = some o → ∀ s, Weak 1 s ⟨(upd (upd (upd (upd (upd (fun _ => none) 0 (some (lstV zdata 0 1 data6.length))) 1 (some (I n_))) 2 (some (.c (.fn (.func 55) [] [.rop [.ro false 6 (cmpc.map e_TSGiven)]])))) 6 (some (I blockSize))) 7 (some (I a_3))), (upd (fun _ => none) 0 (lstB zdata 1 (data6.map eI))), 1⟩ → Q (.exit 4) s)
    (hr : ∀ s, Ends a77.results 1 (slices_stableCmpFunc_int_post zdata o) .ret s → Q .ret s) :
    Sv Try.prog Γ 1 (.loop a77_c1) Q ⟨(upd (upd (upd (upd (upd (upd (fun _ => none) 0 (some (lstV zdata 0 1 data5.length))) 1 (some (I n_))) 2 (some (.c (.fn (.func 55) [] [.rop [.ro false 6 (cmpc.map e_TSGiven)]])))) 6 (some (I blockSize))) 7 (some (I a_2))) 8 (some (I b_1))), (upd (fun _ => none) 0 (lstB zdata 1 (data5.map eI))), 1⟩ := by
  refine Sv.loop (I := fun k s => ∃ (data5 : (List Int)), ∃ (a_2 : Int), ∃ (b_1 : Int), (zdata = true → data5 = []) ∧ slices_stableCmpFunc_int_l4 n_ blockSize cmpc K4_ k data5 a_2 b_1 = some o ∧ s = ⟨(upd (upd (upd (upd (upd (upd (fun _ => none) 0 (some (lstV zdata 0 1 data5.length))) 1 (some (I n_))) 2 (some (.c (.fn (.func 55) [] [.rop [.ro false 6 (cmpc.map e_TSGiven)]])))) 6 (some (I blockSize))) 7 (some (I a_2))) 8 (some (I b_1))), (upd (fun _ => none) 0 (lstB zdata 1 (data5.map eI))), 1⟩) (fun k s hI => ?_) ⟨data5, a_2, b_1, hzdata5, h, rfl⟩
  clear h
  clear hzdata5 b_1 a_2 data5
  obtain ⟨data5, a_2, b_1, hzdata5, h, rfl⟩ := hI
  cases k with
  | zero => cases h
  | succ k =>
  rw [slices_stableCmpFunc_int_l4] at h
  have hself : ∀ (data5 : (List Int)) (a_2 : Int) (b_1 : Int) (_ : zdata = true → data5 = []), (slices_stableCmpFunc_int_l4 n_ blockSize cmpc K4_ k) data5 a_2 b_1 = some o → ∀ s, Weak 1 s ⟨(upd (upd (upd (upd (upd (upd (fun _ => none) 0 (some (lstV zdata 0 1 data5.length))) 1 (some (I n_))) 2 (some (.c (.fn (.func 55) [] [.rop [.ro false 6 (cmpc.map e_TSGiven)]])))) 6 (some (I blockSize))) 7 (some (I a_2))) 8 (some (I b_1))), (upd (fun _ => none) 0 (lstB zdata 1 (data5.map eI))), 1⟩ → (AThen (fun s' => ∃ s'' k', Weak 1 s' s'' ∧ k' < k + 1 ∧ (fun k s => ∃ (data5 : (List Int)), ∃ (a_2 : Int), ∃ (b_1 : Int), (zdata = true → data5 = []) ∧ slices_stableCmpFunc_int_l4 n_ blockSize cmpc K4_ k data5 a_2 b_1 = some o ∧ s = ⟨(upd (upd (upd (upd (upd (upd (fun _ => none) 0 (some (lstV zdata 0 1 data5.length))) 1 (some (I n_))) 2 (some (.c (.fn (.func 55) [] [.rop [.ro false 6 (cmpc.map e_TSGiven)]])))) 6 (some (I blockSize))) 7 (some (I a_2))) 8 (some (I b_1))), (upd (fun _ => none) 0 (lstB zdata 1 (data5.map eI))), 1⟩) k' s'') Q) .normal s := fun data5 a_2 b_1 hzdata5 h s hw => ⟨_, k, hw, Nat.lt_succ_self k, data5, a_2, b_1, hzdata5, h, rfl⟩
  refine Sv.seq ?_
  refine Sv.seq ?_
  refine Sv.region ?_
  refine un (a1 rfl ?_)
  refine un (a1 rfl ?_)
  refine un (a1 (v := (B (decide (b_1 ≤ n_)))) rfl ?_)
  refine dnil ?_
  refine Sv.cond (b := decide (b_1 ≤ n_)) rfl (fun hc3 => ?_) (fun hc3 => ?_)
  · replace h := ifT hc3 h
    refine Sv.skip ?_
    refine Sv.block ?_
    refine Sv.seq ?_
    refine Sv.region ?_
    refine un (a1 rfl ?_)
    refine un (a1 rfl ?_)
    refine un (a1 rfl ?_)
    refine un (a1 rfl ?_)
    refine un (a1 (v := (I (wi (a_2 + blockSize)))) rfl ?_)
    refine un (a1 rfl ?_)
    refine un (a1 rfl ?_)
    obtain ⟨r_2, hr3, h⟩ := bnd h
    refine un (ac_gen (bs := [0]) («as» := [(lstV zdata 0 1 data5.length), (I a_2), (I (wi (a_2 + blockSize))), (I b_1), (.c (.fn (.func 55) [] [.rop [.ro false 6 (cmpc.map e_TSGiven)]]))]) (h2 := _) (h1 := (upd (fun _ => none) 0 (lstB zdata 1 (data5.map eI)))) (slices_symMergeCmpFunc_int_ok hzdata5 hr3) rfl (.cons (.c (lstC_ren rfl (by decide))) (.cons (avAs_free rfl) (.cons (avAs_free rfl) (.cons (avAs_free rfl) (.cons (.c (fn_as .nil (.cons (.same rfl) .nil))) .nil))))) (hsub_refl _) (.cons rfl (.nil _)) (fun h => by cases h) (by decide) (by decide) (.cons (.c (lstC_ren rfl (by decide))) (.cons (avAs_free rfl) (.cons (avAs_free rfl) (.cons (avAs_free rfl) (.cons (.c (fn_as .nil (.cons (.same rfl) .nil))) .nil))))) (.row (by decide) rfl (fr_map fun _ => rfl) .nil) ?_)
    rintro _ _ _ hn ⟨rfl, rfl, rfl⟩
    refine ⟨.inl rfl, (upd (rem [0] _) 0 (lstB zdata 1 (r_2.map eI))), fun hbd => (m3_cons (m3_row rfl (fr_map fun _ => rfl)) (m3_rem (in_cons (by decide) (in_nil _)) (.cons (by decide) .nil) hbd)), (.tup []), 1, rfl, rfl, ?_⟩
    obtain ⟨hlen2, h⟩ := guard_some h
    try rw [hlen2]
    refine dnil ?_
    refine Sv.seq ?_
    refine Sv.region ?_
    refine un (a1 rfl ?_)
    refine un (a1 rfl ?_)
    refine dnil ?_
    refine Sv.region ?_
    refine un (a1 rfl ?_)
    refine un (a1 rfl ?_)
    refine un (a1 (v := (I (wi (2 * blockSize)))) rfl ?_)
    refine un (a1 (v := (I (wi (b_1 + (wi (2 * blockSize)))))) rfl ?_)
    refine un (a1 rfl ?_)
    refine dnil ?_
    exact hself r_2 b_1 (wi (b_1 + (wi (2 * blockSize)))) (hz_len hzdata5 hlen2) h _ (weak_canon [0] rfl (by decide) (by decide) (by decide) (.cons rfl (avAs_free rfl) (.cons rfl (avAs_free rfl) (.cons rfl (avAs_free rfl) (.cons rfl (.c (fn_as .nil (.cons (.same rfl) .nil))) (.cons rfl (avAs_free rfl) (.cons rfl (.c (lstC_ren rfl (by decide))) .nil)))))) (.row (by decide) rfl (fr_map fun _ => rfl) .nil))
  · replace h := ifF hc3 h
    refine Sv.exit ?_
    exact hK4 data5 a_2 hzdata5 h _ (weak_canon [0] rfl (by decide) (by decide) (by decide) (.cons rfl (avAs_free rfl) (.cons rfl (avAs_free rfl) (.cons rfl (.c (fn_as .nil (.cons (.same rfl) .nil))) (.cons rfl (avAs_free rfl) (.cons rfl (.c (lstC_ren rfl (by decide))) .nil))))) (.row (by decide) rfl (fr_map fun _ => rfl) .nil))
abbrev slices_stableCmpFunc_int_q0 (Γ : Glob) (Q : AExit → St → Prop) : AExit → St → Prop := ABlock 3 Q
noncomputable def slices_stableCmpFunc_int_j3 (blockSize : Int) (n_ : Int) (cmpc : (List TSGiven)) (self : (List Int) → Int → Option (List Int)) (K2_ : (List Int) → Option (List Int)) (data7 : (List Int)) : Option (List Int) :=
  self data7 (wi (blockSize * 2))
theorem slices_stableCmpFunc_int_j3_ok {Γ : Glob} {Q : AExit → St → Prop} {zdata : Bool} {blockSize : Int} {n_ : Int} {cmpc : (List TSGiven)} {self : (List Int) → Int → Option (List Int)} {K2_ : (List Int) → Option (List Int)} {data7 : (List Int)} (hzdata7 : zdata = true → data7 = []) {o : (List Int)} (h : slices_stableCmpFunc_int_j3 blockSize n_ cmpc self K2_ data7 = some o)
    (hself : ∀ (data3 : (List Int)) (blockSize : Int) (_ : zdata = true → data3 = []), self data3 blockSize = some o → ∀ s, Weak 1 s ⟨(upd (upd (upd (upd (fun _ => none) 0 (some (lstV zdata 0 1 data3.length))) 1 (some (I n_))) 2 (some (.c (.fn (.func 55) [] [.rop [.ro false 6 (cmpc.map e_TSGiven)]])))) 6 (some (I blockSize))), (upd (fun _ => none) 0 (lstB zdata 1 (data3.map eI))), 1⟩ → (Q) .normal s)
    (hK2 : ∀ (data4 : (List Int)) (_ : zdata = true → data4 = []), K2_ data4 = some o → ∀ s, Weak 1 s ⟨(upd (fun _ => none) 0 (some (lstV zdata 0 1 data4.length))), (upd (fun _ => none) 0 (lstB zdata 1 (data4.map eI))), 1⟩ → Q (.exit 2) s)
    (hr : ∀ s, Ends a77.results 1 (slices_stableCmpFunc_int_post zdata o) .ret s → Q .ret s) :
    Sv Try.prog Γ 1 a77_c2 (slices_stableCmpFunc_int_q0 Γ Q) ⟨(upd (upd (upd (upd (fun _ => none) 0 (some (lstV zdata 0 1 data7.length))) 1 (some (I n_))) 2 (some (.c (.fn (.func 55) [] [.rop [.ro false 6 (cmpc.map e_TSGiven)]])))) 6 (some (I blockSize))), (upd (fun _ => none) 0 (lstB zdata 1 (data7.map eI))), 1⟩ := by
  unfold slices_stableCmpFunc_int_j3 at h
  refine Sv.region ?_
  refine un (a1 rfl ?_)
  refine un (a1 (v := (I (wi (blockSize * 2)))) rfl ?_)
  refine un (a1 rfl ?_)
  refine dnil ?_
  exact hself data7 (wi (blockSize * 2)) hzdata7 h _ (weak_canon [0] rfl (by decide) (by decide) (by decide) (.cons rfl (avAs_free rfl) (.cons rfl (.c (fn_as .nil (.cons (.same rfl) .nil))) (.cons rfl (avAs_free rfl) (.cons rfl (.c (lstC_ren rfl (by decide))) .nil)))) (.row (by decide) rfl (fr_map fun _ => rfl) .nil))
noncomputable def slices_stableCmpFunc_int_l3 (n_ : Int) (cmpc : (List TSGiven)) (K2_ : (List Int) → Option (List Int)) : Nat → (List Int) → Int → Option (List Int)
  | 0, _, _ => none
  | k + 1, data3, blockSize =>
    if decide (blockSize < n_) then
      lim fun kk => slices_stableCmpFunc_int_l4 n_ blockSize cmpc (fun (data6 : (List Int)) (a_3 : Int) => 
          if decide ((wi (a_3 + blockSize)) < n_) then
            (slices_symMergeCmpFunc_int data6 a_3 (wi (a_3 + blockSize)) n_ cmpc).bind fun r_3 =>
            guardLen data6 r_3 <|
            slices_stableCmpFunc_int_j3 blockSize n_ cmpc (slices_stableCmpFunc_int_l3 n_ cmpc K2_ k) K2_ r_3
          else
            slices_stableCmpFunc_int_j3 blockSize n_ cmpc (slices_stableCmpFunc_int_l3 n_ cmpc K2_ k) K2_ data6) kk data3 0 (wi (2 * blockSize))
    else
      K2_ data3
theorem slices_stableCmpFunc_int_l3_ok {Γ : Glob} {Q : AExit → St → Prop} {zdata : Bool} {n_ : Int} {cmpc : (List TSGiven)} {K2_ : (List Int) → Option (List Int)} {k : Nat} {data3 : (List Int)} {blockSize : Int} (hzdata3 : zdata = true → data3 = []) {o : (List Int)} (h : slices_stableCmpFunc_int_l3 n_ cmpc K2_ k data3 blockSize = some o)
    (hK2 : ∀ (data4 : (List Int)) (_ : zdata = true → data4 = []), K2_ data4 = some o → ∀ s, Weak 1 s ⟨(upd (fun _ => none) 0 (some (lstV zdata 0 1 data4.length))), (upd (fun _ => none) 0 (lstB zdata 1 (data4.map eI))), 1⟩ → Q (.exit 2) s)
    (hr : ∀ s, Ends a77.results 1 (slices_stableCmpFunc_int_post zdata o) .ret s → Q .ret s) :
    Sv Try.prog Γ 1 (.loop a77_c3) Q ⟨(upd (upd (upd (upd (fun _ => none) 0 (some (lstV zdata 0 1 data3.length))) 1 (some (I n_))) 2 (some (.c (.fn (.func 55) [] [.rop [.ro false 6 (cmpc.map e_TSGiven)]])))) 6 (some (I blockSize))), (upd (fun _ => none) 0 (lstB zdata 1 (data3.map eI))), 1⟩ := by
  refine Sv.loop (I := fun k s => ∃ (data3 : (List Int)), ∃ (blockSize : Int), (zdata = true → data3 = []) ∧ slices_stableCmpFunc_int_l3 n_ cmpc K2_ k data3 blockSize = some o ∧ s = ⟨(upd (upd (upd (upd (fun _ => none) 0 (some (lstV zdata 0 1 data3.length))) 1 (some (I n_))) 2 (some (.c (.fn (.func 55) [] [.rop [.ro false 6 (cmpc.map e_TSGiven)]])))) 6 (some (I blockSize))), (upd (fun _ => none) 0 (lstB zdata 1 (data3.map eI))), 1⟩) (fun k s hI => ?_) ⟨data3, blockSize, hzdata3, h, rfl⟩
  clear h
  clear hzdata3 blockSize data3
  obtain ⟨data3, blockSize, hzdata3, h, rfl⟩ := hI
  cases k with
  | zero => cases h
  | succ k =>
  rw [slices_stableCmpFunc_int_l3] at h
  have hself : ∀ (data3 : (List Int)) (blockSize : Int) (_ : zdata = true → data3 = []), (slices_stableCmpFunc_int_l3 n_ cmpc K2_ k) data3 blockSize = some o → ∀ s, Weak 1 s ⟨(upd (upd (upd (upd (fun _ => none) 0 (some (lstV zdata 0 1 data3.length))) 1 (some (I n_))) 2 (some (.c (.fn (.func 55) [] [.rop [.ro false 6 (cmpc.map e_TSGiven)]])))) 6 (some (I blockSize))), (upd (fun _ => none) 0 (lstB zdata 1 (data3.map eI))), 1⟩ → (AThen (fun s' => ∃ s'' k', Weak 1 s' s'' ∧ k' < k + 1 ∧ (fun k s => ∃ (data3 : (List Int)), ∃ (blockSize : Int), (zdata = true → data3 = []) ∧ slices_stableCmpFunc_int_l3 n_ cmpc K2_ k data3 blockSize = some o ∧ s = ⟨(upd (upd (upd (upd (fun _ => none) 0 (some (lstV zdata 0 1 data3.length))) 1 (some (I n_))) 2 (some (.c (.fn (.func 55) [] [.rop [.ro false 6 (cmpc.map e_TSGiven)]])))) 6 (some (I blockSize))), (upd (fun _ => none) 0 (lstB zdata 1 (data3.map eI))), 1⟩) k' s'') Q) .normal s := fun data3 blockSize hzdata3 h s hw => ⟨_, k, hw, Nat.lt_succ_self k, data3, blockSize, hzdata3, h, rfl⟩
  refine Sv.seq ?_
  refine Sv.seq ?_
  refine Sv.region ?_
  refine un (a1 rfl ?_)
  refine un (a1 rfl ?_)
  refine un (a1 (v := (B (decide (blockSize < n_)))) rfl ?_)
  refine dnil ?_
  refine Sv.cond (b := decide (blockSize < n_)) rfl (fun hc2 => ?_) (fun hc2 => ?_)
  · replace h := ifT hc2 h
    refine Sv.skip ?_
    refine Sv.block ?_
    refine Sv.seq ?_
    refine Sv.region ?_
    refine un (a1 rfl ?_)
    refine un (a1 (v := (I (wi (2 * blockSize)))) rfl ?_)
    refine un (a1 rfl ?_)
    refine un (a1 rfl ?_)
    refine dnil ?_
    refine Sv.seq ?_
    refine Sv.block ?_
    obtain ⟨kk, h⟩ := lim_some h
    refine Sv.weak (weak_canon [0] rfl (by decide) (by decide) (by decide) (.cons rfl (avAs_free rfl) (.cons rfl (avAs_free rfl) (.cons rfl (avAs_free rfl) (.cons rfl (.c (fn_as .nil (.cons (.same rfl) .nil))) (.cons rfl (avAs_free rfl) (.cons rfl (.c (lstC_ren rfl (by decide))) .nil)))))) (.row (by decide) rfl (fr_map fun _ => rfl) .nil)) (slices_stableCmpFunc_int_l4_ok hzdata3 h ?_ hr)
    · intro data6 a_3 hzdata6 h _ hw2
      refine Sv.weak hw2 ?_
      refine Sv.seq ?_
      refine Sv.seq ?_
      refine Sv.region ?_
      refine un (a1 rfl ?_)
      refine un (a1 rfl ?_)
      refine un (a1 (v := (I (wi (a_3 + blockSize)))) rfl ?_)
      refine un (a1 rfl ?_)
      refine dnil ?_
      refine Sv.seq ?_
      refine Sv.region ?_
      refine un (a1 rfl ?_)
      refine un (a1 rfl ?_)
      refine un (a1 (v := (B (decide ((wi (a_3 + blockSize)) < n_)))) rfl ?_)
      refine dnil ?_
      refine Sv.cond (b := decide ((wi (a_3 + blockSize)) < n_)) rfl (fun hc4 => ?_) (fun hc4 => ?_)
      · replace h := ifT hc4 h
        refine Sv.region ?_
        refine un (a1 rfl ?_)
        refine un (a1 rfl ?_)
        refine un (a1 rfl ?_)
        refine un (a1 rfl ?_)
        refine un (a1 rfl ?_)
        obtain ⟨r_3, hr4, h⟩ := bnd h
        refine un (ac_gen (bs := [0]) («as» := [(lstV zdata 0 1 data6.length), (I a_3), (I (wi (a_3 + blockSize))), (I n_), (.c (.fn (.func 55) [] [.rop [.ro false 6 (cmpc.map e_TSGiven)]]))]) (h2 := _) (h1 := (upd (fun _ => none) 0 (lstB zdata 1 (data6.map eI)))) (slices_symMergeCmpFunc_int_ok hzdata6 hr4) rfl (.cons (.c (lstC_ren rfl (by decide))) (.cons (avAs_free rfl) (.cons (avAs_free rfl) (.cons (avAs_free rfl) (.cons (.c (fn_as .nil (.cons (.same rfl) .nil))) .nil))))) (hsub_refl _) (.cons rfl (.nil _)) (fun h => by cases h) (by decide) (by decide) (.cons (.c (lstC_ren rfl (by decide))) (.cons (avAs_free rfl) (.cons (avAs_free rfl) (.cons (avAs_free rfl) (.cons (.c (fn_as .nil (.cons (.same rfl) .nil))) .nil))))) (.row (by decide) rfl (fr_map fun _ => rfl) .nil) ?_)
        rintro _ _ _ hn ⟨rfl, rfl, rfl⟩
        refine ⟨.inl rfl, (upd (rem [0] _) 0 (lstB zdata 1 (r_3.map eI))), fun hbd => (m3_cons (m3_row rfl (fr_map fun _ => rfl)) (m3_rem (in_cons (by decide) (in_nil _)) (.cons (by decide) .nil) hbd)), (.tup []), 1, rfl, rfl, ?_⟩
        obtain ⟨hlen3, h⟩ := guard_some h
        try rw [hlen3]
        refine dnil ?_
        exact Sv.weak (weak_canon [0] rfl (by decide) (by decide) (by decide) (.cons rfl (avAs_free rfl) (.cons rfl (.c (fn_as .nil (.cons (.same rfl) .nil))) (.cons rfl (avAs_free rfl) (.cons rfl (.c (lstC_ren rfl (by decide))) .nil)))) (.row (by decide) rfl (fr_map fun _ => rfl) .nil)) (slices_stableCmpFunc_int_j3_ok (hz_len hzdata6 hlen3) h hself hK2 hr)
      · replace h := ifF hc4 h
        refine Sv.skip ?_
        exact Sv.weak (weak_canon [0] rfl (by decide) (by decide) (by decide) (.cons rfl (avAs_free rfl) (.cons rfl (.c (fn_as .nil (.cons (.same rfl) .nil))) (.cons rfl (avAs_free rfl) (.cons rfl (.c (lstC_ren rfl (by decide))) .nil)))) (.row (by decide) rfl (fr_map fun _ => rfl) .nil)) (slices_stableCmpFunc_int_j3_ok hzdata6 h hself hK2 hr)
  · replace h := ifF hc2 h
    refine Sv.exit ?_
    exact hK2 data3 hzdata3 h _ (weak_canon [0] rfl (by decide) (by decide) (by decide) (.cons rfl (.c (lstC_ren rfl (by decide))) .nil) (.row (by decide) rfl (fr_map fun _ => rfl) .nil))
/-- slices.stableCmpFunc(int) -/
noncomputable def slices_stableCmpFunc_int (data : (List Int)) (n_ : Int) (cmpc : (List TSGiven)) : Option (List Int) :=
  lim fun kk2 => slices_stableCmpFunc_int_l0 n_ cmpc (fun (data2 : (List Int)) (a_1 : Int) => 
      (slices_insertionSortCmpFunc_int data2 a_1 n_ cmpc).bind fun r_1 =>
      guardLen data2 r_1 <|
      lim fun kk1 => slices_stableCmpFunc_int_l3 n_ cmpc (fun (data4 : (List Int)) => 
          some data4) kk1 r_1 20) kk2 data 0 20
theorem slices_stableCmpFunc_int_ok {Γ : Glob} {data : (List Int)} {n_ : Int} {cmpc : (List TSGiven)} {zdata : Bool} (hzdata : zdata = true → data = []) {r : (List Int)} (h : slices_stableCmpFunc_int data n_ cmpc = some r) : ACalls Try.prog Γ 77 [(lstV zdata 0 1 data.length), (I n_), (.c (.fn (.func 55) [] [.rop [.ro false 6 (cmpc.map e_TSGiven)]]))] (upd (fun _ => none) 0 (lstB zdata 1 (data.map eI))) 1 (slices_stableCmpFunc_int_post zdata r) := by
  refine acalls_of_sv hmix c77 (R := slices_stableCmpFunc_int_post zdata r) ?_
  unfold slices_stableCmpFunc_int at h
  refine Sv.seq ?_
  refine Sv.region ?_
  refine un (a1 rfl ?_)
  refine dnil ?_
  refine Sv.seq ?_
  refine Sv.region ?_
  refine un (a1 rfl ?_)
  refine un (a1 rfl ?_)
  refine un (a1 rfl ?_)
  refine dnil ?_
  refine Sv.seq ?_
  refine Sv.block ?_
  obtain ⟨kk2, h⟩ := lim_some h
  refine Sv.weak (weak_canon [0] rfl (by decide) (by decide) (by decide) (.cons rfl (avAs_free rfl) (.cons rfl (avAs_free rfl) (.cons rfl (avAs_free rfl) (.cons rfl (.c (fn_as .nil (.cons (.same rfl) .nil))) (.cons rfl (avAs_free rfl) (.cons rfl (.c (lstC_ren rfl (by decide))) .nil)))))) (.row (by decide) rfl (fr_map fun _ => rfl) .nil)) (slices_stableCmpFunc_int_l0_ok hzdata h ?_ (fun s hs => hs))
  · intro data2 a_1 hzdata2 h _ hw1
    refine Sv.weak hw1 ?_
    refine Sv.seq ?_
    refine Sv.region ?_
    refine un (a1 rfl ?_)
    refine un (a1 rfl ?_)
    refine un (a1 rfl ?_)
    refine un (a1 rfl ?_)
    obtain ⟨r_1, hr2, h⟩ := bnd h
    refine un (ac_gen (bs := [0]) («as» := [(lstV zdata 0 1 data2.length), (I a_1), (I n_), (.c (.fn (.func 55) [] [.rop [.ro false 6 (cmpc.map e_TSGiven)]]))]) (h2 := _) (h1 := (upd (fun _ => none) 0 (lstB zdata 1 (data2.map eI)))) (slices_insertionSortCmpFunc_int_ok hzdata2 hr2) rfl (.cons (.c (lstC_ren rfl (by decide))) (.cons (avAs_free rfl) (.cons (avAs_free rfl) (.cons (.c (fn_as .nil (.cons (.same rfl) .nil))) .nil)))) (hsub_refl _) (.cons rfl (.nil _)) (fun h => by cases h) (by decide) (by decide) (.cons (.c (lstC_ren rfl (by decide))) (.cons (avAs_free rfl) (.cons (avAs_free rfl) (.cons (.c (fn_as .nil (.cons (.same rfl) .nil))) .nil)))) (.row (by decide) rfl (fr_map fun _ => rfl) .nil) ?_)
    rintro _ _ _ hn ⟨rfl, rfl, rfl⟩
    refine ⟨.inl rfl, (upd (rem [0] _) 0 (lstB zdata 1 (r_1.map eI))), fun hbd => (m3_cons (m3_row rfl (fr_map fun _ => rfl)) (m3_rem (in_cons (by decide) (in_nil _)) (.cons (by decide) .nil) hbd)), (.tup []), 1, rfl, rfl, ?_⟩
    obtain ⟨hlen1, h⟩ := guard_some h
    try rw [hlen1]
    refine dnil ?_
    refine Sv.block ?_
    obtain ⟨kk1, h⟩ := lim_some h
    refine Sv.weak (weak_canon [0] rfl (by decide) (by decide) (by decide) (.cons rfl (avAs_free rfl) (.cons rfl (.c (fn_as .nil (.cons (.same rfl) .nil))) (.cons rfl (avAs_free rfl) (.cons rfl (.c (lstC_ren rfl (by decide))) .nil)))) (.row (by decide) rfl (fr_map fun _ => rfl) .nil)) (slices_stableCmpFunc_int_l3_ok (hz_len hzdata2 hlen1) h ?_ (fun s hs => hs))
    · intro data4 hzdata4 h _ hw3
      replace h := Option.some.inj h
      subst h
      exact ⟨_, hw3, _, rfl, ⟨upd (fun _ => none) 0 (some (.tup [])), (upd (fun _ => none) 0 (lstB zdata 1 (data4.map eI))), 1⟩, (.tup []), weak_canon2 [0] [0] (by decide) (by decide) (by decide) (.cons (by decide) .nil) (.cons rfl (avAs_tup .nil) .nil) (.row (by decide) rfl (fr_map fun _ => rfl) .nil), rfl, rfl, rfl, rfl⟩
def a54 : AFunc := ⟨2, [], (.region [⟨(some 4), (.mov (.tmp 0)), none⟩, ⟨(some 5), (.mov (.tmp 0)), none⟩, ⟨(some 6), (.len (.tmp 5)), none⟩, ⟨(some 7), (.mov (.tmp 1)), none⟩, ⟨(some 8), (.call 77 [(.tmp 4), (.tmp 6), (.tmp 7)]), none⟩])⟩
set_option maxRecDepth 100000 in
theorem c54 : compFunc Try.prog 54 = some a54 := by kernel_rfl
def slices_SortStableFunc_int_post (zx : Bool) (r : (List Int)) : AV → Heap → Nat → Prop := fun v h' n' => v = (.tup []) ∧ (h' = (upd (fun _ => none) 0 (lstB zx 1 (r.map eI)))) ∧ n' = 1
/-- slices.SortStableFunc(()int,int) -/
noncomputable def slices_SortStableFunc_int (x_ : (List Int)) (cmpc : (List TSGiven)) : Option (List Int) :=
  (slices_stableCmpFunc_int x_ (x_.length : Int) cmpc).bind fun r_ =>
  guardLen x_ r_ <|
  some r_
theorem slices_SortStableFunc_int_ok {Γ : Glob} {x_ : (List Int)} {cmpc : (List TSGiven)} {zx : Bool} (hzx : zx = true → x_ = []) {r : (List Int)} (h : slices_SortStableFunc_int x_ cmpc = some r) : ACalls Try.prog Γ 54 [(lstV zx 0 1 x_.length), (.c (.fn (.func 55) [] [.rop [.ro false 6 (cmpc.map e_TSGiven)]]))] (upd (fun _ => none) 0 (lstB zx 1 (x_.map eI))) 1 (slices_SortStableFunc_int_post zx r) := by
  refine acalls_of_sv hmix c54 (R := slices_SortStableFunc_int_post zx r) ?_
  unfold slices_SortStableFunc_int at h
  refine Sv.region ?_
  refine un (a1 rfl ?_)
  refine un (a1 rfl ?_)
  refine un (a1 (v := (I (x_.length : Int))) (s_lenL rfl (len_nil_of hzx)) ?_)
  refine un (a1 rfl ?_)
  obtain ⟨r_, hr1, h⟩ := bnd h
  refine un (ac_gen (bs := [0]) («as» := [(lstV zx 0 1 x_.length), (I (x_.length : Int)), (.c (.fn (.func 55) [] [.rop [.ro false 6 (cmpc.map e_TSGiven)]]))]) (h2 := _) (h1 := (upd (fun _ => none) 0 (lstB zx 1 (x_.map eI)))) (slices_stableCmpFunc_int_ok hzx hr1) rfl (.cons (.c (lstC_ren rfl (by decide))) (.cons (avAs_free rfl) (.cons (.c (fn_as .nil (.cons (.same rfl) .nil))) .nil))) (hsub_refl _) (.cons rfl (.nil _)) (fun h => by cases h) (by decide) (by decide) (.cons (.c (lstC_ren rfl (by decide))) (.cons (avAs_free rfl) (.cons (.c (fn_as .nil (.cons (.same rfl) .nil))) .nil))) (.row (by decide) rfl (fr_map fun _ => rfl) .nil) ?_)
  rintro _ _ _ hn ⟨rfl, rfl, rfl⟩
  refine ⟨.inl rfl, (upd (rem [0] _) 0 (lstB zx 1 (r_.map eI))), fun hbd => (m3_cons (m3_row rfl (fr_map fun _ => rfl)) (m3_rem (in_cons (by decide) (in_nil _)) (.cons (by decide) .nil) hbd)), (.tup []), 1, rfl, rfl, ?_⟩
  obtain ⟨hlen, h⟩ := guard_some h
  try rw [hlen]
  refine dnil ?_
  replace h := Option.some.inj h
  subst h
  exact ⟨_, .refl _, _, rfl, ⟨upd (fun _ => none) 0 (some (.tup [])), (upd (fun _ => none) 0 (lstB zx 1 (r_.map eI))), 1⟩, (.tup []), weak_canon2 [0] [0] (by decide) (by decide) (by decide) (.cons (by decide) .nil) (.cons rfl (avAs_tup .nil) .nil) (.row (by decide) rfl (fr_map fun _ => rfl) .nil), rfl, rfl, rfl, rfl⟩
def a31_c0 : ACode := (.seq (.region [⟨(some 8), (.bin .lss (.tmp 7) (.tmp 6)), none⟩])
 (.seq (.cond (.tmp 8) .skip (.exit 0))
 (.seq (.block 1 (.seq (.region [⟨(some 9), (.mov (.tmp 7)), none⟩, ⟨(some 4), (.mov (.tmp 9)), none⟩])
 (.region [⟨(some 10), (.mov (.tmp 3)), none⟩, ⟨(some 11), (.mov (.tmp 4)), none⟩, ⟨(some 12), (.bslice 1 [(.val (.int .i64 0))] 1 [(0, (.tmp 11))]), none⟩, ⟨(some 13), (.app 1 8 (.tmp 10) (.tmp 12)), none⟩, ⟨(some 3), (.mov (.tmp 13)), none⟩])))
 (.region [⟨(some 14), (.bin .add (.tmp 7) (.const (.c (.val (.int .i64 1))))), none⟩, ⟨(some 7), (.mov (.tmp 14)), none⟩]))))
def a31 : AFunc := ⟨1, [(.tmp 2)], (.seq (.region [⟨(some 1), (.box (.tmp 0)), none⟩, ⟨(some 2), (.mov (.const (.c (.ro true 1 [])))), none⟩])
 (.seq (.region [⟨(some 3), (.mov (.const (.c (.ro true 1 [])))), none⟩])
 (.seq (.seq (.region [⟨(some 5), (.load false 1 (.tmp 1)), none⟩, ⟨(some 6), (.len (.tmp 5)), none⟩, ⟨(some 7), (.mov (.const (.c (.val (.int .i64 0))))), none⟩])
 (.block 0 (.loop a31_c0)))
 (.seq (.region [⟨(some 15), (.mov (.tmp 3)), none⟩, ⟨(some 16), (.mkfn (.func 55) [] [(.tmp 1)]), none⟩, ⟨(some 17), (.call 54 [(.tmp 15), (.tmp 16)]), none⟩])
 (.seq (.region [⟨(some 18), (.mov (.tmp 3)), none⟩, ⟨(some 2), (.mov (.tmp 18)), none⟩])
 .ret)))))⟩
set_option maxRecDepth 100000 in
theorem c31 : compFunc Try.prog 31 = some a31 := by kernel_rfl
def cascade_Order_post (r : (List Int)) : AV → Heap → Nat → Prop := fun v h' n' => ∃ z0 : Bool, (z0 = true → r = []) ∧ v = (lstV z0 0 1 r.length) ∧ (h' = (upd (fun _ => none) 0 (lstB z0 1 (r.map eI)))) ∧ n' = 1
noncomputable def cascade_Order_l0 (l_ : (List TSGiven)) (K0_ : (List Int) → Option (List Int)) : Nat → (List Int) → Int → Option (List Int)
  | 0, _, _ => none
  | k + 1, out, v7 =>
    if decide (v7 < (l_.length : Int)) then
      (app? 8 out [v7]).bind fun r_ =>
      (cascade_Order_l0 l_ K0_ k) r_ (wi (v7 + 1))
    else
      K0_ out
theorem cascade_Order_l0_ok {Γ : Glob} {Q : AExit → St → Prop} {l_ : (List TSGiven)} {K0_ : (List Int) → Option (List Int)} {k : Nat} {out : (List Int)} {v7 : Int} {zout : Bool} (hzout : zout = true → out = []) {o : (List Int)} (h : cascade_Order_l0 l_ K0_ k out v7 = some o)
    (hK0 : ∀ (out1 : (List Int)) (zout1 : Bool) (_ : zout1 = true → out1 = []), K0_ out1 = some o → ∀ s, Weak 0 s ⟨(upd (upd (fun _ => none) 1 (some (.c (.ref 0 1 0 0)))) 3 (some (lstV zout1 1 1 out1.length))), (upd (upd (fun _ => none) 0 (some (.cells 1 [[.ro false 6 (l_.map e_TSGiven)]]))) 1 (lstB zout1 1 (out1.map eI))), 2⟩ → Q (.exit 0) s)
    (hr : ∀ s, Ends a31.results 0 (cascade_Order_post o) .ret s → Q .ret s) :
    Sv Try.prog Γ 0 (.loop a31_c0) Q ⟨(upd (upd (upd (upd (fun _ => none) 1 (some (.c (.ref 0 1 0 0)))) 3 (some (lstV zout 1 1 out.length))) 6 (some (I (l_.length : Int)))) 7 (some (I v7))), (upd (upd (fun _ => none) 0 (some (.cells 1 [[.ro false 6 (l_.map e_TSGiven)]]))) 1 (lstB zout 1 (out.map eI))), 2⟩ := by
  refine Sv.loop (I := fun k s => ∃ (out : (List Int)), ∃ (v7 : Int), ∃ (zout : Bool), (zout = true → out = []) ∧ cascade_Order_l0 l_ K0_ k out v7 = some o ∧ s = ⟨(upd (upd (upd (upd (fun _ => none) 1 (some (.c (.ref 0 1 0 0)))) 3 (some (lstV zout 1 1 out.length))) 6 (some (I (l_.length : Int)))) 7 (some (I v7))), (upd (upd (fun _ => none) 0 (some (.cells 1 [[.ro false 6 (l_.map e_TSGiven)]]))) 1 (lstB zout 1 (out.map eI))), 2⟩) (fun k s hI => ?_) ⟨out, v7, zout, hzout, h, rfl⟩
  clear h
  clear hzout zout v7 out
  obtain ⟨out, v7, zout, hzout, h, rfl⟩ := hI
  cases k with
  | zero => cases h
  | succ k =>
  rw [cascade_Order_l0] at h
  have hself : ∀ (out : (List Int)) (v7 : Int) (zout : Bool) (_ : zout = true → out = []), (cascade_Order_l0 l_ K0_ k) out v7 = some o → ∀ s, Weak 0 s ⟨(upd (upd (upd (upd (fun _ => none) 1 (some (.c (.ref 0 1 0 0)))) 3 (some (lstV zout 1 1 out.length))) 6 (some (I (l_.length : Int)))) 7 (some (I v7))), (upd (upd (fun _ => none) 0 (some (.cells 1 [[.ro false 6 (l_.map e_TSGiven)]]))) 1 (lstB zout 1 (out.map eI))), 2⟩ → (AThen (fun s' => ∃ s'' k', Weak 0 s' s'' ∧ k' < k + 1 ∧ (fun k s => ∃ (out : (List Int)), ∃ (v7 : Int), ∃ (zout : Bool), (zout = true → out = []) ∧ cascade_Order_l0 l_ K0_ k out v7 = some o ∧ s = ⟨(upd (upd (upd (upd (fun _ => none) 1 (some (.c (.ref 0 1 0 0)))) 3 (some (lstV zout 1 1 out.length))) 6 (some (I (l_.length : Int)))) 7 (some (I v7))), (upd (upd (fun _ => none) 0 (some (.cells 1 [[.ro false 6 (l_.map e_TSGiven)]]))) 1 (lstB zout 1 (out.map eI))), 2⟩) k' s'') Q) .normal s := fun out v7 zout hzout h s hw => ⟨_, k, hw, Nat.lt_succ_self k, out, v7, zout, hzout, h, rfl⟩
  refine Sv.seq ?_
  refine Sv.region ?_
  refine un (a1 (v := (B (decide (v7 < (l_.length : Int))))) rfl ?_)
  refine dnil ?_
  refine Sv.seq ?_
  refine Sv.cond (b := decide (v7 < (l_.length : Int))) rfl (fun hc1 => ?_) (fun hc1 => ?_)
  · replace h := ifT hc1 h
    refine Sv.skip ?_
    refine Sv.seq ?_
    refine Sv.block ?_
    refine Sv.seq ?_
    refine Sv.region ?_
    refine un (a1 rfl ?_)
    refine un (a1 rfl ?_)
    refine dnil ?_
    refine Sv.region ?_
    refine un (a1 rfl ?_)
    refine un (a1 rfl ?_)
    refine un (a2v (v := (lstV false 2 1 [v7].length)) (h' := upd _ 2 (lstB false 1 ([v7].map eI))) (n' := 3) rfl rfl (fun h => by cases h) ?_)
    obtain ⟨r_, hr1, h⟩ := bnd h
    have hz1 : (zout && [v7].isEmpty) = true → r_ = [] := app_nil (z := zout) (ys := [v7]) hzout hr1
    refine un (a2v rfl (s_app (xs := out) (ys := [v7]) (e := eI) (z := zout) (b := 1) rfl rfl hzout rfl rfl (slc_lst rfl (List.length_map _).symm (map_nil_of (fun h => by cases h))) hr1) (fun h => by cases h) ?_)
    refine un (a1 rfl ?_)
    refine dnil ?_
    refine Sv.region ?_
    refine un (a1 (v := (I (wi (v7 + 1)))) rfl ?_)
    refine un (a1 rfl ?_)
    refine dnil ?_
    exact hself r_ (wi (v7 + 1)) (zout && [v7].isEmpty) hz1 h _ (weak_canon [0, 3] rfl (by decide) (by decide) (fun b h => absurd h (Nat.not_lt_zero _)) (.cons rfl (avAs_free rfl) (.cons rfl (avAs_free rfl) (.cons rfl (.c (lstC_ren rfl (by decide))) (.cons rfl (.c (.ref rfl (by decide))) .nil)))) (.row (by decide) rfl (fr_map fun _ => rfl) (.box (by decide) rfl (blkAs_cells (.cons (.same rfl) .nil)) .nil)))
  · replace h := ifF hc1 h
    refine Sv.exit ?_
    exact hK0 out zout hzout h _ (weak_canon [0, 1] rfl (by decide) (by decide) (fun b h => absurd h (Nat.not_lt_zero _)) (.cons rfl (.c (lstC_ren rfl (by decide))) (.cons rfl (.c (.ref rfl (by decide))) .nil)) (.row (by decide) rfl (fr_map fun _ => rfl) (.box (by decide) rfl (blkAs_cells (.cons (.same rfl) .nil)) .nil)))
/-- clerestory/cascade.Order -/
noncomputable def cascade_Order (l_ : (List TSGiven)) : Option (List Int) :=
  lim fun kk => cascade_Order_l0 l_ (fun (out1 : (List Int)) => 
      (slices_SortStableFunc_int out1 l_).bind fun r_1 =>
      guardLen out1 r_1 <|
      some r_1) kk ([] : List Int) 0
theorem cascade_Order_ok {Γ : Glob} {l_ : (List TSGiven)} {r : (List Int)} (h : cascade_Order l_ = some r) : ACalls Try.prog Γ 31 [(.c (.ro false 6 (l_.map e_TSGiven)))] (fun _ => none) 0 (cascade_Order_post r) := by
  refine acalls_of_sv hmix c31 (R := cascade_Order_post r) ?_
  unfold cascade_Order at h
  refine Sv.seq ?_
  refine Sv.region ?_
  refine un (a2v (v := (.c (.ref 0 1 0 0))) (h' := upd _ 0 (some (.cells 1 [[.ro false 6 (l_.map e_TSGiven)]]))) (n' := 1) rfl rfl (fun h => by cases h) ?_)
  refine un (a1 rfl ?_)
  refine dnil ?_
  refine Sv.seq ?_
  refine Sv.region ?_
  refine un (a1 rfl ?_)
  refine dnil ?_
  refine Sv.seq ?_
  refine Sv.seq ?_
  refine Sv.region ?_
  refine un (a1 (v := (.c (.ro false 6 (l_.map e_TSGiven)))) rfl ?_)
  refine un (a1 (v := (I (l_.length : Int))) (s_len (e := e_TSGiven) (xs := l_) rfl) ?_)
  refine un (a1 rfl ?_)
  refine dnil ?_
  refine Sv.block ?_
  obtain ⟨kk, h⟩ := lim_some h
  refine Sv.weak (weak_canon [0, 1000] rfl (by decide) (by decide) (fun b h => absurd h (Nat.not_lt_zero _)) (.cons rfl (avAs_free rfl) (.cons rfl (avAs_free rfl) (.cons rfl (.c (.same rfl)) (.cons rfl (.c (.ref rfl (by decide))) .nil)))) (.non (by decide) (.box (by decide) rfl (blkAs_cells (.cons (.same rfl) .nil)) .nil))) (cascade_Order_l0_ok (fun _ => rfl) h ?_ (fun s hs => hs))
  · intro out1 zout1 hzout1 h _ hw1
    refine Sv.weak hw1 ?_
    refine Sv.seq ?_
    refine Sv.region ?_
    refine un (a1 rfl ?_)
    refine un (a1 (v := (.c (.fn (.func 55) [] [.ref 0 1 0 0]))) rfl ?_)
    obtain ⟨r_1, hr2, h⟩ := bnd h
    refine un (ac_gen (bs := [1]) («as» := [(lstV zout1 1 1 out1.length), (.c (.fn (.func 55) [] [.rop [.ro false 6 (l_.map e_TSGiven)]]))]) (h2 := (upd _ 0 none)) (h1 := (upd (fun _ => none) 1 (lstB zout1 1 (out1.map eI)))) (slices_SortStableFunc_int_ok hzout1 hr2) rfl (.cons (.c (lstC_ren rfl (by decide))) (.cons (.c (fn_as .nil (.cons (ref_ro rfl (gone rfl) (.cons (.same rfl) .nil) rfl) .nil))) .nil)) (hsub_none (hsub_refl _)) (.cons rfl (.nil _)) (fun h => by cases h) (by decide) (by decide) (.cons (.c (lstC_ren rfl (by decide))) (.cons (.c (fn_as .nil (.cons (.same rfl) .nil))) .nil)) (.row (by decide) rfl (fr_map fun _ => rfl) .nil) ?_)
    rintro _ _ _ hn ⟨rfl, rfl, rfl⟩
    refine ⟨.inr ⟨rfl, (.row (cl_map fun _ => rfl) .nil)⟩, (upd (rem [1] _) 1 (lstB zout1 1 (r_1.map eI))), fun hbd => (m3_cons (m3_row rfl (fr_map fun _ => rfl)) (m3_rem (in_cons (by decide) (in_nil _)) (.cons (by decide) .nil) hbd)), (.tup []), 2, rfl, rfl, ?_⟩
    obtain ⟨hlen, h⟩ := guard_some h
    try rw [hlen]
    refine dnil ?_
    refine Sv.seq ?_
    refine Sv.region ?_
    refine un (a1 rfl ?_)
    refine un (a1 rfl ?_)
    refine dnil ?_
    refine Sv.ret ?_
    replace h := Option.some.inj h
    subst h
    exact ⟨_, .refl _, _, rfl, ⟨upd (fun _ => none) 0 (some (lstV zout1 0 1 r_1.length)), (upd (fun _ => none) 0 (lstB zout1 1 (r_1.map eI))), 1⟩, (lstV zout1 0 1 r_1.length), weak_canon2 [1] [0] (by decide) (by decide) (fun b h => absurd h (Nat.not_lt_zero _)) (.cons (by decide) .nil) (.cons rfl (.c (lstC_ren rfl (by decide))) .nil) (.row (by decide) rfl (fr_map fun _ => rfl) .nil), rfl, zout1, (hz_len hzout1 hlen), rfl, rfl, rfl⟩
def a56 : AFunc := ⟨1, [(.tmp 2)], (.seq (.region [⟨(some 1), (.box (.tmp 0)), none⟩, ⟨(some 2), (.mov (.const (.c (.val (.int .i64 0))))), none⟩])
 (.seq (.seq (.region [⟨(some 3), (.faddr 3 (.tmp 1)), none⟩, ⟨(some 4), (.load false 1 (.tmp 3)), none⟩, ⟨(some 5), (.un .not (.tmp 4)), none⟩])
 (.cond (.tmp 5) (.seq (.region [⟨(some 6), (.faddr 2 (.tmp 1)), none⟩, ⟨(some 7), (.load false 1 (.tmp 6)), none⟩, ⟨(some 2), (.mov (.tmp 7)), none⟩])
 .ret) .skip))
 (.seq (.seq (.region [⟨(some 8), (.faddr 2 (.tmp 1)), none⟩, ⟨(some 9), (.load false 1 (.tmp 8)), none⟩, ⟨(some 10), (.bin .eql (.tmp 9) (.const (.c (.val (.int .i64 1))))), none⟩])
 (.cond (.tmp 10) (.seq (.region [⟨(some 2), (.mov (.const (.c (.val (.int .i64 3))))), none⟩])
 .ret) .skip))
 (.seq (.seq (.region [⟨(some 11), (.faddr 2 (.tmp 1)), none⟩, ⟨(some 12), (.load false 1 (.tmp 11)), none⟩, ⟨(some 13), (.bin .eql (.tmp 12) (.const (.c (.val (.int .i64 2))))), none⟩])
 (.cond (.tmp 13) (.seq (.region [⟨(some 2), (.mov (.const (.c (.val (.int .i64 4))))), none⟩])
 .ret) .skip))
 (.seq (.region [⟨(some 2), (.mov (.const (.c (.val (.int .i64 5))))), none⟩])
 .ret)))))⟩
set_option maxRecDepth 100000 in
theorem c56 : compFunc Try.prog 56 = some a56 := by kernel_rfl
def clerestoryref2_Rank_post (r : Int) : AV → Heap → Nat → Prop := fun v h' n' => v = (I r) ∧ (h' = (fun _ => none)) ∧ n' = 0
/-- clerestory/clerestoryref2.Rank -/
def clerestoryref2_Rank (g_ : TSGiven) : Int :=
  if (!g_.Important) then
    g_.Origin
  else
    if decide (g_.Origin = 1) then
      3
    else
      if decide (g_.Origin = 2) then
        4
      else
        5
theorem clerestoryref2_Rank_ok {Γ : Glob} (g_ : TSGiven) : CPure Try.prog Γ 56 [(.agg [.str g_.Name, .str g_.Value, cI g_.Origin, cB g_.Important, cI g_.Weight, cI g_.Place])] (I (clerestoryref2_Rank g_)) := by
  generalize h : clerestoryref2_Rank g_ = o
  refine acalls_of_sv hmix c56 (R := clerestoryref2_Rank_post o) ?_
  unfold clerestoryref2_Rank at h
  refine Sv.seq ?_
  refine Sv.region ?_
  refine un (a2v (v := (.c (.ref 0 6 0 0))) (h' := upd _ 0 (some (.cells 6 [[.str g_.Name, .str g_.Value, cI g_.Origin, cB g_.Important, cI g_.Weight, cI g_.Place]]))) (n' := 1) rfl rfl (fun h => by cases h) ?_)
  refine un (a1 rfl ?_)
  refine dnil ?_
  refine Sv.seq ?_
  refine Sv.seq ?_
  refine Sv.region ?_
  refine un (a1 (v := (.c (.ref 0 6 0 3))) rfl ?_)
  refine un (a1 (v := (B g_.Important)) rfl ?_)
  refine un (a1 (v := (B (!g_.Important))) rfl ?_)
  refine dnil ?_
  refine Sv.cond (b := (!g_.Important)) rfl (fun hc1 => ?_) (fun hc1 => ?_)
  · replace h := ifT hc1 h
    refine Sv.seq ?_
    refine Sv.region ?_
    refine un (a1 (v := (.c (.ref 0 6 0 2))) rfl ?_)
    refine un (a1 (v := (I g_.Origin)) rfl ?_)
    refine un (a1 rfl ?_)
    refine dnil ?_
    refine Sv.ret ?_
    subst h
    exact ⟨_, .refl _, _, rfl, ⟨upd (fun _ => none) 0 (some (I g_.Origin)), (fun _ => none), 0⟩, (I g_.Origin), weak_canon [] rfl List.nodup_nil (Nat.le_refl _) (fun b h => absurd h (Nat.not_lt_zero _)) (.cons rfl (avAs_free rfl) .nil) .nil, rfl, rfl, rfl, rfl⟩
  · replace h := ifF hc1 h
    refine Sv.skip ?_
    refine Sv.seq ?_
    refine Sv.seq ?_
    refine Sv.region ?_
    refine un (a1 (v := (.c (.ref 0 6 0 2))) rfl ?_)
    refine un (a1 (v := (I g_.Origin)) rfl ?_)
    refine un (a1 (v := (B (decide (g_.Origin = 1)))) rfl ?_)
    refine dnil ?_
    refine Sv.cond (b := decide (g_.Origin = 1)) rfl (fun hc2 => ?_) (fun hc2 => ?_)
    · replace h := ifT hc2 h
      refine Sv.seq ?_
      refine Sv.region ?_
      refine un (a1 rfl ?_)
      refine dnil ?_
      refine Sv.ret ?_
      subst h
      exact ⟨_, .refl _, _, rfl, ⟨upd (fun _ => none) 0 (some (I 3)), (fun _ => none), 0⟩, (I 3), weak_canon [] rfl List.nodup_nil (Nat.le_refl _) (fun b h => absurd h (Nat.not_lt_zero _)) (.cons rfl (avAs_free rfl) .nil) .nil, rfl, rfl, rfl, rfl⟩
    · replace h := ifF hc2 h
      refine Sv.skip ?_
      refine Sv.seq ?_
      refine Sv.seq ?_
      refine Sv.region ?_
      refine un (a1 (v := (.c (.ref 0 6 0 2))) rfl ?_)
      refine un (a1 (v := (I g_.Origin)) rfl ?_)
      refine un (a1 (v := (B (decide (g_.Origin = 2)))) rfl ?_)
      refine dnil ?_
      refine Sv.cond (b := decide (g_.Origin = 2)) rfl (fun hc3 => ?_) (fun hc3 => ?_)
      · replace h := ifT hc3 h
        refine Sv.seq ?_
        refine Sv.region ?_
        refine un (a1 rfl ?_)
        refine dnil ?_
        refine Sv.ret ?_
        subst h
        exact ⟨_, .refl _, _, rfl, ⟨upd (fun _ => none) 0 (some (I 4)), (fun _ => none), 0⟩, (I 4), weak_canon [] rfl List.nodup_nil (Nat.le_refl _) (fun b h => absurd h (Nat.not_lt_zero _)) (.cons rfl (avAs_free rfl) .nil) .nil, rfl, rfl, rfl, rfl⟩
      · replace h := ifF hc3 h
        refine Sv.skip ?_
        refine Sv.seq ?_
        refine Sv.region ?_
        refine un (a1 rfl ?_)
        refine dnil ?_
        refine Sv.ret ?_
        subst h
        exact ⟨_, .refl _, _, rfl, ⟨upd (fun _ => none) 0 (some (I 5)), (fun _ => none), 0⟩, (I 5), weak_canon [] rfl List.nodup_nil (Nat.le_refl _) (fun b h => absurd h (Nat.not_lt_zero _)) (.cons rfl (avAs_free rfl) .nil) .nil, rfl, rfl, rfl, rfl⟩
def a34 : AFunc := ⟨2, [(.tmp 4)], (.seq (.region [⟨(some 2), (.box (.tmp 0)), none⟩, ⟨(some 3), (.box (.tmp 1)), none⟩, ⟨(some 4), (.mov (.const (.c (.val (.bool false))))), none⟩])
 (.seq (.seq (.drawn (.fin [(⟨(some 5), (.load true 6 (.tmp 2)), none⟩, (0, 0)), (⟨(some 7), (.load true 6 (.tmp 3)), none⟩, (0, 2)), (⟨(some 6), (.call 56 [(.tmp 5)]), none⟩, (1, 1)), (⟨(some 8), (.call 56 [(.tmp 7)]), none⟩, (2, 3)), (⟨(some 9), (.bin .neq (.tmp 6) (.tmp 8)), none⟩, (0, 4))]))
 (.cond (.tmp 9) (.seq (.drawn (.fin [(⟨(some 10), (.load true 6 (.tmp 2)), none⟩, (0, 0)), (⟨(some 12), (.load true 6 (.tmp 3)), none⟩, (0, 2)), (⟨(some 11), (.call 56 [(.tmp 10)]), none⟩, (1, 1)), (⟨(some 13), (.call 56 [(.tmp 12)]), none⟩, (2, 3)), (⟨(some 14), (.bin .lss (.tmp 11) (.tmp 13)), none⟩, (0, 4)), (⟨(some 4), (.mov (.tmp 14)), none⟩, (0, 5))]))
 .ret) .skip))
 (.seq (.seq (.region [⟨(some 15), (.faddr 4 (.tmp 2)), none⟩, ⟨(some 16), (.load false 1 (.tmp 15)), none⟩, ⟨(some 17), (.faddr 4 (.tmp 3)), none⟩, ⟨(some 18), (.load false 1 (.tmp 17)), none⟩, ⟨(some 19), (.bin .neq (.tmp 16) (.tmp 18)), none⟩])
 (.cond (.tmp 19) (.seq (.region [⟨(some 20), (.faddr 4 (.tmp 2)), none⟩, ⟨(some 21), (.load false 1 (.tmp 20)), none⟩, ⟨(some 22), (.faddr 4 (.tmp 3)), none⟩, ⟨(some 23), (.load false 1 (.tmp 22)), none⟩, ⟨(some 24), (.bin .lss (.tmp 21) (.tmp 23)), none⟩, ⟨(some 4), (.mov (.tmp 24)), none⟩])
 .ret) .skip))
 (.seq (.region [⟨(some 25), (.faddr 5 (.tmp 2)), none⟩, ⟨(some 26), (.load false 1 (.tmp 25)), none⟩, ⟨(some 27), (.faddr 5 (.tmp 3)), none⟩, ⟨(some 28), (.load false 1 (.tmp 27)), none⟩, ⟨(some 29), (.bin .lss (.tmp 26) (.tmp 28)), none⟩, ⟨(some 4), (.mov (.tmp 29)), none⟩])
 .ret))))⟩
set_option maxRecDepth 100000 in
theorem c34 : compFunc Try.prog 34 = some a34 := by kernel_rfl
def clerestoryref2_Later_post (r : Bool) : AV → Heap → Nat → Prop := fun v h' n' => v = (B r) ∧ (h' = (fun _ => none)) ∧ n' = 0
/-- clerestory/clerestoryref2.Later -/
def clerestoryref2_Later (a_ : TSGiven) (b_ : TSGiven) : Bool :=
  if (!decide ((clerestoryref2_Rank a_) = (clerestoryref2_Rank b_))) then
    decide ((clerestoryref2_Rank a_) < (clerestoryref2_Rank b_))
  else
    if (!decide (a_.Weight = b_.Weight)) then
      decide (a_.Weight < b_.Weight)
    else
      decide (a_.Place < b_.Place)
theorem clerestoryref2_Later_ok {Γ : Glob} (a_ : TSGiven) (b_ : TSGiven) : CPure Try.prog Γ 34 [(.agg [.str a_.Name, .str a_.Value, cI a_.Origin, cB a_.Important, cI a_.Weight, cI a_.Place]), (.agg [.str b_.Name, .str b_.Value, cI b_.Origin, cB b_.Important, cI b_.Weight, cI b_.Place])] (B (clerestoryref2_Later a_ b_)) := by
  generalize h : clerestoryref2_Later a_ b_ = o
  refine acalls_of_sv hmix c34 (R := clerestoryref2_Later_post o) ?_
  unfold clerestoryref2_Later at h
  refine Sv.seq ?_
  refine Sv.region ?_
  refine un (a2v (v := (.c (.ref 0 6 0 0))) (h' := upd _ 0 (some (.cells 6 [[.str a_.Name, .str a_.Value, cI a_.Origin, cB a_.Important, cI a_.Weight, cI a_.Place]]))) (n' := 1) rfl rfl (fun h => by cases h) ?_)
  refine un (a2v (v := (.c (.ref 1 6 0 0))) (h' := upd _ 1 (some (.cells 6 [[.str b_.Name, .str b_.Value, cI b_.Origin, cB b_.Important, cI b_.Weight, cI b_.Place]]))) (n' := 2) rfl rfl (fun h => by cases h) ?_)
  refine un (a1 rfl ?_)
  refine dnil ?_
  refine Sv.seq ?_
  refine Sv.seq ?_
  refine Sv.drawn ?_
  refine un (a1 (v := (.agg [.str a_.Name, .str a_.Value, cI a_.Origin, cB a_.Important, cI a_.Weight, cI a_.Place])) rfl ?_)
  refine un (a1 (v := (.agg [.str b_.Name, .str b_.Value, cI b_.Origin, cB b_.Important, cI b_.Weight, cI b_.Place])) rfl ?_)
  refine un (ac_pure (clerestoryref2_Rank_ok (Γ := Γ) a_) rfl rfl rfl ?_)
  refine un (ac_pure (clerestoryref2_Rank_ok (Γ := Γ) b_) rfl rfl rfl ?_)
  refine un (a1 (v := (B (!decide ((clerestoryref2_Rank a_) = (clerestoryref2_Rank b_))))) rfl ?_)
  refine dnil ?_
  refine Sv.cond (b := (!decide ((clerestoryref2_Rank a_) = (clerestoryref2_Rank b_)))) rfl (fun hc1 => ?_) (fun hc1 => ?_)
  · replace h := ifT hc1 h
    refine Sv.seq ?_
    refine Sv.drawn ?_
    refine un (a1 (v := (.agg [.str a_.Name, .str a_.Value, cI a_.Origin, cB a_.Important, cI a_.Weight, cI a_.Place])) rfl ?_)
    refine un (a1 (v := (.agg [.str b_.Name, .str b_.Value, cI b_.Origin, cB b_.Important, cI b_.Weight, cI b_.Place])) rfl ?_)
    refine un (ac_pure (clerestoryref2_Rank_ok (Γ := Γ) a_) rfl rfl rfl ?_)
    refine un (ac_pure (clerestoryref2_Rank_ok (Γ := Γ) b_) rfl rfl rfl ?_)
    refine un (a1 (v := (B (decide ((clerestoryref2_Rank a_) < (clerestoryref2_Rank b_))))) rfl ?_)
    refine un (a1 rfl ?_)
    refine dnil ?_
    refine Sv.ret ?_
    subst h
    exact ⟨_, .refl _, _, rfl, ⟨upd (fun _ => none) 0 (some (B (decide ((clerestoryref2_Rank a_) < (clerestoryref2_Rank b_))))), (fun _ => none), 0⟩, (B (decide ((clerestoryref2_Rank a_) < (clerestoryref2_Rank b_)))), weak_canon [] rfl List.nodup_nil (Nat.le_refl _) (fun b h => absurd h (Nat.not_lt_zero _)) (.cons rfl (avAs_free rfl) .nil) .nil, rfl, rfl, rfl, rfl⟩
  · replace h := ifF hc1 h
    refine Sv.skip ?_
    refine Sv.seq ?_
    refine Sv.seq ?_
    refine Sv.region ?_
    refine un (a1 (v := (.c (.ref 0 6 0 4))) rfl ?_)
    refine un (a1 (v := (I a_.Weight)) rfl ?_)
    refine un (a1 (v := (.c (.ref 1 6 0 4))) rfl ?_)
    refine un (a1 (v := (I b_.Weight)) rfl ?_)
    refine un (a1 (v := (B (!decide (a_.Weight = b_.Weight)))) rfl ?_)
    refine dnil ?_
    refine Sv.cond (b := (!decide (a_.Weight = b_.Weight))) rfl (fun hc2 => ?_) (fun hc2 => ?_)
    · replace h := ifT hc2 h
      refine Sv.seq ?_
      refine Sv.region ?_
      refine un (a1 (v := (.c (.ref 0 6 0 4))) rfl ?_)
      refine un (a1 (v := (I a_.Weight)) rfl ?_)
      refine un (a1 (v := (.c (.ref 1 6 0 4))) rfl ?_)
      refine un (a1 (v := (I b_.Weight)) rfl ?_)
      refine un (a1 (v := (B (decide (a_.Weight < b_.Weight)))) rfl ?_)
      refine un (a1 rfl ?_)
      refine dnil ?_
      refine Sv.ret ?_
      subst h
      exact ⟨_, .refl _, _, rfl, ⟨upd (fun _ => none) 0 (some (B (decide (a_.Weight < b_.Weight)))), (fun _ => none), 0⟩, (B (decide (a_.Weight < b_.Weight))), weak_canon [] rfl List.nodup_nil (Nat.le_refl _) (fun b h => absurd h (Nat.not_lt_zero _)) (.cons rfl (avAs_free rfl) .nil) .nil, rfl, rfl, rfl, rfl⟩
    · replace h := ifF hc2 h
      refine Sv.skip ?_
      refine Sv.seq ?_
      refine Sv.region ?_
      refine un (a1 (v := (.c (.ref 0 6 0 5))) rfl ?_)
      refine un (a1 (v := (I a_.Place)) rfl ?_)
      refine un (a1 (v := (.c (.ref 1 6 0 5))) rfl ?_)
      refine un (a1 (v := (I b_.Place)) rfl ?_)
      refine un (a1 (v := (B (decide (a_.Place < b_.Place)))) rfl ?_)
      refine un (a1 rfl ?_)
      refine dnil ?_
      refine Sv.ret ?_
      subst h
      exact ⟨_, .refl _, _, rfl, ⟨upd (fun _ => none) 0 (some (B (decide (a_.Place < b_.Place)))), (fun _ => none), 0⟩, (B (decide (a_.Place < b_.Place))), weak_canon [] rfl List.nodup_nil (Nat.le_refl _) (fun b h => absurd h (Nat.not_lt_zero _)) (.cons rfl (avAs_free rfl) .nil) .nil, rfl, rfl, rfl, rfl⟩
end Go.Proofs.YtgfcmhomndofaaaBv
