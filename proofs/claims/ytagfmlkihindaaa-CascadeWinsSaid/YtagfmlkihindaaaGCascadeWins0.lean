/- Printed by a program of mine (bgen.py): plain functions, and the walks that show that the code comes to what they answer. -/
import Derived.Test.YtagfmlkihindaaaRows
import Derived.Test.YtagfmlkihindaaaBv22
import Derived.Test.YtagfmlkihindaaaBv35
namespace Go.Proofs.YtagfmlkihindaaaBv
open Go
set_option linter.unusedVariables false
set_option maxRecDepth 100000
theorem hmix : Try.prog.follows .mixedOrders = true := by kernel_rfl
structure TSGiven where
  Name : (List UInt8)
  Value : (List UInt8)
  Origin : Int
  Important : Bool
  Weight : Int
  Place : Int
def e_TSGiven (x : TSGiven) : List Cel := [.str x.Name, .str x.Value, cI x.Origin, cB x.Important, cI x.Weight, cI x.Place]

def a77 : AFunc := ⟨1, [(.tmp 2)], (.seq (.region [⟨(some 1), (.box (.tmp 0)), none⟩, ⟨(some 2), (.mov (.const (.c (.val (.int .i64 0))))), none⟩])
 (.seq (.seq (.region [⟨(some 3), (.faddr 3 (.tmp 1)), none⟩, ⟨(some 4), (.load false 1 (.tmp 3)), none⟩, ⟨(some 5), (.un .not (.tmp 4)), none⟩])
 (.cond (.tmp 5) (.seq (.region [⟨(some 6), (.faddr 2 (.tmp 1)), none⟩, ⟨(some 7), (.load false 1 (.tmp 6)), none⟩, ⟨(some 2), (.mov (.tmp 7)), none⟩])
 .ret) .skip))
 (.seq (.seq (.region [⟨(some 8), (.faddr 2 (.tmp 1)), none⟩, ⟨(some 9), (.load false 1 (.tmp 8)), none⟩])
 (.block 0 (.seq (.region [⟨(some 11), (.bin .eql (.tmp 9) (.const (.c (.val (.int .i64 1))))), none⟩, ⟨(some 10), (.mov (.tmp 11)), none⟩])
 (.cond (.tmp 10) (.seq (.region [⟨(some 2), (.mov (.const (.c (.val (.int .i64 3))))), none⟩])
 .ret) (.seq (.region [⟨(some 13), (.bin .eql (.tmp 9) (.const (.c (.val (.int .i64 2))))), none⟩, ⟨(some 12), (.mov (.tmp 13)), none⟩])
 (.cond (.tmp 12) (.seq (.region [⟨(some 2), (.mov (.const (.c (.val (.int .i64 4))))), none⟩])
 .ret) .skip))))))
 (.seq (.region [⟨(some 2), (.mov (.const (.c (.val (.int .i64 5))))), none⟩])
 .ret))))⟩
set_option maxRecDepth 100000 in
theorem c77 : compFunc Try.prog 77 = some a77 := by kernel_rfl
def cascade_rank_post (r : Int) : AV → Heap → Nat → Prop := fun v h' n' => v = (I r) ∧ (h' = (fun _ => none)) ∧ n' = 0
/-- clerestory/cascade.rank -/
def cascade_rank (g_ : TSGiven) : Int :=
  if (!g_.Important) then
    g_.Origin
  else
    if decide (g_.Origin = 1) then
      3
    else
      if decide (g_.Origin = 2) then
        4
      else
        5
theorem cascade_rank_ok {Γ : Glob} (g_ : TSGiven) : CPure Try.prog Γ 77 [(.agg [.str g_.Name, .str g_.Value, cI g_.Origin, cB g_.Important, cI g_.Weight, cI g_.Place])] (I (cascade_rank g_)) := by
  generalize h : cascade_rank g_ = o
  refine acalls_of_sv hmix c77 (R := cascade_rank_post o) ?_
  unfold cascade_rank at h
  refine Sv.seq ?_
  refine Sv.region ?_
  refine un (a2v (v := (.c (.ref 0 6 0 0))) (h' := upd _ 0 (some (.cells 6 [[.str g_.Name, .str g_.Value, cI g_.Origin, cB g_.Important, cI g_.Weight, cI g_.Place]]))) (n' := 1) rfl rfl (fun h => by cases h) ?_)
  refine un (a1 rfl ?_)
  refine dnil ?_
  refine Sv.seq ?_
  refine Sv.seq ?_
  refine Sv.region ?_
  refine un (a1 (v := (.c (.ref 0 6 0 3))) rfl ?_)
  refine un (a1 (v := (B g_.Important)) rfl ?_)
  refine un (a1 (v := (B (!g_.Important))) rfl ?_)
  refine dnil ?_
  refine Sv.cond (b := (!g_.Important)) rfl (fun hc1 => ?_) (fun hc1 => ?_)
  · replace h := ifT hc1 h
    refine Sv.seq ?_
    refine Sv.region ?_
    refine un (a1 (v := (.c (.ref 0 6 0 2))) rfl ?_)
    refine un (a1 (v := (I g_.Origin)) rfl ?_)
    refine un (a1 rfl ?_)
    refine dnil ?_
    refine Sv.ret ?_
    subst h
    exact ⟨_, .refl _, _, rfl, ⟨upd (fun _ => none) 0 (some (I g_.Origin)), (fun _ => none), 0⟩, (I g_.Origin), weak_canon [] rfl List.nodup_nil (Nat.le_refl _) (fun b h => absurd h (Nat.not_lt_zero _)) (.cons rfl (avAs_free rfl) .nil) .nil, rfl, rfl, rfl, rfl⟩
  · replace h := ifF hc1 h
    refine Sv.skip ?_
    refine Sv.seq ?_
    refine Sv.seq ?_
    refine Sv.region ?_
    refine un (a1 (v := (.c (.ref 0 6 0 2))) rfl ?_)
    refine un (a1 (v := (I g_.Origin)) rfl ?_)
    refine dnil ?_
    refine Sv.block ?_
    refine Sv.seq ?_
    refine Sv.region ?_
    refine un (a1 (v := (B (decide (g_.Origin = 1)))) rfl ?_)
    refine un (a1 rfl ?_)
    refine dnil ?_
    refine Sv.cond (b := decide (g_.Origin = 1)) rfl (fun hc2 => ?_) (fun hc2 => ?_)
    · replace h := ifT hc2 h
      refine Sv.seq ?_
      refine Sv.region ?_
      refine un (a1 rfl ?_)
      refine dnil ?_
      refine Sv.ret ?_
      subst h
      exact ⟨_, .refl _, _, rfl, ⟨upd (fun _ => none) 0 (some (I 3)), (fun _ => none), 0⟩, (I 3), weak_canon [] rfl List.nodup_nil (Nat.le_refl _) (fun b h => absurd h (Nat.not_lt_zero _)) (.cons rfl (avAs_free rfl) .nil) .nil, rfl, rfl, rfl, rfl⟩
    · replace h := ifF hc2 h
      refine Sv.seq ?_
      refine Sv.region ?_
      refine un (a1 (v := (B (decide (g_.Origin = 2)))) rfl ?_)
      refine un (a1 rfl ?_)
      refine dnil ?_
      refine Sv.cond (b := decide (g_.Origin = 2)) rfl (fun hc3 => ?_) (fun hc3 => ?_)
      · replace h := ifT hc3 h
        refine Sv.seq ?_
        refine Sv.region ?_
        refine un (a1 rfl ?_)
        refine dnil ?_
        refine Sv.ret ?_
        subst h
        exact ⟨_, .refl _, _, rfl, ⟨upd (fun _ => none) 0 (some (I 4)), (fun _ => none), 0⟩, (I 4), weak_canon [] rfl List.nodup_nil (Nat.le_refl _) (fun b h => absurd h (Nat.not_lt_zero _)) (.cons rfl (avAs_free rfl) .nil) .nil, rfl, rfl, rfl, rfl⟩
      · replace h := ifF hc3 h
        refine Sv.skip ?_
        refine Sv.seq ?_
        refine Sv.region ?_
        refine un (a1 rfl ?_)
        refine dnil ?_
        refine Sv.ret ?_
        subst h
        exact ⟨_, .refl _, _, rfl, ⟨upd (fun _ => none) 0 (some (I 5)), (fun _ => none), 0⟩, (I 5), weak_canon [] rfl List.nodup_nil (Nat.le_refl _) (fun b h => absurd h (Nat.not_lt_zero _)) (.cons rfl (avAs_free rfl) .nil) .nil, rfl, rfl, rfl, rfl⟩
def a100 : AFunc := ⟨1, [(.tmp 2)], (.seq (.region [⟨(some 2), (.mov (.const (.c (.val (.bool false))))), none⟩])
 (.seq (.region [⟨(some 3), (.mov (.tmp 0)), none⟩, ⟨(some 4), (.mov (.tmp 0)), none⟩, ⟨(some 5), (.bin .neq (.tmp 3) (.tmp 4)), none⟩, ⟨(some 2), (.mov (.tmp 5)), none⟩])
 .ret))⟩
set_option maxRecDepth 100000 in
theorem c100 : compFunc Try.prog 100 = some a100 := by kernel_rfl
def cmp_isNaN_int_post (r : Bool) : AV → Heap → Nat → Prop := fun v h' n' => v = (B r) ∧ (h' = (fun _ => none)) ∧ n' = 0
/-- cmp.isNaN(int) -/
def cmp_isNaN_int (x_ : Int) : Bool :=
  (!decide (x_ = x_))
theorem cmp_isNaN_int_ok {Γ : Glob} (x_ : Int) : CPure Try.prog Γ 100 [(I x_)] (B (cmp_isNaN_int x_)) := by
  generalize h : cmp_isNaN_int x_ = o
  refine acalls_of_sv hmix c100 (R := cmp_isNaN_int_post o) ?_
  unfold cmp_isNaN_int at h
  refine Sv.seq ?_
  refine Sv.region ?_
  refine un (a1 rfl ?_)
  refine dnil ?_
  refine Sv.seq ?_
  refine Sv.region ?_
  refine un (a1 rfl ?_)
  refine un (a1 rfl ?_)
  refine un (a1 (v := (B (!decide (x_ = x_)))) rfl ?_)
  refine un (a1 rfl ?_)
  refine dnil ?_
  refine Sv.ret ?_
  subst h
  exact ⟨_, .refl _, _, rfl, ⟨upd (fun _ => none) 0 (some (B (!decide (x_ = x_)))), (fun _ => none), 0⟩, (B (!decide (x_ = x_))), weak_canon [] rfl List.nodup_nil (Nat.le_refl _) (fun b h => absurd h (Nat.not_lt_zero _)) (.cons rfl (avAs_free rfl) .nil) .nil, rfl, rfl, rfl, rfl⟩
def a76 : AFunc := ⟨2, [(.tmp 4)], (.seq (.region [⟨(some 4), (.mov (.const (.c (.val (.int .i64 0))))), none⟩])
 (.seq (.region [⟨(some 7), (.mov (.tmp 0)), none⟩, ⟨(some 8), (.call 100 [(.tmp 7)]), none⟩, ⟨(some 5), (.mov (.tmp 8)), none⟩])
 (.seq (.region [⟨(some 9), (.mov (.tmp 1)), none⟩, ⟨(some 10), (.call 100 [(.tmp 9)]), none⟩, ⟨(some 6), (.mov (.tmp 10)), none⟩])
 (.seq (.seq (.region [⟨(some 11), (.mov (.tmp 5)), none⟩])
 (.cond (.tmp 11) (.seq (.seq (.region [⟨(some 12), (.mov (.tmp 6)), none⟩])
 (.cond (.tmp 12) (.seq (.region [⟨(some 4), (.mov (.const (.c (.val (.int .i64 0))))), none⟩])
 .ret) .skip))
 (.seq (.region [⟨(some 4), (.mov (.const (.c (.val (.int .i64 (-1)))))), none⟩])
 .ret)) .skip))
 (.seq (.seq (.region [⟨(some 13), (.mov (.tmp 6)), none⟩])
 (.cond (.tmp 13) (.seq (.region [⟨(some 4), (.mov (.const (.c (.val (.int .i64 1))))), none⟩])
 .ret) .skip))
 (.seq (.seq (.region [⟨(some 14), (.mov (.tmp 0)), none⟩, ⟨(some 15), (.mov (.tmp 1)), none⟩, ⟨(some 16), (.bin .lss (.tmp 14) (.tmp 15)), none⟩])
 (.cond (.tmp 16) (.seq (.region [⟨(some 4), (.mov (.const (.c (.val (.int .i64 (-1)))))), none⟩])
 .ret) .skip))
 (.seq (.seq (.region [⟨(some 17), (.mov (.tmp 0)), none⟩, ⟨(some 18), (.mov (.tmp 1)), none⟩, ⟨(some 19), (.bin .gtr (.tmp 17) (.tmp 18)), none⟩])
 (.cond (.tmp 19) (.seq (.region [⟨(some 4), (.mov (.const (.c (.val (.int .i64 1))))), none⟩])
 .ret) .skip))
 (.seq (.region [⟨(some 4), (.mov (.const (.c (.val (.int .i64 0))))), none⟩])
 .ret))))))))⟩
set_option maxRecDepth 100000 in
theorem c76 : compFunc Try.prog 76 = some a76 := by kernel_rfl
def cmp_Compare_int_post (r : Int) : AV → Heap → Nat → Prop := fun v h' n' => v = (I r) ∧ (h' = (fun _ => none)) ∧ n' = 0
/-- cmp.Compare(int) -/
def cmp_Compare_int (x_ : Int) (y_ : Int) : Int :=
  if (cmp_isNaN_int x_) then
    if (cmp_isNaN_int y_) then
      0
    else
      (-1)
  else
    if (cmp_isNaN_int y_) then
      1
    else
      if decide (x_ < y_) then
        (-1)
      else
        if decide (y_ < x_) then
          1
        else
          0
theorem cmp_Compare_int_ok {Γ : Glob} (x_ : Int) (y_ : Int) : CPure Try.prog Γ 76 [(I x_), (I y_)] (I (cmp_Compare_int x_ y_)) := by
  generalize h : cmp_Compare_int x_ y_ = o
  refine acalls_of_sv hmix c76 (R := cmp_Compare_int_post o) ?_
  unfold cmp_Compare_int at h
  refine Sv.seq ?_
  refine Sv.region ?_
  refine un (a1 rfl ?_)
  refine dnil ?_
  refine Sv.seq ?_
  refine Sv.region ?_
  refine un (a1 rfl ?_)
  refine un (ac_pure (cmp_isNaN_int_ok (Γ := Γ) x_) rfl rfl rfl ?_)
  refine un (a1 rfl ?_)
  refine dnil ?_
  refine Sv.seq ?_
  refine Sv.region ?_
  refine un (a1 rfl ?_)
  refine un (ac_pure (cmp_isNaN_int_ok (Γ := Γ) y_) rfl rfl rfl ?_)
  refine un (a1 rfl ?_)
  refine dnil ?_
  refine Sv.seq ?_
  refine Sv.seq ?_
  refine Sv.region ?_
  refine un (a1 rfl ?_)
  refine dnil ?_
  refine Sv.cond (b := (cmp_isNaN_int x_)) rfl (fun hc1 => ?_) (fun hc1 => ?_)
  · replace h := ifT hc1 h
    refine Sv.seq ?_
    refine Sv.seq ?_
    refine Sv.region ?_
    refine un (a1 rfl ?_)
    refine dnil ?_
    refine Sv.cond (b := (cmp_isNaN_int y_)) rfl (fun hc2 => ?_) (fun hc2 => ?_)
    · replace h := ifT hc2 h
      refine Sv.seq ?_
      refine Sv.region ?_
      refine un (a1 rfl ?_)
      refine dnil ?_
      refine Sv.ret ?_
      subst h
      exact ⟨_, .refl _, _, rfl, ⟨upd (fun _ => none) 0 (some (I 0)), (fun _ => none), 0⟩, (I 0), weak_canon [] rfl List.nodup_nil (Nat.le_refl _) (fun b h => absurd h (Nat.not_lt_zero _)) (.cons rfl (avAs_free rfl) .nil) .nil, rfl, rfl, rfl, rfl⟩
    · replace h := ifF hc2 h
      refine Sv.skip ?_
      refine Sv.seq ?_
      refine Sv.region ?_
      refine un (a1 rfl ?_)
      refine dnil ?_
      refine Sv.ret ?_
      subst h
      exact ⟨_, .refl _, _, rfl, ⟨upd (fun _ => none) 0 (some (I (-1))), (fun _ => none), 0⟩, (I (-1)), weak_canon [] rfl List.nodup_nil (Nat.le_refl _) (fun b h => absurd h (Nat.not_lt_zero _)) (.cons rfl (avAs_free rfl) .nil) .nil, rfl, rfl, rfl, rfl⟩
  · replace h := ifF hc1 h
    refine Sv.skip ?_
    refine Sv.seq ?_
    refine Sv.seq ?_
    refine Sv.region ?_
    refine un (a1 rfl ?_)
    refine dnil ?_
    refine Sv.cond (b := (cmp_isNaN_int y_)) rfl (fun hc3 => ?_) (fun hc3 => ?_)
    · replace h := ifT hc3 h
      refine Sv.seq ?_
      refine Sv.region ?_
      refine un (a1 rfl ?_)
      refine dnil ?_
      refine Sv.ret ?_
      subst h
      exact ⟨_, .refl _, _, rfl, ⟨upd (fun _ => none) 0 (some (I 1)), (fun _ => none), 0⟩, (I 1), weak_canon [] rfl List.nodup_nil (Nat.le_refl _) (fun b h => absurd h (Nat.not_lt_zero _)) (.cons rfl (avAs_free rfl) .nil) .nil, rfl, rfl, rfl, rfl⟩
    · replace h := ifF hc3 h
      refine Sv.skip ?_
      refine Sv.seq ?_
      refine Sv.seq ?_
      refine Sv.region ?_
      refine un (a1 rfl ?_)
      refine un (a1 rfl ?_)
      refine un (a1 (v := (B (decide (x_ < y_)))) rfl ?_)
      refine dnil ?_
      refine Sv.cond (b := decide (x_ < y_)) rfl (fun hc4 => ?_) (fun hc4 => ?_)
      · replace h := ifT hc4 h
        refine Sv.seq ?_
        refine Sv.region ?_
        refine un (a1 rfl ?_)
        refine dnil ?_
        refine Sv.ret ?_
        subst h
        exact ⟨_, .refl _, _, rfl, ⟨upd (fun _ => none) 0 (some (I (-1))), (fun _ => none), 0⟩, (I (-1)), weak_canon [] rfl List.nodup_nil (Nat.le_refl _) (fun b h => absurd h (Nat.not_lt_zero _)) (.cons rfl (avAs_free rfl) .nil) .nil, rfl, rfl, rfl, rfl⟩
      · replace h := ifF hc4 h
        refine Sv.skip ?_
        refine Sv.seq ?_
        refine Sv.seq ?_
        refine Sv.region ?_
        refine un (a1 rfl ?_)
        refine un (a1 rfl ?_)
        refine un (a1 (v := (B (decide (y_ < x_)))) rfl ?_)
        refine dnil ?_
        refine Sv.cond (b := decide (y_ < x_)) rfl (fun hc5 => ?_) (fun hc5 => ?_)
        · replace h := ifT hc5 h
          refine Sv.seq ?_
          refine Sv.region ?_
          refine un (a1 rfl ?_)
          refine dnil ?_
          refine Sv.ret ?_
          subst h
          exact ⟨_, .refl _, _, rfl, ⟨upd (fun _ => none) 0 (some (I 1)), (fun _ => none), 0⟩, (I 1), weak_canon [] rfl List.nodup_nil (Nat.le_refl _) (fun b h => absurd h (Nat.not_lt_zero _)) (.cons rfl (avAs_free rfl) .nil) .nil, rfl, rfl, rfl, rfl⟩
        · replace h := ifF hc5 h
          refine Sv.skip ?_
          refine Sv.seq ?_
          refine Sv.region ?_
          refine un (a1 rfl ?_)
          refine dnil ?_
          refine Sv.ret ?_
          subst h
          exact ⟨_, .refl _, _, rfl, ⟨upd (fun _ => none) 0 (some (I 0)), (fun _ => none), 0⟩, (I 0), weak_canon [] rfl List.nodup_nil (Nat.le_refl _) (fun b h => absurd h (Nat.not_lt_zero _)) (.cons rfl (avAs_free rfl) .nil) .nil, rfl, rfl, rfl, rfl⟩
def a75_c0 : ACode := (.seq (.region [⟨(some 9), (.bin .lss (.tmp 8) (.tmp 7)), none⟩])
 (.seq (.cond (.tmp 9) .skip (.exit 0))
 (.seq (.block 1 (.seq (.region [⟨(some 10), (.iaddr 1 (.tmp 6) (.tmp 8)), none⟩, ⟨(some 11), (.load false 1 (.tmp 10)), none⟩, ⟨(some 5), (.mov (.tmp 11)), none⟩])
 (.seq (.region [⟨(some 12), (.mov (.tmp 5)), none⟩, ⟨(some 13), (.mov (.tmp 3)), none⟩, ⟨(some 14), (.bin .neq (.tmp 12) (.tmp 13)), none⟩])
 (.cond (.tmp 14) (.seq (.region [⟨(some 15), (.mov (.tmp 5)), none⟩, ⟨(some 2), (.mov (.tmp 15)), none⟩])
 .ret) .skip))))
 (.region [⟨(some 16), (.bin .add (.tmp 8) (.const (.c (.val (.int .i64 1))))), none⟩, ⟨(some 8), (.mov (.tmp 16)), none⟩]))))
def a75 : AFunc := ⟨1, [(.tmp 2)], (.seq (.region [⟨(some 2), (.mov (.const (.c (.val (.int .i64 0))))), none⟩])
 (.seq (.region [⟨(some 3), (.mov (.const (.c (.val (.int .i64 0))))), none⟩])
 (.seq (.seq (.region [⟨(some 6), (.mov (.tmp 0)), none⟩, ⟨(some 7), (.len (.tmp 6)), none⟩, ⟨(some 8), (.mov (.const (.c (.val (.int .i64 0))))), none⟩])
 (.block 0 (.loop a75_c0)))
 (.seq (.region [⟨(some 17), (.mov (.tmp 3)), none⟩, ⟨(some 2), (.mov (.tmp 17)), none⟩])
 .ret))))⟩
set_option maxRecDepth 100000 in
theorem c75 : compFunc Try.prog 75 = some a75 := by kernel_rfl
def cmp_Or_int_post (r : Int) : AV → Heap → Nat → Prop := fun v h' n' => v = (I r) ∧ (h' = (fun _ => none)) ∧ n' = 0
noncomputable def cmp_Or_int_l0 (vals : (List Int)) (K0_ : Unit → Option Int) : Nat → Int → Option Int
  | 0, _ => none
  | k + 1, v8 =>
    if decide (v8 < (vals.length : Int)) then
      (at? vals v8).bind fun x_ =>
      if (!decide (x_ = 0)) then
        some x_
      else
        (cmp_Or_int_l0 vals K0_ k) (wi (v8 + 1))
    else
      K0_ ()
theorem cmp_Or_int_l0_ok {Γ : Glob} {Q : AExit → St → Prop} {vals : (List Int)} {K0_ : Unit → Option Int} {k : Nat} {v8 : Int} {o : Int} (h : cmp_Or_int_l0 vals K0_ k v8 = some o)
    (hK0 : ∀ (_ : Unit), K0_ () = some o → ∀ s, Weak 0 s ⟨(upd (fun _ => none) 3 (some (I 0))), (fun _ => none), 0⟩ → Q (.exit 0) s)
    (hr : ∀ s, Ends a75.results 0 (cmp_Or_int_post o) .ret s → Q .ret s) :
    Sv Try.prog Γ 0 (.loop a75_c0) Q ⟨(upd (upd (upd (upd (fun _ => none) 3 (some (I 0))) 6 (some (.c (.ro false 1 (vals.map eI))))) 7 (some (I (vals.length : Int)))) 8 (some (I v8))), (fun _ => none), 0⟩ := by
  refine Sv.loop (I := fun k s => ∃ (v8 : Int), cmp_Or_int_l0 vals K0_ k v8 = some o ∧ s = ⟨(upd (upd (upd (upd (fun _ => none) 3 (some (I 0))) 6 (some (.c (.ro false 1 (vals.map eI))))) 7 (some (I (vals.length : Int)))) 8 (some (I v8))), (fun _ => none), 0⟩) (fun k s hI => ?_) ⟨v8, h, rfl⟩
  clear h
  clear v8
  obtain ⟨v8, h, rfl⟩ := hI
  cases k with
  | zero => cases h
  | succ k =>
  rw [cmp_Or_int_l0] at h
  have hself : ∀ (v8 : Int), (cmp_Or_int_l0 vals K0_ k) v8 = some o → ∀ s, Weak 0 s ⟨(upd (upd (upd (upd (fun _ => none) 3 (some (I 0))) 6 (some (.c (.ro false 1 (vals.map eI))))) 7 (some (I (vals.length : Int)))) 8 (some (I v8))), (fun _ => none), 0⟩ → (AThen (fun s' => ∃ s'' k', Weak 0 s' s'' ∧ k' < k + 1 ∧ (fun k s => ∃ (v8 : Int), cmp_Or_int_l0 vals K0_ k v8 = some o ∧ s = ⟨(upd (upd (upd (upd (fun _ => none) 3 (some (I 0))) 6 (some (.c (.ro false 1 (vals.map eI))))) 7 (some (I (vals.length : Int)))) 8 (some (I v8))), (fun _ => none), 0⟩) k' s'') Q) .normal s := fun v8 h s hw => ⟨_, k, hw, Nat.lt_succ_self k, v8, h, rfl⟩
  refine Sv.seq ?_
  refine Sv.region ?_
  refine un (a1 (v := (B (decide (v8 < (vals.length : Int))))) rfl ?_)
  refine dnil ?_
  refine Sv.seq ?_
  refine Sv.cond (b := decide (v8 < (vals.length : Int))) rfl (fun hc1 => ?_) (fun hc1 => ?_)
  · replace h := ifT hc1 h
    refine Sv.skip ?_
    refine Sv.seq ?_
    refine Sv.block ?_
    refine Sv.seq ?_
    refine Sv.region ?_
    obtain ⟨x_, hx1, h⟩ := bnd h
    refine un (a1 (v := (.c (.rop [cI x_]))) (s_iaddr (e := eI) (xs := vals) rfl rfl hx1) ?_)
    refine un (a1 (v := (I x_)) rfl ?_)
    refine un (a1 rfl ?_)
    refine dnil ?_
    refine Sv.seq ?_
    refine Sv.region ?_
    refine un (a1 rfl ?_)
    refine un (a1 rfl ?_)
    refine un (a1 (v := (B (!decide (x_ = 0)))) rfl ?_)
    refine dnil ?_
    refine Sv.cond (b := (!decide (x_ = 0))) rfl (fun hc2 => ?_) (fun hc2 => ?_)
    · replace h := ifT hc2 h
      refine Sv.seq ?_
      refine Sv.region ?_
      refine un (a1 rfl ?_)
      refine un (a1 rfl ?_)
      refine dnil ?_
      refine Sv.ret ?_
      replace h := Option.some.inj h
      subst h
      exact hr _ ⟨_, .refl _, _, rfl, ⟨upd (fun _ => none) 0 (some (I x_)), (fun _ => none), 0⟩, (I x_), weak_canon [] rfl List.nodup_nil (Nat.le_refl _) (fun b h => absurd h (Nat.not_lt_zero _)) (.cons rfl (avAs_free rfl) .nil) .nil, rfl, rfl, rfl, rfl⟩
    · replace h := ifF hc2 h
      refine Sv.skip ?_
      refine Sv.region ?_
      refine un (a1 (v := (I (wi (v8 + 1)))) rfl ?_)
      refine un (a1 rfl ?_)
      refine dnil ?_
      exact hself (wi (v8 + 1)) h _ (weak_canon [] rfl (by decide) (by decide) (fun b h => absurd h (Nat.not_lt_zero _)) (.cons rfl (avAs_free rfl) (.cons rfl (avAs_free rfl) (.cons rfl (avAs_free rfl) (.cons rfl (avAs_free rfl) .nil)))) .nil)
  · replace h := ifF hc1 h
    refine Sv.exit ?_
    exact hK0 () h _ (weak_canon [] rfl (by decide) (by decide) (fun b h => absurd h (Nat.not_lt_zero _)) (.cons rfl (avAs_free rfl) .nil) .nil)
/-- cmp.Or(int) -/
noncomputable def cmp_Or_int (vals : (List Int)) : Option Int :=
  lim fun kk => cmp_Or_int_l0 vals (fun (_ : Unit) => 
      some 0) kk 0
theorem cmp_Or_int_ok {Γ : Glob} {vals : (List Int)} {r : Int} (h : cmp_Or_int vals = some r) : CPure Try.prog Γ 75 [(.c (.ro false 1 (vals.map eI)))] (I r) := by
  refine acalls_of_sv hmix c75 (R := cmp_Or_int_post r) ?_
  unfold cmp_Or_int at h
  refine Sv.seq ?_
  refine Sv.region ?_
  refine un (a1 rfl ?_)
  refine dnil ?_
  refine Sv.seq ?_
  refine Sv.region ?_
  refine un (a1 rfl ?_)
  refine dnil ?_
  refine Sv.seq ?_
  refine Sv.seq ?_
  refine Sv.region ?_
  refine un (a1 rfl ?_)
  refine un (a1 (v := (I (vals.length : Int))) (s_len (e := eI) (xs := vals) rfl) ?_)
  refine un (a1 rfl ?_)
  refine dnil ?_
  refine Sv.block ?_
  obtain ⟨kk, h⟩ := lim_some h
  refine Sv.weak (weak_canon [] rfl (by decide) (by decide) (fun b h => absurd h (Nat.not_lt_zero _)) (.cons rfl (avAs_free rfl) (.cons rfl (avAs_free rfl) (.cons rfl (avAs_free rfl) (.cons rfl (avAs_free rfl) .nil)))) .nil) (cmp_Or_int_l0_ok h ?_ (fun s hs => hs))
  · intro _ h _ hw1
    refine Sv.weak hw1 ?_
    refine Sv.seq ?_
    refine Sv.region ?_
    refine un (a1 rfl ?_)
    refine un (a1 rfl ?_)
    refine dnil ?_
    refine Sv.ret ?_
    replace h := Option.some.inj h
    subst h
    exact ⟨_, .refl _, _, rfl, ⟨upd (fun _ => none) 0 (some (I 0)), (fun _ => none), 0⟩, (I 0), weak_canon [] rfl List.nodup_nil (Nat.le_refl _) (fun b h => absurd h (Nat.not_lt_zero _)) (.cons rfl (avAs_free rfl) .nil) .nil, rfl, rfl, rfl, rfl⟩
def a39 : AFunc := ⟨2, [(.tmp 4)], (.seq (.region [⟨(some 2), (.box (.tmp 0)), none⟩, ⟨(some 3), (.box (.tmp 1)), none⟩, ⟨(some 4), (.mov (.const (.c (.val (.int .i64 0))))), none⟩])
 (.seq (.drawn (.fin [(⟨(some 5), (.load true 6 (.tmp 2)), none⟩, (0, 0)), (⟨(some 7), (.load true 6 (.tmp 3)), none⟩, (0, 2)), (⟨(some 10), (.faddr 4 (.tmp 2)), none⟩, (0, 5)), (⟨(some 11), (.load false 1 (.tmp 10)), none⟩, (0, 6)), (⟨(some 12), (.faddr 4 (.tmp 3)), none⟩, (0, 7)), (⟨(some 13), (.load false 1 (.tmp 12)), none⟩, (0, 8)), (⟨(some 15), (.faddr 5 (.tmp 2)), none⟩, (0, 10)), (⟨(some 16), (.load false 1 (.tmp 15)), none⟩, (0, 11)), (⟨(some 17), (.faddr 5 (.tmp 3)), none⟩, (0, 12)), (⟨(some 18), (.load false 1 (.tmp 17)), none⟩, (0, 13)), (⟨(some 6), (.call 77 [(.tmp 5)]), none⟩, (1, 1)), (⟨(some 8), (.call 77 [(.tmp 7)]), none⟩, (1, 3)), (⟨(some 9), (.call 76 [(.tmp 6), (.tmp 8)]), none⟩, (1, 4)), (⟨(some 14), (.call 76 [(.tmp 11), (.tmp 13)]), none⟩, (1, 9)), (⟨(some 19), (.call 76 [(.tmp 16), (.tmp 18)]), none⟩, (2, 14)), (⟨(some 20), (.bslice 1 [(.val (.int .i64 0))] 3 [(0, (.tmp 9)), (1, (.tmp 14)), (2, (.tmp 19))]), none⟩, (2, 15)), (⟨(some 21), (.call 75 [(.tmp 20)]), none⟩, (2, 16)), (⟨(some 4), (.mov (.tmp 21)), none⟩, (0, 17))]))
 .ret))⟩
set_option maxRecDepth 100000 in
theorem c39 : compFunc Try.prog 39 = some a39 := by kernel_rfl
def cascade_compare_post (r : Int) : AV → Heap → Nat → Prop := fun v h' n' => v = (I r) ∧ (h' = (fun _ => none)) ∧ n' = 0
/-- clerestory/cascade.compare -/
noncomputable def cascade_compare (a_ : TSGiven) (b_ : TSGiven) : Option Int :=
  letIn [(cmp_Compare_int (cascade_rank a_) (cascade_rank b_)), (cmp_Compare_int a_.Weight b_.Weight), (cmp_Compare_int a_.Place b_.Place)] fun row : List Int =>
  (cmp_Or_int row).bind fun r_ =>
  some r_
theorem cascade_compare_ok {Γ : Glob} {a_ : TSGiven} {b_ : TSGiven} {r : Int} (h : cascade_compare a_ b_ = some r) : CPure Try.prog Γ 39 [(.agg [.str a_.Name, .str a_.Value, cI a_.Origin, cB a_.Important, cI a_.Weight, cI a_.Place]), (.agg [.str b_.Name, .str b_.Value, cI b_.Origin, cB b_.Important, cI b_.Weight, cI b_.Place])] (I r) := by
  refine acalls_of_sv hmix c39 (R := cascade_compare_post r) ?_
  unfold cascade_compare at h
  refine Sv.seq ?_
  refine Sv.region ?_
  refine un (a2v (v := (.c (.ref 0 6 0 0))) (h' := upd _ 0 (some (.cells 6 [[.str a_.Name, .str a_.Value, cI a_.Origin, cB a_.Important, cI a_.Weight, cI a_.Place]]))) (n' := 1) rfl rfl (fun h => by cases h) ?_)
  refine un (a2v (v := (.c (.ref 1 6 0 0))) (h' := upd _ 1 (some (.cells 6 [[.str b_.Name, .str b_.Value, cI b_.Origin, cB b_.Important, cI b_.Weight, cI b_.Place]]))) (n' := 2) rfl rfl (fun h => by cases h) ?_)
  refine un (a1 rfl ?_)
  refine dnil ?_
  refine Sv.seq ?_
  refine Sv.drawn ?_
  refine un (a1 (v := (.agg [.str a_.Name, .str a_.Value, cI a_.Origin, cB a_.Important, cI a_.Weight, cI a_.Place])) rfl ?_)
  refine un (a1 (v := (.agg [.str b_.Name, .str b_.Value, cI b_.Origin, cB b_.Important, cI b_.Weight, cI b_.Place])) rfl ?_)
  refine un (a1 (v := (.c (.ref 0 6 0 4))) rfl ?_)
  refine un (a1 (v := (I a_.Weight)) rfl ?_)
  refine un (a1 (v := (.c (.ref 1 6 0 4))) rfl ?_)
  refine un (a1 (v := (I b_.Weight)) rfl ?_)
  refine un (a1 (v := (.c (.ref 0 6 0 5))) rfl ?_)
  refine un (a1 (v := (I a_.Place)) rfl ?_)
  refine un (a1 (v := (.c (.ref 1 6 0 5))) rfl ?_)
  refine un (a1 (v := (I b_.Place)) rfl ?_)
  refine un (ac_pure (cascade_rank_ok (Γ := Γ) a_) rfl rfl rfl ?_)
  refine un (ac_pure (cascade_rank_ok (Γ := Γ) b_) rfl rfl rfl ?_)
  refine un (ac_pure (cmp_Compare_int_ok (Γ := Γ) (cascade_rank a_) (cascade_rank b_)) rfl rfl rfl ?_)
  refine un (ac_pure (cmp_Compare_int_ok (Γ := Γ) a_.Weight b_.Weight) rfl rfl rfl ?_)
  refine un (ac_pure (cmp_Compare_int_ok (Γ := Γ) a_.Place b_.Place) rfl rfl rfl ?_)
  obtain ⟨row, hrow⟩ : ∃ row : List Int, row = [(cmp_Compare_int (cascade_rank a_) (cascade_rank b_)), (cmp_Compare_int a_.Weight b_.Weight), (cmp_Compare_int a_.Place b_.Place)] := ⟨_, rfl⟩
  replace h := letAt hrow h
  refine un (a2v (v := (lstV false 2 1 row.length)) (h' := upd _ 2 (lstB false 1 (row.map eI))) (n' := 3) rfl (by rw [hrow]; rfl) (fun h => by cases h) ?_)
  clear hrow
  obtain ⟨r_, hr1, h⟩ := bnd h
  refine un (ac_lend (h2 := (upd _ 2 none)) (cmp_Or_int_ok hr1) rfl (.cons (.c (lstC_ro (es := List.map eI row) rfl (List.length_map eI).symm (map_nil_of (fun h => by cases h)) (gone rfl) (fr_map fun _ => rfl))) .nil) (hsub_none (hsub_refl _)) rfl rfl (.inr rfl) ?_)
  refine un (a1 rfl ?_)
  refine dnil ?_
  refine Sv.ret ?_
  replace h := Option.some.inj h
  subst h
  exact ⟨_, .refl _, _, rfl, ⟨upd (fun _ => none) 0 (some (I r_)), (fun _ => none), 0⟩, (I r_), weak_canon [] rfl List.nodup_nil (Nat.le_refl _) (fun b h => absurd h (Nat.not_lt_zero _)) (.cons rfl (avAs_free rfl) .nil) .nil, rfl, rfl, rfl, rfl⟩
def a38 : AFunc := ⟨2, [(.tmp 4)], (.seq (.region [⟨(some 2), (.box (.tmp 0)), none⟩, ⟨(some 3), (.box (.tmp 1)), none⟩, ⟨(some 4), (.mov (.const (.c (.val (.bool false))))), none⟩])
 (.seq (.region [⟨(some 5), (.load true 6 (.tmp 2)), none⟩, ⟨(some 6), (.load true 6 (.tmp 3)), none⟩, ⟨(some 7), (.call 39 [(.tmp 5), (.tmp 6)]), none⟩, ⟨(some 8), (.bin .lss (.tmp 7) (.const (.c (.val (.int .i64 0))))), none⟩, ⟨(some 4), (.mov (.tmp 8)), none⟩])
 .ret))⟩
set_option maxRecDepth 100000 in
theorem c38 : compFunc Try.prog 38 = some a38 := by kernel_rfl
def cascade_Less_post (r : Bool) : AV → Heap → Nat → Prop := fun v h' n' => v = (B r) ∧ (h' = (fun _ => none)) ∧ n' = 0
/-- clerestory/cascade.Less -/
noncomputable def cascade_Less (a_ : TSGiven) (b_ : TSGiven) : Option Bool :=
  (cascade_compare a_ b_).bind fun r_ =>
  some (decide (r_ < 0))
theorem cascade_Less_ok {Γ : Glob} {a_ : TSGiven} {b_ : TSGiven} {r : Bool} (h : cascade_Less a_ b_ = some r) : CPure Try.prog Γ 38 [(.agg [.str a_.Name, .str a_.Value, cI a_.Origin, cB a_.Important, cI a_.Weight, cI a_.Place]), (.agg [.str b_.Name, .str b_.Value, cI b_.Origin, cB b_.Important, cI b_.Weight, cI b_.Place])] (B r) := by
  refine acalls_of_sv hmix c38 (R := cascade_Less_post r) ?_
  unfold cascade_Less at h
  refine Sv.seq ?_
  refine Sv.region ?_
  refine un (a2v (v := (.c (.ref 0 6 0 0))) (h' := upd _ 0 (some (.cells 6 [[.str a_.Name, .str a_.Value, cI a_.Origin, cB a_.Important, cI a_.Weight, cI a_.Place]]))) (n' := 1) rfl rfl (fun h => by cases h) ?_)
  refine un (a2v (v := (.c (.ref 1 6 0 0))) (h' := upd _ 1 (some (.cells 6 [[.str b_.Name, .str b_.Value, cI b_.Origin, cB b_.Important, cI b_.Weight, cI b_.Place]]))) (n' := 2) rfl rfl (fun h => by cases h) ?_)
  refine un (a1 rfl ?_)
  refine dnil ?_
  refine Sv.seq ?_
  refine Sv.region ?_
  refine un (a1 (v := (.agg [.str a_.Name, .str a_.Value, cI a_.Origin, cB a_.Important, cI a_.Weight, cI a_.Place])) rfl ?_)
  refine un (a1 (v := (.agg [.str b_.Name, .str b_.Value, cI b_.Origin, cB b_.Important, cI b_.Weight, cI b_.Place])) rfl ?_)
  obtain ⟨r_, hr1, h⟩ := bnd h
  refine un (ac_pure (cascade_compare_ok hr1) rfl rfl rfl ?_)
  refine un (a1 (v := (B (decide (r_ < 0)))) rfl ?_)
  refine un (a1 rfl ?_)
  refine dnil ?_
  refine Sv.ret ?_
  replace h := Option.some.inj h
  subst h
  exact ⟨_, .refl _, _, rfl, ⟨upd (fun _ => none) 0 (some (B (decide (r_ < 0)))), (fun _ => none), 0⟩, (B (decide (r_ < 0))), weak_canon [] rfl List.nodup_nil (Nat.le_refl _) (fun b h => absurd h (Nat.not_lt_zero _)) (.cons rfl (avAs_free rfl) .nil) .nil, rfl, rfl, rfl, rfl⟩
def a8_c0 : ACode := .ret
def a8 : AFunc := ⟨0, [(.tmp 0)], (.seq (.region [⟨(some 0), (.mov (.const (.c (.val (.bool false))))), none⟩])
 (.seq (.region [⟨(some 1), (.build [(.str []), (.str []), (.val (.int .i64 0)), (.val (.bool false)), (.val (.int .i64 0)), (.val (.int .i64 0))] [(2, (1, (.const (.c (.val (.int .i64 1))))))]), none⟩, ⟨(some 2), (.build [(.str []), (.str []), (.val (.int .i64 0)), (.val (.bool false)), (.val (.int .i64 0)), (.val (.int .i64 0))] [(2, (1, (.const (.c (.val (.int .i64 2))))))]), none⟩, ⟨(some 3), (.call 38 [(.tmp 1), (.tmp 2)]), none⟩, ⟨(some 4), (.mov (.tmp 3)), none⟩, ⟨(some 5), (.build [(.str []), (.str []), (.val (.int .i64 0)), (.val (.bool false)), (.val (.int .i64 0)), (.val (.int .i64 0))] [(2, (1, (.const (.c (.val (.int .i64 1)))))), (3, (1, (.const (.c (.val (.bool true))))))]), (some (4, true))⟩, ⟨(some 6), (.build [(.str []), (.str []), (.val (.int .i64 0)), (.val (.bool false)), (.val (.int .i64 0)), (.val (.int .i64 0))] [(2, (1, (.const (.c (.val (.int .i64 2))))))]), (some (4, true))⟩, ⟨(some 7), (.call 38 [(.tmp 5), (.tmp 6)]), (some (4, true))⟩, ⟨(some 8), (.un .not (.tmp 7)), (some (4, true))⟩, ⟨(some 9), (.pick (.tmp 4) (.tmp 8) (.const (.c (.val (.bool false))))), none⟩, ⟨(some 0), (.mov (.tmp 9)), none⟩])
 a8_c0))⟩
set_option maxRecDepth 100000 in
theorem c8 : compFunc Try.prog 8 = some a8 := by kernel_rfl
def clerestorylaw2_own_post (r : Bool) : AV → Heap → Nat → Prop := fun v h' n' => v = (B r) ∧ (h' = (fun _ => none)) ∧ n' = 0
noncomputable def clerestorylaw2_own_j1 (v0 : Bool) : Option Bool :=
  some v0
theorem clerestorylaw2_own_j1_ok {Γ : Glob} {v0 : Bool} {o : Bool} (h : clerestorylaw2_own_j1 v0 = some o) :
    Sv Try.prog Γ 0 a8_c0 (Ends a8.results 0 (clerestorylaw2_own_post o)) ⟨(upd (fun _ => none) 0 (some (B v0))), (fun _ => none), 0⟩ := by
  unfold clerestorylaw2_own_j1 at h
  refine Sv.ret ?_
  replace h := Option.some.inj h
  subst h
  exact ⟨_, .refl _, _, rfl, ⟨upd (fun _ => none) 0 (some (B v0)), (fun _ => none), 0⟩, (B v0), weak_canon [] rfl List.nodup_nil (Nat.le_refl _) (fun b h => absurd h (Nat.not_lt_zero _)) (.cons rfl (avAs_free rfl) .nil) .nil, rfl, rfl, rfl, rfl⟩
/-- clerestory/clerestorylaw2.own -/
noncomputable def clerestorylaw2_own : Option Bool :=
  (cascade_Less (⟨[], [], 1, false, 0, 0⟩ : TSGiven) (⟨[], [], 2, false, 0, 0⟩ : TSGiven)).bind fun r_ =>
  if r_ then
    (cascade_Less (⟨[], [], 1, true, 0, 0⟩ : TSGiven) (⟨[], [], 2, false, 0, 0⟩ : TSGiven)).bind fun r_1 =>
    clerestorylaw2_own_j1 (!r_1)
  else
    clerestorylaw2_own_j1 false
theorem clerestorylaw2_own_ok {Γ : Glob} {r : Bool} (h : clerestorylaw2_own = some r) : CPure Try.prog Γ 8 [] (B r) := by
  refine acalls_of_sv hmix c8 (R := clerestorylaw2_own_post r) ?_
  unfold clerestorylaw2_own at h
  refine Sv.seq ?_
  refine Sv.region ?_
  refine un (a1 rfl ?_)
  refine dnil ?_
  refine Sv.seq ?_
  refine Sv.region ?_
  refine un (a1 (v := (.agg [.str [], .str [], cI 1, cB false, cI 0, cI 0])) rfl ?_)
  refine un (a1 (v := (.agg [.str [], .str [], cI 2, cB false, cI 0, cI 0])) rfl ?_)
  obtain ⟨r_, hr1, h⟩ := bnd h
  refine un (ac_pure (cascade_Less_ok hr1) rfl rfl rfl ?_)
  refine un (a1 rfl ?_)
  refine split2 (fun hc1 => ?_) (fun hc1 => ?_)
  · replace h := ifT hc1 h
    refine gt rfl (a1 (v := (.agg [.str [], .str [], cI 1, cB true, cI 0, cI 0])) rfl ?_)
    refine gt rfl (a1 (v := (.agg [.str [], .str [], cI 2, cB false, cI 0, cI 0])) rfl ?_)
    obtain ⟨r_1, hr2, h⟩ := bnd h
    refine gt rfl (ac_pure (cascade_Less_ok hr2) rfl rfl rfl ?_)
    refine gt rfl (a1 (v := (B (!r_1))) rfl ?_)
    refine un (a1 (v := (B (!r_1))) rfl ?_)
    refine un (a1 rfl ?_)
    refine dnil ?_
    exact Sv.weak (weak_canon [] rfl (by decide) (by decide) (fun b h => absurd h (Nat.not_lt_zero _)) (.cons rfl (avAs_free rfl) .nil) .nil) (clerestorylaw2_own_j1_ok h)
  · replace h := ifF hc1 h
    refine gs rfl rfl ?_
    refine gs rfl rfl ?_
    refine gs rfl rfl ?_
    refine gs rfl rfl ?_
    refine un (a1 (v := (B false)) rfl ?_)
    refine un (a1 rfl ?_)
    refine dnil ?_
    exact Sv.weak (weak_canon [] rfl (by decide) (by decide) (fun b h => absurd h (Nat.not_lt_zero _)) (.cons rfl (avAs_free rfl) .nil) .nil) (clerestorylaw2_own_j1_ok h)
def a9_c0 : ACode := (.region [⟨(some 47), (.bin .add (.tmp 12) (.const (.c (.val (.int .i64 1))))), none⟩, ⟨(some 12), (.mov (.tmp 47)), none⟩])
def a9_c1 : ACode := (.seq (.region [⟨(some 13), (.bin .lss (.tmp 12) (.tmp 11)), none⟩])
 (.seq (.cond (.tmp 13) .skip (.exit 0))
 (.seq (.block 1 (.seq (.region [⟨(some 14), (.iaddr 6 (.tmp 10) (.tmp 12)), none⟩, ⟨(some 15), (.load true 6 (.tmp 14)), none⟩, ⟨(some 6), (.box (.const (.agg [(.str []), (.str []), (.val (.int .i64 0)), (.val (.bool false)), (.val (.int .i64 0)), (.val (.int .i64 0))]))), none⟩, ⟨none, (.store 6 (.tmp 6) (.tmp 15)), none⟩])
 (.seq (.region [⟨(some 17), (.mov (.tmp 3)), none⟩, ⟨(some 18), (.faddr 0 (.tmp 6)), none⟩, ⟨(some 19), (.load false 1 (.tmp 18)), none⟩, ⟨(some 20), (.mlook .s (.c (.val (.int .i64 0))) true (.tmp 17) (.tmp 19)), none⟩, ⟨(some 16), (.mov (.tmp 20)), none⟩, ⟨(some 21), (.ext (.tmp 16) 0), none⟩, ⟨(some 22), (.ext (.tmp 16) 1), none⟩, ⟨(some 7), (.mov (.tmp 21)), none⟩, ⟨(some 8), (.mov (.tmp 22)), none⟩])
 (.block 2 (.seq (.region [⟨(some 24), (.mov (.tmp 8)), none⟩, ⟨(some 25), (.un .not (.tmp 24)), none⟩, ⟨(some 23), (.mov (.tmp 25)), none⟩])
 (.cond (.tmp 23) (.seq (.region [⟨(some 26), (.mov (.tmp 3)), none⟩, ⟨(some 27), (.faddr 0 (.tmp 6)), none⟩, ⟨(some 28), (.load false 1 (.tmp 27)), none⟩, ⟨(some 29), (.mov (.tmp 4)), none⟩, ⟨(some 30), (.len (.tmp 29)), none⟩, ⟨none, (.mput .s (.tmp 26) (.tmp 28) (.tmp 30)), none⟩])
 (.region [⟨(some 31), (.mov (.tmp 4)), none⟩, ⟨(some 32), (.load true 6 (.tmp 6)), none⟩, ⟨(some 33), (.bslice 6 [(.str []), (.str []), (.val (.int .i64 0)), (.val (.bool false)), (.val (.int .i64 0)), (.val (.int .i64 0))] 1 [(0, (.tmp 32))]), none⟩, ⟨(some 34), (.app 6 64 (.tmp 31) (.tmp 33)), none⟩, ⟨(some 4), (.mov (.tmp 34)), none⟩])) (.seq (.drawn (.fin [(⟨(some 36), (.load true 6 (.tmp 6)), none⟩, (0, 0)), (⟨(some 37), (.mov (.tmp 4)), none⟩, (0, 1)), (⟨(some 38), (.mov (.tmp 7)), none⟩, (0, 2)), (⟨(some 39), (.iaddr 6 (.tmp 37) (.tmp 38)), none⟩, (0, 3)), (⟨(some 40), (.load true 6 (.tmp 39)), none⟩, (0, 4)), (⟨(some 41), (.call 39 [(.tmp 36), (.tmp 40)]), none⟩, (2, 5)), (⟨(some 42), (.bin .geq (.tmp 41) (.const (.c (.val (.int .i64 0))))), none⟩, (0, 6)), (⟨(some 35), (.mov (.tmp 42)), none⟩, (0, 7))]))
 (.cond (.tmp 35) (.region [⟨(some 43), (.mov (.tmp 4)), none⟩, ⟨(some 44), (.mov (.tmp 7)), none⟩, ⟨(some 45), (.load true 6 (.tmp 6)), none⟩, ⟨(some 46), (.iaddr 6 (.tmp 43) (.tmp 44)), none⟩, ⟨none, (.store 6 (.tmp 46) (.tmp 45)), none⟩]) .skip))))))))
 a9_c0)))
def a9 : AFunc := ⟨1, [(.tmp 2)], (.seq (.region [⟨(some 2), (.mov (.const (.c (.ro true 6 [])))), none⟩])
 (.seq (.region [⟨(some 9), (.mkmap .s), none⟩, ⟨(some 3), (.mov (.tmp 9)), none⟩])
 (.seq (.region [⟨(some 4), (.mov (.const (.c (.ro true 6 [])))), none⟩])
 (.seq (.seq (.region [⟨(some 10), (.mov (.tmp 0)), none⟩, ⟨(some 11), (.len (.tmp 10)), none⟩, ⟨(some 12), (.mov (.const (.c (.val (.int .i64 0))))), none⟩])
 (.block 0 (.loop a9_c1)))
 (.seq (.region [⟨(some 48), (.mov (.tmp 4)), none⟩, ⟨(some 2), (.mov (.tmp 48)), none⟩])
 .ret)))))⟩
set_option maxRecDepth 100000 in
theorem c9 : compFunc Try.prog 9 = some a9 := by kernel_rfl
def cascade_Win_post (r : (List TSGiven)) : AV → Heap → Nat → Prop := fun v h' n' => ∃ z0 : Bool, (z0 = true → r = []) ∧ v = (lstV z0 0 6 r.length) ∧ (h' = (upd (fun _ => none) 0 (lstB z0 6 (r.map e_TSGiven)))) ∧ n' = 1
noncomputable def cascade_Win_j2 (v12 : Int) (l_ : (List TSGiven)) (self : (List ((List UInt8) × Int)) → (List TSGiven) → Int → Option (List TSGiven)) (K0_ : (List TSGiven) → Option (List TSGiven)) (at_1 : (List ((List UInt8) × Int))) (out2 : (List TSGiven)) : Option (List TSGiven) :=
  self at_1 out2 (wi (v12 + 1))
theorem cascade_Win_j2_ok {Γ : Glob} {Q : AExit → St → Prop} {v12 : Int} {l_ : (List TSGiven)} {self : (List ((List UInt8) × Int)) → (List TSGiven) → Int → Option (List TSGiven)} {K0_ : (List TSGiven) → Option (List TSGiven)} {at_1 : (List ((List UInt8) × Int))} {out2 : (List TSGiven)} {zout2 : Bool} (hzout2 : zout2 = true → out2 = []) {o : (List TSGiven)} (h : cascade_Win_j2 v12 l_ self K0_ at_1 out2 = some o)
    (hself : ∀ (at_ : (List ((List UInt8) × Int))) (out : (List TSGiven)) (v12 : Int) (zout : Bool) (_ : zout = true → out = []), self at_ out v12 = some o → ∀ s, Weak 0 s ⟨(upd (upd (upd (upd (upd (fun _ => none) 3 (some (.c (.mp 0)))) 4 (some (lstV zout 1 6 out.length))) 10 (some (.c (.ro false 6 (l_.map e_TSGiven))))) 11 (some (I (l_.length : Int)))) 12 (some (I v12))), (upd (upd (fun _ => none) 0 (mapB .s (fun x => .str x) (fun (x : Int) => (I x)) at_)) 1 (lstB zout 6 (out.map e_TSGiven))), 2⟩ → (Q) .normal s)
    (hK0 : ∀ (out1 : (List TSGiven)) (zout1 : Bool) (_ : zout1 = true → out1 = []), K0_ out1 = some o → ∀ s, Weak 0 s ⟨(upd (fun _ => none) 4 (some (lstV zout1 0 6 out1.length))), (upd (fun _ => none) 0 (lstB zout1 6 (out1.map e_TSGiven))), 1⟩ → Q (.exit 0) s)
    (hr : ∀ s, Ends a9.results 0 (cascade_Win_post o) .ret s → Q .ret s) :
    Sv Try.prog Γ 0 a9_c0 Q ⟨(upd (upd (upd (upd (upd (fun _ => none) 3 (some (.c (.mp 0)))) 4 (some (lstV zout2 1 6 out2.length))) 10 (some (.c (.ro false 6 (l_.map e_TSGiven))))) 11 (some (I (l_.length : Int)))) 12 (some (I v12))), (upd (upd (fun _ => none) 0 (mapB .s (fun x => .str x) (fun (x : Int) => (I x)) at_1)) 1 (lstB zout2 6 (out2.map e_TSGiven))), 2⟩ := by
  unfold cascade_Win_j2 at h
  refine Sv.region ?_
  refine un (a1 (v := (I (wi (v12 + 1)))) rfl ?_)
  refine un (a1 rfl ?_)
  refine dnil ?_
  exact hself at_1 out2 (wi (v12 + 1)) zout2 hzout2 h _ (weak_canon [0, 1] rfl (by decide) (by decide) (fun b h => absurd h (Nat.not_lt_zero _)) (.cons rfl (avAs_free rfl) (.cons rfl (avAs_free rfl) (.cons rfl (avAs_free rfl) (.cons rfl (.c (lstC_ren rfl (by decide))) (.cons rfl (.c (.mp rfl (by decide))) .nil))))) (.row (by decide) rfl (fr_map fun _ => rfl) (.box (by decide) rfl .map .nil)))
noncomputable def cascade_Win_l0 (l_ : (List TSGiven)) (K0_ : (List TSGiven) → Option (List TSGiven)) : Nat → (List ((List UInt8) × Int)) → (List TSGiven) → Int → Option (List TSGiven)
  | 0, _, _, _ => none
  | k + 1, at_, out, v12 =>
    if decide (v12 < (l_.length : Int)) then
      (at? l_ v12).bind fun x_ =>
      if (!(mget at_ x_.Name).isSome) then
        letIn (mset at_ x_.Name (out.length : Int)) fun mp : (List ((List UInt8) × Int)) =>
        (app? 64 out [x_]).bind fun r_ =>
        cascade_Win_j2 v12 l_ (cascade_Win_l0 l_ K0_ k) K0_ mp r_
      else
        (at? out ((mget at_ x_.Name).getD (0 : Int))).bind fun x_1 =>
        (cascade_compare x_ x_1).bind fun r_1 =>
        if decide (0 ≤ r_1) then
          (at? out ((mget at_ x_.Name).getD (0 : Int))).bind fun x_2 =>
          cascade_Win_j2 v12 l_ (cascade_Win_l0 l_ K0_ k) K0_ at_ (out.set ((mget at_ x_.Name).getD (0 : Int)).toNat x_)
        else
          cascade_Win_j2 v12 l_ (cascade_Win_l0 l_ K0_ k) K0_ at_ out
    else
      K0_ out
theorem cascade_Win_l0_ok {Γ : Glob} {Q : AExit → St → Prop} {l_ : (List TSGiven)} {K0_ : (List TSGiven) → Option (List TSGiven)} {k : Nat} {at_ : (List ((List UInt8) × Int))} {out : (List TSGiven)} {v12 : Int} {zout : Bool} (hzout : zout = true → out = []) {o : (List TSGiven)} (h : cascade_Win_l0 l_ K0_ k at_ out v12 = some o)
    (hK0 : ∀ (out1 : (List TSGiven)) (zout1 : Bool) (_ : zout1 = true → out1 = []), K0_ out1 = some o → ∀ s, Weak 0 s ⟨(upd (fun _ => none) 4 (some (lstV zout1 0 6 out1.length))), (upd (fun _ => none) 0 (lstB zout1 6 (out1.map e_TSGiven))), 1⟩ → Q (.exit 0) s)
    (hr : ∀ s, Ends a9.results 0 (cascade_Win_post o) .ret s → Q .ret s) :
    Sv Try.prog Γ 0 (.loop a9_c1) Q ⟨(upd (upd (upd (upd (upd (fun _ => none) 3 (some (.c (.mp 0)))) 4 (some (lstV zout 1 6 out.length))) 10 (some (.c (.ro false 6 (l_.map e_TSGiven))))) 11 (some (I (l_.length : Int)))) 12 (some (I v12))), (upd (upd (fun _ => none) 0 (mapB .s (fun x => .str x) (fun (x : Int) => (I x)) at_)) 1 (lstB zout 6 (out.map e_TSGiven))), 2⟩ := by
  refine Sv.loop (I := fun k s => ∃ (at_ : (List ((List UInt8) × Int))), ∃ (out : (List TSGiven)), ∃ (v12 : Int), ∃ (zout : Bool), (zout = true → out = []) ∧ cascade_Win_l0 l_ K0_ k at_ out v12 = some o ∧ s = ⟨(upd (upd (upd (upd (upd (fun _ => none) 3 (some (.c (.mp 0)))) 4 (some (lstV zout 1 6 out.length))) 10 (some (.c (.ro false 6 (l_.map e_TSGiven))))) 11 (some (I (l_.length : Int)))) 12 (some (I v12))), (upd (upd (fun _ => none) 0 (mapB .s (fun x => .str x) (fun (x : Int) => (I x)) at_)) 1 (lstB zout 6 (out.map e_TSGiven))), 2⟩) (fun k s hI => ?_) ⟨at_, out, v12, zout, hzout, h, rfl⟩
  clear h
  clear hzout zout v12 out at_
  obtain ⟨at_, out, v12, zout, hzout, h, rfl⟩ := hI
  cases k with
  | zero => cases h
  | succ k =>
  rw [cascade_Win_l0] at h
  have hself : ∀ (at_ : (List ((List UInt8) × Int))) (out : (List TSGiven)) (v12 : Int) (zout : Bool) (_ : zout = true → out = []), (cascade_Win_l0 l_ K0_ k) at_ out v12 = some o → ∀ s, Weak 0 s ⟨(upd (upd (upd (upd (upd (fun _ => none) 3 (some (.c (.mp 0)))) 4 (some (lstV zout 1 6 out.length))) 10 (some (.c (.ro false 6 (l_.map e_TSGiven))))) 11 (some (I (l_.length : Int)))) 12 (some (I v12))), (upd (upd (fun _ => none) 0 (mapB .s (fun x => .str x) (fun (x : Int) => (I x)) at_)) 1 (lstB zout 6 (out.map e_TSGiven))), 2⟩ → (AThen (fun s' => ∃ s'' k', Weak 0 s' s'' ∧ k' < k + 1 ∧ (fun k s => ∃ (at_ : (List ((List UInt8) × Int))), ∃ (out : (List TSGiven)), ∃ (v12 : Int), ∃ (zout : Bool), (zout = true → out = []) ∧ cascade_Win_l0 l_ K0_ k at_ out v12 = some o ∧ s = ⟨(upd (upd (upd (upd (upd (fun _ => none) 3 (some (.c (.mp 0)))) 4 (some (lstV zout 1 6 out.length))) 10 (some (.c (.ro false 6 (l_.map e_TSGiven))))) 11 (some (I (l_.length : Int)))) 12 (some (I v12))), (upd (upd (fun _ => none) 0 (mapB .s (fun x => .str x) (fun (x : Int) => (I x)) at_)) 1 (lstB zout 6 (out.map e_TSGiven))), 2⟩) k' s'') Q) .normal s := fun at_ out v12 zout hzout h s hw => ⟨_, k, hw, Nat.lt_succ_self k, at_, out, v12, zout, hzout, h, rfl⟩
  refine Sv.seq ?_
  refine Sv.region ?_
  refine un (a1 (v := (B (decide (v12 < (l_.length : Int))))) rfl ?_)
  refine dnil ?_
  refine Sv.seq ?_
  refine Sv.cond (b := decide (v12 < (l_.length : Int))) rfl (fun hc1 => ?_) (fun hc1 => ?_)
  · replace h := ifT hc1 h
    refine Sv.skip ?_
    refine Sv.seq ?_
    refine Sv.block ?_
    refine Sv.seq ?_
    refine Sv.region ?_
    obtain ⟨x_, hx1, h⟩ := bnd h
    refine un (a1 (v := (.c (.rop [.str x_.Name, .str x_.Value, cI x_.Origin, cB x_.Important, cI x_.Weight, cI x_.Place]))) (s_iaddr (e := e_TSGiven) (xs := l_) rfl rfl hx1) ?_)
    refine un (a1 (v := (.agg [.str x_.Name, .str x_.Value, cI x_.Origin, cB x_.Important, cI x_.Weight, cI x_.Place])) rfl ?_)
    refine un (a2v (v := (.c (.ref 2 6 0 0))) (h' := upd _ 2 (some (.cells 6 [[.str [], .str [], cI 0, cB false, cI 0, cI 0]]))) (n' := 3) rfl rfl (fun h => by cases h) ?_)
    refine un (a2n (h' := upd _ 2 (some (.cells 6 [[.str x_.Name, .str x_.Value, cI x_.Origin, cB x_.Important, cI x_.Weight, cI x_.Place]]))) (n' := 3) rfl rfl (fun h => by cases h) ?_)
    refine dnil ?_
    refine Sv.seq ?_
    refine Sv.region ?_
    refine un (a1 rfl ?_)
    refine un (a1 (v := (.c (.ref 2 6 0 0))) rfl ?_)
    refine un (a1 (v := (S x_.Name)) rfl ?_)
    refine un (a1 (v := (.tup [(I ((mget at_ x_.Name).getD (0 : Int))), (B ((mget at_ x_.Name).isSome))])) (s_mlook2 (ek := (fun x => .str x)) (ev := (fun (x : Int) => (I x))) (l := at_) (key := x_.Name) (z := 0) (fun _ _ => rfl) rfl rfl rfl rfl rfl) ?_)
    refine un (a1 rfl ?_)
    refine un (a1 (v := (I ((mget at_ x_.Name).getD (0 : Int)))) rfl ?_)
    refine un (a1 (v := (B ((mget at_ x_.Name).isSome))) rfl ?_)
    refine un (a1 rfl ?_)
    refine un (a1 rfl ?_)
    refine dnil ?_
    refine Sv.block ?_
    refine Sv.seq ?_
    refine Sv.region ?_
    refine un (a1 rfl ?_)
    refine un (a1 (v := (B (!(mget at_ x_.Name).isSome))) rfl ?_)
    refine un (a1 rfl ?_)
    refine dnil ?_
    refine Sv.cond (b := (!(mget at_ x_.Name).isSome)) rfl (fun hc2 => ?_) (fun hc2 => ?_)
    · replace h := ifT hc2 h
      refine Sv.seq ?_
      refine Sv.region ?_
      refine un (a1 rfl ?_)
      refine un (a1 (v := (.c (.ref 2 6 0 0))) rfl ?_)
      refine un (a1 (v := (S x_.Name)) rfl ?_)
      refine un (a1 rfl ?_)
      refine un (a1 (v := (I (out.length : Int))) (s_lenL rfl (len_nil_of hzout)) ?_)
      obtain ⟨mp, hmp⟩ : ∃ mp : (List ((List UInt8) × Int)), mp = (mset at_ x_.Name (out.length : Int)) := ⟨_, rfl⟩
      replace h := letAt hmp h
      refine un (a2n (h' := upd _ 0 (mapB .s (fun x => .str x) (fun (x : Int) => (I x)) mp)) (n' := 3) rfl (by rw [hmp]; exact s_mput (ek := (fun x => .str x)) (ev := (fun (x : Int) => (I x))) (l := at_) (key := x_.Name) (val := (out.length : Int)) (fun _ _ => rfl) rfl rfl rfl rfl rfl rfl) (fun h => by cases h) ?_)
      clear hmp
      refine dnil ?_
      refine Sv.region ?_
      refine un (a1 rfl ?_)
      refine un (a1 (v := (.agg [.str x_.Name, .str x_.Value, cI x_.Origin, cB x_.Important, cI x_.Weight, cI x_.Place])) rfl ?_)
      refine un (a2v (v := (lstV false 3 6 [x_].length)) (h' := upd _ 3 (lstB false 6 ([x_].map e_TSGiven))) (n' := 4) rfl rfl (fun h => by cases h) ?_)
      obtain ⟨r_, hr1, h⟩ := bnd h
      have hz1 : (zout && [x_].isEmpty) = true → r_ = [] := app_nil (z := zout) (ys := [x_]) hzout hr1
      refine un (a2v rfl (s_app (xs := out) (ys := [x_]) (e := e_TSGiven) (z := zout) (b := 1) rfl rfl hzout rfl rfl (slc_lst rfl (List.length_map _).symm (map_nil_of (fun h => by cases h))) hr1) (fun h => by cases h) ?_)
      refine un (a1 rfl ?_)
      refine dnil ?_
      exact Sv.weak (weak_canon [0, 4] rfl (by decide) (by decide) (fun b h => absurd h (Nat.not_lt_zero _)) (.cons rfl (avAs_free rfl) (.cons rfl (avAs_free rfl) (.cons rfl (avAs_free rfl) (.cons rfl (.c (lstC_ren rfl (by decide))) (.cons rfl (.c (.mp rfl (by decide))) .nil))))) (.row (by decide) rfl (fr_map fun _ => rfl) (.box (by decide) rfl .map .nil))) (cascade_Win_j2_ok hz1 h hself hK0 hr)
    · replace h := ifF hc2 h
      refine Sv.seq ?_
      refine Sv.drawn ?_
      refine un (a1 (v := (.agg [.str x_.Name, .str x_.Value, cI x_.Origin, cB x_.Important, cI x_.Weight, cI x_.Place])) rfl ?_)
      refine un (a1 rfl ?_)
      refine un (a1 rfl ?_)
      obtain ⟨x_1, hx2, h⟩ := bnd h
      refine un (a1 (v := (.c (.ref 1 6 ((mget at_ x_.Name).getD (0 : Int)).toNat 0))) (s_iaddrL rfl rfl hzout hx2) ?_)
      refine un (a1 (v := (.agg [.str x_1.Name, .str x_1.Value, cI x_1.Origin, cB x_1.Important, cI x_1.Weight, cI x_1.Place])) (s_loadL (z := zout) (e := e_TSGiven) rfl rfl hzout hx2 rfl rfl) ?_)
      obtain ⟨r_1, hr2, h⟩ := bnd h
      refine un (ac_pure (cascade_compare_ok hr2) rfl rfl rfl ?_)
      refine un (a1 (v := (B (decide (0 ≤ r_1)))) rfl ?_)
      refine un (a1 rfl ?_)
      refine dnil ?_
      refine Sv.cond (b := decide (0 ≤ r_1)) rfl (fun hc3 => ?_) (fun hc3 => ?_)
      · replace h := ifT hc3 h
        refine Sv.region ?_
        refine un (a1 rfl ?_)
        refine un (a1 rfl ?_)
        refine un (a1 (v := (.agg [.str x_.Name, .str x_.Value, cI x_.Origin, cB x_.Important, cI x_.Weight, cI x_.Place])) rfl ?_)
        obtain ⟨x_2, hx3, h⟩ := bnd h
        refine un (a1 (v := (.c (.ref 1 6 ((mget at_ x_.Name).getD (0 : Int)).toNat 0))) (s_iaddrL rfl rfl hzout hx3) ?_)
        refine un (a2n (h' := upd _ 1 (lstB zout 6 ((out.set ((mget at_ x_.Name).getD (0 : Int)).toNat x_).map e_TSGiven))) (n' := 3) rfl (s_storeL (e := e_TSGiven) (q' := x_) rfl rfl hzout hx3 rfl rfl rfl (Nat.le_of_ble_eq_true rfl) rfl) (fun h => by cases h) ?_)
        try rw [len_set out ((mget at_ x_.Name).getD (0 : Int)).toNat x_]
        refine dnil ?_
        exact Sv.weak (weak_canon [0, 1] rfl (by decide) (by decide) (fun b h => absurd h (Nat.not_lt_zero _)) (.cons rfl (avAs_free rfl) (.cons rfl (avAs_free rfl) (.cons rfl (avAs_free rfl) (.cons rfl (.c (lstC_ren rfl (by decide))) (.cons rfl (.c (.mp rfl (by decide))) .nil))))) (.row (by decide) rfl (fr_map fun _ => rfl) (.box (by decide) rfl .map .nil))) (cascade_Win_j2_ok (hz_len hzout (len_set out ((mget at_ x_.Name).getD (0 : Int)).toNat x_)) h hself hK0 hr)
      · replace h := ifF hc3 h
        refine Sv.skip ?_
        exact Sv.weak (weak_canon [0, 1] rfl (by decide) (by decide) (fun b h => absurd h (Nat.not_lt_zero _)) (.cons rfl (avAs_free rfl) (.cons rfl (avAs_free rfl) (.cons rfl (avAs_free rfl) (.cons rfl (.c (lstC_ren rfl (by decide))) (.cons rfl (.c (.mp rfl (by decide))) .nil))))) (.row (by decide) rfl (fr_map fun _ => rfl) (.box (by decide) rfl .map .nil))) (cascade_Win_j2_ok hzout h hself hK0 hr)
  · replace h := ifF hc1 h
    refine Sv.exit ?_
    exact hK0 out zout hzout h _ (weak_canon [1] rfl (by decide) (by decide) (fun b h => absurd h (Nat.not_lt_zero _)) (.cons rfl (.c (lstC_ren rfl (by decide))) .nil) (.row (by decide) rfl (fr_map fun _ => rfl) .nil))
/-- clerestory/cascade.Win -/
noncomputable def cascade_Win (l_ : (List TSGiven)) : Option (List TSGiven) :=
  lim fun kk => cascade_Win_l0 l_ (fun (out1 : (List TSGiven)) => 
      some out1) kk ([] : List ((List UInt8) × Int)) ([] : List TSGiven) 0
theorem cascade_Win_ok {Γ : Glob} {l_ : (List TSGiven)} {r : (List TSGiven)} (h : cascade_Win l_ = some r) : ACalls Try.prog Γ 9 [(.c (.ro false 6 (l_.map e_TSGiven)))] (fun _ => none) 0 (cascade_Win_post r) := by
  refine acalls_of_sv hmix c9 (R := cascade_Win_post r) ?_
  unfold cascade_Win at h
  refine Sv.seq ?_
  refine Sv.region ?_
  refine un (a1 rfl ?_)
  refine dnil ?_
  refine Sv.seq ?_
  refine Sv.region ?_
  refine un (a2v (v := (.c (.mp 0))) (h' := upd _ 0 (mapB .s (fun x => .str x) (fun (x : Int) => (I x)) ([] : List ((List UInt8) × Int)))) (n' := 1) rfl rfl (fun h => by cases h) ?_)
  refine un (a1 rfl ?_)
  refine dnil ?_
  refine Sv.seq ?_
  refine Sv.region ?_
  refine un (a1 rfl ?_)
  refine dnil ?_
  refine Sv.seq ?_
  refine Sv.seq ?_
  refine Sv.region ?_
  refine un (a1 rfl ?_)
  refine un (a1 (v := (I (l_.length : Int))) (s_len (e := e_TSGiven) (xs := l_) rfl) ?_)
  refine un (a1 rfl ?_)
  refine dnil ?_
  refine Sv.block ?_
  obtain ⟨kk, h⟩ := lim_some h
  refine Sv.weak (weak_canon [0, 1000] rfl (by decide) (by decide) (fun b h => absurd h (Nat.not_lt_zero _)) (.cons rfl (avAs_free rfl) (.cons rfl (avAs_free rfl) (.cons rfl (avAs_free rfl) (.cons rfl (.c (.same rfl)) (.cons rfl (.c (.mp rfl (by decide))) .nil))))) (.non (by decide) (.box (by decide) rfl .map .nil))) (cascade_Win_l0_ok (fun _ => rfl) h ?_ (fun s hs => hs))
  · intro out1 zout1 hzout1 h _ hw1
    refine Sv.weak hw1 ?_
    refine Sv.seq ?_
    refine Sv.region ?_
    refine un (a1 rfl ?_)
    refine un (a1 rfl ?_)
    refine dnil ?_
    refine Sv.ret ?_
    replace h := Option.some.inj h
    subst h
    exact ⟨_, .refl _, _, rfl, ⟨upd (fun _ => none) 0 (some (lstV zout1 0 6 out1.length)), (upd (fun _ => none) 0 (lstB zout1 6 (out1.map e_TSGiven))), 1⟩, (lstV zout1 0 6 out1.length), weak_canon2 [0] [0] (by decide) (by decide) (fun b h => absurd h (Nat.not_lt_zero _)) (.cons (by decide) .nil) (.cons rfl (.c (lstC_ren rfl (by decide))) .nil) (.row (by decide) rfl (fr_map fun _ => rfl) .nil), rfl, zout1, hzout1, rfl, rfl, rfl⟩
def a101 : AFunc := ⟨1, [(.tmp 2)], (.seq (.region [⟨(some 1), (.box (.tmp 0)), none⟩, ⟨(some 2), (.mov (.const (.c (.val (.int .i64 0))))), none⟩])
 (.seq (.seq (.region [⟨(some 3), (.faddr 3 (.tmp 1)), none⟩, ⟨(some 4), (.load false 1 (.tmp 3)), none⟩, ⟨(some 5), (.un .not (.tmp 4)), none⟩])
 (.cond (.tmp 5) (.seq (.region [⟨(some 6), (.faddr 2 (.tmp 1)), none⟩, ⟨(some 7), (.load false 1 (.tmp 6)), none⟩, ⟨(some 2), (.mov (.tmp 7)), none⟩])
 .ret) .skip))
 (.seq (.seq (.region [⟨(some 8), (.faddr 2 (.tmp 1)), none⟩, ⟨(some 9), (.load false 1 (.tmp 8)), none⟩, ⟨(some 10), (.bin .eql (.tmp 9) (.const (.c (.val (.int .i64 1))))), none⟩])
 (.cond (.tmp 10) (.seq (.region [⟨(some 2), (.mov (.const (.c (.val (.int .i64 3))))), none⟩])
 .ret) .skip))
 (.seq (.seq (.region [⟨(some 11), (.faddr 2 (.tmp 1)), none⟩, ⟨(some 12), (.load false 1 (.tmp 11)), none⟩, ⟨(some 13), (.bin .eql (.tmp 12) (.const (.c (.val (.int .i64 2))))), none⟩])
 (.cond (.tmp 13) (.seq (.region [⟨(some 2), (.mov (.const (.c (.val (.int .i64 4))))), none⟩])
 .ret) .skip))
 (.seq (.region [⟨(some 2), (.mov (.const (.c (.val (.int .i64 5))))), none⟩])
 .ret)))))⟩
set_option maxRecDepth 100000 in
theorem c101 : compFunc Try.prog 101 = some a101 := by kernel_rfl
def clerestoryref2_Rank_post (r : Int) : AV → Heap → Nat → Prop := fun v h' n' => v = (I r) ∧ (h' = (fun _ => none)) ∧ n' = 0
/-- clerestory/clerestoryref2.Rank -/
def clerestoryref2_Rank (g_ : TSGiven) : Int :=
  if (!g_.Important) then
    g_.Origin
  else
    if decide (g_.Origin = 1) then
      3
    else
      if decide (g_.Origin = 2) then
        4
      else
        5
theorem clerestoryref2_Rank_ok {Γ : Glob} (g_ : TSGiven) : CPure Try.prog Γ 101 [(.agg [.str g_.Name, .str g_.Value, cI g_.Origin, cB g_.Important, cI g_.Weight, cI g_.Place])] (I (clerestoryref2_Rank g_)) := by
  generalize h : clerestoryref2_Rank g_ = o
  refine acalls_of_sv hmix c101 (R := clerestoryref2_Rank_post o) ?_
  unfold clerestoryref2_Rank at h
  refine Sv.seq ?_
  refine Sv.region ?_
  refine un (a2v (v := (.c (.ref 0 6 0 0))) (h' := upd _ 0 (some (.cells 6 [[.str g_.Name, .str g_.Value, cI g_.Origin, cB g_.Important, cI g_.Weight, cI g_.Place]]))) (n' := 1) rfl rfl (fun h => by cases h) ?_)
  refine un (a1 rfl ?_)
  refine dnil ?_
  refine Sv.seq ?_
  refine Sv.seq ?_
  refine Sv.region ?_
  refine un (a1 (v := (.c (.ref 0 6 0 3))) rfl ?_)
  refine un (a1 (v := (B g_.Important)) rfl ?_)
  refine un (a1 (v := (B (!g_.Important))) rfl ?_)
  refine dnil ?_
  refine Sv.cond (b := (!g_.Important)) rfl (fun hc1 => ?_) (fun hc1 => ?_)
  · replace h := ifT hc1 h
    refine Sv.seq ?_
    refine Sv.region ?_
    refine un (a1 (v := (.c (.ref 0 6 0 2))) rfl ?_)
    refine un (a1 (v := (I g_.Origin)) rfl ?_)
    refine un (a1 rfl ?_)
    refine dnil ?_
    refine Sv.ret ?_
    subst h
    exact ⟨_, .refl _, _, rfl, ⟨upd (fun _ => none) 0 (some (I g_.Origin)), (fun _ => none), 0⟩, (I g_.Origin), weak_canon [] rfl List.nodup_nil (Nat.le_refl _) (fun b h => absurd h (Nat.not_lt_zero _)) (.cons rfl (avAs_free rfl) .nil) .nil, rfl, rfl, rfl, rfl⟩
  · replace h := ifF hc1 h
    refine Sv.skip ?_
    refine Sv.seq ?_
    refine Sv.seq ?_
    refine Sv.region ?_
    refine un (a1 (v := (.c (.ref 0 6 0 2))) rfl ?_)
    refine un (a1 (v := (I g_.Origin)) rfl ?_)
    refine un (a1 (v := (B (decide (g_.Origin = 1)))) rfl ?_)
    refine dnil ?_
    refine Sv.cond (b := decide (g_.Origin = 1)) rfl (fun hc2 => ?_) (fun hc2 => ?_)
    · replace h := ifT hc2 h
      refine Sv.seq ?_
      refine Sv.region ?_
      refine un (a1 rfl ?_)
      refine dnil ?_
      refine Sv.ret ?_
      subst h
      exact ⟨_, .refl _, _, rfl, ⟨upd (fun _ => none) 0 (some (I 3)), (fun _ => none), 0⟩, (I 3), weak_canon [] rfl List.nodup_nil (Nat.le_refl _) (fun b h => absurd h (Nat.not_lt_zero _)) (.cons rfl (avAs_free rfl) .nil) .nil, rfl, rfl, rfl, rfl⟩
    · replace h := ifF hc2 h
      refine Sv.skip ?_
      refine Sv.seq ?_
      refine Sv.seq ?_
      refine Sv.region ?_
      refine un (a1 (v := (.c (.ref 0 6 0 2))) rfl ?_)
      refine un (a1 (v := (I g_.Origin)) rfl ?_)
      refine un (a1 (v := (B (decide (g_.Origin = 2)))) rfl ?_)
      refine dnil ?_
      refine Sv.cond (b := decide (g_.Origin = 2)) rfl (fun hc3 => ?_) (fun hc3 => ?_)
      · replace h := ifT hc3 h
        refine Sv.seq ?_
        refine Sv.region ?_
        refine un (a1 rfl ?_)
        refine dnil ?_
        refine Sv.ret ?_
        subst h
        exact ⟨_, .refl _, _, rfl, ⟨upd (fun _ => none) 0 (some (I 4)), (fun _ => none), 0⟩, (I 4), weak_canon [] rfl List.nodup_nil (Nat.le_refl _) (fun b h => absurd h (Nat.not_lt_zero _)) (.cons rfl (avAs_free rfl) .nil) .nil, rfl, rfl, rfl, rfl⟩
      · replace h := ifF hc3 h
        refine Sv.skip ?_
        refine Sv.seq ?_
        refine Sv.region ?_
        refine un (a1 rfl ?_)
        refine dnil ?_
        refine Sv.ret ?_
        subst h
        exact ⟨_, .refl _, _, rfl, ⟨upd (fun _ => none) 0 (some (I 5)), (fun _ => none), 0⟩, (I 5), weak_canon [] rfl List.nodup_nil (Nat.le_refl _) (fun b h => absurd h (Nat.not_lt_zero _)) (.cons rfl (avAs_free rfl) .nil) .nil, rfl, rfl, rfl, rfl⟩
def a78 : AFunc := ⟨2, [(.tmp 4)], (.seq (.region [⟨(some 2), (.box (.tmp 0)), none⟩, ⟨(some 3), (.box (.tmp 1)), none⟩, ⟨(some 4), (.mov (.const (.c (.val (.bool false))))), none⟩])
 (.seq (.seq (.drawn (.fin [(⟨(some 5), (.load true 6 (.tmp 2)), none⟩, (0, 0)), (⟨(some 7), (.load true 6 (.tmp 3)), none⟩, (0, 2)), (⟨(some 6), (.call 101 [(.tmp 5)]), none⟩, (1, 1)), (⟨(some 8), (.call 101 [(.tmp 7)]), none⟩, (2, 3)), (⟨(some 9), (.bin .neq (.tmp 6) (.tmp 8)), none⟩, (0, 4))]))
 (.cond (.tmp 9) (.seq (.drawn (.fin [(⟨(some 10), (.load true 6 (.tmp 2)), none⟩, (0, 0)), (⟨(some 12), (.load true 6 (.tmp 3)), none⟩, (0, 2)), (⟨(some 11), (.call 101 [(.tmp 10)]), none⟩, (1, 1)), (⟨(some 13), (.call 101 [(.tmp 12)]), none⟩, (2, 3)), (⟨(some 14), (.bin .lss (.tmp 11) (.tmp 13)), none⟩, (0, 4)), (⟨(some 4), (.mov (.tmp 14)), none⟩, (0, 5))]))
 .ret) .skip))
 (.seq (.seq (.region [⟨(some 15), (.faddr 4 (.tmp 2)), none⟩, ⟨(some 16), (.load false 1 (.tmp 15)), none⟩, ⟨(some 17), (.faddr 4 (.tmp 3)), none⟩, ⟨(some 18), (.load false 1 (.tmp 17)), none⟩, ⟨(some 19), (.bin .neq (.tmp 16) (.tmp 18)), none⟩])
 (.cond (.tmp 19) (.seq (.region [⟨(some 20), (.faddr 4 (.tmp 2)), none⟩, ⟨(some 21), (.load false 1 (.tmp 20)), none⟩, ⟨(some 22), (.faddr 4 (.tmp 3)), none⟩, ⟨(some 23), (.load false 1 (.tmp 22)), none⟩, ⟨(some 24), (.bin .lss (.tmp 21) (.tmp 23)), none⟩, ⟨(some 4), (.mov (.tmp 24)), none⟩])
 .ret) .skip))
 (.seq (.region [⟨(some 25), (.faddr 5 (.tmp 2)), none⟩, ⟨(some 26), (.load false 1 (.tmp 25)), none⟩, ⟨(some 27), (.faddr 5 (.tmp 3)), none⟩, ⟨(some 28), (.load false 1 (.tmp 27)), none⟩, ⟨(some 29), (.bin .lss (.tmp 26) (.tmp 28)), none⟩, ⟨(some 4), (.mov (.tmp 29)), none⟩])
 .ret))))⟩
set_option maxRecDepth 100000 in
theorem c78 : compFunc Try.prog 78 = some a78 := by kernel_rfl
def clerestoryref2_Later_post (r : Bool) : AV → Heap → Nat → Prop := fun v h' n' => v = (B r) ∧ (h' = (fun _ => none)) ∧ n' = 0
/-- clerestory/clerestoryref2.Later -/
def clerestoryref2_Later (a_ : TSGiven) (b_ : TSGiven) : Bool :=
  if (!decide ((clerestoryref2_Rank a_) = (clerestoryref2_Rank b_))) then
    decide ((clerestoryref2_Rank a_) < (clerestoryref2_Rank b_))
  else
    if (!decide (a_.Weight = b_.Weight)) then
      decide (a_.Weight < b_.Weight)
    else
      decide (a_.Place < b_.Place)
theorem clerestoryref2_Later_ok {Γ : Glob} (a_ : TSGiven) (b_ : TSGiven) : CPure Try.prog Γ 78 [(.agg [.str a_.Name, .str a_.Value, cI a_.Origin, cB a_.Important, cI a_.Weight, cI a_.Place]), (.agg [.str b_.Name, .str b_.Value, cI b_.Origin, cB b_.Important, cI b_.Weight, cI b_.Place])] (B (clerestoryref2_Later a_ b_)) := by
  generalize h : clerestoryref2_Later a_ b_ = o
  refine acalls_of_sv hmix c78 (R := clerestoryref2_Later_post o) ?_
  unfold clerestoryref2_Later at h
  refine Sv.seq ?_
  refine Sv.region ?_
  refine un (a2v (v := (.c (.ref 0 6 0 0))) (h' := upd _ 0 (some (.cells 6 [[.str a_.Name, .str a_.Value, cI a_.Origin, cB a_.Important, cI a_.Weight, cI a_.Place]]))) (n' := 1) rfl rfl (fun h => by cases h) ?_)
  refine un (a2v (v := (.c (.ref 1 6 0 0))) (h' := upd _ 1 (some (.cells 6 [[.str b_.Name, .str b_.Value, cI b_.Origin, cB b_.Important, cI b_.Weight, cI b_.Place]]))) (n' := 2) rfl rfl (fun h => by cases h) ?_)
  refine un (a1 rfl ?_)
  refine dnil ?_
  refine Sv.seq ?_
  refine Sv.seq ?_
  refine Sv.drawn ?_
  refine un (a1 (v := (.agg [.str a_.Name, .str a_.Value, cI a_.Origin, cB a_.Important, cI a_.Weight, cI a_.Place])) rfl ?_)
  refine un (a1 (v := (.agg [.str b_.Name, .str b_.Value, cI b_.Origin, cB b_.Important, cI b_.Weight, cI b_.Place])) rfl ?_)
  refine un (ac_pure (clerestoryref2_Rank_ok (Γ := Γ) a_) rfl rfl rfl ?_)
  refine un (ac_pure (clerestoryref2_Rank_ok (Γ := Γ) b_) rfl rfl rfl ?_)
  refine un (a1 (v := (B (!decide ((clerestoryref2_Rank a_) = (clerestoryref2_Rank b_))))) rfl ?_)
  refine dnil ?_
  refine Sv.cond (b := (!decide ((clerestoryref2_Rank a_) = (clerestoryref2_Rank b_)))) rfl (fun hc1 => ?_) (fun hc1 => ?_)
  · replace h := ifT hc1 h
    refine Sv.seq ?_
    refine Sv.drawn ?_
    refine un (a1 (v := (.agg [.str a_.Name, .str a_.Value, cI a_.Origin, cB a_.Important, cI a_.Weight, cI a_.Place])) rfl ?_)
    refine un (a1 (v := (.agg [.str b_.Name, .str b_.Value, cI b_.Origin, cB b_.Important, cI b_.Weight, cI b_.Place])) rfl ?_)
    refine un (ac_pure (clerestoryref2_Rank_ok (Γ := Γ) a_) rfl rfl rfl ?_)
    refine un (ac_pure (clerestoryref2_Rank_ok (Γ := Γ) b_) rfl rfl rfl ?_)
    refine un (a1 (v := (B (decide ((clerestoryref2_Rank a_) < (clerestoryref2_Rank b_))))) rfl ?_)
    refine un (a1 rfl ?_)
    refine dnil ?_
    refine Sv.ret ?_
    subst h
    exact ⟨_, .refl _, _, rfl, ⟨upd (fun _ => none) 0 (some (B (decide ((clerestoryref2_Rank a_) < (clerestoryref2_Rank b_))))), (fun _ => none), 0⟩, (B (decide ((clerestoryref2_Rank a_) < (clerestoryref2_Rank b_)))), weak_canon [] rfl List.nodup_nil (Nat.le_refl _) (fun b h => absurd h (Nat.not_lt_zero _)) (.cons rfl (avAs_free rfl) .nil) .nil, rfl, rfl, rfl, rfl⟩
  · replace h := ifF hc1 h
    refine Sv.skip ?_
    refine Sv.seq ?_
    refine Sv.seq ?_
    refine Sv.region ?_
    refine un (a1 (v := (.c (.ref 0 6 0 4))) rfl ?_)
    refine un (a1 (v := (I a_.Weight)) rfl ?_)
    refine un (a1 (v := (.c (.ref 1 6 0 4))) rfl ?_)
    refine un (a1 (v := (I b_.Weight)) rfl ?_)
    refine un (a1 (v := (B (!decide (a_.Weight = b_.Weight)))) rfl ?_)
    refine dnil ?_
    refine Sv.cond (b := (!decide (a_.Weight = b_.Weight))) rfl (fun hc2 => ?_) (fun hc2 => ?_)
    · replace h := ifT hc2 h
      refine Sv.seq ?_
      refine Sv.region ?_
      refine un (a1 (v := (.c (.ref 0 6 0 4))) rfl ?_)
      refine un (a1 (v := (I a_.Weight)) rfl ?_)
      refine un (a1 (v := (.c (.ref 1 6 0 4))) rfl ?_)
      refine un (a1 (v := (I b_.Weight)) rfl ?_)
      refine un (a1 (v := (B (decide (a_.Weight < b_.Weight)))) rfl ?_)
      refine un (a1 rfl ?_)
      refine dnil ?_
      refine Sv.ret ?_
      subst h
      exact ⟨_, .refl _, _, rfl, ⟨upd (fun _ => none) 0 (some (B (decide (a_.Weight < b_.Weight)))), (fun _ => none), 0⟩, (B (decide (a_.Weight < b_.Weight))), weak_canon [] rfl List.nodup_nil (Nat.le_refl _) (fun b h => absurd h (Nat.not_lt_zero _)) (.cons rfl (avAs_free rfl) .nil) .nil, rfl, rfl, rfl, rfl⟩
    · replace h := ifF hc2 h
      refine Sv.skip ?_
      refine Sv.seq ?_
      refine Sv.region ?_
      refine un (a1 (v := (.c (.ref 0 6 0 5))) rfl ?_)
      refine un (a1 (v := (I a_.Place)) rfl ?_)
      refine un (a1 (v := (.c (.ref 1 6 0 5))) rfl ?_)
      refine un (a1 (v := (I b_.Place)) rfl ?_)
      refine un (a1 (v := (B (decide (a_.Place < b_.Place)))) rfl ?_)
      refine un (a1 rfl ?_)
      refine dnil ?_
      refine Sv.ret ?_
      subst h
      exact ⟨_, .refl _, _, rfl, ⟨upd (fun _ => none) 0 (some (B (decide (a_.Place < b_.Place)))), (fun _ => none), 0⟩, (B (decide (a_.Place < b_.Place))), weak_canon [] rfl List.nodup_nil (Nat.le_refl _) (fun b h => absurd h (Nat.not_lt_zero _)) (.cons rfl (avAs_free rfl) .nil) .nil, rfl, rfl, rfl, rfl⟩
def a40_c1 : ACode := (.cond (.tmp 31) .skip (.exit 2))
def a40_c2 : ACode := (.block 3 (.region [⟨(some 32), (.mov (.tmp 5)), none⟩, ⟨(some 33), (.bin .sub (.tmp 32) (.const (.c (.val (.int .i64 1))))), none⟩, ⟨(some 5), (.mov (.tmp 33)), none⟩]))
def a40_c0 : ACode := (.seq (.seq (.drawn (.fin [(⟨(some 15), (.mov (.tmp 5)), none⟩, (0, 0)), (⟨(some 16), (.bin .gtr (.tmp 15) (.const (.c (.val (.int .i64 0))))), none⟩, (0, 1)), (⟨(some 17), (.mov (.tmp 16)), none⟩, (0, 2)), (⟨(some 18), (.mov (.tmp 0)), (some (17, true))⟩, (0, 3)), (⟨(some 19), (.mov (.tmp 4)), (some (17, true))⟩, (0, 4)), (⟨(some 20), (.iaddr 6 (.tmp 18) (.tmp 19)), (some (17, true))⟩, (0, 5)), (⟨(some 21), (.load true 6 (.tmp 20)), (some (17, true))⟩, (0, 6)), (⟨(some 22), (.mov (.tmp 0)), (some (17, true))⟩, (0, 7)), (⟨(some 23), (.mov (.tmp 3)), (some (17, true))⟩, (0, 8)), (⟨(some 24), (.mov (.tmp 5)), (some (17, true))⟩, (0, 9)), (⟨(some 25), (.bin .sub (.tmp 24) (.const (.c (.val (.int .i64 1))))), (some (17, true))⟩, (0, 10)), (⟨(some 26), (.iaddr 1 (.tmp 23) (.tmp 25)), (some (17, true))⟩, (0, 11)), (⟨(some 27), (.load false 1 (.tmp 26)), (some (17, true))⟩, (0, 12)), (⟨(some 28), (.iaddr 6 (.tmp 22) (.tmp 27)), (some (17, true))⟩, (0, 13)), (⟨(some 29), (.load true 6 (.tmp 28)), (some (17, true))⟩, (0, 14)), (⟨(some 30), (.call 78 [(.tmp 21), (.tmp 29)]), (some (17, true))⟩, (2, 15)), (⟨(some 31), (.pick (.tmp 17) (.tmp 30) (.const (.c (.val (.bool false))))), none⟩, (0, 16))]))
 a40_c1)
 a40_c2)
def a40_c3 : ACode := (.seq (.seq (.region [⟨(some 7), (.mov (.tmp 4)), none⟩, ⟨(some 8), (.mov (.tmp 0)), none⟩, ⟨(some 9), (.len (.tmp 8)), none⟩, ⟨(some 10), (.bin .lss (.tmp 7) (.tmp 9)), none⟩])
 (.cond (.tmp 10) .skip (.exit 0)))
 (.seq (.block 1 (.seq (.region [⟨(some 13), (.mov (.tmp 3)), none⟩, ⟨(some 14), (.len (.tmp 13)), none⟩, ⟨(some 5), (.mov (.tmp 14)), none⟩])
 (.seq (.block 2 (.loop a40_c0))
 (.seq (.region [⟨(some 34), (.bslice 1 [(.val (.int .i64 0))] 0 []), none⟩, ⟨(some 35), (.mov (.tmp 3)), none⟩, ⟨(some 36), (.mov (.tmp 5)), none⟩, ⟨(some 37), (.slSl 1 (.tmp 35) none (some (.tmp 36)) none), none⟩, ⟨(some 38), (.app 1 8 (.tmp 34) (.tmp 37)), none⟩, ⟨(some 6), (.mov (.tmp 38)), none⟩])
 (.seq (.region [⟨(some 39), (.mov (.tmp 6)), none⟩, ⟨(some 40), (.mov (.tmp 4)), none⟩, ⟨(some 41), (.bslice 1 [(.val (.int .i64 0))] 1 [(0, (.tmp 40))]), none⟩, ⟨(some 42), (.app 1 8 (.tmp 39) (.tmp 41)), none⟩, ⟨(some 6), (.mov (.tmp 42)), none⟩])
 (.region [⟨(some 43), (.mov (.tmp 6)), none⟩, ⟨(some 44), (.mov (.tmp 3)), none⟩, ⟨(some 45), (.mov (.tmp 5)), none⟩, ⟨(some 46), (.slSl 1 (.tmp 44) (some (.tmp 45)) none none), none⟩, ⟨(some 47), (.app 1 8 (.tmp 43) (.tmp 46)), none⟩, ⟨(some 3), (.mov (.tmp 47)), none⟩]))))))
 (.region [⟨(some 11), (.mov (.tmp 4)), none⟩, ⟨(some 12), (.bin .add (.tmp 11) (.const (.c (.val (.int .i64 1))))), none⟩, ⟨(some 4), (.mov (.tmp 12)), none⟩])))
def a40 : AFunc := ⟨1, [(.tmp 2)], (.seq (.region [⟨(some 2), (.mov (.const (.c (.ro true 1 [])))), none⟩])
 (.seq (.region [⟨(some 3), (.mov (.const (.c (.ro true 1 [])))), none⟩])
 (.seq (.seq (.region [⟨(some 4), (.mov (.const (.c (.val (.int .i64 0))))), none⟩])
 (.block 0 (.loop a40_c3)))
 (.seq (.region [⟨(some 48), (.mov (.tmp 3)), none⟩, ⟨(some 2), (.mov (.tmp 48)), none⟩])
 .ret))))⟩
set_option maxRecDepth 100000 in
theorem c40 : compFunc Try.prog 40 = some a40 := by kernel_rfl
def clerestoryref2_OrderOf_post (r : (List Int)) : AV → Heap → Nat → Prop := fun v h' n' => ∃ z0 : Bool, (z0 = true → r = []) ∧ v = (lstV z0 0 1 r.length) ∧ (h' = (upd (fun _ => none) 0 (lstB z0 1 (r.map eI)))) ∧ n' = 1
abbrev clerestoryref2_OrderOf_q0 (Γ : Glob) (Q : AExit → St → Prop) : AExit → St → Prop := AThen (Sv Try.prog Γ 0 a40_c2 Q) Q
noncomputable def clerestoryref2_OrderOf_j6 (k_ : Int) (l_ : (List TSGiven)) (i_ : Int) (self : (List Int) → Int → Option (List Int)) (K2_ : (List Int) → Int → Option (List Int)) (out4 : (List Int)) (v31 : Bool) : Option (List Int) :=
  if v31 then
    self out4 (wi (k_ - 1))
  else
    K2_ out4 k_
theorem clerestoryref2_OrderOf_j6_ok {Γ : Glob} {Q : AExit → St → Prop} {k_ : Int} {l_ : (List TSGiven)} {i_ : Int} {self : (List Int) → Int → Option (List Int)} {K2_ : (List Int) → Int → Option (List Int)} {out4 : (List Int)} {v31 : Bool} {zout4 : Bool} (hzout4 : zout4 = true → out4 = []) {o : (List Int)} (h : clerestoryref2_OrderOf_j6 k_ l_ i_ self K2_ out4 v31 = some o)
    (hself : ∀ (out2 : (List Int)) (k_ : Int) (zout2 : Bool) (_ : zout2 = true → out2 = []), self out2 k_ = some o → ∀ s, Weak 0 s ⟨(upd (upd (upd (upd (fun _ => none) 0 (some (.c (.ro false 6 (l_.map e_TSGiven))))) 3 (some (lstV zout2 0 1 out2.length))) 4 (some (I i_))) 5 (some (I k_))), (upd (fun _ => none) 0 (lstB zout2 1 (out2.map eI))), 1⟩ → (Q) .normal s)
    (hK2 : ∀ (out3 : (List Int)) (k_1 : Int) (zout3 : Bool) (_ : zout3 = true → out3 = []), K2_ out3 k_1 = some o → ∀ s, Weak 0 s ⟨(upd (upd (upd (upd (fun _ => none) 0 (some (.c (.ro false 6 (l_.map e_TSGiven))))) 3 (some (lstV zout3 0 1 out3.length))) 4 (some (I i_))) 5 (some (I k_1))), (upd (fun _ => none) 0 (lstB zout3 1 (out3.map eI))), 1⟩ → Q (.exit 2) s)
    (hr : ∀ s, Ends a40.results 0 (clerestoryref2_OrderOf_post o) .ret s → Q .ret s) :
    Sv Try.prog Γ 0 a40_c1 (clerestoryref2_OrderOf_q0 Γ Q) ⟨(upd (upd (upd (upd (upd (fun _ => none) 0 (some (.c (.ro false 6 (l_.map e_TSGiven))))) 3 (some (lstV zout4 0 1 out4.length))) 4 (some (I i_))) 5 (some (I k_))) 31 (some (B v31))), (upd (fun _ => none) 0 (lstB zout4 1 (out4.map eI))), 1⟩ := by
  unfold clerestoryref2_OrderOf_j6 at h
  refine Sv.cond (b := v31) rfl (fun hc2 => ?_) (fun hc2 => ?_)
  · replace h := ifT hc2 h
    refine Sv.skip ?_
    refine Sv.block ?_
    refine Sv.region ?_
    refine un (a1 rfl ?_)
    refine un (a1 (v := (I (wi (k_ - 1)))) rfl ?_)
    refine un (a1 rfl ?_)
    refine dnil ?_
    exact hself out4 (wi (k_ - 1)) zout4 hzout4 h _ (weak_canon [0] rfl (by decide) (by decide) (fun b h => absurd h (Nat.not_lt_zero _)) (.cons rfl (avAs_free rfl) (.cons rfl (avAs_free rfl) (.cons rfl (.c (lstC_ren rfl (by decide))) (.cons rfl (avAs_free rfl) .nil)))) (.row (by decide) rfl (fr_map fun _ => rfl) .nil))
  · replace h := ifF hc2 h
    refine Sv.exit ?_
    exact hK2 out4 k_ zout4 hzout4 h _ (weak_canon [0] rfl (by decide) (by decide) (fun b h => absurd h (Nat.not_lt_zero _)) (.cons rfl (avAs_free rfl) (.cons rfl (avAs_free rfl) (.cons rfl (.c (lstC_ren rfl (by decide))) (.cons rfl (avAs_free rfl) .nil)))) (.row (by decide) rfl (fr_map fun _ => rfl) .nil))
noncomputable def clerestoryref2_OrderOf_l3 (l_ : (List TSGiven)) (i_ : Int) (K2_ : (List Int) → Int → Option (List Int)) : Nat → (List Int) → Int → Option (List Int)
  | 0, _, _ => none
  | k + 1, out2, k_ =>
    if decide (0 < k_) then
      (at? l_ i_).bind fun x_ =>
      (at? out2 (wi (k_ - 1))).bind fun x_1 =>
      (at? l_ x_1).bind fun x_2 =>
      clerestoryref2_OrderOf_j6 k_ l_ i_ (clerestoryref2_OrderOf_l3 l_ i_ K2_ k) K2_ out2 (clerestoryref2_Later x_ x_2)
    else
      clerestoryref2_OrderOf_j6 k_ l_ i_ (clerestoryref2_OrderOf_l3 l_ i_ K2_ k) K2_ out2 false
theorem clerestoryref2_OrderOf_l3_ok {Γ : Glob} {Q : AExit → St → Prop} {l_ : (List TSGiven)} {i_ : Int} {K2_ : (List Int) → Int → Option (List Int)} {k : Nat} {out2 : (List Int)} {k_ : Int} {zout2 : Bool} (hzout2 : zout2 = true → out2 = []) {o : (List Int)} (h : clerestoryref2_OrderOf_l3 l_ i_ K2_ k out2 k_ = some o)
    (hK2 : ∀ (out3 : (List Int)) (k_1 : Int) (zout3 : Bool) (_ : zout3 = true → out3 = []), K2_ out3 k_1 = some o → ∀ s, Weak 0 s ⟨(upd (upd (upd (upd (fun _ => none) 0 (some (.c (.ro false 6 (l_.map e_TSGiven))))) 3 (some (lstV zout3 0 1 out3.length))) 4 (some (I i_))) 5 (some (I k_1))), (upd (fun _ => none) 0 (lstB zout3 1 (out3.map eI))), 1⟩ → Q (.exit 2) s)
    (hr : ∀ s, Ends a40.results 0 (clerestoryref2_OrderOf_post o) .ret s → Q .ret s) :
    Sv Try.prog Γ 0 (.loop a40_c0) Q ⟨(upd (upd (upd (upd (fun _ => none) 0 (some (.c (.ro false 6 (l_.map e_TSGiven))))) 3 (some (lstV zout2 0 1 out2.length))) 4 (some (I i_))) 5 (some (I k_))), (upd (fun _ => none) 0 (lstB zout2 1 (out2.map eI))), 1⟩ := by
  refine Sv.loop (I := fun k s => ∃ (out2 : (List Int)), ∃ (k_ : Int), ∃ (zout2 : Bool), (zout2 = true → out2 = []) ∧ clerestoryref2_OrderOf_l3 l_ i_ K2_ k out2 k_ = some o ∧ s = ⟨(upd (upd (upd (upd (fun _ => none) 0 (some (.c (.ro false 6 (l_.map e_TSGiven))))) 3 (some (lstV zout2 0 1 out2.length))) 4 (some (I i_))) 5 (some (I k_))), (upd (fun _ => none) 0 (lstB zout2 1 (out2.map eI))), 1⟩) (fun k s hI => ?_) ⟨out2, k_, zout2, hzout2, h, rfl⟩
  clear h
  clear hzout2 zout2 k_ out2
  obtain ⟨out2, k_, zout2, hzout2, h, rfl⟩ := hI
  cases k with
  | zero => cases h
  | succ k =>
  rw [clerestoryref2_OrderOf_l3] at h
  have hself : ∀ (out2 : (List Int)) (k_ : Int) (zout2 : Bool) (_ : zout2 = true → out2 = []), (clerestoryref2_OrderOf_l3 l_ i_ K2_ k) out2 k_ = some o → ∀ s, Weak 0 s ⟨(upd (upd (upd (upd (fun _ => none) 0 (some (.c (.ro false 6 (l_.map e_TSGiven))))) 3 (some (lstV zout2 0 1 out2.length))) 4 (some (I i_))) 5 (some (I k_))), (upd (fun _ => none) 0 (lstB zout2 1 (out2.map eI))), 1⟩ → (AThen (fun s' => ∃ s'' k', Weak 0 s' s'' ∧ k' < k + 1 ∧ (fun k s => ∃ (out2 : (List Int)), ∃ (k_ : Int), ∃ (zout2 : Bool), (zout2 = true → out2 = []) ∧ clerestoryref2_OrderOf_l3 l_ i_ K2_ k out2 k_ = some o ∧ s = ⟨(upd (upd (upd (upd (fun _ => none) 0 (some (.c (.ro false 6 (l_.map e_TSGiven))))) 3 (some (lstV zout2 0 1 out2.length))) 4 (some (I i_))) 5 (some (I k_))), (upd (fun _ => none) 0 (lstB zout2 1 (out2.map eI))), 1⟩) k' s'') Q) .normal s := fun out2 k_ zout2 hzout2 h s hw => ⟨_, k, hw, Nat.lt_succ_self k, out2, k_, zout2, hzout2, h, rfl⟩
  refine Sv.seq ?_
  refine Sv.seq ?_
  refine Sv.drawn ?_
  refine un (a1 rfl ?_)
  refine un (a1 (v := (B (decide (0 < k_)))) rfl ?_)
  refine un (a1 rfl ?_)
  refine split2 (fun hc3 => ?_) (fun hc3 => ?_)
  · replace h := ifT hc3 h
    refine gt rfl (a1 rfl ?_)
    refine gt rfl (a1 rfl ?_)
    obtain ⟨x_, hx1, h⟩ := bnd h
    refine gt rfl (a1 (v := (.c (.rop [.str x_.Name, .str x_.Value, cI x_.Origin, cB x_.Important, cI x_.Weight, cI x_.Place]))) (s_iaddr (e := e_TSGiven) (xs := l_) rfl rfl hx1) ?_)
    refine gt rfl (a1 (v := (.agg [.str x_.Name, .str x_.Value, cI x_.Origin, cB x_.Important, cI x_.Weight, cI x_.Place])) rfl ?_)
    refine gt rfl (a1 rfl ?_)
    refine gt rfl (a1 rfl ?_)
    refine gt rfl (a1 rfl ?_)
    refine gt rfl (a1 (v := (I (wi (k_ - 1)))) rfl ?_)
    obtain ⟨x_1, hx2, h⟩ := bnd h
    refine gt rfl (a1 (v := (.c (.ref 0 1 (wi (k_ - 1)).toNat 0))) (s_iaddrL rfl rfl hzout2 hx2) ?_)
    refine gt rfl (a1 (v := (I x_1)) (s_loadL (z := zout2) (e := eI) rfl rfl hzout2 hx2 rfl rfl) ?_)
    obtain ⟨x_2, hx3, h⟩ := bnd h
    refine gt rfl (a1 (v := (.c (.rop [.str x_2.Name, .str x_2.Value, cI x_2.Origin, cB x_2.Important, cI x_2.Weight, cI x_2.Place]))) (s_iaddr (e := e_TSGiven) (xs := l_) rfl rfl hx3) ?_)
    refine gt rfl (a1 (v := (.agg [.str x_2.Name, .str x_2.Value, cI x_2.Origin, cB x_2.Important, cI x_2.Weight, cI x_2.Place])) rfl ?_)
    refine gt rfl (ac_pure (clerestoryref2_Later_ok (Γ := Γ) x_ x_2) rfl rfl rfl ?_)
    refine un (a1 (v := (B (clerestoryref2_Later x_ x_2))) rfl ?_)
    refine dnil ?_
    exact Sv.weak (weak_canon [0] rfl (by decide) (by decide) (fun b h => absurd h (Nat.not_lt_zero _)) (.cons rfl (avAs_free rfl) (.cons rfl (avAs_free rfl) (.cons rfl (avAs_free rfl) (.cons rfl (.c (lstC_ren rfl (by decide))) (.cons rfl (avAs_free rfl) .nil))))) (.row (by decide) rfl (fr_map fun _ => rfl) .nil)) (clerestoryref2_OrderOf_j6_ok hzout2 h hself hK2 hr)
  · replace h := ifF hc3 h
    refine gs rfl rfl ?_
    refine gs rfl rfl ?_
    refine gs rfl rfl ?_
    refine gs rfl rfl ?_
    refine gs rfl rfl ?_
    refine gs rfl rfl ?_
    refine gs rfl rfl ?_
    refine gs rfl rfl ?_
    refine gs rfl rfl ?_
    refine gs rfl rfl ?_
    refine gs rfl rfl ?_
    refine gs rfl rfl ?_
    refine gs rfl rfl ?_
    refine un (a1 (v := (B false)) rfl ?_)
    refine dnil ?_
    exact Sv.weak (weak_canon [0] rfl (by decide) (by decide) (fun b h => absurd h (Nat.not_lt_zero _)) (.cons rfl (avAs_free rfl) (.cons rfl (avAs_free rfl) (.cons rfl (avAs_free rfl) (.cons rfl (.c (lstC_ren rfl (by decide))) (.cons rfl (avAs_free rfl) .nil))))) (.row (by decide) rfl (fr_map fun _ => rfl) .nil)) (clerestoryref2_OrderOf_j6_ok hzout2 h hself hK2 hr)
noncomputable def clerestoryref2_OrderOf_l2 (l_ : (List TSGiven)) (K0_ : (List Int) → Option (List Int)) : Nat → (List Int) → Int → Option (List Int)
  | 0, _, _ => none
  | k + 1, out, i_ =>
    if decide (i_ < (l_.length : Int)) then
      lim fun kk => clerestoryref2_OrderOf_l3 l_ i_ (fun (out3 : (List Int)) (k_1 : Int) => 
          (sub? out3 0 k_1).bind fun r_ =>
          (app? 8 ([] : List Int) r_).bind fun r_1 =>
          (app? 8 r_1 [i_]).bind fun r_2 =>
          (sub? out3 k_1 (out3.length : Int)).bind fun r_3 =>
          (app? 8 r_2 r_3).bind fun r_4 =>
          (clerestoryref2_OrderOf_l2 l_ K0_ k) r_4 (wi (i_ + 1))) kk out (out.length : Int)
    else
      K0_ out
theorem clerestoryref2_OrderOf_l2_ok {Γ : Glob} {Q : AExit → St → Prop} {l_ : (List TSGiven)} {K0_ : (List Int) → Option (List Int)} {k : Nat} {out : (List Int)} {i_ : Int} {zout : Bool} (hzout : zout = true → out = []) {o : (List Int)} (h : clerestoryref2_OrderOf_l2 l_ K0_ k out i_ = some o)
    (hK0 : ∀ (out1 : (List Int)) (zout1 : Bool) (_ : zout1 = true → out1 = []), K0_ out1 = some o → ∀ s, Weak 0 s ⟨(upd (fun _ => none) 3 (some (lstV zout1 0 1 out1.length))), (upd (fun _ => none) 0 (lstB zout1 1 (out1.map eI))), 1⟩ → Q (.exit 0) s)
    (hr : ∀ s, Ends a40.results 0 (clerestoryref2_OrderOf_post o) .ret s → Q .ret s) :
    Sv Try.prog Γ 0 (.loop a40_c3) Q ⟨(upd (upd (upd (fun _ => none) 0 (some (.c (.ro false 6 (l_.map e_TSGiven))))) 3 (some (lstV zout 0 1 out.length))) 4 (some (I i_))), (upd (fun _ => none) 0 (lstB zout 1 (out.map eI))), 1⟩ := by
  refine Sv.loop (I := fun k s => ∃ (out : (List Int)), ∃ (i_ : Int), ∃ (zout : Bool), (zout = true → out = []) ∧ clerestoryref2_OrderOf_l2 l_ K0_ k out i_ = some o ∧ s = ⟨(upd (upd (upd (fun _ => none) 0 (some (.c (.ro false 6 (l_.map e_TSGiven))))) 3 (some (lstV zout 0 1 out.length))) 4 (some (I i_))), (upd (fun _ => none) 0 (lstB zout 1 (out.map eI))), 1⟩) (fun k s hI => ?_) ⟨out, i_, zout, hzout, h, rfl⟩
  clear h
  clear hzout zout i_ out
  obtain ⟨out, i_, zout, hzout, h, rfl⟩ := hI
  cases k with
  | zero => cases h
  | succ k =>
  rw [clerestoryref2_OrderOf_l2] at h
  have hself : ∀ (out : (List Int)) (i_ : Int) (zout : Bool) (_ : zout = true → out = []), (clerestoryref2_OrderOf_l2 l_ K0_ k) out i_ = some o → ∀ s, Weak 0 s ⟨(upd (upd (upd (fun _ => none) 0 (some (.c (.ro false 6 (l_.map e_TSGiven))))) 3 (some (lstV zout 0 1 out.length))) 4 (some (I i_))), (upd (fun _ => none) 0 (lstB zout 1 (out.map eI))), 1⟩ → (AThen (fun s' => ∃ s'' k', Weak 0 s' s'' ∧ k' < k + 1 ∧ (fun k s => ∃ (out : (List Int)), ∃ (i_ : Int), ∃ (zout : Bool), (zout = true → out = []) ∧ clerestoryref2_OrderOf_l2 l_ K0_ k out i_ = some o ∧ s = ⟨(upd (upd (upd (fun _ => none) 0 (some (.c (.ro false 6 (l_.map e_TSGiven))))) 3 (some (lstV zout 0 1 out.length))) 4 (some (I i_))), (upd (fun _ => none) 0 (lstB zout 1 (out.map eI))), 1⟩) k' s'') Q) .normal s := fun out i_ zout hzout h s hw => ⟨_, k, hw, Nat.lt_succ_self k, out, i_, zout, hzout, h, rfl⟩
  refine Sv.seq ?_
  refine Sv.seq ?_
  refine Sv.region ?_
  refine un (a1 rfl ?_)
  refine un (a1 rfl ?_)
  refine un (a1 (v := (I (l_.length : Int))) (s_len (e := e_TSGiven) (xs := l_) rfl) ?_)
  refine un (a1 (v := (B (decide (i_ < (l_.length : Int))))) rfl ?_)
  refine dnil ?_
  refine Sv.cond (b := decide (i_ < (l_.length : Int))) rfl (fun hc1 => ?_) (fun hc1 => ?_)
  · replace h := ifT hc1 h
    refine Sv.skip ?_
    refine Sv.seq ?_
    refine Sv.block ?_
    refine Sv.seq ?_
    refine Sv.region ?_
    refine un (a1 rfl ?_)
    refine un (a1 (v := (I (out.length : Int))) (s_lenL rfl (len_nil_of hzout)) ?_)
    refine un (a1 rfl ?_)
    refine dnil ?_
    refine Sv.seq ?_
    refine Sv.block ?_
    obtain ⟨kk, h⟩ := lim_some h
    refine Sv.weak (weak_canon [0] rfl (by decide) (by decide) (fun b h => absurd h (Nat.not_lt_zero _)) (.cons rfl (avAs_free rfl) (.cons rfl (avAs_free rfl) (.cons rfl (.c (lstC_ren rfl (by decide))) (.cons rfl (avAs_free rfl) .nil)))) (.row (by decide) rfl (fr_map fun _ => rfl) .nil)) (clerestoryref2_OrderOf_l3_ok hzout h ?_ hr)
    · intro out3 k_1 zout3 hzout3 h _ hw1
      refine Sv.weak hw1 ?_
      refine Sv.seq ?_
      refine Sv.weak (show Weak 0 _ ⟨(upd (upd (upd (upd (fun _ => none) 0 (some (.c (.ro false 6 (l_.map e_TSGiven))))) 3 (some (.c (.ro false 1 (out3.map eI))))) 4 (some (I i_))) 5 (some (I k_1))), (fun _ => none), 1⟩ from (weak_canon [1000] rfl (by decide) (by decide) (fun b h => absurd h (Nat.not_lt_zero _)) (.cons rfl (avAs_free rfl) (.cons rfl (avAs_free rfl) (.cons rfl (.c (lstC_ro (es := List.map eI out3) rfl (List.length_map eI).symm (map_nil_of hzout3) (fun b x hx => not_in (bs := [1000]) rfl b (((.nil) : HLt _ _) b x hx)) (fr_map fun _ => rfl))) (.cons rfl (avAs_free rfl) .nil)))) .nil)) ?_
      refine Sv.region ?_
      refine un (a2v (v := (lstV false 1 1 ([] : List Int).length)) (h' := upd _ 1 (lstB false 1 (([] : List Int).map eI))) (n' := 2) rfl rfl (fun h => by cases h) ?_)
      refine un (a1 rfl ?_)
      refine un (a1 rfl ?_)
      obtain ⟨r_, hx4, h⟩ := bnd h
      refine un (a1 (v := (.c (.ro false 1 (r_.map eI)))) (s_slSl (e := eI) rfl rfl rfl hx4) ?_)
      obtain ⟨r_1, hr1, h⟩ := bnd h
      have hz1 : (false && r_.isEmpty) = true → r_1 = [] := app_nil (z := false) (ys := r_) (fun h => by cases h) hr1
      replace hz1 : false = true → r_1 = [] := hz1
      refine un (a2v rfl (s_app (xs := ([] : List Int)) (ys := r_) (e := eI) (z := false) (b := 1) rfl rfl (fun h => by cases h) rfl rfl (slc_ro) hr1) (fun h => by cases h) ?_)
      refine un (a1 rfl ?_)
      refine dnil ?_
      refine Sv.seq ?_
      refine Sv.region ?_
      refine un (a1 rfl ?_)
      refine un (a1 rfl ?_)
      refine un (a2v (v := (lstV false 3 1 [i_].length)) (h' := upd _ 3 (lstB false 1 ([i_].map eI))) (n' := 4) rfl rfl (fun h => by cases h) ?_)
      obtain ⟨r_2, hr2, h⟩ := bnd h
      have hz2 : (false && [i_].isEmpty) = true → r_2 = [] := app_nil (z := false) (ys := [i_]) hz1 hr2
      replace hz2 : false = true → r_2 = [] := hz2
      refine un (a2v rfl (s_app (xs := r_1) (ys := [i_]) (e := eI) (z := false) (b := 2) rfl rfl hz1 rfl rfl (slc_lst rfl (List.length_map _).symm (map_nil_of (fun h => by cases h))) hr2) (fun h => by cases h) ?_)
      refine un (a1 rfl ?_)
      refine dnil ?_
      refine Sv.region ?_
      refine un (a1 rfl ?_)
      refine un (a1 rfl ?_)
      refine un (a1 rfl ?_)
      obtain ⟨r_3, hx5, h⟩ := bnd h
      refine un (a1 (v := (.c (.ro false 1 (r_3.map eI)))) (s_slSl (e := eI) rfl rfl rfl hx5) ?_)
      obtain ⟨r_4, hr3, h⟩ := bnd h
      have hz3 : (false && r_3.isEmpty) = true → r_4 = [] := app_nil (z := false) (ys := r_3) hz2 hr3
      replace hz3 : false = true → r_4 = [] := hz3
      refine un (a2v rfl (s_app (xs := r_2) (ys := r_3) (e := eI) (z := false) (b := 4) rfl rfl hz2 rfl rfl (slc_ro) hr3) (fun h => by cases h) ?_)
      refine un (a1 rfl ?_)
      refine dnil ?_
      refine Sv.region ?_
      refine un (a1 rfl ?_)
      refine un (a1 (v := (I (wi (i_ + 1)))) rfl ?_)
      refine un (a1 rfl ?_)
      refine dnil ?_
      exact hself r_4 (wi (i_ + 1)) false hz3 h _ (weak_canon [5] rfl (by decide) (by decide) (fun b h => absurd h (Nat.not_lt_zero _)) (.cons rfl (avAs_free rfl) (.cons rfl (.c (lstC_ren rfl (by decide))) (.cons rfl (avAs_free rfl) .nil))) (.row (by decide) rfl (fr_map fun _ => rfl) .nil))
  · replace h := ifF hc1 h
    refine Sv.exit ?_
    exact hK0 out zout hzout h _ (weak_canon [0] rfl (by decide) (by decide) (fun b h => absurd h (Nat.not_lt_zero _)) (.cons rfl (.c (lstC_ren rfl (by decide))) .nil) (.row (by decide) rfl (fr_map fun _ => rfl) .nil))
/-- clerestory/clerestoryref2.OrderOf -/
noncomputable def clerestoryref2_OrderOf (l_ : (List TSGiven)) : Option (List Int) :=
  lim fun kk1 => clerestoryref2_OrderOf_l2 l_ (fun (out1 : (List Int)) => 
      some out1) kk1 ([] : List Int) 0
theorem clerestoryref2_OrderOf_ok {Γ : Glob} {l_ : (List TSGiven)} {r : (List Int)} (h : clerestoryref2_OrderOf l_ = some r) : ACalls Try.prog Γ 40 [(.c (.ro false 6 (l_.map e_TSGiven)))] (fun _ => none) 0 (clerestoryref2_OrderOf_post r) := by
  refine acalls_of_sv hmix c40 (R := clerestoryref2_OrderOf_post r) ?_
  unfold clerestoryref2_OrderOf at h
  refine Sv.seq ?_
  refine Sv.region ?_
  refine un (a1 rfl ?_)
  refine dnil ?_
  refine Sv.seq ?_
  refine Sv.region ?_
  refine un (a1 rfl ?_)
  refine dnil ?_
  refine Sv.seq ?_
  refine Sv.seq ?_
  refine Sv.region ?_
  refine un (a1 rfl ?_)
  refine dnil ?_
  refine Sv.block ?_
  obtain ⟨kk1, h⟩ := lim_some h
  refine Sv.weak (weak_canon [1000] rfl (by decide) (by decide) (fun b h => absurd h (Nat.not_lt_zero _)) (.cons rfl (avAs_free rfl) (.cons rfl (.c (.same rfl)) (.cons rfl (avAs_free rfl) .nil))) (.non (by decide) .nil)) (clerestoryref2_OrderOf_l2_ok (fun _ => rfl) h ?_ (fun s hs => hs))
  · intro out1 zout1 hzout1 h _ hw2
    refine Sv.weak hw2 ?_
    refine Sv.seq ?_
    refine Sv.region ?_
    refine un (a1 rfl ?_)
    refine un (a1 rfl ?_)
    refine dnil ?_
    refine Sv.ret ?_
    replace h := Option.some.inj h
    subst h
    exact ⟨_, .refl _, _, rfl, ⟨upd (fun _ => none) 0 (some (lstV zout1 0 1 out1.length)), (upd (fun _ => none) 0 (lstB zout1 1 (out1.map eI))), 1⟩, (lstV zout1 0 1 out1.length), weak_canon2 [0] [0] (by decide) (by decide) (fun b h => absurd h (Nat.not_lt_zero _)) (.cons (by decide) .nil) (.cons rfl (.c (lstC_ren rfl (by decide))) .nil) (.row (by decide) rfl (fr_map fun _ => rfl) .nil), rfl, zout1, hzout1, rfl, rfl, rfl⟩
def a41_c0 : ACode := (.seq (.seq (.region [⟨(some 6), (.mov (.tmp 5)), none⟩, ⟨(some 7), (.mov (.tmp 0)), none⟩, ⟨(some 8), (.len (.tmp 7)), none⟩, ⟨(some 9), (.bin .lss (.tmp 6) (.tmp 8)), none⟩])
 (.cond (.tmp 9) .skip (.exit 0)))
 (.seq (.block 1 (.seq (.region [⟨(some 12), (.mov (.tmp 0)), none⟩, ⟨(some 13), (.mov (.tmp 5)), none⟩, ⟨(some 14), (.iaddr 1 (.tmp 12) (.tmp 13)), none⟩, ⟨(some 15), (.load false 1 (.tmp 14)), none⟩, ⟨(some 16), (.mov (.tmp 1)), none⟩, ⟨(some 17), (.bin .eql (.tmp 15) (.tmp 16)), none⟩])
 (.cond (.tmp 17) (.seq (.region [⟨(some 4), (.mov (.const (.c (.val (.bool true))))), none⟩])
 .ret) .skip)))
 (.region [⟨(some 10), (.mov (.tmp 5)), none⟩, ⟨(some 11), (.bin .add (.tmp 10) (.const (.c (.val (.int .i64 1))))), none⟩, ⟨(some 5), (.mov (.tmp 11)), none⟩])))
def a41 : AFunc := ⟨2, [(.tmp 4)], (.seq (.region [⟨(some 4), (.mov (.const (.c (.val (.bool false))))), none⟩])
 (.seq (.seq (.region [⟨(some 5), (.mov (.const (.c (.val (.int .i64 0))))), none⟩])
 (.block 0 (.loop a41_c0)))
 (.seq (.region [⟨(some 4), (.mov (.const (.c (.val (.bool false))))), none⟩])
 .ret)))⟩
set_option maxRecDepth 100000 in
theorem c41 : compFunc Try.prog 41 = some a41 := by kernel_rfl
def clerestoryref2_In_post (r : Bool) : AV → Heap → Nat → Prop := fun v h' n' => v = (B r) ∧ (h' = (fun _ => none)) ∧ n' = 0
noncomputable def clerestoryref2_In_l0 (l_ : (List (List UInt8))) (s_ : (List UInt8)) (K0_ : Unit → Option Bool) : Nat → Int → Option Bool
  | 0, _ => none
  | k + 1, i_ =>
    if decide (i_ < (l_.length : Int)) then
      (at? l_ i_).bind fun x_ =>
      if decide (x_ = s_) then
        some true
      else
        (clerestoryref2_In_l0 l_ s_ K0_ k) (wi (i_ + 1))
    else
      K0_ ()
theorem clerestoryref2_In_l0_ok {Γ : Glob} {Q : AExit → St → Prop} {l_ : (List (List UInt8))} {s_ : (List UInt8)} {K0_ : Unit → Option Bool} {k : Nat} {i_ : Int} {o : Bool} (h : clerestoryref2_In_l0 l_ s_ K0_ k i_ = some o)
    (hK0 : ∀ (_ : Unit), K0_ () = some o → ∀ s, Weak 0 s ⟨(fun _ => none), (fun _ => none), 0⟩ → Q (.exit 0) s)
    (hr : ∀ s, Ends a41.results 0 (clerestoryref2_In_post o) .ret s → Q .ret s) :
    Sv Try.prog Γ 0 (.loop a41_c0) Q ⟨(upd (upd (upd (fun _ => none) 0 (some (.c (.ro false 1 (l_.map eStr))))) 1 (some (S s_))) 5 (some (I i_))), (fun _ => none), 0⟩ := by
  refine Sv.loop (I := fun k s => ∃ (i_ : Int), clerestoryref2_In_l0 l_ s_ K0_ k i_ = some o ∧ s = ⟨(upd (upd (upd (fun _ => none) 0 (some (.c (.ro false 1 (l_.map eStr))))) 1 (some (S s_))) 5 (some (I i_))), (fun _ => none), 0⟩) (fun k s hI => ?_) ⟨i_, h, rfl⟩
  clear h
  clear i_
  obtain ⟨i_, h, rfl⟩ := hI
  cases k with
  | zero => cases h
  | succ k =>
  rw [clerestoryref2_In_l0] at h
  have hself : ∀ (i_ : Int), (clerestoryref2_In_l0 l_ s_ K0_ k) i_ = some o → ∀ s, Weak 0 s ⟨(upd (upd (upd (fun _ => none) 0 (some (.c (.ro false 1 (l_.map eStr))))) 1 (some (S s_))) 5 (some (I i_))), (fun _ => none), 0⟩ → (AThen (fun s' => ∃ s'' k', Weak 0 s' s'' ∧ k' < k + 1 ∧ (fun k s => ∃ (i_ : Int), clerestoryref2_In_l0 l_ s_ K0_ k i_ = some o ∧ s = ⟨(upd (upd (upd (fun _ => none) 0 (some (.c (.ro false 1 (l_.map eStr))))) 1 (some (S s_))) 5 (some (I i_))), (fun _ => none), 0⟩) k' s'') Q) .normal s := fun i_ h s hw => ⟨_, k, hw, Nat.lt_succ_self k, i_, h, rfl⟩
  refine Sv.seq ?_
  refine Sv.seq ?_
  refine Sv.region ?_
  refine un (a1 rfl ?_)
  refine un (a1 rfl ?_)
  refine un (a1 (v := (I (l_.length : Int))) (s_len (e := eStr) (xs := l_) rfl) ?_)
  refine un (a1 (v := (B (decide (i_ < (l_.length : Int))))) rfl ?_)
  refine dnil ?_
  refine Sv.cond (b := decide (i_ < (l_.length : Int))) rfl (fun hc1 => ?_) (fun hc1 => ?_)
  · replace h := ifT hc1 h
    refine Sv.skip ?_
    refine Sv.seq ?_
    refine Sv.block ?_
    refine Sv.seq ?_
    refine Sv.region ?_
    refine un (a1 rfl ?_)
    refine un (a1 rfl ?_)
    obtain ⟨x_, hx1, h⟩ := bnd h
    refine un (a1 (v := (.c (.rop [.str x_]))) (s_iaddr (e := eStr) (xs := l_) rfl rfl hx1) ?_)
    refine un (a1 (v := (S x_)) rfl ?_)
    refine un (a1 rfl ?_)
    refine un (a1 (v := (B (decide (x_ = s_)))) rfl ?_)
    refine dnil ?_
    refine Sv.cond (b := decide (x_ = s_)) rfl (fun hc2 => ?_) (fun hc2 => ?_)
    · replace h := ifT hc2 h
      refine Sv.seq ?_
      refine Sv.region ?_
      refine un (a1 rfl ?_)
      refine dnil ?_
      refine Sv.ret ?_
      replace h := Option.some.inj h
      subst h
      exact hr _ ⟨_, .refl _, _, rfl, ⟨upd (fun _ => none) 0 (some (B true)), (fun _ => none), 0⟩, (B true), weak_canon [] rfl List.nodup_nil (Nat.le_refl _) (fun b h => absurd h (Nat.not_lt_zero _)) (.cons rfl (avAs_free rfl) .nil) .nil, rfl, rfl, rfl, rfl⟩
    · replace h := ifF hc2 h
      refine Sv.skip ?_
      refine Sv.region ?_
      refine un (a1 rfl ?_)
      refine un (a1 (v := (I (wi (i_ + 1)))) rfl ?_)
      refine un (a1 rfl ?_)
      refine dnil ?_
      exact hself (wi (i_ + 1)) h _ (weak_canon [] rfl (by decide) (by decide) (fun b h => absurd h (Nat.not_lt_zero _)) (.cons rfl (avAs_free rfl) (.cons rfl (avAs_free rfl) (.cons rfl (avAs_free rfl) .nil))) .nil)
  · replace h := ifF hc1 h
    refine Sv.exit ?_
    exact hK0 () h _ (weak_canon [] rfl (by decide) (by decide) (fun b h => absurd h (Nat.not_lt_zero _)) .nil .nil)
/-- clerestory/clerestoryref2.In -/
noncomputable def clerestoryref2_In (l_ : (List (List UInt8))) (s_ : (List UInt8)) : Option Bool :=
  lim fun kk => clerestoryref2_In_l0 l_ s_ (fun (_ : Unit) => 
      some false) kk 0
theorem clerestoryref2_In_ok {Γ : Glob} {l_ : (List (List UInt8))} {s_ : (List UInt8)} {r : Bool} (h : clerestoryref2_In l_ s_ = some r) : CPure Try.prog Γ 41 [(.c (.ro false 1 (l_.map eStr))), (S s_)] (B r) := by
  refine acalls_of_sv hmix c41 (R := clerestoryref2_In_post r) ?_
  unfold clerestoryref2_In at h
  refine Sv.seq ?_
  refine Sv.region ?_
  refine un (a1 rfl ?_)
  refine dnil ?_
  refine Sv.seq ?_
  refine Sv.seq ?_
  refine Sv.region ?_
  refine un (a1 rfl ?_)
  refine dnil ?_
  refine Sv.block ?_
  obtain ⟨kk, h⟩ := lim_some h
  refine Sv.weak (weak_canon [] rfl (by decide) (by decide) (fun b h => absurd h (Nat.not_lt_zero _)) (.cons rfl (avAs_free rfl) (.cons rfl (avAs_free rfl) (.cons rfl (avAs_free rfl) .nil))) .nil) (clerestoryref2_In_l0_ok h ?_ (fun s hs => hs))
  · intro _ h _ hw1
    refine Sv.weak hw1 ?_
    refine Sv.seq ?_
    refine Sv.region ?_
    refine un (a1 rfl ?_)
    refine dnil ?_
    refine Sv.ret ?_
    replace h := Option.some.inj h
    subst h
    exact ⟨_, .refl _, _, rfl, ⟨upd (fun _ => none) 0 (some (B false)), (fun _ => none), 0⟩, (B false), weak_canon [] rfl List.nodup_nil (Nat.le_refl _) (fun b h => absurd h (Nat.not_lt_zero _)) (.cons rfl (avAs_free rfl) .nil) .nil, rfl, rfl, rfl, rfl⟩
def a10_c0 : ACode := (.seq (.seq (.region [⟨(some 34), (.mov (.tmp 7)), none⟩, ⟨(some 35), (.bin .geq (.tmp 34) (.const (.c (.val (.int .i64 0))))), none⟩])
 (.cond (.tmp 35) .skip (.exit 2)))
 (.seq (.block 3 (.seq (.drawn (.fin [(⟨(some 38), (.mov (.tmp 0)), none⟩, (0, 0)), (⟨(some 39), (.mov (.tmp 5)), none⟩, (0, 1)), (⟨(some 40), (.mov (.tmp 7)), none⟩, (0, 2)), (⟨(some 41), (.iaddr 1 (.tmp 39) (.tmp 40)), none⟩, (0, 3)), (⟨(some 42), (.load false 1 (.tmp 41)), none⟩, (0, 4)), (⟨(some 43), (.iaddr 6 (.tmp 38) (.tmp 42)), none⟩, (0, 5)), (⟨(some 44), (.faddr 0 (.tmp 43)), none⟩, (0, 6)), (⟨(some 45), (.load false 1 (.tmp 44)), none⟩, (0, 7)), (⟨(some 46), (.mov (.tmp 0)), none⟩, (0, 8)), (⟨(some 47), (.mov (.tmp 6)), none⟩, (0, 9)), (⟨(some 48), (.iaddr 6 (.tmp 46) (.tmp 47)), none⟩, (0, 10)), (⟨(some 49), (.faddr 0 (.tmp 48)), none⟩, (0, 11)), (⟨(some 50), (.load false 1 (.tmp 49)), none⟩, (0, 12)), (⟨(some 51), (.bin .eql (.tmp 45) (.tmp 50)), none⟩, (0, 13))]))
 (.cond (.tmp 51) (.seq (.region [⟨(some 52), (.mov (.tmp 4)), none⟩, ⟨(some 53), (.mov (.tmp 0)), none⟩, ⟨(some 54), (.mov (.tmp 5)), none⟩, ⟨(some 55), (.mov (.tmp 7)), none⟩, ⟨(some 56), (.iaddr 1 (.tmp 54) (.tmp 55)), none⟩, ⟨(some 57), (.load false 1 (.tmp 56)), none⟩, ⟨(some 58), (.iaddr 6 (.tmp 53) (.tmp 57)), none⟩, ⟨(some 59), (.load true 6 (.tmp 58)), none⟩, ⟨(some 60), (.bslice 6 [(.str []), (.str []), (.val (.int .i64 0)), (.val (.bool false)), (.val (.int .i64 0)), (.val (.int .i64 0))] 1 [(0, (.tmp 59))]), none⟩, ⟨(some 61), (.app 6 64 (.tmp 52) (.tmp 60)), none⟩, ⟨(some 4), (.mov (.tmp 61)), none⟩])
 (.exit 2)) .skip)))
 (.region [⟨(some 36), (.mov (.tmp 7)), none⟩, ⟨(some 37), (.bin .sub (.tmp 36) (.const (.c (.val (.int .i64 1))))), none⟩, ⟨(some 7), (.mov (.tmp 37)), none⟩])))
def a10_c1 : ACode := (.region [⟨(some 14), (.mov (.tmp 6)), none⟩, ⟨(some 15), (.bin .add (.tmp 14) (.const (.c (.val (.int .i64 1))))), none⟩, ⟨(some 6), (.mov (.tmp 15)), none⟩])
def a10_c2 : ACode := (.seq (.seq (.region [⟨(some 10), (.mov (.tmp 6)), none⟩, ⟨(some 11), (.mov (.tmp 0)), none⟩, ⟨(some 12), (.len (.tmp 11)), none⟩, ⟨(some 13), (.bin .lss (.tmp 10) (.tmp 12)), none⟩])
 (.cond (.tmp 13) .skip (.exit 0)))
 (.seq (.block 1 (.seq (.seq (.region [⟨(some 16), (.mov (.tmp 3)), none⟩, ⟨(some 17), (.mov (.tmp 0)), none⟩, ⟨(some 18), (.mov (.tmp 6)), none⟩, ⟨(some 19), (.iaddr 6 (.tmp 17) (.tmp 18)), none⟩, ⟨(some 20), (.faddr 0 (.tmp 19)), none⟩, ⟨(some 21), (.load false 1 (.tmp 20)), none⟩, ⟨(some 22), (.call 41 [(.tmp 16), (.tmp 21)]), none⟩])
 (.cond (.tmp 22) (.exit 1) .skip))
 (.seq (.region [⟨(some 23), (.mov (.tmp 3)), none⟩, ⟨(some 24), (.mov (.tmp 0)), none⟩, ⟨(some 25), (.mov (.tmp 6)), none⟩, ⟨(some 26), (.iaddr 6 (.tmp 24) (.tmp 25)), none⟩, ⟨(some 27), (.faddr 0 (.tmp 26)), none⟩, ⟨(some 28), (.load false 1 (.tmp 27)), none⟩, ⟨(some 29), (.bslice 1 [(.str [])] 1 [(0, (.tmp 28))]), none⟩, ⟨(some 30), (.app 1 16 (.tmp 23) (.tmp 29)), none⟩, ⟨(some 3), (.mov (.tmp 30)), none⟩])
 (.seq (.region [⟨(some 31), (.mov (.tmp 5)), none⟩, ⟨(some 32), (.len (.tmp 31)), none⟩, ⟨(some 33), (.bin .sub (.tmp 32) (.const (.c (.val (.int .i64 1))))), none⟩, ⟨(some 7), (.mov (.tmp 33)), none⟩])
 (.block 2 (.loop a10_c0))))))
 a10_c1))
def a10 : AFunc := ⟨1, [(.tmp 2)], (.seq (.region [⟨(some 2), (.mov (.const (.c (.ro true 6 [])))), none⟩])
 (.seq (.region [⟨(some 3), (.mov (.const (.c (.ro true 1 [])))), none⟩])
 (.seq (.region [⟨(some 4), (.mov (.const (.c (.ro true 6 [])))), none⟩])
 (.seq (.region [⟨(some 8), (.mov (.tmp 0)), none⟩, ⟨(some 9), (.call 40 [(.tmp 8)]), none⟩, ⟨(some 5), (.mov (.tmp 9)), none⟩])
 (.seq (.seq (.region [⟨(some 6), (.mov (.const (.c (.val (.int .i64 0))))), none⟩])
 (.block 0 (.loop a10_c2)))
 (.seq (.region [⟨(some 62), (.mov (.tmp 4)), none⟩, ⟨(some 2), (.mov (.tmp 62)), none⟩])
 .ret))))))⟩
set_option maxRecDepth 100000 in
theorem c10 : compFunc Try.prog 10 = some a10 := by kernel_rfl
def clerestoryref2_WinOf_post (r : (List TSGiven)) : AV → Heap → Nat → Prop := fun v h' n' => ∃ z0 : Bool, (z0 = true → r = []) ∧ v = (lstV z0 0 6 r.length) ∧ (h' = (upd (fun _ => none) 0 (lstB z0 6 (r.map e_TSGiven)))) ∧ n' = 1
noncomputable def clerestoryref2_WinOf_j3 (i_ : Int) (l_ : (List TSGiven)) (self : (List (List UInt8)) → (List TSGiven) → (List Int) → Int → Option (List TSGiven)) (K0_ : (List TSGiven) → Option (List TSGiven)) (names1 : (List (List UInt8))) (out2 : (List TSGiven)) (order1 : (List Int)) : Option (List TSGiven) :=
  self names1 out2 order1 (wi (i_ + 1))
theorem clerestoryref2_WinOf_j3_ok {Γ : Glob} {Q : AExit → St → Prop} {i_ : Int} {l_ : (List TSGiven)} {self : (List (List UInt8)) → (List TSGiven) → (List Int) → Int → Option (List TSGiven)} {K0_ : (List TSGiven) → Option (List TSGiven)} {names1 : (List (List UInt8))} {out2 : (List TSGiven)} {order1 : (List Int)} {znames1 : Bool} (hznames1 : znames1 = true → names1 = []) {zout2 : Bool} (hzout2 : zout2 = true → out2 = []) {zorder1 : Bool} (hzorder1 : zorder1 = true → order1 = []) {o : (List TSGiven)} (h : clerestoryref2_WinOf_j3 i_ l_ self K0_ names1 out2 order1 = some o)
    (hself : ∀ (names : (List (List UInt8))) (out : (List TSGiven)) (order : (List Int)) (i_ : Int) (znames : Bool) (_ : znames = true → names = []) (zout : Bool) (_ : zout = true → out = []) (zorder : Bool) (_ : zorder = true → order = []), self names out order i_ = some o → ∀ s, Weak 0 s ⟨(upd (upd (upd (upd (upd (fun _ => none) 0 (some (.c (.ro false 6 (l_.map e_TSGiven))))) 3 (some (lstV znames 0 1 names.length))) 4 (some (lstV zout 1 6 out.length))) 5 (some (lstV zorder 2 1 order.length))) 6 (some (I i_))), (upd (upd (upd (fun _ => none) 0 (lstB znames 1 (names.map eStr))) 1 (lstB zout 6 (out.map e_TSGiven))) 2 (lstB zorder 1 (order.map eI))), 3⟩ → (Q) .normal s)
    (hK0 : ∀ (out1 : (List TSGiven)) (zout1 : Bool) (_ : zout1 = true → out1 = []), K0_ out1 = some o → ∀ s, Weak 0 s ⟨(upd (fun _ => none) 4 (some (lstV zout1 0 6 out1.length))), (upd (fun _ => none) 0 (lstB zout1 6 (out1.map e_TSGiven))), 1⟩ → Q (.exit 0) s)
    (hr : ∀ s, Ends a10.results 0 (clerestoryref2_WinOf_post o) .ret s → Q .ret s) :
    Sv Try.prog Γ 0 a10_c1 Q ⟨(upd (upd (upd (upd (upd (fun _ => none) 0 (some (.c (.ro false 6 (l_.map e_TSGiven))))) 3 (some (lstV znames1 0 1 names1.length))) 4 (some (lstV zout2 1 6 out2.length))) 5 (some (lstV zorder1 2 1 order1.length))) 6 (some (I i_))), (upd (upd (upd (fun _ => none) 0 (lstB znames1 1 (names1.map eStr))) 1 (lstB zout2 6 (out2.map e_TSGiven))) 2 (lstB zorder1 1 (order1.map eI))), 3⟩ := by
  unfold clerestoryref2_WinOf_j3 at h
  refine Sv.region ?_
  refine un (a1 rfl ?_)
  refine un (a1 (v := (I (wi (i_ + 1)))) rfl ?_)
  refine un (a1 rfl ?_)
  refine dnil ?_
  exact hself names1 out2 order1 (wi (i_ + 1)) znames1 hznames1 zout2 hzout2 zorder1 hzorder1 h _ (weak_canon [0, 1, 2] rfl (by decide) (by decide) (fun b h => absurd h (Nat.not_lt_zero _)) (.cons rfl (avAs_free rfl) (.cons rfl (.c (lstC_ren rfl (by decide))) (.cons rfl (.c (lstC_ren rfl (by decide))) (.cons rfl (.c (lstC_ren rfl (by decide))) (.cons rfl (avAs_free rfl) .nil))))) (.row (by decide) rfl (fr_map fun _ => rfl) (.row (by decide) rfl (fr_map fun _ => rfl) (.row (by decide) rfl (fr_map fun _ => rfl) .nil))))
noncomputable def clerestoryref2_WinOf_l9 (order : (List Int)) (l_ : (List TSGiven)) (i_ : Int) (out : (List TSGiven)) (K2_ : (List (List UInt8)) → (List TSGiven) → (List Int) → Option (List TSGiven)) : Nat → (List (List UInt8)) → Int → Option (List TSGiven)
  | 0, _, _ => none
  | k + 1, names2, k_ =>
    if decide (0 ≤ k_) then
      (at? order k_).bind fun x_2 =>
      (at? l_ x_2).bind fun x_3 =>
      (at? l_ i_).bind fun x_4 =>
      if decide (x_3.Name = x_4.Name) then
        (at? order k_).bind fun x_5 =>
        (at? l_ x_5).bind fun x_6 =>
        (app? 64 out [x_6]).bind fun r_3 =>
        K2_ names2 r_3 order
      else
        (clerestoryref2_WinOf_l9 order l_ i_ out K2_ k) names2 (wi (k_ - 1))
    else
      K2_ names2 out order
theorem clerestoryref2_WinOf_l9_ok {Γ : Glob} {Q : AExit → St → Prop} {order : (List Int)} {l_ : (List TSGiven)} {i_ : Int} {out : (List TSGiven)} {K2_ : (List (List UInt8)) → (List TSGiven) → (List Int) → Option (List TSGiven)} {zout : Bool} (hzout : zout = true → out = []) {zorder : Bool} (hzorder : zorder = true → order = []) {k : Nat} {names2 : (List (List UInt8))} {k_ : Int} {znames2 : Bool} (hznames2 : znames2 = true → names2 = []) {o : (List TSGiven)} (h : clerestoryref2_WinOf_l9 order l_ i_ out K2_ k names2 k_ = some o)
    (hK2 : ∀ (names3 : (List (List UInt8))) (out3 : (List TSGiven)) (order2 : (List Int)) (znames3 : Bool) (_ : znames3 = true → names3 = []) (zout3 : Bool) (_ : zout3 = true → out3 = []) (zorder2 : Bool) (_ : zorder2 = true → order2 = []), K2_ names3 out3 order2 = some o → ∀ s, Weak 0 s ⟨(upd (upd (upd (upd (upd (fun _ => none) 0 (some (.c (.ro false 6 (l_.map e_TSGiven))))) 3 (some (lstV znames3 0 1 names3.length))) 4 (some (lstV zout3 1 6 out3.length))) 5 (some (lstV zorder2 2 1 order2.length))) 6 (some (I i_))), (upd (upd (upd (fun _ => none) 0 (lstB znames3 1 (names3.map eStr))) 1 (lstB zout3 6 (out3.map e_TSGiven))) 2 (lstB zorder2 1 (order2.map eI))), 3⟩ → Q (.exit 2) s)
    (hr : ∀ s, Ends a10.results 0 (clerestoryref2_WinOf_post o) .ret s → Q .ret s) :
    Sv Try.prog Γ 0 (.loop a10_c0) Q ⟨(upd (upd (upd (upd (upd (upd (fun _ => none) 0 (some (.c (.ro false 6 (l_.map e_TSGiven))))) 3 (some (lstV znames2 0 1 names2.length))) 4 (some (lstV zout 1 6 out.length))) 5 (some (lstV zorder 2 1 order.length))) 6 (some (I i_))) 7 (some (I k_))), (upd (upd (upd (fun _ => none) 0 (lstB znames2 1 (names2.map eStr))) 1 (lstB zout 6 (out.map e_TSGiven))) 2 (lstB zorder 1 (order.map eI))), 3⟩ := by
  refine Sv.loop (I := fun k s => ∃ (names2 : (List (List UInt8))), ∃ (k_ : Int), ∃ (znames2 : Bool), (znames2 = true → names2 = []) ∧ clerestoryref2_WinOf_l9 order l_ i_ out K2_ k names2 k_ = some o ∧ s = ⟨(upd (upd (upd (upd (upd (upd (fun _ => none) 0 (some (.c (.ro false 6 (l_.map e_TSGiven))))) 3 (some (lstV znames2 0 1 names2.length))) 4 (some (lstV zout 1 6 out.length))) 5 (some (lstV zorder 2 1 order.length))) 6 (some (I i_))) 7 (some (I k_))), (upd (upd (upd (fun _ => none) 0 (lstB znames2 1 (names2.map eStr))) 1 (lstB zout 6 (out.map e_TSGiven))) 2 (lstB zorder 1 (order.map eI))), 3⟩) (fun k s hI => ?_) ⟨names2, k_, znames2, hznames2, h, rfl⟩
  clear h
  clear hznames2 znames2 k_ names2
  obtain ⟨names2, k_, znames2, hznames2, h, rfl⟩ := hI
  cases k with
  | zero => cases h
  | succ k =>
  rw [clerestoryref2_WinOf_l9] at h
  have hself : ∀ (names2 : (List (List UInt8))) (k_ : Int) (znames2 : Bool) (_ : znames2 = true → names2 = []), (clerestoryref2_WinOf_l9 order l_ i_ out K2_ k) names2 k_ = some o → ∀ s, Weak 0 s ⟨(upd (upd (upd (upd (upd (upd (fun _ => none) 0 (some (.c (.ro false 6 (l_.map e_TSGiven))))) 3 (some (lstV znames2 0 1 names2.length))) 4 (some (lstV zout 1 6 out.length))) 5 (some (lstV zorder 2 1 order.length))) 6 (some (I i_))) 7 (some (I k_))), (upd (upd (upd (fun _ => none) 0 (lstB znames2 1 (names2.map eStr))) 1 (lstB zout 6 (out.map e_TSGiven))) 2 (lstB zorder 1 (order.map eI))), 3⟩ → (AThen (fun s' => ∃ s'' k', Weak 0 s' s'' ∧ k' < k + 1 ∧ (fun k s => ∃ (names2 : (List (List UInt8))), ∃ (k_ : Int), ∃ (znames2 : Bool), (znames2 = true → names2 = []) ∧ clerestoryref2_WinOf_l9 order l_ i_ out K2_ k names2 k_ = some o ∧ s = ⟨(upd (upd (upd (upd (upd (upd (fun _ => none) 0 (some (.c (.ro false 6 (l_.map e_TSGiven))))) 3 (some (lstV znames2 0 1 names2.length))) 4 (some (lstV zout 1 6 out.length))) 5 (some (lstV zorder 2 1 order.length))) 6 (some (I i_))) 7 (some (I k_))), (upd (upd (upd (fun _ => none) 0 (lstB znames2 1 (names2.map eStr))) 1 (lstB zout 6 (out.map e_TSGiven))) 2 (lstB zorder 1 (order.map eI))), 3⟩) k' s'') Q) .normal s := fun names2 k_ znames2 hznames2 h s hw => ⟨_, k, hw, Nat.lt_succ_self k, names2, k_, znames2, hznames2, h, rfl⟩
  refine Sv.seq ?_
  refine Sv.seq ?_
  refine Sv.region ?_
  refine un (a1 rfl ?_)
  refine un (a1 (v := (B (decide (0 ≤ k_)))) rfl ?_)
  refine dnil ?_
  refine Sv.cond (b := decide (0 ≤ k_)) rfl (fun hc3 => ?_) (fun hc3 => ?_)
  · replace h := ifT hc3 h
    refine Sv.skip ?_
    refine Sv.seq ?_
    refine Sv.block ?_
    refine Sv.seq ?_
    refine Sv.drawn ?_
    refine un (a1 rfl ?_)
    refine un (a1 rfl ?_)
    refine un (a1 rfl ?_)
    obtain ⟨x_2, hx3, h⟩ := bnd h
    refine un (a1 (v := (.c (.ref 2 1 k_.toNat 0))) (s_iaddrL rfl rfl hzorder hx3) ?_)
    refine un (a1 (v := (I x_2)) (s_loadL (z := zorder) (e := eI) rfl rfl hzorder hx3 rfl rfl) ?_)
    obtain ⟨x_3, hx4, h⟩ := bnd h
    refine un (a1 (v := (.c (.rop [.str x_3.Name, .str x_3.Value, cI x_3.Origin, cB x_3.Important, cI x_3.Weight, cI x_3.Place]))) (s_iaddr (e := e_TSGiven) (xs := l_) rfl rfl hx4) ?_)
    refine un (a1 (v := (.c (.rop [.str x_3.Name, .str x_3.Value, cI x_3.Origin, cB x_3.Important, cI x_3.Weight, cI x_3.Place]))) rfl ?_)
    refine un (a1 (v := (S x_3.Name)) rfl ?_)
    refine un (a1 rfl ?_)
    refine un (a1 rfl ?_)
    obtain ⟨x_4, hx5, h⟩ := bnd h
    refine un (a1 (v := (.c (.rop [.str x_4.Name, .str x_4.Value, cI x_4.Origin, cB x_4.Important, cI x_4.Weight, cI x_4.Place]))) (s_iaddr (e := e_TSGiven) (xs := l_) rfl rfl hx5) ?_)
    refine un (a1 (v := (.c (.rop [.str x_4.Name, .str x_4.Value, cI x_4.Origin, cB x_4.Important, cI x_4.Weight, cI x_4.Place]))) rfl ?_)
    refine un (a1 (v := (S x_4.Name)) rfl ?_)
    refine un (a1 (v := (B (decide (x_3.Name = x_4.Name)))) rfl ?_)
    refine dnil ?_
    refine Sv.cond (b := decide (x_3.Name = x_4.Name)) rfl (fun hc4 => ?_) (fun hc4 => ?_)
    · replace h := ifT hc4 h
      refine Sv.seq ?_
      refine Sv.region ?_
      refine un (a1 rfl ?_)
      refine un (a1 rfl ?_)
      refine un (a1 rfl ?_)
      refine un (a1 rfl ?_)
      obtain ⟨x_5, hx6, h⟩ := bnd h
      refine un (a1 (v := (.c (.ref 2 1 k_.toNat 0))) (s_iaddrL rfl rfl hzorder hx6) ?_)
      refine un (a1 (v := (I x_5)) (s_loadL (z := zorder) (e := eI) rfl rfl hzorder hx6 rfl rfl) ?_)
      obtain ⟨x_6, hx7, h⟩ := bnd h
      refine un (a1 (v := (.c (.rop [.str x_6.Name, .str x_6.Value, cI x_6.Origin, cB x_6.Important, cI x_6.Weight, cI x_6.Place]))) (s_iaddr (e := e_TSGiven) (xs := l_) rfl rfl hx7) ?_)
      refine un (a1 (v := (.agg [.str x_6.Name, .str x_6.Value, cI x_6.Origin, cB x_6.Important, cI x_6.Weight, cI x_6.Place])) rfl ?_)
      refine un (a2v (v := (lstV false 3 6 [x_6].length)) (h' := upd _ 3 (lstB false 6 ([x_6].map e_TSGiven))) (n' := 4) rfl rfl (fun h => by cases h) ?_)
      obtain ⟨r_3, hr4, h⟩ := bnd h
      have hz2 : (zout && [x_6].isEmpty) = true → r_3 = [] := app_nil (z := zout) (ys := [x_6]) hzout hr4
      refine un (a2v rfl (s_app (xs := out) (ys := [x_6]) (e := e_TSGiven) (z := zout) (b := 1) rfl rfl hzout rfl rfl (slc_lst rfl (List.length_map _).symm (map_nil_of (fun h => by cases h))) hr4) (fun h => by cases h) ?_)
      refine un (a1 rfl ?_)
      refine dnil ?_
      refine Sv.exit ?_
      exact hK2 names2 r_3 order znames2 hznames2 (zout && [x_6].isEmpty) hz2 zorder hzorder h _ (weak_canon [0, 4, 2] rfl (by decide) (by decide) (fun b h => absurd h (Nat.not_lt_zero _)) (.cons rfl (avAs_free rfl) (.cons rfl (.c (lstC_ren rfl (by decide))) (.cons rfl (.c (lstC_ren rfl (by decide))) (.cons rfl (.c (lstC_ren rfl (by decide))) (.cons rfl (avAs_free rfl) .nil))))) (.row (by decide) rfl (fr_map fun _ => rfl) (.row (by decide) rfl (fr_map fun _ => rfl) (.row (by decide) rfl (fr_map fun _ => rfl) .nil))))
    · replace h := ifF hc4 h
      refine Sv.skip ?_
      refine Sv.region ?_
      refine un (a1 rfl ?_)
      refine un (a1 (v := (I (wi (k_ - 1)))) rfl ?_)
      refine un (a1 rfl ?_)
      refine dnil ?_
      exact hself names2 (wi (k_ - 1)) znames2 hznames2 h _ (weak_canon [0, 1, 2] rfl (by decide) (by decide) (fun b h => absurd h (Nat.not_lt_zero _)) (.cons rfl (avAs_free rfl) (.cons rfl (avAs_free rfl) (.cons rfl (.c (lstC_ren rfl (by decide))) (.cons rfl (.c (lstC_ren rfl (by decide))) (.cons rfl (.c (lstC_ren rfl (by decide))) (.cons rfl (avAs_free rfl) .nil)))))) (.row (by decide) rfl (fr_map fun _ => rfl) (.row (by decide) rfl (fr_map fun _ => rfl) (.row (by decide) rfl (fr_map fun _ => rfl) .nil))))
  · replace h := ifF hc3 h
    refine Sv.exit ?_
    exact hK2 names2 out order znames2 hznames2 zout hzout zorder hzorder h _ (weak_canon [0, 1, 2] rfl (by decide) (by decide) (fun b h => absurd h (Nat.not_lt_zero _)) (.cons rfl (avAs_free rfl) (.cons rfl (.c (lstC_ren rfl (by decide))) (.cons rfl (.c (lstC_ren rfl (by decide))) (.cons rfl (.c (lstC_ren rfl (by decide))) (.cons rfl (avAs_free rfl) .nil))))) (.row (by decide) rfl (fr_map fun _ => rfl) (.row (by decide) rfl (fr_map fun _ => rfl) (.row (by decide) rfl (fr_map fun _ => rfl) .nil))))
noncomputable def clerestoryref2_WinOf_l6 (l_ : (List TSGiven)) (K0_ : (List TSGiven) → Option (List TSGiven)) : Nat → (List (List UInt8)) → (List TSGiven) → (List Int) → Int → Option (List TSGiven)
  | 0, _, _, _, _ => none
  | k + 1, names, out, order, i_ =>
    if decide (i_ < (l_.length : Int)) then
      (at? l_ i_).bind fun x_ =>
      (clerestoryref2_In names x_.Name).bind fun r_1 =>
      if r_1 then
        clerestoryref2_WinOf_j3 i_ l_ (clerestoryref2_WinOf_l6 l_ K0_ k) K0_ names out order
      else
        (at? l_ i_).bind fun x_1 =>
        (app? 16 names [x_1.Name]).bind fun r_2 =>
        lim fun kk => clerestoryref2_WinOf_l9 order l_ i_ out (fun (names3 : (List (List UInt8))) (out3 : (List TSGiven)) (order2 : (List Int)) => 
            clerestoryref2_WinOf_j3 i_ l_ (clerestoryref2_WinOf_l6 l_ K0_ k) K0_ names3 out3 order2) kk r_2 (wi ((order.length : Int) - 1))
    else
      K0_ out
theorem clerestoryref2_WinOf_l6_ok {Γ : Glob} {Q : AExit → St → Prop} {l_ : (List TSGiven)} {K0_ : (List TSGiven) → Option (List TSGiven)} {k : Nat} {names : (List (List UInt8))} {out : (List TSGiven)} {order : (List Int)} {i_ : Int} {znames : Bool} (hznames : znames = true → names = []) {zout : Bool} (hzout : zout = true → out = []) {zorder : Bool} (hzorder : zorder = true → order = []) {o : (List TSGiven)} (h : clerestoryref2_WinOf_l6 l_ K0_ k names out order i_ = some o)
    (hK0 : ∀ (out1 : (List TSGiven)) (zout1 : Bool) (_ : zout1 = true → out1 = []), K0_ out1 = some o → ∀ s, Weak 0 s ⟨(upd (fun _ => none) 4 (some (lstV zout1 0 6 out1.length))), (upd (fun _ => none) 0 (lstB zout1 6 (out1.map e_TSGiven))), 1⟩ → Q (.exit 0) s)
    (hr : ∀ s, Ends a10.results 0 (clerestoryref2_WinOf_post o) .ret s → Q .ret s) :
    Sv Try.prog Γ 0 (.loop a10_c2) Q ⟨(upd (upd (upd (upd (upd (fun _ => none) 0 (some (.c (.ro false 6 (l_.map e_TSGiven))))) 3 (some (lstV znames 0 1 names.length))) 4 (some (lstV zout 1 6 out.length))) 5 (some (lstV zorder 2 1 order.length))) 6 (some (I i_))), (upd (upd (upd (fun _ => none) 0 (lstB znames 1 (names.map eStr))) 1 (lstB zout 6 (out.map e_TSGiven))) 2 (lstB zorder 1 (order.map eI))), 3⟩ := by
  refine Sv.loop (I := fun k s => ∃ (names : (List (List UInt8))), ∃ (out : (List TSGiven)), ∃ (order : (List Int)), ∃ (i_ : Int), ∃ (znames : Bool), (znames = true → names = []) ∧ ∃ (zout : Bool), (zout = true → out = []) ∧ ∃ (zorder : Bool), (zorder = true → order = []) ∧ clerestoryref2_WinOf_l6 l_ K0_ k names out order i_ = some o ∧ s = ⟨(upd (upd (upd (upd (upd (fun _ => none) 0 (some (.c (.ro false 6 (l_.map e_TSGiven))))) 3 (some (lstV znames 0 1 names.length))) 4 (some (lstV zout 1 6 out.length))) 5 (some (lstV zorder 2 1 order.length))) 6 (some (I i_))), (upd (upd (upd (fun _ => none) 0 (lstB znames 1 (names.map eStr))) 1 (lstB zout 6 (out.map e_TSGiven))) 2 (lstB zorder 1 (order.map eI))), 3⟩) (fun k s hI => ?_) ⟨names, out, order, i_, znames, hznames, zout, hzout, zorder, hzorder, h, rfl⟩
  clear h
  clear hzorder hzout hznames zorder zout znames i_ order out names
  obtain ⟨names, out, order, i_, znames, hznames, zout, hzout, zorder, hzorder, h, rfl⟩ := hI
  cases k with
  | zero => cases h
  | succ k =>
  rw [clerestoryref2_WinOf_l6] at h
  have hself : ∀ (names : (List (List UInt8))) (out : (List TSGiven)) (order : (List Int)) (i_ : Int) (znames : Bool) (_ : znames = true → names = []) (zout : Bool) (_ : zout = true → out = []) (zorder : Bool) (_ : zorder = true → order = []), (clerestoryref2_WinOf_l6 l_ K0_ k) names out order i_ = some o → ∀ s, Weak 0 s ⟨(upd (upd (upd (upd (upd (fun _ => none) 0 (some (.c (.ro false 6 (l_.map e_TSGiven))))) 3 (some (lstV znames 0 1 names.length))) 4 (some (lstV zout 1 6 out.length))) 5 (some (lstV zorder 2 1 order.length))) 6 (some (I i_))), (upd (upd (upd (fun _ => none) 0 (lstB znames 1 (names.map eStr))) 1 (lstB zout 6 (out.map e_TSGiven))) 2 (lstB zorder 1 (order.map eI))), 3⟩ → (AThen (fun s' => ∃ s'' k', Weak 0 s' s'' ∧ k' < k + 1 ∧ (fun k s => ∃ (names : (List (List UInt8))), ∃ (out : (List TSGiven)), ∃ (order : (List Int)), ∃ (i_ : Int), ∃ (znames : Bool), (znames = true → names = []) ∧ ∃ (zout : Bool), (zout = true → out = []) ∧ ∃ (zorder : Bool), (zorder = true → order = []) ∧ clerestoryref2_WinOf_l6 l_ K0_ k names out order i_ = some o ∧ s = ⟨(upd (upd (upd (upd (upd (fun _ => none) 0 (some (.c (.ro false 6 (l_.map e_TSGiven))))) 3 (some (lstV znames 0 1 names.length))) 4 (some (lstV zout 1 6 out.length))) 5 (some (lstV zorder 2 1 order.length))) 6 (some (I i_))), (upd (upd (upd (fun _ => none) 0 (lstB znames 1 (names.map eStr))) 1 (lstB zout 6 (out.map e_TSGiven))) 2 (lstB zorder 1 (order.map eI))), 3⟩) k' s'') Q) .normal s := fun names out order i_ znames hznames zout hzout zorder hzorder h s hw => ⟨_, k, hw, Nat.lt_succ_self k, names, out, order, i_, znames, hznames, zout, hzout, zorder, hzorder, h, rfl⟩
  refine Sv.seq ?_
  refine Sv.seq ?_
  refine Sv.region ?_
  refine un (a1 rfl ?_)
  refine un (a1 rfl ?_)
  refine un (a1 (v := (I (l_.length : Int))) (s_len (e := e_TSGiven) (xs := l_) rfl) ?_)
  refine un (a1 (v := (B (decide (i_ < (l_.length : Int))))) rfl ?_)
  refine dnil ?_
  refine Sv.cond (b := decide (i_ < (l_.length : Int))) rfl (fun hc1 => ?_) (fun hc1 => ?_)
  · replace h := ifT hc1 h
    refine Sv.skip ?_
    refine Sv.seq ?_
    refine Sv.block ?_
    refine Sv.seq ?_
    refine Sv.seq ?_
    refine Sv.region ?_
    refine un (a1 rfl ?_)
    refine un (a1 rfl ?_)
    refine un (a1 rfl ?_)
    obtain ⟨x_, hx1, h⟩ := bnd h
    refine un (a1 (v := (.c (.rop [.str x_.Name, .str x_.Value, cI x_.Origin, cB x_.Important, cI x_.Weight, cI x_.Place]))) (s_iaddr (e := e_TSGiven) (xs := l_) rfl rfl hx1) ?_)
    refine un (a1 (v := (.c (.rop [.str x_.Name, .str x_.Value, cI x_.Origin, cB x_.Important, cI x_.Weight, cI x_.Place]))) rfl ?_)
    refine un (a1 (v := (S x_.Name)) rfl ?_)
    obtain ⟨r_1, hr2, h⟩ := bnd h
    refine un (ac_lend (h2 := (upd _ 0 none)) (clerestoryref2_In_ok hr2) rfl (.cons (.c (lstC_ro (es := List.map eStr names) rfl (List.length_map eStr).symm (map_nil_of hznames) (gone rfl) (fr_map fun _ => rfl))) (.cons (avAs_free rfl) .nil)) (hsub_none (hsub_refl _)) rfl rfl (.inr rfl) ?_)
    refine dnil ?_
    refine Sv.cond (b := r_1) rfl (fun hc2 => ?_) (fun hc2 => ?_)
    · replace h := ifT hc2 h
      refine Sv.exit ?_
      exact Sv.weak (weak_canon [0, 1, 2] rfl (by decide) (by decide) (fun b h => absurd h (Nat.not_lt_zero _)) (.cons rfl (avAs_free rfl) (.cons rfl (.c (lstC_ren rfl (by decide))) (.cons rfl (.c (lstC_ren rfl (by decide))) (.cons rfl (.c (lstC_ren rfl (by decide))) (.cons rfl (avAs_free rfl) .nil))))) (.row (by decide) rfl (fr_map fun _ => rfl) (.row (by decide) rfl (fr_map fun _ => rfl) (.row (by decide) rfl (fr_map fun _ => rfl) .nil)))) (clerestoryref2_WinOf_j3_ok hznames hzout hzorder h hself hK0 hr)
    · replace h := ifF hc2 h
      refine Sv.skip ?_
      refine Sv.seq ?_
      refine Sv.region ?_
      refine un (a1 rfl ?_)
      refine un (a1 rfl ?_)
      refine un (a1 rfl ?_)
      obtain ⟨x_1, hx2, h⟩ := bnd h
      refine un (a1 (v := (.c (.rop [.str x_1.Name, .str x_1.Value, cI x_1.Origin, cB x_1.Important, cI x_1.Weight, cI x_1.Place]))) (s_iaddr (e := e_TSGiven) (xs := l_) rfl rfl hx2) ?_)
      refine un (a1 (v := (.c (.rop [.str x_1.Name, .str x_1.Value, cI x_1.Origin, cB x_1.Important, cI x_1.Weight, cI x_1.Place]))) rfl ?_)
      refine un (a1 (v := (S x_1.Name)) rfl ?_)
      refine un (a2v (v := (lstV false 3 1 [x_1.Name].length)) (h' := upd _ 3 (lstB false 1 ([x_1.Name].map eStr))) (n' := 4) rfl rfl (fun h => by cases h) ?_)
      obtain ⟨r_2, hr3, h⟩ := bnd h
      have hz1 : (znames && [x_1.Name].isEmpty) = true → r_2 = [] := app_nil (z := znames) (ys := [x_1.Name]) hznames hr3
      refine un (a2v rfl (s_app (xs := names) (ys := [x_1.Name]) (e := eStr) (z := znames) (b := 0) rfl rfl hznames rfl rfl (slc_lst rfl (List.length_map _).symm (map_nil_of (fun h => by cases h))) hr3) (fun h => by cases h) ?_)
      refine un (a1 rfl ?_)
      refine dnil ?_
      refine Sv.seq ?_
      refine Sv.region ?_
      refine un (a1 rfl ?_)
      refine un (a1 (v := (I (order.length : Int))) (s_lenL rfl (len_nil_of hzorder)) ?_)
      refine un (a1 (v := (I (wi ((order.length : Int) - 1)))) rfl ?_)
      refine un (a1 rfl ?_)
      refine dnil ?_
      refine Sv.block ?_
      obtain ⟨kk, h⟩ := lim_some h
      refine Sv.weak (weak_canon [4, 1, 2] rfl (by decide) (by decide) (fun b h => absurd h (Nat.not_lt_zero _)) (.cons rfl (avAs_free rfl) (.cons rfl (avAs_free rfl) (.cons rfl (.c (lstC_ren rfl (by decide))) (.cons rfl (.c (lstC_ren rfl (by decide))) (.cons rfl (.c (lstC_ren rfl (by decide))) (.cons rfl (avAs_free rfl) .nil)))))) (.row (by decide) rfl (fr_map fun _ => rfl) (.row (by decide) rfl (fr_map fun _ => rfl) (.row (by decide) rfl (fr_map fun _ => rfl) .nil)))) (clerestoryref2_WinOf_l9_ok hzout hzorder hz1 h ?_ hr)
      · intro names3 out3 order2 znames3 hznames3 zout3 hzout3 zorder2 hzorder2 h _ hw1
        exact Sv.weak (hw1.trans (weak_canon [0, 1, 2] rfl (by decide) (by decide) (fun b h => absurd h (Nat.not_lt_zero _)) (.cons rfl (avAs_free rfl) (.cons rfl (.c (lstC_ren rfl (by decide))) (.cons rfl (.c (lstC_ren rfl (by decide))) (.cons rfl (.c (lstC_ren rfl (by decide))) (.cons rfl (avAs_free rfl) .nil))))) (.row (by decide) rfl (fr_map fun _ => rfl) (.row (by decide) rfl (fr_map fun _ => rfl) (.row (by decide) rfl (fr_map fun _ => rfl) .nil))))) (clerestoryref2_WinOf_j3_ok hznames3 hzout3 hzorder2 h hself hK0 hr)
  · replace h := ifF hc1 h
    refine Sv.exit ?_
    exact hK0 out zout hzout h _ (weak_canon [1] rfl (by decide) (by decide) (fun b h => absurd h (Nat.not_lt_zero _)) (.cons rfl (.c (lstC_ren rfl (by decide))) .nil) (.row (by decide) rfl (fr_map fun _ => rfl) .nil))
/-- clerestory/clerestoryref2.WinOf -/
noncomputable def clerestoryref2_WinOf (l_ : (List TSGiven)) : Option (List TSGiven) :=
  (clerestoryref2_OrderOf l_).bind fun r_ =>
  lim fun kk1 => clerestoryref2_WinOf_l6 l_ (fun (out1 : (List TSGiven)) => 
      some out1) kk1 ([] : List (List UInt8)) ([] : List TSGiven) r_ 0
theorem clerestoryref2_WinOf_ok {Γ : Glob} {l_ : (List TSGiven)} {r : (List TSGiven)} (h : clerestoryref2_WinOf l_ = some r) : ACalls Try.prog Γ 10 [(.c (.ro false 6 (l_.map e_TSGiven)))] (fun _ => none) 0 (clerestoryref2_WinOf_post r) := by
  refine acalls_of_sv hmix c10 (R := clerestoryref2_WinOf_post r) ?_
  unfold clerestoryref2_WinOf at h
  refine Sv.seq ?_
  refine Sv.region ?_
  refine un (a1 rfl ?_)
  refine dnil ?_
  refine Sv.seq ?_
  refine Sv.region ?_
  refine un (a1 rfl ?_)
  refine dnil ?_
  refine Sv.seq ?_
  refine Sv.region ?_
  refine un (a1 rfl ?_)
  refine dnil ?_
  refine Sv.seq ?_
  refine Sv.region ?_
  refine un (a1 rfl ?_)
  obtain ⟨r_, hr1, h⟩ := bnd h
  refine un (ac_gen (bs := []) («as» := [(.c (.ro false 6 (l_.map e_TSGiven)))]) (h2 := _) (h1 := (fun _ => none)) (clerestoryref2_OrderOf_ok hr1) rfl (.cons (avAs_free rfl) .nil) (hsub_refl _) (.nil _) (fun _ => rfl) (by decide) (by decide) (.cons (avAs_free rfl) .nil) .nil ?_)
  rintro _ _ _ hn ⟨z_, hz_, rfl, rfl, rfl⟩
  refine ⟨.inl rfl, (upd (rem [] _) 0 (lstB z_ 1 (r_.map eI))), fun hbd => (m3_cons (m3_row rfl (fr_map fun _ => rfl)) (m3_rem (in_nil _) (.cons (by decide) .nil) hbd)), (lstV z_ 0 1 r_.length), 1, (by cases z_ <;> rfl), rfl, ?_⟩
  refine un (a1 rfl ?_)
  refine dnil ?_
  refine Sv.seq ?_
  refine Sv.seq ?_
  refine Sv.region ?_
  refine un (a1 rfl ?_)
  refine dnil ?_
  refine Sv.block ?_
  obtain ⟨kk1, h⟩ := lim_some h
  refine Sv.weak (weak_canon [1000, 1001, 0] rfl (by decide) (by decide) (fun b h => absurd h (Nat.not_lt_zero _)) (.cons rfl (avAs_free rfl) (.cons rfl (.c (lstC_ren rfl (by decide))) (.cons rfl (.c (.same rfl)) (.cons rfl (.c (.same rfl)) (.cons rfl (avAs_free rfl) .nil))))) (.row (by decide) rfl (fr_map fun _ => rfl) (.non (by decide) (.non (by decide) .nil)))) (clerestoryref2_WinOf_l6_ok (fun _ => rfl) (fun _ => rfl) hz_ h ?_ (fun s hs => hs))
  · intro out1 zout1 hzout1 h _ hw2
    refine Sv.weak hw2 ?_
    refine Sv.seq ?_
    refine Sv.region ?_
    refine un (a1 rfl ?_)
    refine un (a1 rfl ?_)
    refine dnil ?_
    refine Sv.ret ?_
    replace h := Option.some.inj h
    subst h
    exact ⟨_, .refl _, _, rfl, ⟨upd (fun _ => none) 0 (some (lstV zout1 0 6 out1.length)), (upd (fun _ => none) 0 (lstB zout1 6 (out1.map e_TSGiven))), 1⟩, (lstV zout1 0 6 out1.length), weak_canon2 [0] [0] (by decide) (by decide) (fun b h => absurd h (Nat.not_lt_zero _)) (.cons (by decide) .nil) (.cons rfl (.c (lstC_ren rfl (by decide))) .nil) (.row (by decide) rfl (fr_map fun _ => rfl) .nil), rfl, zout1, hzout1, rfl, rfl, rfl⟩
def a3_c0 : ACode := (.seq (.seq (.region [⟨(some 22), (.mov (.tmp 6)), none⟩, ⟨(some 23), (.mov (.tmp 4)), none⟩, ⟨(some 24), (.len (.tmp 23)), none⟩, ⟨(some 25), (.bin .lss (.tmp 22) (.tmp 24)), none⟩])
 (.cond (.tmp 25) .skip (.exit 0)))
 (.seq (.block 1 (.seq (.drawn (.fin [(⟨(some 28), (.mov (.tmp 4)), none⟩, (0, 0)), (⟨(some 29), (.mov (.tmp 6)), none⟩, (0, 1)), (⟨(some 30), (.iaddr 6 (.tmp 28) (.tmp 29)), none⟩, (0, 2)), (⟨(some 31), (.load true 6 (.tmp 30)), none⟩, (0, 3)), (⟨(some 32), (.mov (.tmp 5)), none⟩, (0, 4)), (⟨(some 33), (.mov (.tmp 6)), none⟩, (0, 5)), (⟨(some 34), (.iaddr 6 (.tmp 32) (.tmp 33)), none⟩, (0, 6)), (⟨(some 35), (.load true 6 (.tmp 34)), none⟩, (0, 7)), (⟨(some 36), (.eqs true true [.s, .s, .i, .b, .i, .i] (.tmp 31) (.tmp 35)), none⟩, (0, 8))]))
 (.cond (.tmp 36) (.seq (.region [⟨(some 2), (.mov (.const (.c (.val (.bool false))))), none⟩])
 .ret) .skip)))
 (.region [⟨(some 26), (.mov (.tmp 6)), none⟩, ⟨(some 27), (.bin .add (.tmp 26) (.const (.c (.val (.int .i64 1))))), none⟩, ⟨(some 6), (.mov (.tmp 27)), none⟩])))
def a3 : AFunc := ⟨1, [(.tmp 2)], (.seq (.region [⟨(some 2), (.mov (.const (.c (.val (.bool false))))), none⟩])
 (.seq (.region [⟨(some 7), (.call 8 []), none⟩, ⟨(some 3), (.mov (.tmp 7)), none⟩])
 (.seq (.region [⟨(some 8), (.mov (.tmp 0)), none⟩, ⟨(some 9), (.mov (.tmp 0)), none⟩, ⟨(some 10), (.len (.tmp 9)), none⟩, ⟨(some 11), (.mm false [(.tmp 10), (.const (.c (.val (.int .i64 60))))]), none⟩, ⟨(some 12), (.slSl 6 (.tmp 8) none (some (.tmp 11)) none), none⟩, ⟨(some 0), (.mov (.tmp 12)), none⟩])
 (.seq (.region [⟨(some 13), (.mov (.tmp 0)), none⟩, ⟨(some 14), (.call 9 [(.tmp 13)]), none⟩, ⟨(some 4), (.mov (.tmp 14)), none⟩])
 (.seq (.region [⟨(some 15), (.mov (.tmp 0)), none⟩, ⟨(some 16), (.call 10 [(.tmp 15)]), none⟩, ⟨(some 5), (.mov (.tmp 16)), none⟩])
 (.seq (.seq (.region [⟨(some 17), (.mov (.tmp 4)), none⟩, ⟨(some 18), (.len (.tmp 17)), none⟩, ⟨(some 19), (.mov (.tmp 5)), none⟩, ⟨(some 20), (.len (.tmp 19)), none⟩, ⟨(some 21), (.bin .neq (.tmp 18) (.tmp 20)), none⟩])
 (.cond (.tmp 21) (.seq (.region [⟨(some 2), (.mov (.const (.c (.val (.bool false))))), none⟩])
 .ret) .skip))
 (.seq (.seq (.region [⟨(some 6), (.mov (.const (.c (.val (.int .i64 0))))), none⟩])
 (.block 0 (.loop a3_c0)))
 (.seq (.region [⟨(some 37), (.mov (.tmp 3)), none⟩, ⟨(some 2), (.mov (.tmp 37)), none⟩])
 .ret))))))))⟩
set_option maxRecDepth 100000 in
theorem c3 : compFunc Try.prog 3 = some a3 := by kernel_rfl
def clerestorylaw2_CascadeWins_post (r : Bool) : AV → Heap → Nat → Prop := fun v h' n' => v = (B r) ∧ (h' = (fun _ => none)) ∧ n' = 0
noncomputable def clerestorylaw2_CascadeWins_l0 (r_ : Bool) (K0_ : Unit → Option Bool) : Nat → (List TSGiven) → (List TSGiven) → Int → Option Bool
  | 0, _, _, _ => none
  | k + 1, a_, b_, i_ =>
    if decide (i_ < (a_.length : Int)) then
      (at? a_ i_).bind fun x_ =>
      (at? b_ i_).bind fun x_1 =>
      letIn (!(decide (x_.Name = x_1.Name) && (decide (x_.Value = x_1.Value) && (decide (x_.Origin = x_1.Origin) && ((x_.Important == x_1.Important) && (decide (x_.Weight = x_1.Weight) && (decide (x_.Place = x_1.Place) && true))))))) fun v36 : Bool =>
      if v36 then
        some false
      else
        (clerestorylaw2_CascadeWins_l0 r_ K0_ k) a_ b_ (wi (i_ + 1))
    else
      K0_ ()
theorem clerestorylaw2_CascadeWins_l0_ok {Γ : Glob} {Q : AExit → St → Prop} {r_ : Bool} {K0_ : Unit → Option Bool} {k : Nat} {a_ : (List TSGiven)} {b_ : (List TSGiven)} {i_ : Int} {za : Bool} (hza : za = true → a_ = []) {zb : Bool} (hzb : zb = true → b_ = []) {o : Bool} (h : clerestorylaw2_CascadeWins_l0 r_ K0_ k a_ b_ i_ = some o)
    (hK0 : ∀ (_ : Unit), K0_ () = some o → ∀ s, Weak 0 s ⟨(upd (fun _ => none) 3 (some (B r_))), (fun _ => none), 0⟩ → Q (.exit 0) s)
    (hr : ∀ s, Ends a3.results 0 (clerestorylaw2_CascadeWins_post o) .ret s → Q .ret s) :
    Sv Try.prog Γ 0 (.loop a3_c0) Q ⟨(upd (upd (upd (upd (fun _ => none) 3 (some (B r_))) 4 (some (lstV za 0 6 a_.length))) 5 (some (lstV zb 1 6 b_.length))) 6 (some (I i_))), (upd (upd (fun _ => none) 0 (lstB za 6 (a_.map e_TSGiven))) 1 (lstB zb 6 (b_.map e_TSGiven))), 2⟩ := by
  refine Sv.loop (I := fun k s => ∃ (a_ : (List TSGiven)), ∃ (b_ : (List TSGiven)), ∃ (i_ : Int), ∃ (za : Bool), (za = true → a_ = []) ∧ ∃ (zb : Bool), (zb = true → b_ = []) ∧ clerestorylaw2_CascadeWins_l0 r_ K0_ k a_ b_ i_ = some o ∧ s = ⟨(upd (upd (upd (upd (fun _ => none) 3 (some (B r_))) 4 (some (lstV za 0 6 a_.length))) 5 (some (lstV zb 1 6 b_.length))) 6 (some (I i_))), (upd (upd (fun _ => none) 0 (lstB za 6 (a_.map e_TSGiven))) 1 (lstB zb 6 (b_.map e_TSGiven))), 2⟩) (fun k s hI => ?_) ⟨a_, b_, i_, za, hza, zb, hzb, h, rfl⟩
  clear h
  clear hzb hza zb za i_ b_ a_
  obtain ⟨a_, b_, i_, za, hza, zb, hzb, h, rfl⟩ := hI
  cases k with
  | zero => cases h
  | succ k =>
  rw [clerestorylaw2_CascadeWins_l0] at h
  have hself : ∀ (a_ : (List TSGiven)) (b_ : (List TSGiven)) (i_ : Int) (za : Bool) (_ : za = true → a_ = []) (zb : Bool) (_ : zb = true → b_ = []), (clerestorylaw2_CascadeWins_l0 r_ K0_ k) a_ b_ i_ = some o → ∀ s, Weak 0 s ⟨(upd (upd (upd (upd (fun _ => none) 3 (some (B r_))) 4 (some (lstV za 0 6 a_.length))) 5 (some (lstV zb 1 6 b_.length))) 6 (some (I i_))), (upd (upd (fun _ => none) 0 (lstB za 6 (a_.map e_TSGiven))) 1 (lstB zb 6 (b_.map e_TSGiven))), 2⟩ → (AThen (fun s' => ∃ s'' k', Weak 0 s' s'' ∧ k' < k + 1 ∧ (fun k s => ∃ (a_ : (List TSGiven)), ∃ (b_ : (List TSGiven)), ∃ (i_ : Int), ∃ (za : Bool), (za = true → a_ = []) ∧ ∃ (zb : Bool), (zb = true → b_ = []) ∧ clerestorylaw2_CascadeWins_l0 r_ K0_ k a_ b_ i_ = some o ∧ s = ⟨(upd (upd (upd (upd (fun _ => none) 3 (some (B r_))) 4 (some (lstV za 0 6 a_.length))) 5 (some (lstV zb 1 6 b_.length))) 6 (some (I i_))), (upd (upd (fun _ => none) 0 (lstB za 6 (a_.map e_TSGiven))) 1 (lstB zb 6 (b_.map e_TSGiven))), 2⟩) k' s'') Q) .normal s := fun a_ b_ i_ za hza zb hzb h s hw => ⟨_, k, hw, Nat.lt_succ_self k, a_, b_, i_, za, hza, zb, hzb, h, rfl⟩
  refine Sv.seq ?_
  refine Sv.seq ?_
  refine Sv.region ?_
  refine un (a1 rfl ?_)
  refine un (a1 rfl ?_)
  refine un (a1 (v := (I (a_.length : Int))) (s_lenL rfl (len_nil_of hza)) ?_)
  refine un (a1 (v := (B (decide (i_ < (a_.length : Int))))) rfl ?_)
  refine dnil ?_
  refine Sv.cond (b := decide (i_ < (a_.length : Int))) rfl (fun hc2 => ?_) (fun hc2 => ?_)
  · replace h := ifT hc2 h
    refine Sv.skip ?_
    refine Sv.seq ?_
    refine Sv.block ?_
    refine Sv.seq ?_
    refine Sv.drawn ?_
    refine un (a1 rfl ?_)
    refine un (a1 rfl ?_)
    obtain ⟨x_, hx2, h⟩ := bnd h
    refine un (a1 (v := (.c (.ref 0 6 i_.toNat 0))) (s_iaddrL rfl rfl hza hx2) ?_)
    refine un (a1 (v := (.agg [.str x_.Name, .str x_.Value, cI x_.Origin, cB x_.Important, cI x_.Weight, cI x_.Place])) (s_loadL (z := za) (e := e_TSGiven) rfl rfl hza hx2 rfl rfl) ?_)
    refine un (a1 rfl ?_)
    refine un (a1 rfl ?_)
    obtain ⟨x_1, hx3, h⟩ := bnd h
    refine un (a1 (v := (.c (.ref 1 6 i_.toNat 0))) (s_iaddrL rfl rfl hzb hx3) ?_)
    refine un (a1 (v := (.agg [.str x_1.Name, .str x_1.Value, cI x_1.Origin, cB x_1.Important, cI x_1.Weight, cI x_1.Place])) (s_loadL (z := zb) (e := e_TSGiven) rfl rfl hzb hx3 rfl rfl) ?_)
    obtain ⟨v36, hv36⟩ : ∃ v36 : Bool, v36 = (!(decide (x_.Name = x_1.Name) && (decide (x_.Value = x_1.Value) && (decide (x_.Origin = x_1.Origin) && ((x_.Important == x_1.Important) && (decide (x_.Weight = x_1.Weight) && (decide (x_.Place = x_1.Place) && true))))))) := ⟨_, rfl⟩
    replace h := letAt hv36 h
    refine un (a1 (v := (B v36)) (by rw [hv36]; rfl) ?_)
    clear hv36
    refine dnil ?_
    refine Sv.cond (b := v36) rfl (fun hc3 => ?_) (fun hc3 => ?_)
    · replace h := ifT hc3 h
      refine Sv.seq ?_
      refine Sv.region ?_
      refine un (a1 rfl ?_)
      refine dnil ?_
      refine Sv.ret ?_
      replace h := Option.some.inj h
      subst h
      exact hr _ ⟨_, .refl _, _, rfl, ⟨upd (fun _ => none) 0 (some (B false)), (fun _ => none), 0⟩, (B false), weak_canon [] rfl List.nodup_nil (Nat.le_refl _) (fun b h => absurd h (Nat.not_lt_zero _)) (.cons rfl (avAs_free rfl) .nil) .nil, rfl, rfl, rfl, rfl⟩
    · replace h := ifF hc3 h
      refine Sv.skip ?_
      refine Sv.region ?_
      refine un (a1 rfl ?_)
      refine un (a1 (v := (I (wi (i_ + 1)))) rfl ?_)
      refine un (a1 rfl ?_)
      refine dnil ?_
      exact hself a_ b_ (wi (i_ + 1)) za hza zb hzb h _ (weak_canon [0, 1] rfl (by decide) (by decide) (fun b h => absurd h (Nat.not_lt_zero _)) (.cons rfl (avAs_free rfl) (.cons rfl (.c (lstC_ren rfl (by decide))) (.cons rfl (.c (lstC_ren rfl (by decide))) (.cons rfl (avAs_free rfl) .nil)))) (.row (by decide) rfl (fr_map fun _ => rfl) (.row (by decide) rfl (fr_map fun _ => rfl) .nil)))
  · replace h := ifF hc2 h
    refine Sv.exit ?_
    exact hK0 () h _ (weak_canon [] rfl (by decide) (by decide) (fun b h => absurd h (Nat.not_lt_zero _)) (.cons rfl (avAs_free rfl) .nil) .nil)
/-- clerestory/clerestorylaw2.CascadeWins -/
noncomputable def clerestorylaw2_CascadeWins (l_ : (List TSGiven)) : Option Bool :=
  (clerestorylaw2_own).bind fun r_ =>
  (sub? l_ 0 (mn (l_.length : Int) 60)).bind fun r_1 =>
  (cascade_Win r_1).bind fun r_2 =>
  (clerestoryref2_WinOf r_1).bind fun r_3 =>
  if (!decide ((r_2.length : Int) = (r_3.length : Int))) then
    some false
  else
    lim fun kk => clerestorylaw2_CascadeWins_l0 r_ (fun (_ : Unit) => 
        some r_) kk r_2 r_3 0
theorem clerestorylaw2_CascadeWins_ok {Γ : Glob} {l_ : (List TSGiven)} {r : Bool} (h : clerestorylaw2_CascadeWins l_ = some r) : CPure Try.prog Γ 3 [(.c (.ro false 6 (l_.map e_TSGiven)))] (B r) := by
  refine acalls_of_sv hmix c3 (R := clerestorylaw2_CascadeWins_post r) ?_
  unfold clerestorylaw2_CascadeWins at h
  refine Sv.seq ?_
  refine Sv.region ?_
  refine un (a1 rfl ?_)
  refine dnil ?_
  refine Sv.seq ?_
  refine Sv.region ?_
  obtain ⟨r_, hr1, h⟩ := bnd h
  refine un (ac_pure (clerestorylaw2_own_ok hr1) rfl rfl rfl ?_)
  refine un (a1 rfl ?_)
  refine dnil ?_
  refine Sv.seq ?_
  refine Sv.region ?_
  refine un (a1 rfl ?_)
  refine un (a1 rfl ?_)
  refine un (a1 (v := (I (l_.length : Int))) (s_len (e := e_TSGiven) (xs := l_) rfl) ?_)
  refine un (a1 (v := (I (mn (l_.length : Int) 60))) (s_mn rfl rfl) ?_)
  obtain ⟨r_1, hx1, h⟩ := bnd h
  refine un (a1 (v := (.c (.ro false 6 (r_1.map e_TSGiven)))) (s_slSl (e := e_TSGiven) rfl rfl rfl hx1) ?_)
  refine un (a1 rfl ?_)
  refine dnil ?_
  refine Sv.seq ?_
  refine Sv.region ?_
  refine un (a1 rfl ?_)
  obtain ⟨r_2, hr2, h⟩ := bnd h
  refine un (ac_gen (bs := []) («as» := [(.c (.ro false 6 (r_1.map e_TSGiven)))]) (h2 := _) (h1 := (fun _ => none)) (cascade_Win_ok hr2) rfl (.cons (avAs_free rfl) .nil) (hsub_refl _) (.nil _) (fun _ => rfl) (by decide) (by decide) (.cons (avAs_free rfl) .nil) .nil ?_)
  rintro _ _ _ hn ⟨z_, hz_, rfl, rfl, rfl⟩
  refine ⟨.inl rfl, (upd (rem [] _) 0 (lstB z_ 6 (r_2.map e_TSGiven))), fun hbd => (m3_cons (m3_row rfl (fr_map fun _ => rfl)) (m3_rem (in_nil _) (.cons (by decide) .nil) hbd)), (lstV z_ 0 6 r_2.length), 1, (by cases z_ <;> rfl), rfl, ?_⟩
  refine un (a1 rfl ?_)
  refine dnil ?_
  refine Sv.seq ?_
  refine Sv.region ?_
  refine un (a1 rfl ?_)
  obtain ⟨r_3, hr3, h⟩ := bnd h
  refine un (ac_gen (bs := []) («as» := [(.c (.ro false 6 (r_1.map e_TSGiven)))]) (h2 := _) (h1 := (fun _ => none)) (clerestoryref2_WinOf_ok hr3) rfl (.cons (avAs_free rfl) .nil) (hsub_refl _) (.nil _) (fun _ => rfl) (by decide) (by decide) (.cons (avAs_free rfl) .nil) .nil ?_)
  rintro _ _ _ hn ⟨z_1, hz_1, rfl, rfl, rfl⟩
  refine ⟨.inl rfl, (upd (rem [] _) 1 (lstB z_1 6 (r_3.map e_TSGiven))), fun hbd => (m3_cons (m3_row rfl (fr_map fun _ => rfl)) (m3_rem (in_nil _) (.cons (by decide) .nil) hbd)), (lstV z_1 1 6 r_3.length), 2, (by cases z_1 <;> rfl), rfl, ?_⟩
  refine un (a1 rfl ?_)
  refine dnil ?_
  refine Sv.seq ?_
  refine Sv.seq ?_
  refine Sv.region ?_
  refine un (a1 rfl ?_)
  refine un (a1 (v := (I (r_2.length : Int))) (s_lenL rfl (len_nil_of hz_)) ?_)
  refine un (a1 rfl ?_)
  refine un (a1 (v := (I (r_3.length : Int))) (s_lenL rfl (len_nil_of hz_1)) ?_)
  refine un (a1 (v := (B (!decide ((r_2.length : Int) = (r_3.length : Int))))) rfl ?_)
  refine dnil ?_
  refine Sv.cond (b := (!decide ((r_2.length : Int) = (r_3.length : Int)))) rfl (fun hc1 => ?_) (fun hc1 => ?_)
  · replace h := ifT hc1 h
    refine Sv.seq ?_
    refine Sv.region ?_
    refine un (a1 rfl ?_)
    refine dnil ?_
    refine Sv.ret ?_
    replace h := Option.some.inj h
    subst h
    exact ⟨_, .refl _, _, rfl, ⟨upd (fun _ => none) 0 (some (B false)), (fun _ => none), 0⟩, (B false), weak_canon [] rfl List.nodup_nil (Nat.le_refl _) (fun b h => absurd h (Nat.not_lt_zero _)) (.cons rfl (avAs_free rfl) .nil) .nil, rfl, rfl, rfl, rfl⟩
  · replace h := ifF hc1 h
    refine Sv.skip ?_
    refine Sv.seq ?_
    refine Sv.seq ?_
    refine Sv.region ?_
    refine un (a1 rfl ?_)
    refine dnil ?_
    refine Sv.block ?_
    obtain ⟨kk, h⟩ := lim_some h
    refine Sv.weak (weak_canon [0, 1] rfl (by decide) (by decide) (fun b h => absurd h (Nat.not_lt_zero _)) (.cons rfl (avAs_free rfl) (.cons rfl (.c (lstC_ren rfl (by decide))) (.cons rfl (.c (lstC_ren rfl (by decide))) (.cons rfl (avAs_free rfl) .nil)))) (.row (by decide) rfl (fr_map fun _ => rfl) (.row (by decide) rfl (fr_map fun _ => rfl) .nil))) (clerestorylaw2_CascadeWins_l0_ok hz_ hz_1 h ?_ (fun s hs => hs))
    · intro _ h _ hw1
      refine Sv.weak hw1 ?_
      refine Sv.seq ?_
      refine Sv.region ?_
      refine un (a1 rfl ?_)
      refine un (a1 rfl ?_)
      refine dnil ?_
      refine Sv.ret ?_
      replace h := Option.some.inj h
      subst h
      exact ⟨_, .refl _, _, rfl, ⟨upd (fun _ => none) 0 (some (B r_)), (fun _ => none), 0⟩, (B r_), weak_canon [] rfl List.nodup_nil (Nat.le_refl _) (fun b h => absurd h (Nat.not_lt_zero _)) (.cons rfl (avAs_free rfl) .nil) .nil, rfl, rfl, rfl, rfl⟩
end Go.Proofs.YtagfmlkihindaaaBv
