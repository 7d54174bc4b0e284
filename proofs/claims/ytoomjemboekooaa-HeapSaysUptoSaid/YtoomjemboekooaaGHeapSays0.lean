/- Printed by a program of mine (bgen.py): plain functions, and the walks that show that the code comes to what they answer. -/
import Derived.Test.YtoomjemboekooaaRows
import Derived.Test.YtoomjemboekooaaBv40
import Derived.Test.YtoomjemboekooaaBv35
import Derived.Test.YtoomjemboekooaaHSort3
namespace Go.Proofs.YtoomjemboekooaaBv
open Go
set_option linter.unusedVariables false
set_option linter.unusedSimpArgs false
set_option maxRecDepth 100000
theorem hmix : Try.prog.follows .mixedOrders = true := by kernel_rfl
structure TJVal where
  Kind : Int
  N : Int
  S : (List UInt8)
def e_TJVal (x : TJVal) : List Cel := [cI x.Kind, cI x.N, .str x.S]
structure TJCell where
  Kind : Int
  Names : (List (List UInt8))
  Vals : (List TJVal)
def e_TJCell (x : TJCell) : List Cel := [cI x.Kind, .ro false 1 (x.Names.map eStr), .ro false 3 (x.Vals.map e_TJVal)]
structure Twalker where
  f_h : (List TJCell)
  f_to : (List Int)
  f_all : (List Int)
def e_Twalker (x : Twalker) : List Cel := [.ro false 3 (x.f_h.map e_TJCell), .ro false 1 (x.f_to.map eI), .ro false 1 (x.f_all.map eI)]

def a82_c0 : ACode := (.seq (.seq (.region [⟨(some 4), (.mov (.tmp 3)), none⟩, ⟨(some 5), (.mov (.tmp 0)), none⟩, ⟨(some 6), (.len (.tmp 5)), none⟩, ⟨(some 7), (.bin .lss (.tmp 4) (.tmp 6)), none⟩])
 (.cond (.tmp 7) .skip (.exit 0)))
 (.seq (.block 1 (.seq (.drawn (.fin [(⟨(some 10), (.mov (.tmp 0)), none⟩, (0, 0)), (⟨(some 11), (.mov (.tmp 3)), none⟩, (0, 1)), (⟨(some 12), (.bin .sub (.tmp 11) (.const (.c (.val (.int .i64 1))))), none⟩, (0, 2)), (⟨(some 13), (.iaddr 1 (.tmp 10) (.tmp 12)), none⟩, (0, 3)), (⟨(some 14), (.load false 1 (.tmp 13)), none⟩, (0, 4)), (⟨(some 15), (.mov (.tmp 0)), none⟩, (0, 5)), (⟨(some 16), (.mov (.tmp 3)), none⟩, (0, 6)), (⟨(some 17), (.iaddr 1 (.tmp 15) (.tmp 16)), none⟩, (0, 7)), (⟨(some 18), (.load false 1 (.tmp 17)), none⟩, (0, 8)), (⟨(some 19), (.bin .geq (.tmp 14) (.tmp 18)), none⟩, (0, 9))]))
 (.cond (.tmp 19) (.seq (.region [⟨(some 2), (.mov (.const (.c (.val (.bool false))))), none⟩])
 .ret) .skip)))
 (.region [⟨(some 8), (.mov (.tmp 3)), none⟩, ⟨(some 9), (.bin .add (.tmp 8) (.const (.c (.val (.int .i64 1))))), none⟩, ⟨(some 3), (.mov (.tmp 9)), none⟩])))
def a82 : AFunc := ⟨1, [(.tmp 2)], (.seq (.region [⟨(some 2), (.mov (.const (.c (.val (.bool false))))), none⟩])
 (.seq (.seq (.region [⟨(some 3), (.mov (.const (.c (.val (.int .i64 1))))), none⟩])
 (.block 0 (.loop a82_c0)))
 (.seq (.region [⟨(some 2), (.mov (.const (.c (.val (.bool true))))), none⟩])
 .ret)))⟩
set_option maxRecDepth 100000 in
theorem c82 : compFunc Try.prog 82 = some a82 := by kernel_rfl
def heap_rising_post (r : Bool) : AV → Heap → Nat → Prop := fun v h' n' => v = (B r) ∧ (h' = (fun _ => none)) ∧ n' = 0
abbrev heap_rising_l0_E0 (F_ : Unit → Option Bool) (o : Bool) (R_ : St → Prop) : Prop := ∀ (_ : Unit), F_ () = some o → ∀ s, Weak 0 s ⟨(fun _ => none), (fun _ => none), 0⟩ → R_ s
abbrev heap_rising_l0_I (l_ : (List (List UInt8))) (F_ : Nat → Int → Option Bool) (o : Bool) : Nat → St → Prop := fun k s => ∃ (k_ : Int), F_ k k_ = some o ∧ s = ⟨(upd (upd (fun _ => none) 0 (some (.c (.ro false 1 (l_.map eStr))))) 3 (some (I k_))), (fun _ => none), 0⟩
abbrev heap_rising_l0_H (l_ : (List (List UInt8))) (F_ : Int → Option Bool) (o : Bool) (R_ : St → Prop) : Prop := ∀ (k_ : Int), F_ k_ = some o → ∀ s, Weak 0 s ⟨(upd (upd (fun _ => none) 0 (some (.c (.ro false 1 (l_.map eStr))))) 3 (some (I k_))), (fun _ => none), 0⟩ → R_ s
noncomputable def heap_rising_l0 (l_ : (List (List UInt8))) (K0_ : Unit → Option Bool) : Nat → Int → Option Bool
  | 0, _ => none
  | k + 1, k_ =>
    if decide (k_ < (l_.length : Int)) then
      (at? l_ (wi (k_ - 1))).bind fun x_ =>
      (at? l_ k_).bind fun x_1 =>
      if (!Go.Op.bytesLess x_ x_1) then
        some false
      else
        (heap_rising_l0 l_ K0_ k) (wi (k_ + 1))
    else
      K0_ ()
theorem heap_rising_l0_ok {Γ : Glob} {Q : AExit → St → Prop} {l_ : (List (List UInt8))} {K0_ : Unit → Option Bool} {k : Nat} {k_ : Int} {o : Bool} (h : heap_rising_l0 l_ K0_ k k_ = some o)
    (hK0 : heap_rising_l0_E0 K0_ o (Q (.exit 0)))
    (hr : ∀ s, Ends a82.results 0 (heap_rising_post o) .ret s → Q .ret s) :
    Sv Try.prog Γ 0 (.loop a82_c0) Q ⟨(upd (upd (fun _ => none) 0 (some (.c (.ro false 1 (l_.map eStr))))) 3 (some (I k_))), (fun _ => none), 0⟩ := by
  refine Sv.loop (I := heap_rising_l0_I l_ (heap_rising_l0 l_ K0_) o) (fun k s hI => ?_) ⟨k_, h, rfl⟩
  clear h
  clear k_
  obtain ⟨k_, h, rfl⟩ := hI
  cases k with
  | zero => cases h
  | succ k =>
  rw [heap_rising_l0] at h
  have hself : heap_rising_l0_H l_ (heap_rising_l0 l_ K0_ k) o (rnd 0 (heap_rising_l0_I l_ (heap_rising_l0 l_ K0_) o) k Q) := fun k_ h s hw => ⟨_, k, hw, Nat.lt_succ_self k, k_, h, rfl⟩
  refine Sv.seq ?_
  refine Sv.seq ?_
  refine Sv.region ?_
  refine un (a1 rfl ?_)
  refine un (a1 rfl ?_)
  refine un (a1 (v := (I (l_.length : Int))) (s_len (e := eStr) (xs := l_) rfl) ?_)
  refine un (a1 (v := (B (decide (k_ < (l_.length : Int))))) rfl ?_)
  refine dnil ?_
  refine Sv.cond (b := decide (k_ < (l_.length : Int))) rfl (fun hc1 => ?_) (fun hc1 => ?_)
  · replace h := ifT hc1 h
    refine Sv.skip ?_
    refine Sv.seq ?_
    refine Sv.block ?_
    refine Sv.seq ?_
    refine Sv.drawn ?_
    refine un (a1 rfl ?_)
    refine un (a1 rfl ?_)
    refine un (a1 (v := (I (wi (k_ - 1)))) rfl ?_)
    obtain ⟨x_, hx1, h⟩ := bnd h
    refine un (a1 (v := (.c (.rop [.str x_]))) (s_iaddr (e := eStr) (xs := l_) rfl rfl hx1) ?_)
    refine un (a1 (v := (S x_)) rfl ?_)
    refine un (a1 rfl ?_)
    refine un (a1 rfl ?_)
    obtain ⟨x_1, hx2, h⟩ := bnd h
    refine un (a1 (v := (.c (.rop [.str x_1]))) (s_iaddr (e := eStr) (xs := l_) rfl rfl hx2) ?_)
    refine un (a1 (v := (S x_1)) rfl ?_)
    refine un (a1 (v := (B (!Go.Op.bytesLess x_ x_1))) rfl ?_)
    refine dnil ?_
    refine Sv.cond (b := (!Go.Op.bytesLess x_ x_1)) rfl (fun hc2 => ?_) (fun hc2 => ?_)
    · replace h := ifT hc2 h
      refine Sv.seq ?_
      refine Sv.region ?_
      refine un (a1 rfl ?_)
      refine dnil ?_
      refine Sv.ret ?_
      replace h := Option.some.inj h
      subst h
      exact hr _ ⟨_, .refl _, _, rfl, ⟨upd (fun _ => none) 0 (some (B false)), (fun _ => none), 0⟩, (B false), weak_canon [] rfl List.nodup_nil (Nat.le_refl _) (fun b h => absurd h (Nat.not_lt_zero _)) (.cons rfl (avAs_free rfl) .nil) .nil, rfl, rfl, rfl, rfl⟩
    · replace h := ifF hc2 h
      refine Sv.skip ?_
      refine Sv.region ?_
      refine un (a1 rfl ?_)
      refine un (a1 (v := (I (wi (k_ + 1)))) rfl ?_)
      refine un (a1 rfl ?_)
      refine dnil ?_
      exact hself (wi (k_ + 1)) h _ (weak_canon [] rfl (by decide) (by decide) (fun b h => absurd h (Nat.not_lt_zero _)) (.cons rfl (avAs_free rfl) (.cons rfl (avAs_free rfl) .nil)) .nil)
  · replace h := ifF hc1 h
    refine Sv.exit ?_
    exact hK0 () h _ (weak_canon [] rfl (by decide) (by decide) (fun b h => absurd h (Nat.not_lt_zero _)) .nil .nil)
/-- clerestory/heap.rising -/
noncomputable def heap_rising (l_ : (List (List UInt8))) : Option Bool :=
  lim fun kk => heap_rising_l0 l_ (fun (_ : Unit) => 
      some true) kk 1
theorem heap_rising_ok {Γ : Glob} {l_ : (List (List UInt8))} {r : Bool} (h : heap_rising l_ = some r) : CPure Try.prog Γ 82 [(.c (.ro false 1 (l_.map eStr)))] (B r) := by
  refine acalls_of_sv hmix c82 (R := heap_rising_post r) ?_
  unfold heap_rising at h
  refine Sv.seq ?_
  refine Sv.region ?_
  refine un (a1 rfl ?_)
  refine dnil ?_
  refine Sv.seq ?_
  refine Sv.seq ?_
  refine Sv.region ?_
  refine un (a1 rfl ?_)
  refine dnil ?_
  refine Sv.block ?_
  obtain ⟨kk, h⟩ := lim_some h
  refine Sv.weak (weak_canon [] rfl (by decide) (by decide) (fun b h => absurd h (Nat.not_lt_zero _)) (.cons rfl (avAs_free rfl) (.cons rfl (avAs_free rfl) .nil)) .nil) (heap_rising_l0_ok h ?_ (fun s hs => hs))
  · intro _ h _ hw1
    refine Sv.weak hw1 ?_
    refine Sv.seq ?_
    refine Sv.region ?_
    refine un (a1 rfl ?_)
    refine dnil ?_
    refine Sv.ret ?_
    replace h := Option.some.inj h
    subst h
    exact ⟨_, .refl _, _, rfl, ⟨upd (fun _ => none) 0 (some (B true)), (fun _ => none), 0⟩, (B true), weak_canon [] rfl List.nodup_nil (Nat.le_refl _) (fun b h => absurd h (Nat.not_lt_zero _)) (.cons rfl (avAs_free rfl) .nil) .nil, rfl, rfl, rfl, rfl⟩
def a81 : AFunc := ⟨1, [(.tmp 2)], (.seq (.region [⟨(some 1), (.box (.tmp 0)), none⟩, ⟨(some 2), (.mov (.const (.c (.val (.int .i64 0))))), none⟩])
 (.seq (.seq (.region [⟨(some 3), (.faddr 0 (.tmp 1)), none⟩, ⟨(some 4), (.load false 1 (.tmp 3)), none⟩, ⟨(some 5), (.bin .eql (.tmp 4) (.const (.c (.val (.int .i64 4))))), none⟩])
 (.cond (.tmp 5) (.seq (.region [⟨(some 6), (.faddr 1 (.tmp 1)), none⟩, ⟨(some 7), (.load false 1 (.tmp 6)), none⟩, ⟨(some 2), (.mov (.tmp 7)), none⟩])
 .ret) .skip))
 (.seq (.region [⟨(some 2), (.mov (.const (.c (.val (.int .i64 (-1)))))), none⟩])
 .ret)))⟩
set_option maxRecDepth 100000 in
theorem c81 : compFunc Try.prog 81 = some a81 := by kernel_rfl
def heap_ref_post (r : Int) : AV → Heap → Nat → Prop := fun v h' n' => v = (I r) ∧ (h' = (fun _ => none)) ∧ n' = 0
/-- clerestory/heap.ref -/
def heap_ref (v_ : TJVal) : Int :=
  if decide (v_.Kind = 4) then
    v_.N
  else
    (-1)
theorem heap_ref_ok {Γ : Glob} (v_ : TJVal) : CPure Try.prog Γ 81 [(.agg [cI v_.Kind, cI v_.N, .str v_.S])] (I (heap_ref v_)) := by
  generalize h : heap_ref v_ = o
  refine acalls_of_sv hmix c81 (R := heap_ref_post o) ?_
  unfold heap_ref at h
  refine Sv.seq ?_
  refine Sv.region ?_
  refine un (a2v (v := (.c (.ref 0 3 0 0))) (h' := upd _ 0 (some (.cells 3 [[cI v_.Kind, cI v_.N, .str v_.S]]))) (n' := 1) rfl rfl (fun h => by cases h) ?_)
  refine un (a1 rfl ?_)
  refine dnil ?_
  refine Sv.seq ?_
  refine Sv.seq ?_
  refine Sv.region ?_
  refine un (a1 (v := (.c (.ref 0 3 0 0))) rfl ?_)
  refine un (a1 (v := (I v_.Kind)) rfl ?_)
  refine un (a1 (v := (B (decide (v_.Kind = 4)))) rfl ?_)
  refine dnil ?_
  refine Sv.cond (b := decide (v_.Kind = 4)) rfl (fun hc1 => ?_) (fun hc1 => ?_)
  · replace h := ifT hc1 h
    refine Sv.seq ?_
    refine Sv.region ?_
    refine un (a1 (v := (.c (.ref 0 3 0 1))) rfl ?_)
    refine un (a1 (v := (I v_.N)) rfl ?_)
    refine un (a1 rfl ?_)
    refine dnil ?_
    refine Sv.ret ?_
    subst h
    exact ⟨_, .refl _, _, rfl, ⟨upd (fun _ => none) 0 (some (I v_.N)), (fun _ => none), 0⟩, (I v_.N), weak_canon [] rfl List.nodup_nil (Nat.le_refl _) (fun b h => absurd h (Nat.not_lt_zero _)) (.cons rfl (avAs_free rfl) .nil) .nil, rfl, rfl, rfl, rfl⟩
  · replace h := ifF hc1 h
    refine Sv.skip ?_
    refine Sv.seq ?_
    refine Sv.region ?_
    refine un (a1 rfl ?_)
    refine dnil ?_
    refine Sv.ret ?_
    subst h
    exact ⟨_, .refl _, _, rfl, ⟨upd (fun _ => none) 0 (some (I (-1))), (fun _ => none), 0⟩, (I (-1)), weak_canon [] rfl List.nodup_nil (Nat.le_refl _) (fun b h => absurd h (Nat.not_lt_zero _)) (.cons rfl (avAs_free rfl) .nil) .nil, rfl, rfl, rfl, rfl⟩
def a105 : AFunc := ⟨3, [(.tmp 6)], (.seq (.region [⟨(some 6), (.mov (.const (.c (.val (.bool false))))), none⟩])
 (.seq (.region [⟨(some 7), (.mov (.tmp 0)), none⟩, ⟨(some 8), (.mov (.tmp 1)), none⟩, ⟨(some 9), (.bin .geq (.tmp 7) (.tmp 8)), none⟩, ⟨(some 10), (.mov (.tmp 9)), none⟩, ⟨(some 11), (.mov (.tmp 0)), (some (10, true))⟩, ⟨(some 12), (.mov (.tmp 2)), (some (10, true))⟩, ⟨(some 13), (.bin .leq (.tmp 11) (.tmp 12)), (some (10, true))⟩, ⟨(some 14), (.pick (.tmp 10) (.tmp 13) (.const (.c (.val (.bool false))))), none⟩, ⟨(some 6), (.mov (.tmp 14)), none⟩])
 .ret))⟩
set_option maxRecDepth 100000 in
theorem c105 : compFunc Try.prog 105 = some a105 := by kernel_rfl
def value_within_post (r : Bool) : AV → Heap → Nat → Prop := fun v h' n' => v = (B r) ∧ (h' = (fun _ => none)) ∧ n' = 0
/-- clerestory/value.within -/
def value_within (n_ : Int) (low : Int) (high : Int) : Bool :=
  ((decide (low ≤ n_)) && (decide (n_ ≤ high)))
theorem value_within_ok {Γ : Glob} (n_ : Int) (low : Int) (high : Int) : CPure Try.prog Γ 105 [(I n_), (I low), (I high)] (B (value_within n_ low high)) := by
  generalize h : value_within n_ low high = o
  refine acalls_of_sv hmix c105 (R := value_within_post o) ?_
  unfold value_within at h
  refine Sv.seq ?_
  refine Sv.region ?_
  refine un (a1 rfl ?_)
  refine dnil ?_
  refine Sv.seq ?_
  refine Sv.region ?_
  refine un (a1 rfl ?_)
  refine un (a1 rfl ?_)
  refine un (a1 (v := (B (decide (low ≤ n_)))) rfl ?_)
  refine un (a1 rfl ?_)
  refine gjoin 4 (d := 14) (v := (B ((decide (low ≤ n_)) && (decide (n_ ≤ high))))) (fun X hX => ?_) ?_
  · refine split2 (fun hc1 => ?_) (fun hc1 => ?_)
    · refine gt rfl (a1 rfl ?_)
      refine gt rfl (a1 rfl ?_)
      refine gt rfl (a1 (v := (B (decide (n_ ≤ high)))) rfl ?_)
      refine un (a1 (v := (B (decide (n_ ≤ high)))) rfl ?_)
      refine dnil ?_
      exact hX _ (.putEq (by rw [hc1]; rfl) (.skip _ _ (.skip _ _ (.skip _ _ (.putEq (by rw [hc1]) (.refl _)) rfl) rfl) rfl))
    · refine gs rfl rfl ?_
      refine gs rfl rfl ?_
      refine gs rfl rfl ?_
      refine un (a1 (v := (B false)) rfl ?_)
      refine dnil ?_
      exact hX _ (.putEq (by rw [hc1]; rfl) (.skip _ _ (.skip _ _ (.skip _ _ (.putEq (by rw [hc1]) (.refl _)) rfl) rfl) rfl))
  refine un (a1 rfl ?_)
  refine dnil ?_
  refine Sv.ret ?_
  subst h
  exact ⟨_, .refl _, _, rfl, ⟨upd (fun _ => none) 0 (some (B ((decide (low ≤ n_)) && (decide (n_ ≤ high))))), (fun _ => none), 0⟩, (B ((decide (low ≤ n_)) && (decide (n_ ≤ high)))), weak_canon [] rfl List.nodup_nil (Nat.le_refl _) (fun b h => absurd h (Nat.not_lt_zero _)) (.cons rfl (avAs_free rfl) .nil) .nil, rfl, rfl, rfl, rfl⟩
def a90 : AFunc := ⟨1, [(.tmp 2)], (.seq (.region [⟨(some 1), (.box (.tmp 0)), none⟩, ⟨(some 2), (.mov (.const (.c (.val (.bool false))))), none⟩])
 (.seq (.seq (.region [⟨(some 3), (.faddr 0 (.tmp 1)), none⟩, ⟨(some 4), (.load false 1 (.tmp 3)), none⟩])
 (.block 0 (.seq (.region [⟨(some 6), (.bin .eql (.tmp 4) (.const (.c (.val (.int .i64 0))))), none⟩, ⟨(some 5), (.mov (.tmp 6)), none⟩])
 (.cond (.tmp 5) (.seq (.region [⟨(some 7), (.faddr 1 (.tmp 1)), none⟩, ⟨(some 8), (.load false 1 (.tmp 7)), none⟩, ⟨(some 9), (.bin .eql (.tmp 8) (.const (.c (.val (.int .i64 0))))), none⟩, ⟨(some 10), (.mov (.tmp 9)), none⟩, ⟨(some 11), (.faddr 2 (.tmp 1)), (some (10, true))⟩, ⟨(some 12), (.load false 1 (.tmp 11)), (some (10, true))⟩, ⟨(some 13), (.bin .eql (.tmp 12) (.const (.c (.str [])))), (some (10, true))⟩, ⟨(some 14), (.pick (.tmp 10) (.tmp 13) (.const (.c (.val (.bool false))))), none⟩, ⟨(some 2), (.mov (.tmp 14)), none⟩])
 .ret) (.seq (.region [⟨(some 16), (.bin .eql (.tmp 4) (.const (.c (.val (.int .i64 1))))), none⟩, ⟨(some 15), (.mov (.tmp 16)), none⟩])
 (.cond (.tmp 15) (.seq (.region [⟨(some 17), (.faddr 1 (.tmp 1)), none⟩, ⟨(some 18), (.load false 1 (.tmp 17)), none⟩, ⟨(some 19), (.call 105 [(.tmp 18), (.const (.c (.val (.int .i64 0)))), (.const (.c (.val (.int .i64 1))))]), none⟩, ⟨(some 20), (.mov (.tmp 19)), none⟩, ⟨(some 21), (.faddr 2 (.tmp 1)), (some (20, true))⟩, ⟨(some 22), (.load false 1 (.tmp 21)), (some (20, true))⟩, ⟨(some 23), (.bin .eql (.tmp 22) (.const (.c (.str [])))), (some (20, true))⟩, ⟨(some 24), (.pick (.tmp 20) (.tmp 23) (.const (.c (.val (.bool false))))), none⟩, ⟨(some 2), (.mov (.tmp 24)), none⟩])
 .ret) (.seq (.region [⟨(some 26), (.bin .eql (.tmp 4) (.const (.c (.val (.int .i64 2))))), none⟩, ⟨(some 25), (.mov (.tmp 26)), none⟩])
 (.cond (.tmp 25) (.seq (.region [⟨(some 27), (.faddr 1 (.tmp 1)), none⟩, ⟨(some 28), (.load false 1 (.tmp 27)), none⟩, ⟨(some 29), (.call 105 [(.tmp 28), (.const (.c (.val (.int .i64 (-9007199254740992))))), (.const (.c (.val (.int .i64 9007199254740992))))]), none⟩, ⟨(some 30), (.mov (.tmp 29)), none⟩, ⟨(some 31), (.faddr 2 (.tmp 1)), (some (30, true))⟩, ⟨(some 32), (.load false 1 (.tmp 31)), (some (30, true))⟩, ⟨(some 33), (.bin .eql (.tmp 32) (.const (.c (.str [])))), (some (30, true))⟩, ⟨(some 34), (.pick (.tmp 30) (.tmp 33) (.const (.c (.val (.bool false))))), none⟩, ⟨(some 2), (.mov (.tmp 34)), none⟩])
 .ret) (.seq (.region [⟨(some 36), (.bin .eql (.tmp 4) (.const (.c (.val (.int .i64 3))))), none⟩, ⟨(some 35), (.mov (.tmp 36)), none⟩])
 (.cond (.tmp 35) (.seq (.region [⟨(some 37), (.faddr 2 (.tmp 1)), none⟩, ⟨(some 38), (.load false 1 (.tmp 37)), none⟩, ⟨(some 39), (.lenS (.tmp 38)), none⟩, ⟨(some 40), (.bin .leq (.tmp 39) (.const (.c (.val (.int .i64 2000))))), none⟩, ⟨(some 41), (.mov (.tmp 40)), none⟩, ⟨(some 42), (.faddr 1 (.tmp 1)), (some (41, true))⟩, ⟨(some 43), (.load false 1 (.tmp 42)), (some (41, true))⟩, ⟨(some 44), (.bin .eql (.tmp 43) (.const (.c (.val (.int .i64 0))))), (some (41, true))⟩, ⟨(some 45), (.pick (.tmp 41) (.tmp 44) (.const (.c (.val (.bool false))))), none⟩, ⟨(some 2), (.mov (.tmp 45)), none⟩])
 .ret) (.seq (.region [⟨(some 47), (.bin .eql (.tmp 4) (.const (.c (.val (.int .i64 4))))), none⟩, ⟨(some 46), (.mov (.tmp 47)), none⟩])
 (.cond (.tmp 46) (.seq (.region [⟨(some 48), (.faddr 1 (.tmp 1)), none⟩, ⟨(some 49), (.load false 1 (.tmp 48)), none⟩, ⟨(some 50), (.bin .geq (.tmp 49) (.const (.c (.val (.int .i64 0))))), none⟩, ⟨(some 51), (.mov (.tmp 50)), none⟩, ⟨(some 52), (.faddr 2 (.tmp 1)), (some (51, true))⟩, ⟨(some 53), (.load false 1 (.tmp 52)), (some (51, true))⟩, ⟨(some 54), (.bin .eql (.tmp 53) (.const (.c (.str [])))), (some (51, true))⟩, ⟨(some 55), (.pick (.tmp 51) (.tmp 54) (.const (.c (.val (.bool false))))), none⟩, ⟨(some 2), (.mov (.tmp 55)), none⟩])
 .ret) (.seq (.region [⟨(some 57), (.bin .eql (.tmp 4) (.const (.c (.val (.int .i64 5))))), none⟩, ⟨(some 56), (.mov (.tmp 57)), none⟩])
 (.cond (.tmp 56) (.seq (.region [⟨(some 58), (.faddr 1 (.tmp 1)), none⟩, ⟨(some 59), (.load false 1 (.tmp 58)), none⟩, ⟨(some 60), (.bin .eql (.tmp 59) (.const (.c (.val (.int .i64 0))))), none⟩, ⟨(some 2), (.mov (.tmp 60)), none⟩])
 .ret) .skip))))))))))))))
 (.seq (.region [⟨(some 2), (.mov (.const (.c (.val (.bool false))))), none⟩])
 .ret)))⟩
set_option maxRecDepth 100000 in
theorem c90 : compFunc Try.prog 90 = some a90 := by kernel_rfl
def value_Check_post (r : Bool) : AV → Heap → Nat → Prop := fun v h' n' => v = (B r) ∧ (h' = (fun _ => none)) ∧ n' = 0
/-- clerestory/value.Check -/
def value_Check (v_ : TJVal) : Bool :=
  if decide (v_.Kind = 0) then
    ((decide (v_.N = 0)) && (decide (v_.S = [])))
  else
    if decide (v_.Kind = 1) then
      ((value_within v_.N 0 1) && (decide (v_.S = [])))
    else
      if decide (v_.Kind = 2) then
        ((value_within v_.N (-9007199254740992) 9007199254740992) && (decide (v_.S = [])))
      else
        if decide (v_.Kind = 3) then
          ((decide ((v_.S.length : Int) ≤ 2000)) && (decide (v_.N = 0)))
        else
          if decide (v_.Kind = 4) then
            ((decide (0 ≤ v_.N)) && (decide (v_.S = [])))
          else
            if decide (v_.Kind = 5) then
              decide (v_.N = 0)
            else
              false
theorem value_Check_ok {Γ : Glob} (v_ : TJVal) : CPure Try.prog Γ 90 [(.agg [cI v_.Kind, cI v_.N, .str v_.S])] (B (value_Check v_)) := by
  generalize h : value_Check v_ = o
  refine acalls_of_sv hmix c90 (R := value_Check_post o) ?_
  unfold value_Check at h
  refine Sv.seq ?_
  refine Sv.region ?_
  refine un (a2v (v := (.c (.ref 0 3 0 0))) (h' := upd _ 0 (some (.cells 3 [[cI v_.Kind, cI v_.N, .str v_.S]]))) (n' := 1) rfl rfl (fun h => by cases h) ?_)
  refine un (a1 rfl ?_)
  refine dnil ?_
  refine Sv.seq ?_
  refine Sv.seq ?_
  refine Sv.region ?_
  refine un (a1 (v := (.c (.ref 0 3 0 0))) rfl ?_)
  refine un (a1 (v := (I v_.Kind)) rfl ?_)
  refine dnil ?_
  refine Sv.block ?_
  refine Sv.seq ?_
  refine Sv.region ?_
  refine un (a1 (v := (B (decide (v_.Kind = 0)))) rfl ?_)
  refine un (a1 rfl ?_)
  refine dnil ?_
  refine Sv.cond (b := decide (v_.Kind = 0)) rfl (fun hc1 => ?_) (fun hc1 => ?_)
  · replace h := ifT hc1 h
    refine Sv.seq ?_
    refine Sv.region ?_
    refine un (a1 (v := (.c (.ref 0 3 0 1))) rfl ?_)
    refine un (a1 (v := (I v_.N)) rfl ?_)
    refine un (a1 (v := (B (decide (v_.N = 0)))) rfl ?_)
    refine un (a1 rfl ?_)
    refine gjoin 4 (d := 14) (v := (B ((decide (v_.N = 0)) && (decide (v_.S = []))))) (fun X hX => ?_) ?_
    · refine split2 (fun hc2 => ?_) (fun hc2 => ?_)
      · refine gt rfl (a1 (v := (.c (.ref 0 3 0 2))) rfl ?_)
        refine gt rfl (a1 (v := (S v_.S)) rfl ?_)
        refine gt rfl (a1 (v := (B (decide (v_.S = [])))) rfl ?_)
        refine un (a1 (v := (B (decide (v_.S = [])))) rfl ?_)
        refine dnil ?_
        exact hX _ (.putEq (by rw [hc2]; rfl) (.skip _ _ (.skip _ _ (.skip _ _ (.putEq (by rw [hc2]) (.refl _)) rfl) rfl) rfl))
      · refine gs rfl rfl ?_
        refine gs rfl rfl ?_
        refine gs rfl rfl ?_
        refine un (a1 (v := (B false)) rfl ?_)
        refine dnil ?_
        exact hX _ (.putEq (by rw [hc2]; rfl) (.skip _ _ (.skip _ _ (.skip _ _ (.putEq (by rw [hc2]) (.refl _)) rfl) rfl) rfl))
    refine un (a1 rfl ?_)
    refine dnil ?_
    refine Sv.ret ?_
    subst h
    exact ⟨_, .refl _, _, rfl, ⟨upd (fun _ => none) 0 (some (B ((decide (v_.N = 0)) && (decide (v_.S = []))))), (fun _ => none), 0⟩, (B ((decide (v_.N = 0)) && (decide (v_.S = [])))), weak_canon [] rfl List.nodup_nil (Nat.le_refl _) (fun b h => absurd h (Nat.not_lt_zero _)) (.cons rfl (avAs_free rfl) .nil) .nil, rfl, rfl, rfl, rfl⟩
  · replace h := ifF hc1 h
    refine Sv.seq ?_
    refine Sv.region ?_
    refine un (a1 (v := (B (decide (v_.Kind = 1)))) rfl ?_)
    refine un (a1 rfl ?_)
    refine dnil ?_
    refine Sv.cond (b := decide (v_.Kind = 1)) rfl (fun hc3 => ?_) (fun hc3 => ?_)
    · replace h := ifT hc3 h
      refine Sv.seq ?_
      refine Sv.region ?_
      refine un (a1 (v := (.c (.ref 0 3 0 1))) rfl ?_)
      refine un (a1 (v := (I v_.N)) rfl ?_)
      refine un (ac_pure (value_within_ok (Γ := Γ) v_.N 0 1) rfl rfl rfl ?_)
      refine un (a1 rfl ?_)
      refine gjoin 4 (d := 24) (v := (B ((value_within v_.N 0 1) && (decide (v_.S = []))))) (fun X hX => ?_) ?_
      · refine split2 (fun hc4 => ?_) (fun hc4 => ?_)
        · refine gt rfl (a1 (v := (.c (.ref 0 3 0 2))) rfl ?_)
          refine gt rfl (a1 (v := (S v_.S)) rfl ?_)
          refine gt rfl (a1 (v := (B (decide (v_.S = [])))) rfl ?_)
          refine un (a1 (v := (B (decide (v_.S = [])))) rfl ?_)
          refine dnil ?_
          exact hX _ (.putEq (by rw [hc4]; rfl) (.skip _ _ (.skip _ _ (.skip _ _ (.putEq (by rw [hc4]) (.refl _)) rfl) rfl) rfl))
        · refine gs rfl rfl ?_
          refine gs rfl rfl ?_
          refine gs rfl rfl ?_
          refine un (a1 (v := (B false)) rfl ?_)
          refine dnil ?_
          exact hX _ (.putEq (by rw [hc4]; rfl) (.skip _ _ (.skip _ _ (.skip _ _ (.putEq (by rw [hc4]) (.refl _)) rfl) rfl) rfl))
      refine un (a1 rfl ?_)
      refine dnil ?_
      refine Sv.ret ?_
      subst h
      exact ⟨_, .refl _, _, rfl, ⟨upd (fun _ => none) 0 (some (B ((value_within v_.N 0 1) && (decide (v_.S = []))))), (fun _ => none), 0⟩, (B ((value_within v_.N 0 1) && (decide (v_.S = [])))), weak_canon [] rfl List.nodup_nil (Nat.le_refl _) (fun b h => absurd h (Nat.not_lt_zero _)) (.cons rfl (avAs_free rfl) .nil) .nil, rfl, rfl, rfl, rfl⟩
    · replace h := ifF hc3 h
      refine Sv.seq ?_
      refine Sv.region ?_
      refine un (a1 (v := (B (decide (v_.Kind = 2)))) rfl ?_)
      refine un (a1 rfl ?_)
      refine dnil ?_
      refine Sv.cond (b := decide (v_.Kind = 2)) rfl (fun hc5 => ?_) (fun hc5 => ?_)
      · replace h := ifT hc5 h
        refine Sv.seq ?_
        refine Sv.region ?_
        refine un (a1 (v := (.c (.ref 0 3 0 1))) rfl ?_)
        refine un (a1 (v := (I v_.N)) rfl ?_)
        refine un (ac_pure (value_within_ok (Γ := Γ) v_.N (-9007199254740992) 9007199254740992) rfl rfl rfl ?_)
        refine un (a1 rfl ?_)
        refine gjoin 4 (d := 34) (v := (B ((value_within v_.N (-9007199254740992) 9007199254740992) && (decide (v_.S = []))))) (fun X hX => ?_) ?_
        · refine split2 (fun hc6 => ?_) (fun hc6 => ?_)
          · refine gt rfl (a1 (v := (.c (.ref 0 3 0 2))) rfl ?_)
            refine gt rfl (a1 (v := (S v_.S)) rfl ?_)
            refine gt rfl (a1 (v := (B (decide (v_.S = [])))) rfl ?_)
            refine un (a1 (v := (B (decide (v_.S = [])))) rfl ?_)
            refine dnil ?_
            exact hX _ (.putEq (by rw [hc6]; rfl) (.skip _ _ (.skip _ _ (.skip _ _ (.putEq (by rw [hc6]) (.refl _)) rfl) rfl) rfl))
          · refine gs rfl rfl ?_
            refine gs rfl rfl ?_
            refine gs rfl rfl ?_
            refine un (a1 (v := (B false)) rfl ?_)
            refine dnil ?_
            exact hX _ (.putEq (by rw [hc6]; rfl) (.skip _ _ (.skip _ _ (.skip _ _ (.putEq (by rw [hc6]) (.refl _)) rfl) rfl) rfl))
        refine un (a1 rfl ?_)
        refine dnil ?_
        refine Sv.ret ?_
        subst h
        exact ⟨_, .refl _, _, rfl, ⟨upd (fun _ => none) 0 (some (B ((value_within v_.N (-9007199254740992) 9007199254740992) && (decide (v_.S = []))))), (fun _ => none), 0⟩, (B ((value_within v_.N (-9007199254740992) 9007199254740992) && (decide (v_.S = [])))), weak_canon [] rfl List.nodup_nil (Nat.le_refl _) (fun b h => absurd h (Nat.not_lt_zero _)) (.cons rfl (avAs_free rfl) .nil) .nil, rfl, rfl, rfl, rfl⟩
      · replace h := ifF hc5 h
        refine Sv.seq ?_
        refine Sv.region ?_
        refine un (a1 (v := (B (decide (v_.Kind = 3)))) rfl ?_)
        refine un (a1 rfl ?_)
        refine dnil ?_
        refine Sv.cond (b := decide (v_.Kind = 3)) rfl (fun hc7 => ?_) (fun hc7 => ?_)
        · replace h := ifT hc7 h
          refine Sv.seq ?_
          refine Sv.region ?_
          refine un (a1 (v := (.c (.ref 0 3 0 2))) rfl ?_)
          refine un (a1 (v := (S v_.S)) rfl ?_)
          refine un (a1 (v := (I (v_.S.length : Int))) rfl ?_)
          refine un (a1 (v := (B (decide ((v_.S.length : Int) ≤ 2000)))) rfl ?_)
          refine un (a1 rfl ?_)
          refine gjoin 4 (d := 45) (v := (B ((decide ((v_.S.length : Int) ≤ 2000)) && (decide (v_.N = 0))))) (fun X hX => ?_) ?_
          · refine split2 (fun hc8 => ?_) (fun hc8 => ?_)
            · refine gt rfl (a1 (v := (.c (.ref 0 3 0 1))) rfl ?_)
              refine gt rfl (a1 (v := (I v_.N)) rfl ?_)
              refine gt rfl (a1 (v := (B (decide (v_.N = 0)))) rfl ?_)
              refine un (a1 (v := (B (decide (v_.N = 0)))) rfl ?_)
              refine dnil ?_
              exact hX _ (.putEq (by rw [hc8]; rfl) (.skip _ _ (.skip _ _ (.skip _ _ (.putEq (by rw [hc8]) (.refl _)) rfl) rfl) rfl))
            · refine gs rfl rfl ?_
              refine gs rfl rfl ?_
              refine gs rfl rfl ?_
              refine un (a1 (v := (B false)) rfl ?_)
              refine dnil ?_
              exact hX _ (.putEq (by rw [hc8]; rfl) (.skip _ _ (.skip _ _ (.skip _ _ (.putEq (by rw [hc8]) (.refl _)) rfl) rfl) rfl))
          refine un (a1 rfl ?_)
          refine dnil ?_
          refine Sv.ret ?_
          subst h
          exact ⟨_, .refl _, _, rfl, ⟨upd (fun _ => none) 0 (some (B ((decide ((v_.S.length : Int) ≤ 2000)) && (decide (v_.N = 0))))), (fun _ => none), 0⟩, (B ((decide ((v_.S.length : Int) ≤ 2000)) && (decide (v_.N = 0)))), weak_canon [] rfl List.nodup_nil (Nat.le_refl _) (fun b h => absurd h (Nat.not_lt_zero _)) (.cons rfl (avAs_free rfl) .nil) .nil, rfl, rfl, rfl, rfl⟩
        · replace h := ifF hc7 h
          refine Sv.seq ?_
          refine Sv.region ?_
          refine un (a1 (v := (B (decide (v_.Kind = 4)))) rfl ?_)
          refine un (a1 rfl ?_)
          refine dnil ?_
          refine Sv.cond (b := decide (v_.Kind = 4)) rfl (fun hc9 => ?_) (fun hc9 => ?_)
          · replace h := ifT hc9 h
            refine Sv.seq ?_
            refine Sv.region ?_
            refine un (a1 (v := (.c (.ref 0 3 0 1))) rfl ?_)
            refine un (a1 (v := (I v_.N)) rfl ?_)
            refine un (a1 (v := (B (decide (0 ≤ v_.N)))) rfl ?_)
            refine un (a1 rfl ?_)
            refine gjoin 4 (d := 55) (v := (B ((decide (0 ≤ v_.N)) && (decide (v_.S = []))))) (fun X hX => ?_) ?_
            · refine split2 (fun hc10 => ?_) (fun hc10 => ?_)
              · refine gt rfl (a1 (v := (.c (.ref 0 3 0 2))) rfl ?_)
                refine gt rfl (a1 (v := (S v_.S)) rfl ?_)
                refine gt rfl (a1 (v := (B (decide (v_.S = [])))) rfl ?_)
                refine un (a1 (v := (B (decide (v_.S = [])))) rfl ?_)
                refine dnil ?_
                exact hX _ (.putEq (by rw [hc10]; rfl) (.skip _ _ (.skip _ _ (.skip _ _ (.putEq (by rw [hc10]) (.refl _)) rfl) rfl) rfl))
              · refine gs rfl rfl ?_
                refine gs rfl rfl ?_
                refine gs rfl rfl ?_
                refine un (a1 (v := (B false)) rfl ?_)
                refine dnil ?_
                exact hX _ (.putEq (by rw [hc10]; rfl) (.skip _ _ (.skip _ _ (.skip _ _ (.putEq (by rw [hc10]) (.refl _)) rfl) rfl) rfl))
            refine un (a1 rfl ?_)
            refine dnil ?_
            refine Sv.ret ?_
            subst h
            exact ⟨_, .refl _, _, rfl, ⟨upd (fun _ => none) 0 (some (B ((decide (0 ≤ v_.N)) && (decide (v_.S = []))))), (fun _ => none), 0⟩, (B ((decide (0 ≤ v_.N)) && (decide (v_.S = [])))), weak_canon [] rfl List.nodup_nil (Nat.le_refl _) (fun b h => absurd h (Nat.not_lt_zero _)) (.cons rfl (avAs_free rfl) .nil) .nil, rfl, rfl, rfl, rfl⟩
          · replace h := ifF hc9 h
            refine Sv.seq ?_
            refine Sv.region ?_
            refine un (a1 (v := (B (decide (v_.Kind = 5)))) rfl ?_)
            refine un (a1 rfl ?_)
            refine dnil ?_
            refine Sv.cond (b := decide (v_.Kind = 5)) rfl (fun hc11 => ?_) (fun hc11 => ?_)
            · replace h := ifT hc11 h
              refine Sv.seq ?_
              refine Sv.region ?_
              refine un (a1 (v := (.c (.ref 0 3 0 1))) rfl ?_)
              refine un (a1 (v := (I v_.N)) rfl ?_)
              refine un (a1 (v := (B (decide (v_.N = 0)))) rfl ?_)
              refine un (a1 rfl ?_)
              refine dnil ?_
              refine Sv.ret ?_
              subst h
              exact ⟨_, .refl _, _, rfl, ⟨upd (fun _ => none) 0 (some (B (decide (v_.N = 0)))), (fun _ => none), 0⟩, (B (decide (v_.N = 0))), weak_canon [] rfl List.nodup_nil (Nat.le_refl _) (fun b h => absurd h (Nat.not_lt_zero _)) (.cons rfl (avAs_free rfl) .nil) .nil, rfl, rfl, rfl, rfl⟩
            · replace h := ifF hc11 h
              refine Sv.skip ?_
              refine Sv.seq ?_
              refine Sv.region ?_
              refine un (a1 rfl ?_)
              refine dnil ?_
              refine Sv.ret ?_
              subst h
              exact ⟨_, .refl _, _, rfl, ⟨upd (fun _ => none) 0 (some (B false)), (fun _ => none), 0⟩, (B false), weak_canon [] rfl List.nodup_nil (Nat.le_refl _) (fun b h => absurd h (Nat.not_lt_zero _)) (.cons rfl (avAs_free rfl) .nil) .nil, rfl, rfl, rfl, rfl⟩
def a76_c0 : ACode := .ret
def a76 : AFunc := ⟨2, [(.tmp 4)], (.seq (.region [⟨(some 3), (.box (.tmp 1)), none⟩, ⟨(some 4), (.mov (.const (.c (.val (.bool false))))), none⟩])
 (.seq (.region [⟨(some 6), (.load true 3 (.tmp 3)), none⟩, ⟨(some 7), (.call 81 [(.tmp 6)]), none⟩, ⟨(some 5), (.mov (.tmp 7)), none⟩])
 (.seq (.region [⟨(some 8), (.load true 3 (.tmp 3)), none⟩, ⟨(some 9), (.call 90 [(.tmp 8)]), none⟩, ⟨(some 10), (.mov (.tmp 9)), none⟩, ⟨(some 11), (.mov (.tmp 5)), (some (10, true))⟩, ⟨(some 12), (.bin .lss (.tmp 11) (.const (.c (.val (.int .i64 0))))), (some (10, true))⟩, ⟨(some 13), (.mov (.tmp 12)), (some (10, true))⟩, ⟨(some 14), (.mov (.tmp 5)), (some (13, false))⟩, ⟨(some 15), (.mov (.tmp 0)), (some (13, false))⟩, ⟨(some 16), (.len (.tmp 15)), (some (13, false))⟩, ⟨(some 17), (.bin .lss (.tmp 14) (.tmp 16)), (some (13, false))⟩, ⟨(some 18), (.mov (.tmp 17)), (some (13, false))⟩, ⟨(some 19), (.mov (.tmp 0)), (some (18, true))⟩, ⟨(some 20), (.mov (.tmp 5)), (some (18, true))⟩, ⟨(some 21), (.iaddr 3 (.tmp 19) (.tmp 20)), (some (18, true))⟩, ⟨(some 22), (.faddr 0 (.tmp 21)), (some (18, true))⟩, ⟨(some 23), (.load false 1 (.tmp 22)), (some (18, true))⟩, ⟨(some 24), (.bin .neq (.tmp 23) (.const (.c (.val (.int .i64 0))))), (some (18, true))⟩, ⟨(some 25), (.pick (.tmp 18) (.tmp 24) (.const (.c (.val (.bool false))))), (some (13, false))⟩, ⟨(some 26), (.pick (.tmp 13) (.const (.c (.val (.bool true)))) (.tmp 25)), (some (10, true))⟩, ⟨(some 27), (.pick (.tmp 10) (.tmp 26) (.const (.c (.val (.bool false))))), none⟩, ⟨(some 4), (.mov (.tmp 27)), none⟩])
 a76_c0)))⟩
set_option maxRecDepth 100000 in
theorem c76 : compFunc Try.prog 76 = some a76 := by kernel_rfl
def heap_fits_post (r : Bool) : AV → Heap → Nat → Prop := fun v h' n' => v = (B r) ∧ (h' = (fun _ => none)) ∧ n' = 0
noncomputable def heap_fits_j1 (v4 : Bool) : Option Bool :=
  some v4
theorem heap_fits_j1_ok {Γ : Glob} {v4 : Bool} {o : Bool} (h : heap_fits_j1 v4 = some o) :
    Sv Try.prog Γ 0 a76_c0 (Ends a76.results 0 (heap_fits_post o)) ⟨(upd (fun _ => none) 4 (some (B v4))), (fun _ => none), 0⟩ := by
  unfold heap_fits_j1 at h
  refine Sv.ret ?_
  replace h := Option.some.inj h
  subst h
  exact ⟨_, .refl _, _, rfl, ⟨upd (fun _ => none) 0 (some (B v4)), (fun _ => none), 0⟩, (B v4), weak_canon [] rfl List.nodup_nil (Nat.le_refl _) (fun b h => absurd h (Nat.not_lt_zero _)) (.cons rfl (avAs_free rfl) .nil) .nil, rfl, rfl, rfl, rfl⟩
/-- clerestory/heap.fits -/
noncomputable def heap_fits (h_ : (List TJCell)) (v_ : TJVal) : Option Bool :=
  if (value_Check v_) then
    if decide ((heap_ref v_) < 0) then
      heap_fits_j1 true
    else
      if decide ((heap_ref v_) < (h_.length : Int)) then
        (at? h_ (heap_ref v_)).bind fun x_ =>
        heap_fits_j1 (!decide (x_.Kind = 0))
      else
        heap_fits_j1 false
  else
    heap_fits_j1 false
theorem heap_fits_ok {Γ : Glob} {h_ : (List TJCell)} {v_ : TJVal} {r : Bool} (h : heap_fits h_ v_ = some r) : CPure Try.prog Γ 76 [(.c (.ro false 3 (h_.map e_TJCell))), (.agg [cI v_.Kind, cI v_.N, .str v_.S])] (B r) := by
  refine acalls_of_sv hmix c76 (R := heap_fits_post r) ?_
  unfold heap_fits at h
  refine Sv.seq ?_
  refine Sv.region ?_
  refine un (a2v (v := (.c (.ref 0 3 0 0))) (h' := upd _ 0 (some (.cells 3 [[cI v_.Kind, cI v_.N, .str v_.S]]))) (n' := 1) rfl rfl (fun h => by cases h) ?_)
  refine un (a1 rfl ?_)
  refine dnil ?_
  refine Sv.seq ?_
  refine Sv.region ?_
  refine un (a1 (v := (.agg [cI v_.Kind, cI v_.N, .str v_.S])) rfl ?_)
  refine un (ac_pure (heap_ref_ok (Γ := Γ) v_) rfl rfl rfl ?_)
  refine un (a1 rfl ?_)
  refine dnil ?_
  refine Sv.seq ?_
  refine Sv.region ?_
  refine un (a1 (v := (.agg [cI v_.Kind, cI v_.N, .str v_.S])) rfl ?_)
  refine un (ac_pure (value_Check_ok (Γ := Γ) v_) rfl rfl rfl ?_)
  refine un (a1 rfl ?_)
  refine split2 (fun hc1 => ?_) (fun hc1 => ?_)
  · replace h := ifT hc1 h
    refine gt rfl (a1 rfl ?_)
    refine gt rfl (a1 (v := (B (decide ((heap_ref v_) < 0)))) rfl ?_)
    refine gt rfl (a1 rfl ?_)
    refine split2 (fun hc2 => ?_) (fun hc2 => ?_)
    · replace h := ifT hc2 h
      refine gs rfl rfl ?_
      refine gs rfl rfl ?_
      refine gs rfl rfl ?_
      refine gs rfl rfl ?_
      refine gs rfl rfl ?_
      refine gu rfl ?_
      refine gu rfl ?_
      refine gu rfl ?_
      refine gu rfl ?_
      refine gu rfl ?_
      refine gu rfl ?_
      refine gs rfl rfl ?_
      refine gt rfl (a1 (v := (B true)) rfl ?_)
      refine un (a1 (v := (B true)) rfl ?_)
      refine un (a1 rfl ?_)
      refine dnil ?_
      exact Sv.weak (weak_canon [] rfl (by decide) (by decide) (fun b h => absurd h (Nat.not_lt_zero _)) (.cons rfl (avAs_free rfl) .nil) .nil) (heap_fits_j1_ok h)
    · replace h := ifF hc2 h
      refine gt rfl (a1 rfl ?_)
      refine gt rfl (a1 rfl ?_)
      refine gt rfl (a1 (v := (I (h_.length : Int))) (s_len (e := e_TJCell) (xs := h_) rfl) ?_)
      refine gt rfl (a1 (v := (B (decide ((heap_ref v_) < (h_.length : Int))))) rfl ?_)
      refine gt rfl (a1 rfl ?_)
      refine split2 (fun hc3 => ?_) (fun hc3 => ?_)
      · replace h := ifT hc3 h
        refine gt rfl (a1 rfl ?_)
        refine gt rfl (a1 rfl ?_)
        obtain ⟨x_, hx1, h⟩ := bnd h
        refine gt rfl (a1 (v := (.c (.rop [cI x_.Kind, .ro false 1 (x_.Names.map eStr), .ro false 3 (x_.Vals.map e_TJVal)]))) (s_iaddr (e := e_TJCell) (xs := h_) rfl rfl hx1) ?_)
        refine gt rfl (a1 (v := (.c (.rop [cI x_.Kind, .ro false 1 (x_.Names.map eStr), .ro false 3 (x_.Vals.map e_TJVal)]))) rfl ?_)
        refine gt rfl (a1 (v := (I x_.Kind)) rfl ?_)
        refine gt rfl (a1 (v := (B (!decide (x_.Kind = 0)))) rfl ?_)
        refine gt rfl (a1 (v := (B (!decide (x_.Kind = 0)))) rfl ?_)
        refine gt rfl (a1 (v := (B (!decide (x_.Kind = 0)))) rfl ?_)
        refine un (a1 (v := (B (!decide (x_.Kind = 0)))) rfl ?_)
        refine un (a1 rfl ?_)
        refine dnil ?_
        exact Sv.weak (weak_canon [] rfl (by decide) (by decide) (fun b h => absurd h (Nat.not_lt_zero _)) (.cons rfl (avAs_free rfl) .nil) .nil) (heap_fits_j1_ok h)
      · replace h := ifF hc3 h
        refine gs rfl rfl ?_
        refine gs rfl rfl ?_
        refine gs rfl rfl ?_
        refine gs rfl rfl ?_
        refine gs rfl rfl ?_
        refine gs rfl rfl ?_
        refine gt rfl (a1 (v := (B false)) rfl ?_)
        refine gt rfl (a1 (v := (B false)) rfl ?_)
        refine un (a1 (v := (B false)) rfl ?_)
        refine un (a1 rfl ?_)
        refine dnil ?_
        exact Sv.weak (weak_canon [] rfl (by decide) (by decide) (fun b h => absurd h (Nat.not_lt_zero _)) (.cons rfl (avAs_free rfl) .nil) .nil) (heap_fits_j1_ok h)
  · replace h := ifF hc1 h
    refine gs rfl rfl ?_
    refine gs rfl rfl ?_
    refine gs rfl rfl ?_
    refine gu rfl ?_
    refine gu rfl ?_
    refine gu rfl ?_
    refine gu rfl ?_
    refine gu rfl ?_
    refine gu rfl ?_
    refine gu rfl ?_
    refine gu rfl ?_
    refine gu rfl ?_
    refine gu rfl ?_
    refine gu rfl ?_
    refine gu rfl ?_
    refine gs rfl rfl ?_
    refine un (a1 (v := (B false)) rfl ?_)
    refine un (a1 rfl ?_)
    refine dnil ?_
    exact Sv.weak (weak_canon [] rfl (by decide) (by decide) (fun b h => absurd h (Nat.not_lt_zero _)) (.cons rfl (avAs_free rfl) .nil) .nil) (heap_fits_j1_ok h)
def a84 : AFunc := ⟨2, [(.tmp 3)], (.seq (.region [⟨(some 2), (.box (.tmp 0)), none⟩, ⟨(some 3), (.mov (.const (.c (.val (.bool false))))), none⟩])
 (.seq (.region [⟨(some 4), (.load false 1 (.tmp 1)), none⟩, ⟨(some 5), (.load true 3 (.tmp 2)), none⟩, ⟨(some 6), (.call 76 [(.tmp 4), (.tmp 5)]), none⟩, ⟨(some 7), (.un .not (.tmp 6)), none⟩, ⟨(some 3), (.mov (.tmp 7)), none⟩])
 .ret))⟩
set_option maxRecDepth 100000 in
theorem c84 : compFunc Try.prog 84 = some a84 := by kernel_rfl
def heap_cell_fn1_post (r : Bool) : AV → Heap → Nat → Prop := fun v h' n' => v = (B r) ∧ (h' = (fun _ => none)) ∧ n' = 0
/-- clerestory/heap.cell$1 -/
noncomputable def heap_cell_fn1 (v_ : TJVal) (v1 : (List TJCell)) : Option Bool :=
  (heap_fits v1 v_).bind fun r_ =>
  some (!r_)
theorem heap_cell_fn1_ok {Γ : Glob} {v_ : TJVal} {v1 : (List TJCell)} {r : Bool} (h : heap_cell_fn1 v_ v1 = some r) : CPure Try.prog Γ 84 [(.agg [cI v_.Kind, cI v_.N, .str v_.S]), (.c (.rop [.ro false 3 (v1.map e_TJCell)]))] (B r) := by
  refine acalls_of_sv hmix c84 (R := heap_cell_fn1_post r) ?_
  unfold heap_cell_fn1 at h
  refine Sv.seq ?_
  refine Sv.region ?_
  refine un (a2v (v := (.c (.ref 0 3 0 0))) (h' := upd _ 0 (some (.cells 3 [[cI v_.Kind, cI v_.N, .str v_.S]]))) (n' := 1) rfl rfl (fun h => by cases h) ?_)
  refine un (a1 rfl ?_)
  refine dnil ?_
  refine Sv.seq ?_
  refine Sv.region ?_
  refine un (a1 (v := (.c (.ro false 3 (v1.map e_TJCell)))) rfl ?_)
  refine un (a1 (v := (.agg [cI v_.Kind, cI v_.N, .str v_.S])) rfl ?_)
  obtain ⟨r_, hr1, h⟩ := bnd h
  refine un (ac_pure (heap_fits_ok hr1) rfl rfl rfl ?_)
  refine un (a1 (v := (B (!r_))) rfl ?_)
  refine un (a1 rfl ?_)
  refine dnil ?_
  refine Sv.ret ?_
  replace h := Option.some.inj h
  subst h
  exact ⟨_, .refl _, _, rfl, ⟨upd (fun _ => none) 0 (some (B (!r_))), (fun _ => none), 0⟩, (B (!r_)), weak_canon [] rfl List.nodup_nil (Nat.le_refl _) (fun b h => absurd h (Nat.not_lt_zero _)) (.cons rfl (avAs_free rfl) .nil) .nil, rfl, rfl, rfl, rfl⟩
def a102_c0 : ACode := (.seq (.region [⟨(some 9), (.bin .lss (.tmp 8) (.tmp 7)), none⟩])
 (.seq (.cond (.tmp 9) .skip (.exit 0))
 (.seq (.block 1 (.seq (.region [⟨(some 10), (.mov (.tmp 8)), none⟩, ⟨(some 5), (.mov (.tmp 10)), none⟩])
 (.seq (.region [⟨(some 11), (.mov (.tmp 1)), none⟩, ⟨(some 12), (.mov (.tmp 0)), none⟩, ⟨(some 13), (.mov (.tmp 5)), none⟩, ⟨(some 14), (.iaddr 3 (.tmp 12) (.tmp 13)), none⟩, ⟨(some 15), (.load true 3 (.tmp 14)), none⟩, ⟨(some 16), (.callv (.tmp 11) [(.tmp 15)]), none⟩])
 (.cond (.tmp 16) (.seq (.region [⟨(some 17), (.mov (.tmp 5)), none⟩, ⟨(some 4), (.mov (.tmp 17)), none⟩])
 .ret) .skip))))
 (.region [⟨(some 18), (.bin .add (.tmp 8) (.const (.c (.val (.int .i64 1))))), none⟩, ⟨(some 8), (.mov (.tmp 18)), none⟩]))))
def a102 : AFunc := ⟨2, [(.tmp 4)], (.seq (.region [⟨(some 4), (.mov (.const (.c (.val (.int .i64 0))))), none⟩])
 (.seq (.seq (.region [⟨(some 6), (.mov (.tmp 0)), none⟩, ⟨(some 7), (.len (.tmp 6)), none⟩, ⟨(some 8), (.mov (.const (.c (.val (.int .i64 0))))), none⟩])
 (.block 0 (.loop a102_c0)))
 (.seq (.region [⟨(some 4), (.mov (.const (.c (.val (.int .i64 (-1)))))), none⟩])
 .ret)))⟩
set_option maxRecDepth 100000 in
theorem c102 : compFunc Try.prog 102 = some a102 := by kernel_rfl
def slices_IndexFunc_JVal_post (r : Int) : AV → Heap → Nat → Prop := fun v h' n' => v = (I r) ∧ (h' = (fun _ => none)) ∧ n' = 0
abbrev slices_IndexFunc_JVal_l0_E0 (F_ : Unit → Option Int) (o : Int) (R_ : St → Prop) : Prop := ∀ (_ : Unit), F_ () = some o → ∀ s, Weak 0 s ⟨(fun _ => none), (fun _ => none), 0⟩ → R_ s
abbrev slices_IndexFunc_JVal_l0_I (s_ : (List TJVal)) (fc : (List TJCell)) (F_ : Nat → Int → Option Int) (o : Int) : Nat → St → Prop := fun k s => ∃ (v8 : Int), F_ k v8 = some o ∧ s = ⟨(upd (upd (upd (upd (fun _ => none) 0 (some (.c (.ro false 3 (s_.map e_TJVal))))) 1 (some (.c (.fn (.func 84) [] [.rop [.ro false 3 (fc.map e_TJCell)]])))) 7 (some (I (s_.length : Int)))) 8 (some (I v8))), (fun _ => none), 0⟩
abbrev slices_IndexFunc_JVal_l0_H (s_ : (List TJVal)) (fc : (List TJCell)) (F_ : Int → Option Int) (o : Int) (R_ : St → Prop) : Prop := ∀ (v8 : Int), F_ v8 = some o → ∀ s, Weak 0 s ⟨(upd (upd (upd (upd (fun _ => none) 0 (some (.c (.ro false 3 (s_.map e_TJVal))))) 1 (some (.c (.fn (.func 84) [] [.rop [.ro false 3 (fc.map e_TJCell)]])))) 7 (some (I (s_.length : Int)))) 8 (some (I v8))), (fun _ => none), 0⟩ → R_ s
noncomputable def slices_IndexFunc_JVal_l0 (s_ : (List TJVal)) (fc : (List TJCell)) (K0_ : Unit → Option Int) : Nat → Int → Option Int
  | 0, _ => none
  | k + 1, v8 =>
    if decide (v8 < (s_.length : Int)) then
      (at? s_ v8).bind fun x_ =>
      (heap_cell_fn1 x_ fc).bind fun r_ =>
      if r_ then
        some v8
      else
        (slices_IndexFunc_JVal_l0 s_ fc K0_ k) (wi (v8 + 1))
    else
      K0_ ()
theorem slices_IndexFunc_JVal_l0_ok {Γ : Glob} {Q : AExit → St → Prop} {s_ : (List TJVal)} {fc : (List TJCell)} {K0_ : Unit → Option Int} {k : Nat} {v8 : Int} {o : Int} (h : slices_IndexFunc_JVal_l0 s_ fc K0_ k v8 = some o)
    (hK0 : slices_IndexFunc_JVal_l0_E0 K0_ o (Q (.exit 0)))
    (hr : ∀ s, Ends a102.results 0 (slices_IndexFunc_JVal_post o) .ret s → Q .ret s) :
    Sv Try.prog Γ 0 (.loop a102_c0) Q ⟨(upd (upd (upd (upd (fun _ => none) 0 (some (.c (.ro false 3 (s_.map e_TJVal))))) 1 (some (.c (.fn (.func 84) [] [.rop [.ro false 3 (fc.map e_TJCell)]])))) 7 (some (I (s_.length : Int)))) 8 (some (I v8))), (fun _ => none), 0⟩ := by
  refine Sv.loop (I := slices_IndexFunc_JVal_l0_I s_ fc (slices_IndexFunc_JVal_l0 s_ fc K0_) o) (fun k s hI => ?_) ⟨v8, h, rfl⟩
  clear h
  clear v8
  obtain ⟨v8, h, rfl⟩ := hI
  cases k with
  | zero => cases h
  | succ k =>
  rw [slices_IndexFunc_JVal_l0] at h
  have hself : slices_IndexFunc_JVal_l0_H s_ fc (slices_IndexFunc_JVal_l0 s_ fc K0_ k) o (rnd 0 (slices_IndexFunc_JVal_l0_I s_ fc (slices_IndexFunc_JVal_l0 s_ fc K0_) o) k Q) := fun v8 h s hw => ⟨_, k, hw, Nat.lt_succ_self k, v8, h, rfl⟩
  refine Sv.seq ?_
  refine Sv.region ?_
  refine un (a1 (v := (B (decide (v8 < (s_.length : Int))))) rfl ?_)
  refine dnil ?_
  refine Sv.seq ?_
  refine Sv.cond (b := decide (v8 < (s_.length : Int))) rfl (fun hc1 => ?_) (fun hc1 => ?_)
  · replace h := ifT hc1 h
    refine Sv.skip ?_
    refine Sv.seq ?_
    refine Sv.block ?_
    refine Sv.seq ?_
    refine Sv.region ?_
    refine un (a1 rfl ?_)
    refine un (a1 rfl ?_)
    refine dnil ?_
    refine Sv.seq ?_
    refine Sv.region ?_
    refine un (a1 rfl ?_)
    refine un (a1 rfl ?_)
    refine un (a1 rfl ?_)
    obtain ⟨x_, hx1, h⟩ := bnd h
    refine un (a1 (v := (.c (.rop [cI x_.Kind, cI x_.N, .str x_.S]))) (s_iaddr (e := e_TJVal) (xs := s_) rfl rfl hx1) ?_)
    refine un (a1 (v := (.agg [cI x_.Kind, cI x_.N, .str x_.S])) rfl ?_)
    obtain ⟨r_, hr1, h⟩ := bnd h
    refine un (acv_gen (bs := []) («as» := [(.agg [cI x_.Kind, cI x_.N, .str x_.S]), (.c (.rop [.ro false 3 (fc.map e_TJCell)]))]) (h2 := _) (h1 := (fun _ => none)) rfl (by kernel_rfl) (heap_cell_fn1_ok hr1) rfl (.cons (avAs_free rfl) (.cons (avAs_free rfl) .nil)) (hsub_refl _) (.nil _) (fun _ => rfl) (by decide) (by decide) (.cons (avAs_free rfl) (.cons (avAs_free rfl) .nil)) .nil ?_)
    rintro _ _ _ hn ⟨rfl, rfl, rfl⟩
    refine ⟨.inl rfl, (rem [] _), fun hbd => (m3_rem (in_nil _) (.nil) hbd), (B r_), 0, rfl, rfl, ?_⟩
    refine dnil ?_
    refine Sv.cond (b := r_) rfl (fun hc2 => ?_) (fun hc2 => ?_)
    · replace h := ifT hc2 h
      refine Sv.seq ?_
      refine Sv.region ?_
      refine un (a1 rfl ?_)
      refine un (a1 rfl ?_)
      refine dnil ?_
      refine Sv.ret ?_
      replace h := Option.some.inj h
      subst h
      exact hr _ ⟨_, .refl _, _, rfl, ⟨upd (fun _ => none) 0 (some (I v8)), (fun _ => none), 0⟩, (I v8), weak_canon [] rfl List.nodup_nil (Nat.le_refl _) (fun b h => absurd h (Nat.not_lt_zero _)) (.cons rfl (avAs_free rfl) .nil) .nil, rfl, rfl, rfl, rfl⟩
    · replace h := ifF hc2 h
      refine Sv.skip ?_
      refine Sv.region ?_
      refine un (a1 (v := (I (wi (v8 + 1)))) rfl ?_)
      refine un (a1 rfl ?_)
      refine dnil ?_
      exact hself (wi (v8 + 1)) h _ (weak_canon [] rfl (by decide) (by decide) (fun b h => absurd h (Nat.not_lt_zero _)) (.cons rfl (avAs_free rfl) (.cons rfl (avAs_free rfl) (.cons rfl (.c (fn_as .nil (.cons (.same rfl) .nil))) (.cons rfl (avAs_free rfl) .nil)))) .nil)
  · replace h := ifF hc1 h
    refine Sv.exit ?_
    exact hK0 () h _ (weak_canon [] rfl (by decide) (by decide) (fun b h => absurd h (Nat.not_lt_zero _)) .nil .nil)
/-- slices.IndexFunc(()clerestory/api.JVal,clerestory/api.JVal) -/
noncomputable def slices_IndexFunc_JVal (s_ : (List TJVal)) (fc : (List TJCell)) : Option Int :=
  lim fun kk => slices_IndexFunc_JVal_l0 s_ fc (fun (_ : Unit) => 
      some (-1)) kk 0
theorem slices_IndexFunc_JVal_ok {Γ : Glob} {s_ : (List TJVal)} {fc : (List TJCell)} {r : Int} (h : slices_IndexFunc_JVal s_ fc = some r) : CPure Try.prog Γ 102 [(.c (.ro false 3 (s_.map e_TJVal))), (.c (.fn (.func 84) [] [.rop [.ro false 3 (fc.map e_TJCell)]]))] (I r) := by
  refine acalls_of_sv hmix c102 (R := slices_IndexFunc_JVal_post r) ?_
  unfold slices_IndexFunc_JVal at h
  refine Sv.seq ?_
  refine Sv.region ?_
  refine un (a1 rfl ?_)
  refine dnil ?_
  refine Sv.seq ?_
  refine Sv.seq ?_
  refine Sv.region ?_
  refine un (a1 rfl ?_)
  refine un (a1 (v := (I (s_.length : Int))) (s_len (e := e_TJVal) (xs := s_) rfl) ?_)
  refine un (a1 rfl ?_)
  refine dnil ?_
  refine Sv.block ?_
  obtain ⟨kk, h⟩ := lim_some h
  refine Sv.weak (weak_canon [] rfl (by decide) (by decide) (fun b h => absurd h (Nat.not_lt_zero _)) (.cons rfl (avAs_free rfl) (.cons rfl (avAs_free rfl) (.cons rfl (.c (fn_as .nil (.cons (.same rfl) .nil))) (.cons rfl (avAs_free rfl) .nil)))) .nil) (slices_IndexFunc_JVal_l0_ok h ?_ (fun s hs => hs))
  · intro _ h _ hw1
    refine Sv.weak hw1 ?_
    refine Sv.seq ?_
    refine Sv.region ?_
    refine un (a1 rfl ?_)
    refine dnil ?_
    refine Sv.ret ?_
    replace h := Option.some.inj h
    subst h
    exact ⟨_, .refl _, _, rfl, ⟨upd (fun _ => none) 0 (some (I (-1))), (fun _ => none), 0⟩, (I (-1)), weak_canon [] rfl List.nodup_nil (Nat.le_refl _) (fun b h => absurd h (Nat.not_lt_zero _)) (.cons rfl (avAs_free rfl) .nil) .nil, rfl, rfl, rfl, rfl⟩
def a83 : AFunc := ⟨2, [(.tmp 4)], (.seq (.region [⟨(some 4), (.mov (.const (.c (.val (.bool false))))), none⟩])
 (.seq (.region [⟨(some 5), (.mov (.tmp 0)), none⟩, ⟨(some 6), (.mov (.tmp 1)), none⟩, ⟨(some 7), (.call 102 [(.tmp 5), (.tmp 6)]), none⟩, ⟨(some 8), (.bin .geq (.tmp 7) (.const (.c (.val (.int .i64 0))))), none⟩, ⟨(some 4), (.mov (.tmp 8)), none⟩])
 .ret))⟩
set_option maxRecDepth 100000 in
theorem c83 : compFunc Try.prog 83 = some a83 := by kernel_rfl
def slices_ContainsFunc_JVal_post (r : Bool) : AV → Heap → Nat → Prop := fun v h' n' => v = (B r) ∧ (h' = (fun _ => none)) ∧ n' = 0
/-- slices.ContainsFunc(()clerestory/api.JVal,clerestory/api.JVal) -/
noncomputable def slices_ContainsFunc_JVal (s_ : (List TJVal)) (fc : (List TJCell)) : Option Bool :=
  (slices_IndexFunc_JVal s_ fc).bind fun r_ =>
  some (decide (0 ≤ r_))
theorem slices_ContainsFunc_JVal_ok {Γ : Glob} {s_ : (List TJVal)} {fc : (List TJCell)} {r : Bool} (h : slices_ContainsFunc_JVal s_ fc = some r) : CPure Try.prog Γ 83 [(.c (.ro false 3 (s_.map e_TJVal))), (.c (.fn (.func 84) [] [.rop [.ro false 3 (fc.map e_TJCell)]]))] (B r) := by
  refine acalls_of_sv hmix c83 (R := slices_ContainsFunc_JVal_post r) ?_
  unfold slices_ContainsFunc_JVal at h
  refine Sv.seq ?_
  refine Sv.region ?_
  refine un (a1 rfl ?_)
  refine dnil ?_
  refine Sv.seq ?_
  refine Sv.region ?_
  refine un (a1 rfl ?_)
  refine un (a1 rfl ?_)
  obtain ⟨r_, hr1, h⟩ := bnd h
  refine un (ac_gen (bs := []) («as» := [(.c (.ro false 3 (s_.map e_TJVal))), (.c (.fn (.func 84) [] [.rop [.ro false 3 (fc.map e_TJCell)]]))]) (h2 := _) (h1 := (fun _ => none)) (slices_IndexFunc_JVal_ok hr1) rfl (.cons (avAs_free rfl) (.cons (.c (fn_as .nil (.cons (.same rfl) .nil))) .nil)) (hsub_refl _) (.nil _) (fun _ => rfl) (by decide) (by decide) (.cons (avAs_free rfl) (.cons (.c (fn_as .nil (.cons (.same rfl) .nil))) .nil)) .nil ?_)
  rintro _ _ _ hn ⟨rfl, rfl, rfl⟩
  refine ⟨.inl rfl, (rem [] _), fun hbd => (m3_rem (in_nil _) (.nil) hbd), (I r_), 0, rfl, rfl, ?_⟩
  refine un (a1 (v := (B (decide (0 ≤ r_)))) rfl ?_)
  refine un (a1 rfl ?_)
  refine dnil ?_
  refine Sv.ret ?_
  replace h := Option.some.inj h
  subst h
  exact ⟨_, .refl _, _, rfl, ⟨upd (fun _ => none) 0 (some (B (decide (0 ≤ r_)))), (fun _ => none), 0⟩, (B (decide (0 ≤ r_))), weak_canon [] rfl List.nodup_nil (Nat.le_refl _) (fun b h => absurd h (Nat.not_lt_zero _)) (.cons rfl (avAs_free rfl) .nil) .nil, rfl, rfl, rfl, rfl⟩
def a54_c0 : ACode := (.cond (.tmp 14) .skip (.seq (.region [⟨(some 18), (.bin .eql (.tmp 7) (.const (.c (.val (.int .i64 2))))), none⟩, ⟨(some 17), (.mov (.tmp 18)), none⟩])
 (.cond (.tmp 17) (.region [⟨(some 19), (.faddr 2 (.tmp 3)), none⟩, ⟨(some 20), (.load false 1 (.tmp 19)), none⟩, ⟨(some 21), (.len (.tmp 20)), none⟩, ⟨(some 5), (.mov (.tmp 21)), none⟩]) (.seq (.region [⟨(some 4), (.mov (.const (.c (.val (.bool false))))), none⟩])
 .ret))))
def a54_c2 : ACode := .ret
def a54_c1 : ACode := (.seq (.region [⟨(some 22), (.faddr 1 (.tmp 3)), none⟩, ⟨(some 23), (.load false 1 (.tmp 22)), none⟩, ⟨(some 24), (.len (.tmp 23)), none⟩, ⟨(some 25), (.mov (.tmp 5)), none⟩, ⟨(some 26), (.bin .eql (.tmp 24) (.tmp 25)), none⟩, ⟨(some 27), (.mov (.tmp 26)), none⟩, ⟨(some 28), (.faddr 1 (.tmp 3)), (some (27, true))⟩, ⟨(some 29), (.load false 1 (.tmp 28)), (some (27, true))⟩, ⟨(some 30), (.call 82 [(.tmp 29)]), (some (27, true))⟩, ⟨(some 31), (.pick (.tmp 27) (.tmp 30) (.const (.c (.val (.bool false))))), none⟩, ⟨(some 32), (.mov (.tmp 31)), none⟩, ⟨(some 33), (.faddr 2 (.tmp 3)), (some (32, true))⟩, ⟨(some 34), (.load false 1 (.tmp 33)), (some (32, true))⟩, ⟨(some 35), (.mkfn (.func 84) [] [(.tmp 2)]), (some (32, true))⟩, ⟨(some 36), (.call 83 [(.tmp 34), (.tmp 35)]), (some (32, true))⟩, ⟨(some 37), (.un .not (.tmp 36)), (some (32, true))⟩, ⟨(some 38), (.pick (.tmp 32) (.tmp 37) (.const (.c (.val (.bool false))))), none⟩, ⟨(some 4), (.mov (.tmp 38)), none⟩])
 a54_c2)
def a54 : AFunc := ⟨2, [(.tmp 4)], (.seq (.region [⟨(some 2), (.box (.tmp 0)), none⟩, ⟨(some 3), (.box (.tmp 1)), none⟩, ⟨(some 4), (.mov (.const (.c (.val (.bool false))))), none⟩])
 (.seq (.region [⟨(some 5), (.mov (.const (.c (.val (.int .i64 0))))), none⟩])
 (.seq (.seq (.region [⟨(some 6), (.faddr 0 (.tmp 3)), none⟩, ⟨(some 7), (.load false 1 (.tmp 6)), none⟩])
 (.block 0 (.seq (.region [⟨(some 9), (.bin .eql (.tmp 7) (.const (.c (.val (.int .i64 0))))), none⟩, ⟨(some 8), (.mov (.tmp 9)), none⟩])
 (.cond (.tmp 8) (.seq (.region [⟨(some 10), (.faddr 2 (.tmp 3)), none⟩, ⟨(some 11), (.load false 1 (.tmp 10)), none⟩, ⟨(some 12), (.len (.tmp 11)), none⟩, ⟨(some 13), (.bin .gtr (.tmp 12) (.const (.c (.val (.int .i64 0))))), none⟩])
 (.cond (.tmp 13) (.seq (.region [⟨(some 4), (.mov (.const (.c (.val (.bool false))))), none⟩])
 .ret) .skip)) (.seq (.seq (.region [⟨(some 15), (.bin .eql (.tmp 7) (.const (.c (.val (.int .i64 1))))), none⟩, ⟨(some 14), (.mov (.tmp 15)), none⟩])
 (.cond (.tmp 14) .skip (.region [⟨(some 16), (.bin .eql (.tmp 7) (.const (.c (.val (.int .i64 3))))), none⟩, ⟨(some 14), (.mov (.tmp 16)), none⟩])))
 a54_c0)))))
 a54_c1)))⟩
set_option maxRecDepth 100000 in
theorem c54 : compFunc Try.prog 54 = some a54 := by kernel_rfl
def heap_cell_post (r : Bool) : AV → Heap → Nat → Prop := fun v h' n' => v = (B r) ∧ (h' = (fun _ => none)) ∧ n' = 0
noncomputable def heap_cell_j4 (v4 : Bool) : Option Bool :=
  some v4
theorem heap_cell_j4_ok {Γ : Glob} {v4 : Bool} {o : Bool} (h : heap_cell_j4 v4 = some o) :
    Sv Try.prog Γ 0 a54_c2 (Ends a54.results 0 (heap_cell_post o)) ⟨(upd (fun _ => none) 4 (some (B v4))), (fun _ => none), 0⟩ := by
  unfold heap_cell_j4 at h
  refine Sv.ret ?_
  replace h := Option.some.inj h
  subst h
  exact ⟨_, .refl _, _, rfl, ⟨upd (fun _ => none) 0 (some (B v4)), (fun _ => none), 0⟩, (B v4), weak_canon [] rfl List.nodup_nil (Nat.le_refl _) (fun b h => absurd h (Nat.not_lt_zero _)) (.cons rfl (avAs_free rfl) .nil) .nil, rfl, rfl, rfl, rfl⟩
noncomputable def heap_cell_j3 (c_ : TJCell) (h_ : (List TJCell)) (names : Int) : Option Bool :=
  if decide ((c_.Names.length : Int) = names) then
    (heap_rising c_.Names).bind fun r_ =>
    if r_ then
      (slices_ContainsFunc_JVal c_.Vals h_).bind fun r_1 =>
      heap_cell_j4 (!r_1)
    else
      heap_cell_j4 false
  else
    heap_cell_j4 false
theorem heap_cell_j3_ok {Γ : Glob} {c_ : TJCell} {h_ : (List TJCell)} {names : Int} {o : Bool} (h : heap_cell_j3 c_ h_ names = some o) :
    Sv Try.prog Γ 0 a54_c1 (Ends a54.results 0 (heap_cell_post o)) ⟨(upd (upd (upd (fun _ => none) 2 (some (.c (.ref 0 1 0 0)))) 3 (some (.c (.ref 1 3 0 0)))) 5 (some (I names))), (upd (upd (fun _ => none) 0 (some (.cells 1 [[.ro false 3 (h_.map e_TJCell)]]))) 1 (some (.cells 3 [[cI c_.Kind, .ro false 1 (c_.Names.map eStr), .ro false 3 (c_.Vals.map e_TJVal)]]))), 2⟩ := by
  unfold heap_cell_j3 at h
  refine Sv.seq ?_
  refine Sv.region ?_
  refine un (a1 (v := (.c (.ref 1 3 0 1))) rfl ?_)
  refine un (a1 (v := (.c (.ro false 1 (c_.Names.map eStr)))) rfl ?_)
  refine un (a1 (v := (I (c_.Names.length : Int))) (s_len (e := eStr) (xs := c_.Names) rfl) ?_)
  refine un (a1 rfl ?_)
  refine un (a1 (v := (B (decide ((c_.Names.length : Int) = names)))) rfl ?_)
  refine un (a1 rfl ?_)
  refine split2 (fun hc1 => ?_) (fun hc1 => ?_)
  · replace h := ifT hc1 h
    refine gt rfl (a1 (v := (.c (.ref 1 3 0 1))) rfl ?_)
    refine gt rfl (a1 (v := (.c (.ro false 1 (c_.Names.map eStr)))) rfl ?_)
    obtain ⟨r_, hr1, h⟩ := bnd h
    refine gt rfl (ac_pure (heap_rising_ok hr1) rfl rfl rfl ?_)
    refine un (a1 (v := (B r_)) rfl ?_)
    refine un (a1 rfl ?_)
    refine split2 (fun hc2 => ?_) (fun hc2 => ?_)
    · replace h := ifT hc2 h
      refine gt rfl (a1 (v := (.c (.ref 1 3 0 2))) rfl ?_)
      refine gt rfl (a1 (v := (.c (.ro false 3 (c_.Vals.map e_TJVal)))) rfl ?_)
      refine gt rfl (a1 (v := (.c (.fn (.func 84) [] [.ref 0 1 0 0]))) rfl ?_)
      obtain ⟨r_1, hr2, h⟩ := bnd h
      refine gt rfl (ac_gen (bs := []) («as» := [(.c (.ro false 3 (c_.Vals.map e_TJVal))), (.c (.fn (.func 84) [] [.rop [.ro false 3 (h_.map e_TJCell)]]))]) (h2 := (upd _ 0 none)) (h1 := (fun _ => none)) (slices_ContainsFunc_JVal_ok hr2) rfl (.cons (avAs_free rfl) (.cons (.c (fn_as .nil (.cons (ref_ro rfl (gone rfl) (.cons (.same rfl) .nil) rfl) .nil))) .nil)) (hsub_none (hsub_refl _)) (.nil _) (fun _ => rfl) (by decide) (by decide) (.cons (avAs_free rfl) (.cons (.c (fn_as .nil (.cons (.same rfl) .nil))) .nil)) .nil ?_)
      rintro _ _ _ hn ⟨rfl, rfl, rfl⟩
      refine ⟨.inr ⟨rfl, .nil⟩, (rem [] _), fun hbd => (m3_rem (in_nil _) (.nil) hbd), (B r_1), 2, rfl, rfl, ?_⟩
      refine gt rfl (a1 (v := (B (!r_1))) rfl ?_)
      refine un (a1 (v := (B (!r_1))) rfl ?_)
      refine un (a1 rfl ?_)
      refine dnil ?_
      exact Sv.weak (weak_canon [] rfl (by decide) (by decide) (fun b h => absurd h (Nat.not_lt_zero _)) (.cons rfl (avAs_free rfl) .nil) .nil) (heap_cell_j4_ok h)
    · replace h := ifF hc2 h
      refine gs rfl rfl ?_
      refine gs rfl rfl ?_
      refine gs rfl rfl ?_
      refine gs rfl rfl ?_
      refine gs rfl rfl ?_
      refine un (a1 (v := (B false)) rfl ?_)
      refine un (a1 rfl ?_)
      refine dnil ?_
      exact Sv.weak (weak_canon [] rfl (by decide) (by decide) (fun b h => absurd h (Nat.not_lt_zero _)) (.cons rfl (avAs_free rfl) .nil) .nil) (heap_cell_j4_ok h)
  · replace h := ifF hc1 h
    refine gs rfl rfl ?_
    refine gs rfl rfl ?_
    refine gs rfl rfl ?_
    refine un (a1 (v := (B false)) rfl ?_)
    refine un (a1 rfl ?_)
    refine gs rfl rfl ?_
    refine gs rfl rfl ?_
    refine gs rfl rfl ?_
    refine gs rfl rfl ?_
    refine gs rfl rfl ?_
    refine un (a1 (v := (B false)) rfl ?_)
    refine un (a1 rfl ?_)
    refine dnil ?_
    exact Sv.weak (weak_canon [] rfl (by decide) (by decide) (fun b h => absurd h (Nat.not_lt_zero _)) (.cons rfl (avAs_free rfl) .nil) .nil) (heap_cell_j4_ok h)
abbrev heap_cell_q0 (Γ : Glob) (o : Bool) : AExit → St → Prop := AThen (Sv Try.prog Γ 0 a54_c1 (Ends a54.results 0 (heap_cell_post o))) (Ends a54.results 0 (heap_cell_post o))
abbrev heap_cell_q1 (Γ : Glob) (o : Bool) : AExit → St → Prop := ABlock 0 (heap_cell_q0 Γ o)
noncomputable def heap_cell_j5 (c_ : TJCell) (h_ : (List TJCell)) (v14 : Bool) : Option Bool :=
  if v14 then
    heap_cell_j3 c_ h_ 0
  else
    if decide (c_.Kind = 2) then
      heap_cell_j3 c_ h_ (c_.Vals.length : Int)
    else
      some false
theorem heap_cell_j5_ok {Γ : Glob} {c_ : TJCell} {h_ : (List TJCell)} {v14 : Bool} {o : Bool} (h : heap_cell_j5 c_ h_ v14 = some o) :
    Sv Try.prog Γ 0 a54_c0 (heap_cell_q1 Γ o) ⟨(upd (upd (upd (upd (upd (fun _ => none) 2 (some (.c (.ref 0 1 0 0)))) 3 (some (.c (.ref 1 3 0 0)))) 5 (some (I 0))) 7 (some (I c_.Kind))) 14 (some (B v14))), (upd (upd (fun _ => none) 0 (some (.cells 1 [[.ro false 3 (h_.map e_TJCell)]]))) 1 (some (.cells 3 [[cI c_.Kind, .ro false 1 (c_.Names.map eStr), .ro false 3 (c_.Vals.map e_TJVal)]]))), 2⟩ := by
  unfold heap_cell_j5 at h
  refine Sv.cond (b := v14) rfl (fun hc5 => ?_) (fun hc5 => ?_)
  · replace h := ifT hc5 h
    refine Sv.skip ?_
    exact Sv.weak (weak_canon [0, 1] rfl (by decide) (by decide) (fun b h => absurd h (Nat.not_lt_zero _)) (.cons rfl (avAs_free rfl) (.cons rfl (.c (.ref rfl (by decide))) (.cons rfl (.c (.ref rfl (by decide))) .nil))) (.box (by decide) rfl (blkAs_cells (.cons (.same rfl) (.cons (.same rfl) (.cons (.same rfl) .nil)))) (.box (by decide) rfl (blkAs_cells (.cons (.same rfl) .nil)) .nil))) (heap_cell_j3_ok h)
  · replace h := ifF hc5 h
    refine Sv.seq ?_
    refine Sv.region ?_
    refine un (a1 (v := (B (decide (c_.Kind = 2)))) rfl ?_)
    refine un (a1 rfl ?_)
    refine dnil ?_
    refine Sv.cond (b := decide (c_.Kind = 2)) rfl (fun hc6 => ?_) (fun hc6 => ?_)
    · replace h := ifT hc6 h
      refine Sv.region ?_
      refine un (a1 (v := (.c (.ref 1 3 0 2))) rfl ?_)
      refine un (a1 (v := (.c (.ro false 3 (c_.Vals.map e_TJVal)))) rfl ?_)
      refine un (a1 (v := (I (c_.Vals.length : Int))) (s_len (e := e_TJVal) (xs := c_.Vals) rfl) ?_)
      refine un (a1 rfl ?_)
      refine dnil ?_
      exact Sv.weak (weak_canon [0, 1] rfl (by decide) (by decide) (fun b h => absurd h (Nat.not_lt_zero _)) (.cons rfl (avAs_free rfl) (.cons rfl (.c (.ref rfl (by decide))) (.cons rfl (.c (.ref rfl (by decide))) .nil))) (.box (by decide) rfl (blkAs_cells (.cons (.same rfl) (.cons (.same rfl) (.cons (.same rfl) .nil)))) (.box (by decide) rfl (blkAs_cells (.cons (.same rfl) .nil)) .nil))) (heap_cell_j3_ok h)
    · replace h := ifF hc6 h
      refine Sv.seq ?_
      refine Sv.region ?_
      refine un (a1 rfl ?_)
      refine dnil ?_
      refine Sv.ret ?_
      replace h := Option.some.inj h
      subst h
      exact ⟨_, .refl _, _, rfl, ⟨upd (fun _ => none) 0 (some (B false)), (fun _ => none), 0⟩, (B false), weak_canon [] rfl List.nodup_nil (Nat.le_refl _) (fun b h => absurd h (Nat.not_lt_zero _)) (.cons rfl (avAs_free rfl) .nil) .nil, rfl, rfl, rfl, rfl⟩
/-- clerestory/heap.cell -/
noncomputable def heap_cell (h_ : (List TJCell)) (c_ : TJCell) : Option Bool :=
  if decide (c_.Kind = 0) then
    if decide (0 < (c_.Vals.length : Int)) then
      some false
    else
      heap_cell_j3 c_ h_ 0
  else
    if decide (c_.Kind = 1) then
      heap_cell_j5 c_ h_ (decide (c_.Kind = 1))
    else
      heap_cell_j5 c_ h_ (decide (c_.Kind = 3))
theorem heap_cell_ok {Γ : Glob} {h_ : (List TJCell)} {c_ : TJCell} {r : Bool} (h : heap_cell h_ c_ = some r) : CPure Try.prog Γ 54 [(.c (.ro false 3 (h_.map e_TJCell))), (.agg [cI c_.Kind, .ro false 1 (c_.Names.map eStr), .ro false 3 (c_.Vals.map e_TJVal)])] (B r) := by
  refine acalls_of_sv hmix c54 (R := heap_cell_post r) ?_
  unfold heap_cell at h
  refine Sv.seq ?_
  refine Sv.region ?_
  refine un (a2v (v := (.c (.ref 0 1 0 0))) (h' := upd _ 0 (some (.cells 1 [[.ro false 3 (h_.map e_TJCell)]]))) (n' := 1) rfl rfl (fun h => by cases h) ?_)
  refine un (a2v (v := (.c (.ref 1 3 0 0))) (h' := upd _ 1 (some (.cells 3 [[cI c_.Kind, .ro false 1 (c_.Names.map eStr), .ro false 3 (c_.Vals.map e_TJVal)]]))) (n' := 2) rfl rfl (fun h => by cases h) ?_)
  refine un (a1 rfl ?_)
  refine dnil ?_
  refine Sv.seq ?_
  refine Sv.region ?_
  refine un (a1 rfl ?_)
  refine dnil ?_
  refine Sv.seq ?_
  refine Sv.seq ?_
  refine Sv.region ?_
  refine un (a1 (v := (.c (.ref 1 3 0 0))) rfl ?_)
  refine un (a1 (v := (I c_.Kind)) rfl ?_)
  refine dnil ?_
  refine Sv.block ?_
  refine Sv.seq ?_
  refine Sv.region ?_
  refine un (a1 (v := (B (decide (c_.Kind = 0)))) rfl ?_)
  refine un (a1 rfl ?_)
  refine dnil ?_
  refine Sv.cond (b := decide (c_.Kind = 0)) rfl (fun hc3 => ?_) (fun hc3 => ?_)
  · replace h := ifT hc3 h
    refine Sv.seq ?_
    refine Sv.region ?_
    refine un (a1 (v := (.c (.ref 1 3 0 2))) rfl ?_)
    refine un (a1 (v := (.c (.ro false 3 (c_.Vals.map e_TJVal)))) rfl ?_)
    refine un (a1 (v := (I (c_.Vals.length : Int))) (s_len (e := e_TJVal) (xs := c_.Vals) rfl) ?_)
    refine un (a1 (v := (B (decide (0 < (c_.Vals.length : Int))))) rfl ?_)
    refine dnil ?_
    refine Sv.cond (b := decide (0 < (c_.Vals.length : Int))) rfl (fun hc4 => ?_) (fun hc4 => ?_)
    · replace h := ifT hc4 h
      refine Sv.seq ?_
      refine Sv.region ?_
      refine un (a1 rfl ?_)
      refine dnil ?_
      refine Sv.ret ?_
      replace h := Option.some.inj h
      subst h
      exact ⟨_, .refl _, _, rfl, ⟨upd (fun _ => none) 0 (some (B false)), (fun _ => none), 0⟩, (B false), weak_canon [] rfl List.nodup_nil (Nat.le_refl _) (fun b h => absurd h (Nat.not_lt_zero _)) (.cons rfl (avAs_free rfl) .nil) .nil, rfl, rfl, rfl, rfl⟩
    · replace h := ifF hc4 h
      refine Sv.skip ?_
      exact Sv.weak (weak_canon [0, 1] rfl (by decide) (by decide) (fun b h => absurd h (Nat.not_lt_zero _)) (.cons rfl (avAs_free rfl) (.cons rfl (.c (.ref rfl (by decide))) (.cons rfl (.c (.ref rfl (by decide))) .nil))) (.box (by decide) rfl (blkAs_cells (.cons (.same rfl) (.cons (.same rfl) (.cons (.same rfl) .nil)))) (.box (by decide) rfl (blkAs_cells (.cons (.same rfl) .nil)) .nil))) (heap_cell_j3_ok h)
  · replace h := ifF hc3 h
    refine Sv.seq ?_
    refine Sv.seq ?_
    refine Sv.region ?_
    refine un (a1 (v := (B (decide (c_.Kind = 1)))) rfl ?_)
    refine un (a1 rfl ?_)
    refine dnil ?_
    refine Sv.cond (b := decide (c_.Kind = 1)) rfl (fun hc7 => ?_) (fun hc7 => ?_)
    · replace h := ifT hc7 h
      refine Sv.skip ?_
      exact Sv.weak (weak_canon [0, 1] rfl (by decide) (by decide) (fun b h => absurd h (Nat.not_lt_zero _)) (.cons rfl (avAs_free rfl) (.cons rfl (avAs_free rfl) (.cons rfl (avAs_free rfl) (.cons rfl (.c (.ref rfl (by decide))) (.cons rfl (.c (.ref rfl (by decide))) .nil))))) (.box (by decide) rfl (blkAs_cells (.cons (.same rfl) (.cons (.same rfl) (.cons (.same rfl) .nil)))) (.box (by decide) rfl (blkAs_cells (.cons (.same rfl) .nil)) .nil))) (heap_cell_j5_ok h)
    · replace h := ifF hc7 h
      refine Sv.region ?_
      refine un (a1 (v := (B (decide (c_.Kind = 3)))) rfl ?_)
      refine un (a1 rfl ?_)
      refine dnil ?_
      exact Sv.weak (weak_canon [0, 1] rfl (by decide) (by decide) (fun b h => absurd h (Nat.not_lt_zero _)) (.cons rfl (avAs_free rfl) (.cons rfl (avAs_free rfl) (.cons rfl (avAs_free rfl) (.cons rfl (.c (.ref rfl (by decide))) (.cons rfl (.c (.ref rfl (by decide))) .nil))))) (.box (by decide) rfl (blkAs_cells (.cons (.same rfl) (.cons (.same rfl) (.cons (.same rfl) .nil)))) (.box (by decide) rfl (blkAs_cells (.cons (.same rfl) .nil)) .nil))) (heap_cell_j5_ok h)
def a22_c0 : ACode := (.seq (.region [⟨(some 13), (.bin .lss (.tmp 12) (.tmp 11)), none⟩])
 (.seq (.cond (.tmp 13) .skip (.exit 0))
 (.seq (.block 1 (.seq (.region [⟨(some 14), (.iaddr 3 (.tmp 10) (.tmp 12)), none⟩, ⟨(some 15), (.load true 3 (.tmp 14)), none⟩, ⟨(some 4), (.box (.const (.agg [(.val (.int .i64 0)), (.ro true 1 []), (.ro true 3 [])]))), none⟩, ⟨none, (.store 3 (.tmp 4) (.tmp 15)), none⟩])
 (.seq (.region [⟨(some 16), (.faddr 2 (.tmp 4)), none⟩, ⟨(some 17), (.load false 1 (.tmp 16)), none⟩, ⟨(some 18), (.len (.tmp 17)), none⟩, ⟨(some 19), (.bin .gtr (.tmp 18) (.const (.c (.val (.int .i64 200))))), none⟩])
 (.cond (.tmp 19) (.seq (.region [⟨(some 2), (.mov (.const (.c (.val (.int .i64 2))))), none⟩])
 .ret) .skip))))
 (.region [⟨(some 20), (.bin .add (.tmp 12) (.const (.c (.val (.int .i64 1))))), none⟩, ⟨(some 12), (.mov (.tmp 20)), none⟩]))))
def a22_c1 : ACode := (.seq (.region [⟨(some 24), (.bin .lss (.tmp 23) (.tmp 22)), none⟩])
 (.seq (.cond (.tmp 24) .skip (.exit 2))
 (.seq (.block 3 (.seq (.region [⟨(some 25), (.iaddr 3 (.tmp 21) (.tmp 23)), none⟩, ⟨(some 26), (.load true 3 (.tmp 25)), none⟩, ⟨(some 6), (.box (.const (.agg [(.val (.int .i64 0)), (.ro true 1 []), (.ro true 3 [])]))), none⟩, ⟨none, (.store 3 (.tmp 6) (.tmp 26)), none⟩])
 (.seq (.region [⟨(some 27), (.mov (.tmp 0)), none⟩, ⟨(some 28), (.load true 3 (.tmp 6)), none⟩, ⟨(some 29), (.call 54 [(.tmp 27), (.tmp 28)]), none⟩, ⟨(some 30), (.un .not (.tmp 29)), none⟩])
 (.cond (.tmp 30) (.seq (.region [⟨(some 2), (.mov (.const (.c (.val (.int .i64 3))))), none⟩])
 .ret) .skip))))
 (.region [⟨(some 31), (.bin .add (.tmp 23) (.const (.c (.val (.int .i64 1))))), none⟩, ⟨(some 23), (.mov (.tmp 31)), none⟩]))))
def a22 : AFunc := ⟨1, [(.tmp 2)], (.seq (.region [⟨(some 2), (.mov (.const (.c (.val (.int .i64 0))))), none⟩])
 (.seq (.seq (.region [⟨(some 7), (.mov (.tmp 0)), none⟩, ⟨(some 8), (.len (.tmp 7)), none⟩, ⟨(some 9), (.bin .gtr (.tmp 8) (.const (.c (.val (.int .i64 300))))), none⟩])
 (.cond (.tmp 9) (.seq (.region [⟨(some 2), (.mov (.const (.c (.val (.int .i64 2))))), none⟩])
 .ret) .skip))
 (.seq (.seq (.region [⟨(some 10), (.mov (.tmp 0)), none⟩, ⟨(some 11), (.len (.tmp 10)), none⟩, ⟨(some 12), (.mov (.const (.c (.val (.int .i64 0))))), none⟩])
 (.block 0 (.loop a22_c0)))
 (.seq (.seq (.region [⟨(some 21), (.mov (.tmp 0)), none⟩, ⟨(some 22), (.len (.tmp 21)), none⟩, ⟨(some 23), (.mov (.const (.c (.val (.int .i64 0))))), none⟩])
 (.block 2 (.loop a22_c1)))
 (.seq (.region [⟨(some 2), (.mov (.const (.c (.val (.int .i64 0))))), none⟩])
 .ret)))))⟩
set_option maxRecDepth 100000 in
theorem c22 : compFunc Try.prog 22 = some a22 := by kernel_rfl
def heap_Check_post (r : Int) : AV → Heap → Nat → Prop := fun v h' n' => v = (I r) ∧ (h' = (fun _ => none)) ∧ n' = 0
abbrev heap_Check_l0_E0 (h_ : (List TJCell)) (F_ : Unit → Option Int) (o : Int) (R_ : St → Prop) : Prop := ∀ (_ : Unit), F_ () = some o → ∀ s, Weak 0 s ⟨(upd (fun _ => none) 0 (some (.c (.ro false 3 (h_.map e_TJCell))))), (fun _ => none), 0⟩ → R_ s
abbrev heap_Check_l0_I (h_ : (List TJCell)) (F_ : Nat → Int → Option Int) (o : Int) : Nat → St → Prop := fun k s => ∃ (v12 : Int), F_ k v12 = some o ∧ s = ⟨(upd (upd (upd (upd (fun _ => none) 0 (some (.c (.ro false 3 (h_.map e_TJCell))))) 10 (some (.c (.ro false 3 (h_.map e_TJCell))))) 11 (some (I (h_.length : Int)))) 12 (some (I v12))), (fun _ => none), 0⟩
abbrev heap_Check_l0_H (h_ : (List TJCell)) (F_ : Int → Option Int) (o : Int) (R_ : St → Prop) : Prop := ∀ (v12 : Int), F_ v12 = some o → ∀ s, Weak 0 s ⟨(upd (upd (upd (upd (fun _ => none) 0 (some (.c (.ro false 3 (h_.map e_TJCell))))) 10 (some (.c (.ro false 3 (h_.map e_TJCell))))) 11 (some (I (h_.length : Int)))) 12 (some (I v12))), (fun _ => none), 0⟩ → R_ s
noncomputable def heap_Check_l0 (h_ : (List TJCell)) (K0_ : Unit → Option Int) : Nat → Int → Option Int
  | 0, _ => none
  | k + 1, v12 =>
    if decide (v12 < (h_.length : Int)) then
      (at? h_ v12).bind fun x_ =>
      if decide (200 < (x_.Vals.length : Int)) then
        some 2
      else
        (heap_Check_l0 h_ K0_ k) (wi (v12 + 1))
    else
      K0_ ()
theorem heap_Check_l0_ok {Γ : Glob} {Q : AExit → St → Prop} {h_ : (List TJCell)} {K0_ : Unit → Option Int} {k : Nat} {v12 : Int} {o : Int} (h : heap_Check_l0 h_ K0_ k v12 = some o)
    (hK0 : heap_Check_l0_E0 h_ K0_ o (Q (.exit 0)))
    (hr : ∀ s, Ends a22.results 0 (heap_Check_post o) .ret s → Q .ret s) :
    Sv Try.prog Γ 0 (.loop a22_c0) Q ⟨(upd (upd (upd (upd (fun _ => none) 0 (some (.c (.ro false 3 (h_.map e_TJCell))))) 10 (some (.c (.ro false 3 (h_.map e_TJCell))))) 11 (some (I (h_.length : Int)))) 12 (some (I v12))), (fun _ => none), 0⟩ := by
  refine Sv.loop (I := heap_Check_l0_I h_ (heap_Check_l0 h_ K0_) o) (fun k s hI => ?_) ⟨v12, h, rfl⟩
  clear h
  clear v12
  obtain ⟨v12, h, rfl⟩ := hI
  cases k with
  | zero => cases h
  | succ k =>
  rw [heap_Check_l0] at h
  have hself : heap_Check_l0_H h_ (heap_Check_l0 h_ K0_ k) o (rnd 0 (heap_Check_l0_I h_ (heap_Check_l0 h_ K0_) o) k Q) := fun v12 h s hw => ⟨_, k, hw, Nat.lt_succ_self k, v12, h, rfl⟩
  refine Sv.seq ?_
  refine Sv.region ?_
  refine un (a1 (v := (B (decide (v12 < (h_.length : Int))))) rfl ?_)
  refine dnil ?_
  refine Sv.seq ?_
  refine Sv.cond (b := decide (v12 < (h_.length : Int))) rfl (fun hc2 => ?_) (fun hc2 => ?_)
  · replace h := ifT hc2 h
    refine Sv.skip ?_
    refine Sv.seq ?_
    refine Sv.block ?_
    refine Sv.seq ?_
    refine Sv.region ?_
    obtain ⟨x_, hx1, h⟩ := bnd h
    refine un (a1 (v := (.c (.rop [cI x_.Kind, .ro false 1 (x_.Names.map eStr), .ro false 3 (x_.Vals.map e_TJVal)]))) (s_iaddr (e := e_TJCell) (xs := h_) rfl rfl hx1) ?_)
    refine un (a1 (v := (.agg [cI x_.Kind, .ro false 1 (x_.Names.map eStr), .ro false 3 (x_.Vals.map e_TJVal)])) rfl ?_)
    refine un (a2v (v := (.c (.ref 0 3 0 0))) (h' := upd _ 0 (some (.cells 3 [[cI 0, .ro true 1 [], .ro true 3 []]]))) (n' := 1) rfl rfl (fun h => by cases h) ?_)
    refine un (a2n (h' := upd _ 0 (some (.cells 3 [[cI x_.Kind, .ro false 1 (x_.Names.map eStr), .ro false 3 (x_.Vals.map e_TJVal)]]))) (n' := 1) rfl rfl (fun h => by cases h) ?_)
    refine dnil ?_
    refine Sv.seq ?_
    refine Sv.region ?_
    refine un (a1 (v := (.c (.ref 0 3 0 2))) rfl ?_)
    refine un (a1 (v := (.c (.ro false 3 (x_.Vals.map e_TJVal)))) rfl ?_)
    refine un (a1 (v := (I (x_.Vals.length : Int))) (s_len (e := e_TJVal) (xs := x_.Vals) rfl) ?_)
    refine un (a1 (v := (B (decide (200 < (x_.Vals.length : Int))))) rfl ?_)
    refine dnil ?_
    refine Sv.cond (b := decide (200 < (x_.Vals.length : Int))) rfl (fun hc3 => ?_) (fun hc3 => ?_)
    · replace h := ifT hc3 h
      refine Sv.seq ?_
      refine Sv.region ?_
      refine un (a1 rfl ?_)
      refine dnil ?_
      refine Sv.ret ?_
      replace h := Option.some.inj h
      subst h
      exact hr _ ⟨_, .refl _, _, rfl, ⟨upd (fun _ => none) 0 (some (I 2)), (fun _ => none), 0⟩, (I 2), weak_canon [] rfl List.nodup_nil (Nat.le_refl _) (fun b h => absurd h (Nat.not_lt_zero _)) (.cons rfl (avAs_free rfl) .nil) .nil, rfl, rfl, rfl, rfl⟩
    · replace h := ifF hc3 h
      refine Sv.skip ?_
      refine Sv.region ?_
      refine un (a1 (v := (I (wi (v12 + 1)))) rfl ?_)
      refine un (a1 rfl ?_)
      refine dnil ?_
      exact hself (wi (v12 + 1)) h _ (weak_canon [] rfl (by decide) (by decide) (fun b h => absurd h (Nat.not_lt_zero _)) (.cons rfl (avAs_free rfl) (.cons rfl (avAs_free rfl) (.cons rfl (avAs_free rfl) (.cons rfl (avAs_free rfl) .nil)))) .nil)
  · replace h := ifF hc2 h
    refine Sv.exit ?_
    exact hK0 () h _ (weak_canon [] rfl (by decide) (by decide) (fun b h => absurd h (Nat.not_lt_zero _)) (.cons rfl (avAs_free rfl) .nil) .nil)
abbrev heap_Check_l1_E2 (F_ : Unit → Option Int) (o : Int) (R_ : St → Prop) : Prop := ∀ (_ : Unit), F_ () = some o → ∀ s, Weak 0 s ⟨(fun _ => none), (fun _ => none), 0⟩ → R_ s
abbrev heap_Check_l1_I (h_ : (List TJCell)) (F_ : Nat → Int → Option Int) (o : Int) : Nat → St → Prop := fun k s => ∃ (v23 : Int), F_ k v23 = some o ∧ s = ⟨(upd (upd (upd (upd (fun _ => none) 0 (some (.c (.ro false 3 (h_.map e_TJCell))))) 21 (some (.c (.ro false 3 (h_.map e_TJCell))))) 22 (some (I (h_.length : Int)))) 23 (some (I v23))), (fun _ => none), 0⟩
abbrev heap_Check_l1_H (h_ : (List TJCell)) (F_ : Int → Option Int) (o : Int) (R_ : St → Prop) : Prop := ∀ (v23 : Int), F_ v23 = some o → ∀ s, Weak 0 s ⟨(upd (upd (upd (upd (fun _ => none) 0 (some (.c (.ro false 3 (h_.map e_TJCell))))) 21 (some (.c (.ro false 3 (h_.map e_TJCell))))) 22 (some (I (h_.length : Int)))) 23 (some (I v23))), (fun _ => none), 0⟩ → R_ s
noncomputable def heap_Check_l1 (h_ : (List TJCell)) (K2_ : Unit → Option Int) : Nat → Int → Option Int
  | 0, _ => none
  | k + 1, v23 =>
    if decide (v23 < (h_.length : Int)) then
      (at? h_ v23).bind fun x_1 =>
      (heap_cell h_ x_1).bind fun r_ =>
      if (!r_) then
        some 3
      else
        (heap_Check_l1 h_ K2_ k) (wi (v23 + 1))
    else
      K2_ ()
theorem heap_Check_l1_ok {Γ : Glob} {Q : AExit → St → Prop} {h_ : (List TJCell)} {K2_ : Unit → Option Int} {k : Nat} {v23 : Int} {o : Int} (h : heap_Check_l1 h_ K2_ k v23 = some o)
    (hK2 : heap_Check_l1_E2 K2_ o (Q (.exit 2)))
    (hr : ∀ s, Ends a22.results 0 (heap_Check_post o) .ret s → Q .ret s) :
    Sv Try.prog Γ 0 (.loop a22_c1) Q ⟨(upd (upd (upd (upd (fun _ => none) 0 (some (.c (.ro false 3 (h_.map e_TJCell))))) 21 (some (.c (.ro false 3 (h_.map e_TJCell))))) 22 (some (I (h_.length : Int)))) 23 (some (I v23))), (fun _ => none), 0⟩ := by
  refine Sv.loop (I := heap_Check_l1_I h_ (heap_Check_l1 h_ K2_) o) (fun k s hI => ?_) ⟨v23, h, rfl⟩
  clear h
  clear v23
  obtain ⟨v23, h, rfl⟩ := hI
  cases k with
  | zero => cases h
  | succ k =>
  rw [heap_Check_l1] at h
  have hself : heap_Check_l1_H h_ (heap_Check_l1 h_ K2_ k) o (rnd 0 (heap_Check_l1_I h_ (heap_Check_l1 h_ K2_) o) k Q) := fun v23 h s hw => ⟨_, k, hw, Nat.lt_succ_self k, v23, h, rfl⟩
  refine Sv.seq ?_
  refine Sv.region ?_
  refine un (a1 (v := (B (decide (v23 < (h_.length : Int))))) rfl ?_)
  refine dnil ?_
  refine Sv.seq ?_
  refine Sv.cond (b := decide (v23 < (h_.length : Int))) rfl (fun hc4 => ?_) (fun hc4 => ?_)
  · replace h := ifT hc4 h
    refine Sv.skip ?_
    refine Sv.seq ?_
    refine Sv.block ?_
    refine Sv.seq ?_
    refine Sv.region ?_
    obtain ⟨x_1, hx2, h⟩ := bnd h
    refine un (a1 (v := (.c (.rop [cI x_1.Kind, .ro false 1 (x_1.Names.map eStr), .ro false 3 (x_1.Vals.map e_TJVal)]))) (s_iaddr (e := e_TJCell) (xs := h_) rfl rfl hx2) ?_)
    refine un (a1 (v := (.agg [cI x_1.Kind, .ro false 1 (x_1.Names.map eStr), .ro false 3 (x_1.Vals.map e_TJVal)])) rfl ?_)
    refine un (a2v (v := (.c (.ref 0 3 0 0))) (h' := upd _ 0 (some (.cells 3 [[cI 0, .ro true 1 [], .ro true 3 []]]))) (n' := 1) rfl rfl (fun h => by cases h) ?_)
    refine un (a2n (h' := upd _ 0 (some (.cells 3 [[cI x_1.Kind, .ro false 1 (x_1.Names.map eStr), .ro false 3 (x_1.Vals.map e_TJVal)]]))) (n' := 1) rfl rfl (fun h => by cases h) ?_)
    refine dnil ?_
    refine Sv.seq ?_
    refine Sv.region ?_
    refine un (a1 rfl ?_)
    refine un (a1 (v := (.agg [cI x_1.Kind, .ro false 1 (x_1.Names.map eStr), .ro false 3 (x_1.Vals.map e_TJVal)])) rfl ?_)
    obtain ⟨r_, hr1, h⟩ := bnd h
    refine un (ac_pure (heap_cell_ok hr1) rfl rfl rfl ?_)
    refine un (a1 (v := (B (!r_))) rfl ?_)
    refine dnil ?_
    refine Sv.cond (b := (!r_)) rfl (fun hc5 => ?_) (fun hc5 => ?_)
    · replace h := ifT hc5 h
      refine Sv.seq ?_
      refine Sv.region ?_
      refine un (a1 rfl ?_)
      refine dnil ?_
      refine Sv.ret ?_
      replace h := Option.some.inj h
      subst h
      exact hr _ ⟨_, .refl _, _, rfl, ⟨upd (fun _ => none) 0 (some (I 3)), (fun _ => none), 0⟩, (I 3), weak_canon [] rfl List.nodup_nil (Nat.le_refl _) (fun b h => absurd h (Nat.not_lt_zero _)) (.cons rfl (avAs_free rfl) .nil) .nil, rfl, rfl, rfl, rfl⟩
    · replace h := ifF hc5 h
      refine Sv.skip ?_
      refine Sv.region ?_
      refine un (a1 (v := (I (wi (v23 + 1)))) rfl ?_)
      refine un (a1 rfl ?_)
      refine dnil ?_
      exact hself (wi (v23 + 1)) h _ (weak_canon [] rfl (by decide) (by decide) (fun b h => absurd h (Nat.not_lt_zero _)) (.cons rfl (avAs_free rfl) (.cons rfl (avAs_free rfl) (.cons rfl (avAs_free rfl) (.cons rfl (avAs_free rfl) .nil)))) .nil)
  · replace h := ifF hc4 h
    refine Sv.exit ?_
    exact hK2 () h _ (weak_canon [] rfl (by decide) (by decide) (fun b h => absurd h (Nat.not_lt_zero _)) .nil .nil)
/-- clerestory/heap.Check -/
noncomputable def heap_Check (h_ : (List TJCell)) : Option Int :=
  if decide (300 < (h_.length : Int)) then
    some 2
  else
    lim fun kk1 => heap_Check_l0 h_ (fun (_ : Unit) => 
        lim fun kk => heap_Check_l1 h_ (fun (_ : Unit) => 
            some 0) kk 0) kk1 0
theorem heap_Check_ok {Γ : Glob} {h_ : (List TJCell)} {r : Int} (h : heap_Check h_ = some r) : CPure Try.prog Γ 22 [(.c (.ro false 3 (h_.map e_TJCell)))] (I r) := by
  refine acalls_of_sv hmix c22 (R := heap_Check_post r) ?_
  unfold heap_Check at h
  refine Sv.seq ?_
  refine Sv.region ?_
  refine un (a1 rfl ?_)
  refine dnil ?_
  refine Sv.seq ?_
  refine Sv.seq ?_
  refine Sv.region ?_
  refine un (a1 rfl ?_)
  refine un (a1 (v := (I (h_.length : Int))) (s_len (e := e_TJCell) (xs := h_) rfl) ?_)
  refine un (a1 (v := (B (decide (300 < (h_.length : Int))))) rfl ?_)
  refine dnil ?_
  refine Sv.cond (b := decide (300 < (h_.length : Int))) rfl (fun hc1 => ?_) (fun hc1 => ?_)
  · replace h := ifT hc1 h
    refine Sv.seq ?_
    refine Sv.region ?_
    refine un (a1 rfl ?_)
    refine dnil ?_
    refine Sv.ret ?_
    replace h := Option.some.inj h
    subst h
    exact ⟨_, .refl _, _, rfl, ⟨upd (fun _ => none) 0 (some (I 2)), (fun _ => none), 0⟩, (I 2), weak_canon [] rfl List.nodup_nil (Nat.le_refl _) (fun b h => absurd h (Nat.not_lt_zero _)) (.cons rfl (avAs_free rfl) .nil) .nil, rfl, rfl, rfl, rfl⟩
  · replace h := ifF hc1 h
    refine Sv.skip ?_
    refine Sv.seq ?_
    refine Sv.seq ?_
    refine Sv.region ?_
    refine un (a1 rfl ?_)
    refine un (a1 (v := (I (h_.length : Int))) (s_len (e := e_TJCell) (xs := h_) rfl) ?_)
    refine un (a1 rfl ?_)
    refine dnil ?_
    refine Sv.block ?_
    obtain ⟨kk1, h⟩ := lim_some h
    refine Sv.weak (weak_canon [] rfl (by decide) (by decide) (fun b h => absurd h (Nat.not_lt_zero _)) (.cons rfl (avAs_free rfl) (.cons rfl (avAs_free rfl) (.cons rfl (avAs_free rfl) (.cons rfl (avAs_free rfl) .nil)))) .nil) (heap_Check_l0_ok h ?_ (fun s hs => hs))
    · intro _ h _ hw1
      refine Sv.weak hw1 ?_
      refine Sv.seq ?_
      refine Sv.seq ?_
      refine Sv.region ?_
      refine un (a1 rfl ?_)
      refine un (a1 (v := (I (h_.length : Int))) (s_len (e := e_TJCell) (xs := h_) rfl) ?_)
      refine un (a1 rfl ?_)
      refine dnil ?_
      refine Sv.block ?_
      obtain ⟨kk, h⟩ := lim_some h
      refine Sv.weak (weak_canon [] rfl (by decide) (by decide) (fun b h => absurd h (Nat.not_lt_zero _)) (.cons rfl (avAs_free rfl) (.cons rfl (avAs_free rfl) (.cons rfl (avAs_free rfl) (.cons rfl (avAs_free rfl) .nil)))) .nil) (heap_Check_l1_ok h ?_ (fun s hs => hs))
      · intro _ h _ hw2
        refine Sv.weak hw2 ?_
        refine Sv.seq ?_
        refine Sv.region ?_
        refine un (a1 rfl ?_)
        refine dnil ?_
        refine Sv.ret ?_
        replace h := Option.some.inj h
        subst h
        exact ⟨_, .refl _, _, rfl, ⟨upd (fun _ => none) 0 (some (I 0)), (fun _ => none), 0⟩, (I 0), weak_canon [] rfl List.nodup_nil (Nat.le_refl _) (fun b h => absurd h (Nat.not_lt_zero _)) (.cons rfl (avAs_free rfl) .nil) .nil, rfl, rfl, rfl, rfl⟩
def a49_c0 : ACode := (.seq (.region [⟨(some 16), (.bin .lss (.tmp 15) (.tmp 14)), none⟩])
 (.seq (.cond (.tmp 16) .skip (.exit 0))
 (.seq (.block 1 (.seq (.region [⟨(some 17), (.iaddr 3 (.tmp 13) (.tmp 15)), none⟩, ⟨(some 18), (.load true 3 (.tmp 17)), none⟩, ⟨(some 7), (.box (.const (.agg [(.val (.int .i64 0)), (.val (.int .i64 0)), (.str [])]))), none⟩, ⟨none, (.store 3 (.tmp 7) (.tmp 18)), none⟩])
 (.seq (.region [⟨(some 19), (.mov (.tmp 0)), none⟩, ⟨(some 20), (.load true 3 (.tmp 7)), none⟩, ⟨(some 21), (.call 76 [(.tmp 19), (.tmp 20)]), none⟩, ⟨(some 22), (.un .not (.tmp 21)), none⟩])
 (.cond (.tmp 22) (.seq (.region [⟨(some 4), (.mov (.const (.c (.val (.int .i64 1))))), none⟩])
 .ret) .skip))))
 (.region [⟨(some 23), (.bin .add (.tmp 15) (.const (.c (.val (.int .i64 1))))), none⟩, ⟨(some 15), (.mov (.tmp 23)), none⟩]))))
def a49 : AFunc := ⟨2, [(.tmp 4)], (.seq (.region [⟨(some 4), (.mov (.const (.c (.val (.int .i64 0))))), none⟩])
 (.seq (.seq (.region [⟨(some 8), (.mov (.tmp 0)), none⟩, ⟨(some 9), (.call 22 [(.tmp 8)]), none⟩, ⟨(some 5), (.mov (.tmp 9)), none⟩])
 (.seq (.region [⟨(some 10), (.mov (.tmp 5)), none⟩, ⟨(some 11), (.bin .neq (.tmp 10) (.const (.c (.val (.int .i64 0))))), none⟩])
 (.cond (.tmp 11) (.seq (.region [⟨(some 12), (.mov (.tmp 5)), none⟩, ⟨(some 4), (.mov (.tmp 12)), none⟩])
 .ret) .skip)))
 (.seq (.seq (.region [⟨(some 13), (.mov (.tmp 1)), none⟩, ⟨(some 14), (.len (.tmp 13)), none⟩, ⟨(some 15), (.mov (.const (.c (.val (.int .i64 0))))), none⟩])
 (.block 0 (.loop a49_c0)))
 (.seq (.region [⟨(some 4), (.mov (.const (.c (.val (.int .i64 0))))), none⟩])
 .ret))))⟩
set_option maxRecDepth 100000 in
theorem c49 : compFunc Try.prog 49 = some a49 := by kernel_rfl
def heap_asked_post (r : Int) : AV → Heap → Nat → Prop := fun v h' n' => v = (I r) ∧ (h' = (fun _ => none)) ∧ n' = 0
abbrev heap_asked_l0_E0 (F_ : Unit → Option Int) (o : Int) (R_ : St → Prop) : Prop := ∀ (_ : Unit), F_ () = some o → ∀ s, Weak 0 s ⟨(fun _ => none), (fun _ => none), 0⟩ → R_ s
abbrev heap_asked_l0_I (h_ : (List TJCell)) (roots : (List TJVal)) (F_ : Nat → Int → Option Int) (o : Int) : Nat → St → Prop := fun k s => ∃ (v15 : Int), F_ k v15 = some o ∧ s = ⟨(upd (upd (upd (upd (fun _ => none) 0 (some (.c (.ro false 3 (h_.map e_TJCell))))) 13 (some (.c (.ro false 3 (roots.map e_TJVal))))) 14 (some (I (roots.length : Int)))) 15 (some (I v15))), (fun _ => none), 0⟩
abbrev heap_asked_l0_H (h_ : (List TJCell)) (roots : (List TJVal)) (F_ : Int → Option Int) (o : Int) (R_ : St → Prop) : Prop := ∀ (v15 : Int), F_ v15 = some o → ∀ s, Weak 0 s ⟨(upd (upd (upd (upd (fun _ => none) 0 (some (.c (.ro false 3 (h_.map e_TJCell))))) 13 (some (.c (.ro false 3 (roots.map e_TJVal))))) 14 (some (I (roots.length : Int)))) 15 (some (I v15))), (fun _ => none), 0⟩ → R_ s
noncomputable def heap_asked_l0 (roots : (List TJVal)) (h_ : (List TJCell)) (K0_ : Unit → Option Int) : Nat → Int → Option Int
  | 0, _ => none
  | k + 1, v15 =>
    if decide (v15 < (roots.length : Int)) then
      (at? roots v15).bind fun x_ =>
      (heap_fits h_ x_).bind fun r_1 =>
      if (!r_1) then
        some 1
      else
        (heap_asked_l0 roots h_ K0_ k) (wi (v15 + 1))
    else
      K0_ ()
theorem heap_asked_l0_ok {Γ : Glob} {Q : AExit → St → Prop} {roots : (List TJVal)} {h_ : (List TJCell)} {K0_ : Unit → Option Int} {k : Nat} {v15 : Int} {o : Int} (h : heap_asked_l0 roots h_ K0_ k v15 = some o)
    (hK0 : heap_asked_l0_E0 K0_ o (Q (.exit 0)))
    (hr : ∀ s, Ends a49.results 0 (heap_asked_post o) .ret s → Q .ret s) :
    Sv Try.prog Γ 0 (.loop a49_c0) Q ⟨(upd (upd (upd (upd (fun _ => none) 0 (some (.c (.ro false 3 (h_.map e_TJCell))))) 13 (some (.c (.ro false 3 (roots.map e_TJVal))))) 14 (some (I (roots.length : Int)))) 15 (some (I v15))), (fun _ => none), 0⟩ := by
  refine Sv.loop (I := heap_asked_l0_I h_ roots (heap_asked_l0 roots h_ K0_) o) (fun k s hI => ?_) ⟨v15, h, rfl⟩
  clear h
  clear v15
  obtain ⟨v15, h, rfl⟩ := hI
  cases k with
  | zero => cases h
  | succ k =>
  rw [heap_asked_l0] at h
  have hself : heap_asked_l0_H h_ roots (heap_asked_l0 roots h_ K0_ k) o (rnd 0 (heap_asked_l0_I h_ roots (heap_asked_l0 roots h_ K0_) o) k Q) := fun v15 h s hw => ⟨_, k, hw, Nat.lt_succ_self k, v15, h, rfl⟩
  refine Sv.seq ?_
  refine Sv.region ?_
  refine un (a1 (v := (B (decide (v15 < (roots.length : Int))))) rfl ?_)
  refine dnil ?_
  refine Sv.seq ?_
  refine Sv.cond (b := decide (v15 < (roots.length : Int))) rfl (fun hc2 => ?_) (fun hc2 => ?_)
  · replace h := ifT hc2 h
    refine Sv.skip ?_
    refine Sv.seq ?_
    refine Sv.block ?_
    refine Sv.seq ?_
    refine Sv.region ?_
    obtain ⟨x_, hx1, h⟩ := bnd h
    refine un (a1 (v := (.c (.rop [cI x_.Kind, cI x_.N, .str x_.S]))) (s_iaddr (e := e_TJVal) (xs := roots) rfl rfl hx1) ?_)
    refine un (a1 (v := (.agg [cI x_.Kind, cI x_.N, .str x_.S])) rfl ?_)
    refine un (a2v (v := (.c (.ref 0 3 0 0))) (h' := upd _ 0 (some (.cells 3 [[cI 0, cI 0, .str []]]))) (n' := 1) rfl rfl (fun h => by cases h) ?_)
    refine un (a2n (h' := upd _ 0 (some (.cells 3 [[cI x_.Kind, cI x_.N, .str x_.S]]))) (n' := 1) rfl rfl (fun h => by cases h) ?_)
    refine dnil ?_
    refine Sv.seq ?_
    refine Sv.region ?_
    refine un (a1 rfl ?_)
    refine un (a1 (v := (.agg [cI x_.Kind, cI x_.N, .str x_.S])) rfl ?_)
    obtain ⟨r_1, hr2, h⟩ := bnd h
    refine un (ac_pure (heap_fits_ok hr2) rfl rfl rfl ?_)
    refine un (a1 (v := (B (!r_1))) rfl ?_)
    refine dnil ?_
    refine Sv.cond (b := (!r_1)) rfl (fun hc3 => ?_) (fun hc3 => ?_)
    · replace h := ifT hc3 h
      refine Sv.seq ?_
      refine Sv.region ?_
      refine un (a1 rfl ?_)
      refine dnil ?_
      refine Sv.ret ?_
      replace h := Option.some.inj h
      subst h
      exact hr _ ⟨_, .refl _, _, rfl, ⟨upd (fun _ => none) 0 (some (I 1)), (fun _ => none), 0⟩, (I 1), weak_canon [] rfl List.nodup_nil (Nat.le_refl _) (fun b h => absurd h (Nat.not_lt_zero _)) (.cons rfl (avAs_free rfl) .nil) .nil, rfl, rfl, rfl, rfl⟩
    · replace h := ifF hc3 h
      refine Sv.skip ?_
      refine Sv.region ?_
      refine un (a1 (v := (I (wi (v15 + 1)))) rfl ?_)
      refine un (a1 rfl ?_)
      refine dnil ?_
      exact hself (wi (v15 + 1)) h _ (weak_canon [] rfl (by decide) (by decide) (fun b h => absurd h (Nat.not_lt_zero _)) (.cons rfl (avAs_free rfl) (.cons rfl (avAs_free rfl) (.cons rfl (avAs_free rfl) (.cons rfl (avAs_free rfl) .nil)))) .nil)
  · replace h := ifF hc2 h
    refine Sv.exit ?_
    exact hK0 () h _ (weak_canon [] rfl (by decide) (by decide) (fun b h => absurd h (Nat.not_lt_zero _)) .nil .nil)
/-- clerestory/heap.asked -/
noncomputable def heap_asked (h_ : (List TJCell)) (roots : (List TJVal)) : Option Int :=
  (heap_Check h_).bind fun r_ =>
  if (!decide (r_ = 0)) then
    some r_
  else
    lim fun kk => heap_asked_l0 roots h_ (fun (_ : Unit) => 
        some 0) kk 0
theorem heap_asked_ok {Γ : Glob} {h_ : (List TJCell)} {roots : (List TJVal)} {r : Int} (h : heap_asked h_ roots = some r) : CPure Try.prog Γ 49 [(.c (.ro false 3 (h_.map e_TJCell))), (.c (.ro false 3 (roots.map e_TJVal)))] (I r) := by
  refine acalls_of_sv hmix c49 (R := heap_asked_post r) ?_
  unfold heap_asked at h
  refine Sv.seq ?_
  refine Sv.region ?_
  refine un (a1 rfl ?_)
  refine dnil ?_
  refine Sv.seq ?_
  refine Sv.seq ?_
  refine Sv.region ?_
  refine un (a1 rfl ?_)
  obtain ⟨r_, hr1, h⟩ := bnd h
  refine un (ac_pure (heap_Check_ok hr1) rfl rfl rfl ?_)
  refine un (a1 rfl ?_)
  refine dnil ?_
  refine Sv.seq ?_
  refine Sv.region ?_
  refine un (a1 rfl ?_)
  refine un (a1 (v := (B (!decide (r_ = 0)))) rfl ?_)
  refine dnil ?_
  refine Sv.cond (b := (!decide (r_ = 0))) rfl (fun hc1 => ?_) (fun hc1 => ?_)
  · replace h := ifT hc1 h
    refine Sv.seq ?_
    refine Sv.region ?_
    refine un (a1 rfl ?_)
    refine un (a1 rfl ?_)
    refine dnil ?_
    refine Sv.ret ?_
    replace h := Option.some.inj h
    subst h
    exact ⟨_, .refl _, _, rfl, ⟨upd (fun _ => none) 0 (some (I r_)), (fun _ => none), 0⟩, (I r_), weak_canon [] rfl List.nodup_nil (Nat.le_refl _) (fun b h => absurd h (Nat.not_lt_zero _)) (.cons rfl (avAs_free rfl) .nil) .nil, rfl, rfl, rfl, rfl⟩
  · replace h := ifF hc1 h
    refine Sv.skip ?_
    refine Sv.seq ?_
    refine Sv.seq ?_
    refine Sv.region ?_
    refine un (a1 rfl ?_)
    refine un (a1 (v := (I (roots.length : Int))) (s_len (e := e_TJVal) (xs := roots) rfl) ?_)
    refine un (a1 rfl ?_)
    refine dnil ?_
    refine Sv.block ?_
    obtain ⟨kk, h⟩ := lim_some h
    refine Sv.weak (weak_canon [] rfl (by decide) (by decide) (fun b h => absurd h (Nat.not_lt_zero _)) (.cons rfl (avAs_free rfl) (.cons rfl (avAs_free rfl) (.cons rfl (avAs_free rfl) (.cons rfl (avAs_free rfl) .nil)))) .nil) (heap_asked_l0_ok h ?_ (fun s hs => hs))
    · intro _ h _ hw1
      refine Sv.weak hw1 ?_
      refine Sv.seq ?_
      refine Sv.region ?_
      refine un (a1 rfl ?_)
      refine dnil ?_
      refine Sv.ret ?_
      replace h := Option.some.inj h
      subst h
      exact ⟨_, .refl _, _, rfl, ⟨upd (fun _ => none) 0 (some (I 0)), (fun _ => none), 0⟩, (I 0), weak_canon [] rfl List.nodup_nil (Nat.le_refl _) (fun b h => absurd h (Nat.not_lt_zero _)) (.cons rfl (avAs_free rfl) .nil) .nil, rfl, rfl, rfl, rfl⟩
def a77_c0 : ACode := (.cond (.tmp 20) .ret .skip)
def a77_c1 : ACode := (.seq (.region [⟨(some 52), (.bin .lss (.tmp 51) (.tmp 50)), none⟩])
 (.seq (.cond (.tmp 52) .skip (.exit 0))
 (.seq (.block 1 (.seq (.region [⟨(some 53), (.iaddr 3 (.tmp 49) (.tmp 51)), none⟩, ⟨(some 54), (.load true 3 (.tmp 53)), none⟩, ⟨(some 6), (.box (.const (.agg [(.val (.int .i64 0)), (.val (.int .i64 0)), (.str [])]))), none⟩, ⟨none, (.store 3 (.tmp 6) (.tmp 54)), none⟩])
 (.region [⟨(some 55), (.mov (.tmp 0)), none⟩, ⟨(some 56), (.load true 3 (.tmp 6)), none⟩, ⟨(some 57), (.call 77 [(.tmp 55), (.tmp 56)]), none⟩])))
 (.region [⟨(some 58), (.bin .add (.tmp 51) (.const (.c (.val (.int .i64 1))))), none⟩, ⟨(some 51), (.mov (.tmp 58)), none⟩]))))
def a77_c2 : ACode := (.seq (.drawn (.fin [(⟨(some 21), (.mov (.tmp 0)), none⟩, (0, 0)), (⟨(some 22), (.nilc (.tmp 21)), none⟩, (0, 1)), (⟨(some 23), (.faddr 1 (.tmp 22)), none⟩, (0, 2)), (⟨(some 24), (.load false 1 (.tmp 23)), none⟩, (0, 3)), (⟨(some 25), (.mov (.tmp 4)), none⟩, (0, 4)), (⟨(some 26), (.mov (.tmp 0)), none⟩, (0, 5)), (⟨(some 27), (.nilc (.tmp 26)), none⟩, (0, 6)), (⟨(some 28), (.faddr 2 (.tmp 27)), none⟩, (0, 7)), (⟨(some 29), (.load false 1 (.tmp 28)), none⟩, (0, 8)), (⟨(some 30), (.len (.tmp 29)), none⟩, (0, 9)), (⟨(some 31), (.iaddr 1 (.tmp 24) (.tmp 25)), none⟩, (0, 10)), (⟨none, (.store 1 (.tmp 31) (.tmp 30)), none⟩, (2, 11))]))
 (.seq (.region [⟨(some 32), (.mov (.tmp 0)), none⟩, ⟨(some 33), (.mov (.tmp 0)), none⟩, ⟨(some 34), (.nilc (.tmp 33)), none⟩, ⟨(some 35), (.faddr 2 (.tmp 34)), none⟩, ⟨(some 36), (.load false 1 (.tmp 35)), none⟩, ⟨(some 37), (.mov (.tmp 4)), none⟩, ⟨(some 38), (.bslice 1 [(.val (.int .i64 0))] 1 [(0, (.tmp 37))]), none⟩, ⟨(some 39), (.app 1 8 (.tmp 36) (.tmp 38)), none⟩, ⟨(some 40), (.nilc (.tmp 32)), none⟩, ⟨(some 41), (.faddr 2 (.tmp 40)), none⟩, ⟨none, (.store 1 (.tmp 41) (.tmp 39)), none⟩])
 (.seq (.region [⟨(some 42), (.mov (.tmp 0)), none⟩, ⟨(some 43), (.nilc (.tmp 42)), none⟩, ⟨(some 44), (.faddr 0 (.tmp 43)), none⟩, ⟨(some 45), (.load false 1 (.tmp 44)), none⟩, ⟨(some 46), (.mov (.tmp 4)), none⟩, ⟨(some 47), (.iaddr 3 (.tmp 45) (.tmp 46)), none⟩, ⟨(some 48), (.faddr 2 (.tmp 47)), none⟩, ⟨(some 49), (.load false 1 (.tmp 48)), none⟩, ⟨(some 50), (.len (.tmp 49)), none⟩, ⟨(some 51), (.mov (.const (.c (.val (.int .i64 0))))), none⟩])
 (.block 0 (.loop a77_c1)))))
def a77 : AFunc := ⟨2, [], (.seq (.region [⟨(some 3), (.box (.tmp 1)), none⟩])
 (.seq (.region [⟨(some 7), (.load true 3 (.tmp 3)), none⟩, ⟨(some 8), (.call 81 [(.tmp 7)]), none⟩, ⟨(some 4), (.mov (.tmp 8)), none⟩])
 (.seq (.seq (.region [⟨(some 9), (.mov (.tmp 4)), none⟩, ⟨(some 10), (.bin .lss (.tmp 9) (.const (.c (.val (.int .i64 0))))), none⟩, ⟨(some 11), (.mov (.tmp 10)), none⟩, ⟨(some 12), (.mov (.tmp 0)), (some (11, false))⟩, ⟨(some 13), (.nilc (.tmp 12)), (some (11, false))⟩, ⟨(some 14), (.faddr 1 (.tmp 13)), (some (11, false))⟩, ⟨(some 15), (.load false 1 (.tmp 14)), (some (11, false))⟩, ⟨(some 16), (.mov (.tmp 4)), (some (11, false))⟩, ⟨(some 17), (.iaddr 1 (.tmp 15) (.tmp 16)), (some (11, false))⟩, ⟨(some 18), (.load false 1 (.tmp 17)), (some (11, false))⟩, ⟨(some 19), (.bin .geq (.tmp 18) (.const (.c (.val (.int .i64 0))))), (some (11, false))⟩, ⟨(some 20), (.pick (.tmp 11) (.const (.c (.val (.bool true)))) (.tmp 19)), none⟩])
 a77_c0)
 a77_c2)))⟩
set_option maxRecDepth 100000 in
theorem c77 : compFunc Try.prog 77 = some a77 := by kernel_rfl
def clerestory_heap_walker_come_post (r : Twalker) : AV → Heap → Nat → Prop := fun v h' n' => ∃ z0 : Bool, (z0 = true → r.f_to = []) ∧ ∃ z1 : Bool, (z1 = true → r.f_all = []) ∧ v = (.tup []) ∧ (h' = (upd (upd (upd (fun _ => none) 0 (some (.cells 3 [[.ro false 3 (r.f_h.map e_TJCell), lstC z0 3 1 r.f_to.length, lstC z1 4 1 r.f_all.length]]))) 3 (lstB z0 1 (r.f_to.map eI))) 4 (lstB z1 1 (r.f_all.map eI)))) ∧ n' = 5
def clerestory_heap_walker_come_Rec (Γ : Glob) (recf : Twalker → TJVal → Option Twalker) : Prop := ∀ (w_ : Twalker) (v_ : TJVal) (zw : Bool) (hzw : zw = true → w_.f_to = []) (zw1 : Bool) (hzw1 : zw1 = true → w_.f_all = []) (r : Twalker), recf w_ v_ = some r → ACalls Try.prog Γ 77 [(.c (.ref 0 3 0 0)), (.agg [cI v_.Kind, cI v_.N, .str v_.S])] (upd (upd (upd (fun _ => none) 0 (some (.cells 3 [[.ro false 3 (w_.f_h.map e_TJCell), lstC zw 1 1 w_.f_to.length, lstC zw1 2 1 w_.f_all.length]]))) 1 (lstB zw 1 (w_.f_to.map eI))) 2 (lstB zw1 1 (w_.f_all.map eI))) 3 (clerestory_heap_walker_come_post r)
abbrev clerestory_heap_walker_come_l0_E0 (F_ : (List TJCell) → (List Int) → (List Int) → Option Twalker) (o : Twalker) (R_ : St → Prop) : Prop := ∀ (w01 : (List TJCell)) (w12 : (List Int)) (w22 : (List Int)) (zw12 : Bool) (_ : zw12 = true → w12 = []) (zw22 : Bool) (_ : zw22 = true → w22 = []), F_ w01 w12 w22 = some o → ∀ s, Weak 3 s ⟨(upd (fun _ => none) 0 (some (.c (.ref 0 3 0 0)))), (upd (upd (upd (fun _ => none) 0 (some (.cells 3 [[.ro false 3 (w01.map e_TJCell), lstC zw12 3 1 w12.length, lstC zw22 4 1 w22.length]]))) 3 (lstB zw12 1 (w12.map eI))) 4 (lstB zw22 1 (w22.map eI))), 5⟩ → R_ s
abbrev clerestory_heap_walker_come_l0_I (x_1 : TJCell) (F_ : Nat → (List TJCell) → (List Int) → (List Int) → Int → Option Twalker) (o : Twalker) : Nat → St → Prop := fun k s => ∃ (w0 : (List TJCell)), ∃ (w11 : (List Int)), ∃ (w21 : (List Int)), ∃ (v51 : Int), ∃ (zw111 : Bool), (zw111 = true → w11 = []) ∧ ∃ (zw21 : Bool), (zw21 = true → w21 = []) ∧ F_ k w0 w11 w21 v51 = some o ∧ s = ⟨(upd (upd (upd (upd (fun _ => none) 0 (some (.c (.ref 0 3 0 0)))) 49 (some (.c (.ro false 3 (x_1.Vals.map e_TJVal))))) 50 (some (I (x_1.Vals.length : Int)))) 51 (some (I v51))), (upd (upd (upd (fun _ => none) 0 (some (.cells 3 [[.ro false 3 (w0.map e_TJCell), lstC zw111 3 1 w11.length, lstC zw21 4 1 w21.length]]))) 3 (lstB zw111 1 (w11.map eI))) 4 (lstB zw21 1 (w21.map eI))), 5⟩
abbrev clerestory_heap_walker_come_l0_H (x_1 : TJCell) (F_ : (List TJCell) → (List Int) → (List Int) → Int → Option Twalker) (o : Twalker) (R_ : St → Prop) : Prop := ∀ (w0 : (List TJCell)) (w11 : (List Int)) (w21 : (List Int)) (v51 : Int) (zw111 : Bool) (_ : zw111 = true → w11 = []) (zw21 : Bool) (_ : zw21 = true → w21 = []), F_ w0 w11 w21 v51 = some o → ∀ s, Weak 3 s ⟨(upd (upd (upd (upd (fun _ => none) 0 (some (.c (.ref 0 3 0 0)))) 49 (some (.c (.ro false 3 (x_1.Vals.map e_TJVal))))) 50 (some (I (x_1.Vals.length : Int)))) 51 (some (I v51))), (upd (upd (upd (fun _ => none) 0 (some (.cells 3 [[.ro false 3 (w0.map e_TJCell), lstC zw111 3 1 w11.length, lstC zw21 4 1 w21.length]]))) 3 (lstB zw111 1 (w11.map eI))) 4 (lstB zw21 1 (w21.map eI))), 5⟩ → R_ s
noncomputable def clerestory_heap_walker_come_l0 (x_1 : TJCell) (recf : Twalker → TJVal → Option Twalker) (K0_ : (List TJCell) → (List Int) → (List Int) → Option Twalker) : Nat → (List TJCell) → (List Int) → (List Int) → Int → Option Twalker
  | 0, _, _, _, _ => none
  | k + 1, w0, w11, w21, v51 =>
    if decide (v51 < (x_1.Vals.length : Int)) then
      (at? x_1.Vals v51).bind fun x_2 =>
      (recf (⟨w0, w11, w21⟩ : Twalker) x_2).bind fun r_1 =>
      (clerestory_heap_walker_come_l0 x_1 recf K0_ k) r_1.f_h r_1.f_to r_1.f_all (wi (v51 + 1))
    else
      K0_ w0 w11 w21
theorem clerestory_heap_walker_come_l0_ok {Γ : Glob} {Q : AExit → St → Prop} {x_1 : TJCell} {recf : Twalker → TJVal → Option Twalker} {K0_ : (List TJCell) → (List Int) → (List Int) → Option Twalker} {k : Nat} {w0 : (List TJCell)} {w11 : (List Int)} {w21 : (List Int)} {v51 : Int} {zw111 : Bool} (hzw111 : zw111 = true → w11 = []) {zw21 : Bool} (hzw21 : zw21 = true → w21 = []) {o : Twalker} (h : clerestory_heap_walker_come_l0 x_1 recf K0_ k w0 w11 w21 v51 = some o)
    (hK0 : clerestory_heap_walker_come_l0_E0 K0_ o (Q (.exit 0)))
    (hr : ∀ s, Ends a77.results 3 (clerestory_heap_walker_come_post o) .ret s → Q .ret s)
    (hrec : clerestory_heap_walker_come_Rec Γ recf) :
    Sv Try.prog Γ 3 (.loop a77_c1) Q ⟨(upd (upd (upd (upd (fun _ => none) 0 (some (.c (.ref 0 3 0 0)))) 49 (some (.c (.ro false 3 (x_1.Vals.map e_TJVal))))) 50 (some (I (x_1.Vals.length : Int)))) 51 (some (I v51))), (upd (upd (upd (fun _ => none) 0 (some (.cells 3 [[.ro false 3 (w0.map e_TJCell), lstC zw111 3 1 w11.length, lstC zw21 4 1 w21.length]]))) 3 (lstB zw111 1 (w11.map eI))) 4 (lstB zw21 1 (w21.map eI))), 5⟩ := by
  refine Sv.loop (I := clerestory_heap_walker_come_l0_I x_1 (clerestory_heap_walker_come_l0 x_1 recf K0_) o) (fun k s hI => ?_) ⟨w0, w11, w21, v51, zw111, hzw111, zw21, hzw21, h, rfl⟩
  clear h
  clear hzw21 hzw111 zw21 zw111 v51 w21 w11 w0
  obtain ⟨w0, w11, w21, v51, zw111, hzw111, zw21, hzw21, h, rfl⟩ := hI
  cases k with
  | zero => cases h
  | succ k =>
  rw [clerestory_heap_walker_come_l0] at h
  have hself : clerestory_heap_walker_come_l0_H x_1 (clerestory_heap_walker_come_l0 x_1 recf K0_ k) o (rnd 3 (clerestory_heap_walker_come_l0_I x_1 (clerestory_heap_walker_come_l0 x_1 recf K0_) o) k Q) := fun w0 w11 w21 v51 zw111 hzw111 zw21 hzw21 h s hw => ⟨_, k, hw, Nat.lt_succ_self k, w0, w11, w21, v51, zw111, hzw111, zw21, hzw21, h, rfl⟩
  refine Sv.seq ?_
  refine Sv.region ?_
  refine un (a1 (v := (B (decide (v51 < (x_1.Vals.length : Int))))) rfl ?_)
  refine dnil ?_
  refine Sv.seq ?_
  refine Sv.cond (b := decide (v51 < (x_1.Vals.length : Int))) rfl (fun hc2 => ?_) (fun hc2 => ?_)
  · replace h := ifT hc2 h
    refine Sv.skip ?_
    refine Sv.seq ?_
    refine Sv.block ?_
    refine Sv.seq ?_
    refine Sv.region ?_
    obtain ⟨x_2, hx3, h⟩ := bnd h
    refine un (a1 (v := (.c (.rop [cI x_2.Kind, cI x_2.N, .str x_2.S]))) (s_iaddr (e := e_TJVal) (xs := x_1.Vals) rfl rfl hx3) ?_)
    refine un (a1 (v := (.agg [cI x_2.Kind, cI x_2.N, .str x_2.S])) rfl ?_)
    refine un (a2v (v := (.c (.ref 5 3 0 0))) (h' := upd _ 5 (some (.cells 3 [[cI 0, cI 0, .str []]]))) (n' := 6) rfl rfl (fun h => by cases h) ?_)
    refine un (a2n (h' := upd _ 5 (some (.cells 3 [[cI x_2.Kind, cI x_2.N, .str x_2.S]]))) (n' := 6) rfl rfl (fun h => by cases h) ?_)
    refine dnil ?_
    refine Sv.region ?_
    refine un (a1 rfl ?_)
    refine un (a1 (v := (.agg [cI x_2.Kind, cI x_2.N, .str x_2.S])) rfl ?_)
    obtain ⟨r_1, hr2, h⟩ := bnd h
    refine un (ac_gen (bs := [0, 3, 4]) («as» := [(.c (.ref 0 3 0 0)), (.agg [cI x_2.Kind, cI x_2.N, .str x_2.S])]) (h2 := _) (h1 := (upd (upd (upd (fun _ => none) 0 (some (.cells 3 [[.ro false 3 (w0.map e_TJCell), lstC zw111 3 1 w11.length, lstC zw21 4 1 w21.length]]))) 3 (lstB zw111 1 (w11.map eI))) 4 (lstB zw21 1 (w21.map eI)))) (hrec (⟨w0, w11, w21⟩ : Twalker) x_2 _ hzw111 _ hzw21 _ hr2) rfl (.cons (.c (.ref rfl (by decide))) (.cons (avAs_free rfl) .nil)) (hsub_refl _) (.cons rfl (.cons rfl (.cons rfl (.nil _)))) (fun h => by cases h) (by decide) (by decide) (.cons (.c (.ref rfl (by decide))) (.cons (avAs_free rfl) .nil)) (.row (by decide) rfl (fr_map fun _ => rfl) (.row (by decide) rfl (fr_map fun _ => rfl) (.box (by decide) rfl (blkAs_cells (.cons (.same rfl) (.cons (lstC_ren rfl (by decide)) (.cons (lstC_ren rfl (by decide)) .nil)))) .nil))) ?_)
    rintro _ _ _ hn ⟨z_, hz_, z_1, hz_1, rfl, rfl, rfl⟩
    refine ⟨.inl rfl, (upd (upd (upd (rem [0, 3, 4] _) 0 (some (.cells 3 [[.ro false 3 (r_1.f_h.map e_TJCell), lstC z_ 6 1 r_1.f_to.length, lstC z_1 7 1 r_1.f_all.length]]))) 6 (lstB z_ 1 (r_1.f_to.map eI))) 7 (lstB z_1 1 (r_1.f_all.map eI))), fun hbd => (m3_cons (m3_row rfl (fr_map fun _ => rfl)) (m3_cons (m3_row rfl (fr_map fun _ => rfl)) (m3_cons (m3_box rfl (by cases z_ <;> cases z_1 <;> rfl)) (m3_rem (in_cons (by decide) (in_cons (by decide) (in_cons (by decide) (in_nil _)))) (.cons (by decide) (.cons (by decide) (.cons (by decide) .nil))) hbd)))), (.tup []), 8, (by cases z_ <;> cases z_1 <;> rfl), rfl, ?_⟩
    refine dnil ?_
    refine Sv.region ?_
    refine un (a1 (v := (I (wi (v51 + 1)))) rfl ?_)
    refine un (a1 rfl ?_)
    refine dnil ?_
    exact hself r_1.f_h r_1.f_to r_1.f_all (wi (v51 + 1)) z_ hz_ z_1 hz_1 h _ (weak_canon [0, 1, 2, 6, 7] rfl (by decide) (by decide) (by decide) (.cons rfl (avAs_free rfl) (.cons rfl (avAs_free rfl) (.cons rfl (avAs_free rfl) (.cons rfl (.c (.ref rfl (by decide))) .nil)))) (.row (by decide) rfl (fr_map fun _ => rfl) (.row (by decide) rfl (fr_map fun _ => rfl) (.box (by decide) rfl (blkAs_cells (.cons (.same rfl) (.cons (lstC_ren rfl (by decide)) (.cons (lstC_ren rfl (by decide)) .nil)))) .nil))))
  · replace h := ifF hc2 h
    refine Sv.exit ?_
    exact hK0 w0 w11 w21 zw111 hzw111 zw21 hzw21 h _ (weak_canon [0, 1, 2, 3, 4] rfl (by decide) (by decide) (by decide) (.cons rfl (.c (.ref rfl (by decide))) .nil) (.row (by decide) rfl (fr_map fun _ => rfl) (.row (by decide) rfl (fr_map fun _ => rfl) (.box (by decide) rfl (blkAs_cells (.cons (.same rfl) (.cons (lstC_ren rfl (by decide)) (.cons (lstC_ren rfl (by decide)) .nil)))) .nil))))
abbrev clerestory_heap_walker_come_q0 (Γ : Glob) (o : Twalker) : AExit → St → Prop := AThen (Sv Try.prog Γ 3 a77_c2 (Ends a77.results 3 (clerestory_heap_walker_come_post o))) (Ends a77.results 3 (clerestory_heap_walker_come_post o))
noncomputable def clerestory_heap_walker_come_j1 (w_ : Twalker) (v_ : TJVal) (recf : Twalker → TJVal → Option Twalker) (w1 : (List Int)) (w2 : (List Int)) (v20 : Bool) : Option Twalker :=
  if v20 then
    some (⟨w_.f_h, w1, w2⟩ : Twalker)
  else
    (at? w1 (heap_ref v_)).bind fun x_ =>
    (app? 8 w2 [(heap_ref v_)]).bind fun r_ =>
    (at? w_.f_h (heap_ref v_)).bind fun x_1 =>
    lim fun kk => clerestory_heap_walker_come_l0 x_1 recf (fun (w01 : (List TJCell)) (w12 : (List Int)) (w22 : (List Int)) => 
        some (⟨w01, w12, w22⟩ : Twalker)) kk w_.f_h (w1.set (heap_ref v_).toNat (w2.length : Int)) r_ 0
theorem clerestory_heap_walker_come_j1_ok {Γ : Glob} {w_ : Twalker} {v_ : TJVal} {recf : Twalker → TJVal → Option Twalker} {w1 : (List Int)} {w2 : (List Int)} {v20 : Bool} {zw11 : Bool} (hzw11 : zw11 = true → w1 = []) {zw2 : Bool} (hzw2 : zw2 = true → w2 = []) {o : Twalker} (h : clerestory_heap_walker_come_j1 w_ v_ recf w1 w2 v20 = some o)
    (hrec : clerestory_heap_walker_come_Rec Γ recf) :
    Sv Try.prog Γ 3 a77_c0 (clerestory_heap_walker_come_q0 Γ o) ⟨(upd (upd (upd (fun _ => none) 0 (some (.c (.ref 0 3 0 0)))) 4 (some (I (heap_ref v_)))) 20 (some (B v20))), (upd (upd (upd (fun _ => none) 0 (some (.cells 3 [[.ro false 3 (w_.f_h.map e_TJCell), lstC zw11 1 1 w1.length, lstC zw2 2 1 w2.length]]))) 1 (lstB zw11 1 (w1.map eI))) 2 (lstB zw2 1 (w2.map eI))), 3⟩ := by
  unfold clerestory_heap_walker_come_j1 at h
  refine Sv.cond (b := v20) rfl (fun hc1 => ?_) (fun hc1 => ?_)
  · replace h := ifT hc1 h
    refine Sv.ret ?_
    replace h := Option.some.inj h
    subst h
    exact ⟨_, .refl _, _, rfl, ⟨upd (fun _ => none) 0 (some (.tup [])), (upd (upd (upd (fun _ => none) 0 (some (.cells 3 [[.ro false 3 (w_.f_h.map e_TJCell), lstC zw11 3 1 w1.length, lstC zw2 4 1 w2.length]]))) 3 (lstB zw11 1 (w1.map eI))) 4 (lstB zw2 1 (w2.map eI))), 5⟩, (.tup []), weak_canon2 [0, 1, 2, 1, 2] [0, 3, 4] (by decide) (by decide) (by decide) (.cons (by decide) (.cons (by decide) (.cons (by decide) .nil))) (.cons rfl (avAs_tup .nil) .nil) (.row (by decide) rfl (fr_map fun _ => rfl) (.row (by decide) rfl (fr_map fun _ => rfl) (.box (by decide) rfl (blkAs_cells (.cons (.same rfl) (.cons (lstC_ren rfl (by decide)) (.cons (lstC_ren rfl (by decide)) .nil)))) .nil))), rfl, zw11, hzw11, zw2, hzw2, rfl, rfl, rfl⟩
  · replace h := ifF hc1 h
    refine Sv.skip ?_
    refine Sv.seq ?_
    refine Sv.drawn ?_
    refine un (a1 rfl ?_)
    refine un (a1 (v := (.c (.ref 0 3 0 0))) rfl ?_)
    refine un (a1 (v := (.c (.ref 0 3 0 1))) rfl ?_)
    refine un (a1 (v := (lstV zw11 1 1 w1.length)) rfl ?_)
    refine un (a1 rfl ?_)
    refine un (a1 rfl ?_)
    refine un (a1 (v := (.c (.ref 0 3 0 0))) rfl ?_)
    refine un (a1 (v := (.c (.ref 0 3 0 2))) rfl ?_)
    refine un (a1 (v := (lstV zw2 2 1 w2.length)) rfl ?_)
    refine un (a1 (v := (I (w2.length : Int))) (s_lenL rfl (len_nil_of hzw2)) ?_)
    obtain ⟨x_, hx1, h⟩ := bnd h
    refine un (a1 (v := (.c (.ref 1 1 (heap_ref v_).toNat 0))) (s_iaddrL rfl rfl hzw11 hx1) ?_)
    refine un (a2n (h' := upd _ 1 (lstB zw11 1 ((w1.set (heap_ref v_).toNat (w2.length : Int)).map eI))) (n' := 3) rfl (s_storeL (e := eI) (q' := (w2.length : Int)) rfl rfl hzw11 hx1 rfl rfl rfl (Nat.le_of_ble_eq_true rfl) rfl) (fun h => by cases h) ?_)
    try rw [len_set w1 (heap_ref v_).toNat (w2.length : Int)]
    refine dnil ?_
    refine Sv.seq ?_
    refine Sv.region ?_
    refine un (a1 rfl ?_)
    refine un (a1 rfl ?_)
    refine un (a1 (v := (.c (.ref 0 3 0 0))) rfl ?_)
    refine un (a1 (v := (.c (.ref 0 3 0 2))) rfl ?_)
    refine un (a1 (v := (lstV zw2 2 1 w2.length)) rfl ?_)
    refine un (a1 rfl ?_)
    refine un (a2v (v := (lstV false 3 1 [(heap_ref v_)].length)) (h' := upd _ 3 (lstB false 1 ([(heap_ref v_)].map eI))) (n' := 4) rfl rfl (fun h => by cases h) ?_)
    obtain ⟨r_, hr1, h⟩ := bnd h
    have hz1 : (zw2 && [(heap_ref v_)].isEmpty) = true → r_ = [] := app_nil (z := zw2) (ys := [(heap_ref v_)]) hzw2 hr1
    refine un (a2v rfl (s_app (xs := w2) (ys := [(heap_ref v_)]) (e := eI) (z := zw2) (b := 2) rfl rfl hzw2 rfl rfl (slc_lst rfl (List.length_map _).symm (map_nil_of (fun h => by cases h))) hr1) (fun h => by cases h) ?_)
    refine un (a1 (v := (.c (.ref 0 3 0 0))) rfl ?_)
    refine un (a1 (v := (.c (.ref 0 3 0 2))) rfl ?_)
    refine un (a2n (h' := upd _ 0 (some (.cells 3 [[.ro false 3 (w_.f_h.map e_TJCell), lstC zw11 1 1 (w1.set (heap_ref v_).toNat (w2.length : Int)).length, lstC (zw2 && [(heap_ref v_)].isEmpty) 4 1 r_.length]]))) (n' := 5) rfl rfl (fun h => by cases h) ?_)
    refine dnil ?_
    refine Sv.seq ?_
    refine Sv.region ?_
    refine un (a1 rfl ?_)
    refine un (a1 (v := (.c (.ref 0 3 0 0))) rfl ?_)
    refine un (a1 (v := (.c (.ref 0 3 0 0))) rfl ?_)
    refine un (a1 (v := (.c (.ro false 3 (w_.f_h.map e_TJCell)))) rfl ?_)
    refine un (a1 rfl ?_)
    obtain ⟨x_1, hx2, h⟩ := bnd h
    refine un (a1 (v := (.c (.rop [cI x_1.Kind, .ro false 1 (x_1.Names.map eStr), .ro false 3 (x_1.Vals.map e_TJVal)]))) (s_iaddr (e := e_TJCell) (xs := w_.f_h) rfl rfl hx2) ?_)
    refine un (a1 (v := (.c (.rop [.ro false 3 (x_1.Vals.map e_TJVal)]))) rfl ?_)
    refine un (a1 (v := (.c (.ro false 3 (x_1.Vals.map e_TJVal)))) rfl ?_)
    refine un (a1 (v := (I (x_1.Vals.length : Int))) (s_len (e := e_TJVal) (xs := x_1.Vals) rfl) ?_)
    refine un (a1 rfl ?_)
    refine dnil ?_
    refine Sv.block ?_
    obtain ⟨kk, h⟩ := lim_some h
    refine Sv.weak (weak_canon2 [0, 1, 2, 1, 4] [0, 3, 4] (by decide) (by decide) (by decide) (.cons (by decide) (.cons (by decide) (.cons (by decide) .nil))) (.cons rfl (avAs_free rfl) (.cons rfl (avAs_free rfl) (.cons rfl (avAs_free rfl) (.cons rfl (.c (.ref rfl (by decide))) .nil)))) (.row (by decide) rfl (fr_map fun _ => rfl) (.row (by decide) rfl (fr_map fun _ => rfl) (.box (by decide) rfl (blkAs_cells (.cons (.same rfl) (.cons (lstC_ren rfl (by decide)) (.cons (lstC_ren rfl (by decide)) .nil)))) .nil)))) (clerestory_heap_walker_come_l0_ok (hz_len hzw11 (len_set w1 (heap_ref v_).toNat (w2.length : Int))) hz1 h ?_ (fun s hs => hs) hrec)
    · intro w01 w12 w22 zw12 hzw12 zw22 hzw22 h _ hw1
      replace h := Option.some.inj h
      subst h
      exact ⟨_, hw1, _, rfl, ⟨upd (fun _ => none) 0 (some (.tup [])), (upd (upd (upd (fun _ => none) 0 (some (.cells 3 [[.ro false 3 (w01.map e_TJCell), lstC zw12 3 1 w12.length, lstC zw22 4 1 w22.length]]))) 3 (lstB zw12 1 (w12.map eI))) 4 (lstB zw22 1 (w22.map eI))), 5⟩, (.tup []), weak_canon2 [0, 1, 2, 3, 4] [0, 3, 4] (by decide) (by decide) (by decide) (.cons (by decide) (.cons (by decide) (.cons (by decide) .nil))) (.cons rfl (avAs_tup .nil) .nil) (.row (by decide) rfl (fr_map fun _ => rfl) (.row (by decide) rfl (fr_map fun _ => rfl) (.box (by decide) rfl (blkAs_cells (.cons (.same rfl) (.cons (lstC_ren rfl (by decide)) (.cons (lstC_ren rfl (by decide)) .nil)))) .nil))), rfl, zw12, hzw12, zw22, hzw22, rfl, rfl, rfl⟩
/-- (*clerestory/heap.walker).come -/
noncomputable def clerestory_heap_walker_come_r : Nat → Twalker → TJVal → Option Twalker
  | 0, _, _ => none
  | k + 1, w_, v_ =>
    if decide ((heap_ref v_) < 0) then
      clerestory_heap_walker_come_j1 w_ v_ (clerestory_heap_walker_come_r k) w_.f_to w_.f_all true
    else
      (at? w_.f_to (heap_ref v_)).bind fun x_3 =>
      clerestory_heap_walker_come_j1 w_ v_ (clerestory_heap_walker_come_r k) w_.f_to w_.f_all (decide (0 ≤ x_3))
noncomputable def clerestory_heap_walker_come (w_ : Twalker) (v_ : TJVal) : Option Twalker :=
  lim fun kr => clerestory_heap_walker_come_r kr w_ v_
theorem clerestory_heap_walker_come_r_ok {Γ : Glob} (k : Nat) : clerestory_heap_walker_come_Rec Γ (clerestory_heap_walker_come_r k) := by
  induction k with
  | zero => intro w_ v_ zw hzw zw1 hzw1 r h; cases h
  | succ k hrec =>
  intro w_ v_ zw hzw zw1 hzw1 r h
  refine acalls_of_sv hmix c77 (R := clerestory_heap_walker_come_post r) ?_
  rw [clerestory_heap_walker_come_r] at h
  refine Sv.seq ?_
  refine Sv.region ?_
  refine un (a2v (v := (.c (.ref 3 3 0 0))) (h' := upd _ 3 (some (.cells 3 [[cI v_.Kind, cI v_.N, .str v_.S]]))) (n' := 4) rfl rfl (fun h => by cases h) ?_)
  refine dnil ?_
  refine Sv.seq ?_
  refine Sv.region ?_
  refine un (a1 (v := (.agg [cI v_.Kind, cI v_.N, .str v_.S])) rfl ?_)
  refine un (ac_pure (heap_ref_ok (Γ := Γ) v_) rfl rfl rfl ?_)
  refine un (a1 rfl ?_)
  refine dnil ?_
  refine Sv.seq ?_
  refine Sv.seq ?_
  refine Sv.region ?_
  refine un (a1 rfl ?_)
  refine un (a1 (v := (B (decide ((heap_ref v_) < 0)))) rfl ?_)
  refine un (a1 rfl ?_)
  refine split2 (fun hc3 => ?_) (fun hc3 => ?_)
  · replace h := ifT hc3 h
    refine gs rfl rfl ?_
    refine gs rfl rfl ?_
    refine gs rfl rfl ?_
    refine gs rfl rfl ?_
    refine gs rfl rfl ?_
    refine gs rfl rfl ?_
    refine gs rfl rfl ?_
    refine gs rfl rfl ?_
    refine un (a1 (v := (B true)) rfl ?_)
    refine dnil ?_
    exact Sv.weak (weak_canon [0, 1, 2] rfl (by decide) (by decide) (by decide) (.cons rfl (avAs_free rfl) (.cons rfl (avAs_free rfl) (.cons rfl (.c (.ref rfl (by decide))) .nil))) (.row (by decide) rfl (fr_map fun _ => rfl) (.row (by decide) rfl (fr_map fun _ => rfl) (.box (by decide) rfl (blkAs_cells (.cons (.same rfl) (.cons (lstC_ren rfl (by decide)) (.cons (lstC_ren rfl (by decide)) .nil)))) .nil)))) (clerestory_heap_walker_come_j1_ok hzw hzw1 h hrec)
  · replace h := ifF hc3 h
    refine gt rfl (a1 rfl ?_)
    refine gt rfl (a1 (v := (.c (.ref 0 3 0 0))) rfl ?_)
    refine gt rfl (a1 (v := (.c (.ref 0 3 0 1))) rfl ?_)
    refine gt rfl (a1 (v := (lstV zw 1 1 w_.f_to.length)) rfl ?_)
    refine gt rfl (a1 rfl ?_)
    obtain ⟨x_3, hx4, h⟩ := bnd h
    refine gt rfl (a1 (v := (.c (.ref 1 1 (heap_ref v_).toNat 0))) (s_iaddrL rfl rfl hzw hx4) ?_)
    refine gt rfl (a1 (v := (I x_3)) (s_loadL (z := zw) (e := eI) rfl rfl hzw hx4 rfl rfl) ?_)
    refine gt rfl (a1 (v := (B (decide (0 ≤ x_3)))) rfl ?_)
    refine un (a1 (v := (B (decide (0 ≤ x_3)))) rfl ?_)
    refine dnil ?_
    exact Sv.weak (weak_canon [0, 1, 2] rfl (by decide) (by decide) (by decide) (.cons rfl (avAs_free rfl) (.cons rfl (avAs_free rfl) (.cons rfl (.c (.ref rfl (by decide))) .nil))) (.row (by decide) rfl (fr_map fun _ => rfl) (.row (by decide) rfl (fr_map fun _ => rfl) (.box (by decide) rfl (blkAs_cells (.cons (.same rfl) (.cons (lstC_ren rfl (by decide)) (.cons (lstC_ren rfl (by decide)) .nil)))) .nil)))) (clerestory_heap_walker_come_j1_ok hzw hzw1 h hrec)
theorem clerestory_heap_walker_come_ok {Γ : Glob} {w_ : Twalker} {v_ : TJVal} {zw : Bool} (hzw : zw = true → w_.f_to = []) {zw1 : Bool} (hzw1 : zw1 = true → w_.f_all = []) {r : Twalker} (h : clerestory_heap_walker_come w_ v_ = some r) : ACalls Try.prog Γ 77 [(.c (.ref 0 3 0 0)), (.agg [cI v_.Kind, cI v_.N, .str v_.S])] (upd (upd (upd (fun _ => none) 0 (some (.cells 3 [[.ro false 3 (w_.f_h.map e_TJCell), lstC zw 1 1 w_.f_to.length, lstC zw1 2 1 w_.f_all.length]]))) 1 (lstB zw 1 (w_.f_to.map eI))) 2 (lstB zw1 1 (w_.f_all.map eI))) 3 (clerestory_heap_walker_come_post r) := by
  unfold clerestory_heap_walker_come at h
  obtain ⟨k, h⟩ := lim_some h
  exact clerestory_heap_walker_come_r_ok k w_ v_ zw hzw zw1 hzw1 r h
def a50_c0 : ACode := (.seq (.region [⟨(some 21), (.bin .lss (.tmp 20) (.tmp 19)), none⟩])
 (.seq (.cond (.tmp 21) .skip (.exit 0))
 (.seq (.block 1 (.seq (.region [⟨(some 22), (.mov (.tmp 20)), none⟩, ⟨(some 6), (.mov (.tmp 22)), none⟩])
 (.region [⟨(some 23), (.mov (.tmp 5)), none⟩, ⟨(some 24), (.nilc (.tmp 23)), none⟩, ⟨(some 25), (.faddr 1 (.tmp 24)), none⟩, ⟨(some 26), (.load false 1 (.tmp 25)), none⟩, ⟨(some 27), (.mov (.tmp 6)), none⟩, ⟨(some 28), (.iaddr 1 (.tmp 26) (.tmp 27)), none⟩, ⟨none, (.store 1 (.tmp 28) (.const (.c (.val (.int .i64 (-1)))))), none⟩])))
 (.region [⟨(some 29), (.bin .add (.tmp 20) (.const (.c (.val (.int .i64 1))))), none⟩, ⟨(some 20), (.mov (.tmp 29)), none⟩]))))
def a50_c1 : ACode := (.seq (.region [⟨(some 33), (.bin .lss (.tmp 32) (.tmp 31)), none⟩])
 (.seq (.cond (.tmp 33) .skip (.exit 2))
 (.seq (.block 3 (.seq (.region [⟨(some 34), (.iaddr 3 (.tmp 30) (.tmp 32)), none⟩, ⟨(some 35), (.load true 3 (.tmp 34)), none⟩, ⟨(some 8), (.box (.const (.agg [(.val (.int .i64 0)), (.val (.int .i64 0)), (.str [])]))), none⟩, ⟨none, (.store 3 (.tmp 8) (.tmp 35)), none⟩])
 (.region [⟨(some 36), (.mov (.tmp 5)), none⟩, ⟨(some 37), (.load true 3 (.tmp 8)), none⟩, ⟨(some 38), (.call 77 [(.tmp 36), (.tmp 37)]), none⟩])))
 (.region [⟨(some 39), (.bin .add (.tmp 32) (.const (.c (.val (.int .i64 1))))), none⟩, ⟨(some 32), (.mov (.tmp 39)), none⟩]))))
def a50 : AFunc := ⟨2, [(.tmp 4)], (.seq (.region [⟨(some 4), (.mov (.const (.c (.val (.pointer none))))), none⟩])
 (.seq (.region [⟨(some 9), (.mov (.tmp 0)), none⟩, ⟨(some 10), (.mov (.tmp 0)), none⟩, ⟨(some 11), (.len (.tmp 10)), none⟩, ⟨(some 12), (.mksl 1 8 [(.val (.int .i64 0))] (.tmp 11) (.tmp 11)), none⟩, ⟨(some 13), (.build [(.ro true 3 []), (.ro true 1 []), (.ro true 1 [])] [(0, (1, (.tmp 9))), (1, (1, (.tmp 12)))]), none⟩, ⟨(some 14), (.box (.tmp 13)), none⟩, ⟨(some 5), (.mov (.tmp 14)), none⟩])
 (.seq (.seq (.region [⟨(some 15), (.mov (.tmp 5)), none⟩, ⟨(some 16), (.nilc (.tmp 15)), none⟩, ⟨(some 17), (.faddr 1 (.tmp 16)), none⟩, ⟨(some 18), (.load false 1 (.tmp 17)), none⟩, ⟨(some 19), (.len (.tmp 18)), none⟩, ⟨(some 20), (.mov (.const (.c (.val (.int .i64 0))))), none⟩])
 (.block 0 (.loop a50_c0)))
 (.seq (.seq (.region [⟨(some 30), (.mov (.tmp 1)), none⟩, ⟨(some 31), (.len (.tmp 30)), none⟩, ⟨(some 32), (.mov (.const (.c (.val (.int .i64 0))))), none⟩])
 (.block 2 (.loop a50_c1)))
 (.seq (.region [⟨(some 40), (.mov (.tmp 5)), none⟩, ⟨(some 4), (.mov (.tmp 40)), none⟩])
 .ret)))))⟩
set_option maxRecDepth 100000 in
theorem c50 : compFunc Try.prog 50 = some a50 := by kernel_rfl
def heap_walked_post (r : Twalker) : AV → Heap → Nat → Prop := fun v h' n' => ∃ z0 : Bool, (z0 = true → r.f_to = []) ∧ ∃ z1 : Bool, (z1 = true → r.f_all = []) ∧ v = (.c (.ref 2 3 0 0)) ∧ (h' = (upd (upd (upd (fun _ => none) 0 (lstB z0 1 (r.f_to.map eI))) 1 (lstB z1 1 (r.f_all.map eI))) 2 (some (.cells 3 [[.ro false 3 (r.f_h.map e_TJCell), lstC z0 0 1 r.f_to.length, lstC z1 1 1 r.f_all.length]])))) ∧ n' = 3
abbrev heap_walked_l0_E0 (roots : (List TJVal)) (h_ : (List TJCell)) (F_ : (List Int) → Option Twalker) (o : Twalker) (R_ : St → Prop) : Prop := ∀ (w11 : (List Int)) (zw11 : Bool) (_ : zw11 = true → w11 = []), F_ w11 = some o → ∀ s, Weak 0 s ⟨(upd (upd (fun _ => none) 1 (some (.c (.ro false 3 (roots.map e_TJVal))))) 5 (some (.c (.ref 0 3 0 0)))), (upd (upd (fun _ => none) 0 (some (.cells 3 [[.ro false 3 (h_.map e_TJCell), lstC zw11 1 1 w11.length, .ro true 1 []]]))) 1 (lstB zw11 1 (w11.map eI))), 2⟩ → R_ s
abbrev heap_walked_l0_I (roots : (List TJVal)) (h_ : (List TJCell)) (F_ : Nat → (List Int) → Int → Int → Option Twalker) (o : Twalker) : Nat → St → Prop := fun k s => ∃ (w1 : (List Int)), ∃ (v19 : Int), ∃ (v20 : Int), ∃ (zw1 : Bool), (zw1 = true → w1 = []) ∧ F_ k w1 v19 v20 = some o ∧ s = ⟨(upd (upd (upd (upd (fun _ => none) 1 (some (.c (.ro false 3 (roots.map e_TJVal))))) 5 (some (.c (.ref 0 3 0 0)))) 19 (some (I v19))) 20 (some (I v20))), (upd (upd (fun _ => none) 0 (some (.cells 3 [[.ro false 3 (h_.map e_TJCell), lstC zw1 1 1 w1.length, .ro true 1 []]]))) 1 (lstB zw1 1 (w1.map eI))), 2⟩
abbrev heap_walked_l0_H (roots : (List TJVal)) (h_ : (List TJCell)) (F_ : (List Int) → Int → Int → Option Twalker) (o : Twalker) (R_ : St → Prop) : Prop := ∀ (w1 : (List Int)) (v19 : Int) (v20 : Int) (zw1 : Bool) (_ : zw1 = true → w1 = []), F_ w1 v19 v20 = some o → ∀ s, Weak 0 s ⟨(upd (upd (upd (upd (fun _ => none) 1 (some (.c (.ro false 3 (roots.map e_TJVal))))) 5 (some (.c (.ref 0 3 0 0)))) 19 (some (I v19))) 20 (some (I v20))), (upd (upd (fun _ => none) 0 (some (.cells 3 [[.ro false 3 (h_.map e_TJCell), lstC zw1 1 1 w1.length, .ro true 1 []]]))) 1 (lstB zw1 1 (w1.map eI))), 2⟩ → R_ s
noncomputable def heap_walked_l0 (roots : (List TJVal)) (h_ : (List TJCell)) (K0_ : (List Int) → Option Twalker) : Nat → (List Int) → Int → Int → Option Twalker
  | 0, _, _, _ => none
  | k + 1, w1, v19, v20 =>
    if decide (v20 < v19) then
      (at? w1 v20).bind fun x_ =>
      (heap_walked_l0 roots h_ K0_ k) (w1.set v20.toNat (-1)) v19 (wi (v20 + 1))
    else
      K0_ w1
theorem heap_walked_l0_ok {Γ : Glob} {Q : AExit → St → Prop} {roots : (List TJVal)} {h_ : (List TJCell)} {K0_ : (List Int) → Option Twalker} {k : Nat} {w1 : (List Int)} {v19 : Int} {v20 : Int} {zw1 : Bool} (hzw1 : zw1 = true → w1 = []) {o : Twalker} (h : heap_walked_l0 roots h_ K0_ k w1 v19 v20 = some o)
    (hK0 : heap_walked_l0_E0 roots h_ K0_ o (Q (.exit 0)))
    (hr : ∀ s, Ends a50.results 0 (heap_walked_post o) .ret s → Q .ret s) :
    Sv Try.prog Γ 0 (.loop a50_c0) Q ⟨(upd (upd (upd (upd (fun _ => none) 1 (some (.c (.ro false 3 (roots.map e_TJVal))))) 5 (some (.c (.ref 0 3 0 0)))) 19 (some (I v19))) 20 (some (I v20))), (upd (upd (fun _ => none) 0 (some (.cells 3 [[.ro false 3 (h_.map e_TJCell), lstC zw1 1 1 w1.length, .ro true 1 []]]))) 1 (lstB zw1 1 (w1.map eI))), 2⟩ := by
  refine Sv.loop (I := heap_walked_l0_I roots h_ (heap_walked_l0 roots h_ K0_) o) (fun k s hI => ?_) ⟨w1, v19, v20, zw1, hzw1, h, rfl⟩
  clear h
  clear hzw1 zw1 v20 v19 w1
  obtain ⟨w1, v19, v20, zw1, hzw1, h, rfl⟩ := hI
  cases k with
  | zero => cases h
  | succ k =>
  rw [heap_walked_l0] at h
  have hself : heap_walked_l0_H roots h_ (heap_walked_l0 roots h_ K0_ k) o (rnd 0 (heap_walked_l0_I roots h_ (heap_walked_l0 roots h_ K0_) o) k Q) := fun w1 v19 v20 zw1 hzw1 h s hw => ⟨_, k, hw, Nat.lt_succ_self k, w1, v19, v20, zw1, hzw1, h, rfl⟩
  refine Sv.seq ?_
  refine Sv.region ?_
  refine un (a1 (v := (B (decide (v20 < v19)))) rfl ?_)
  refine dnil ?_
  refine Sv.seq ?_
  refine Sv.cond (b := decide (v20 < v19)) rfl (fun hc1 => ?_) (fun hc1 => ?_)
  · replace h := ifT hc1 h
    refine Sv.skip ?_
    refine Sv.seq ?_
    refine Sv.block ?_
    refine Sv.seq ?_
    refine Sv.region ?_
    refine un (a1 rfl ?_)
    refine un (a1 rfl ?_)
    refine dnil ?_
    refine Sv.region ?_
    refine un (a1 rfl ?_)
    refine un (a1 (v := (.c (.ref 0 3 0 0))) rfl ?_)
    refine un (a1 (v := (.c (.ref 0 3 0 1))) rfl ?_)
    refine un (a1 (v := (lstV zw1 1 1 w1.length)) rfl ?_)
    refine un (a1 rfl ?_)
    obtain ⟨x_, hx2, h⟩ := bnd h
    refine un (a1 (v := (.c (.ref 1 1 v20.toNat 0))) (s_iaddrL rfl rfl hzw1 hx2) ?_)
    refine un (a2n (h' := upd _ 1 (lstB zw1 1 ((w1.set v20.toNat (-1)).map eI))) (n' := 2) rfl (s_storeL (e := eI) (q' := (-1)) rfl rfl hzw1 hx2 rfl rfl rfl (Nat.le_of_ble_eq_true rfl) rfl) (fun h => by cases h) ?_)
    try rw [len_set w1 v20.toNat (-1)]
    refine dnil ?_
    refine Sv.region ?_
    refine un (a1 (v := (I (wi (v20 + 1)))) rfl ?_)
    refine un (a1 rfl ?_)
    refine dnil ?_
    exact hself (w1.set v20.toNat (-1)) v19 (wi (v20 + 1)) zw1 (hz_len hzw1 (len_set w1 v20.toNat (-1))) h _ (weak_canon [0, 1] rfl (by decide) (by decide) (fun b h => absurd h (Nat.not_lt_zero _)) (.cons rfl (avAs_free rfl) (.cons rfl (avAs_free rfl) (.cons rfl (.c (.ref rfl (by decide))) (.cons rfl (avAs_free rfl) .nil)))) (.row (by decide) rfl (fr_map fun _ => rfl) (.box (by decide) rfl (blkAs_cells (.cons (.same rfl) (.cons (lstC_ren rfl (by decide)) (.cons (.same rfl) .nil)))) .nil)))
  · replace h := ifF hc1 h
    refine Sv.exit ?_
    exact hK0 w1 zw1 hzw1 h _ (weak_canon [0, 1] rfl (by decide) (by decide) (fun b h => absurd h (Nat.not_lt_zero _)) (.cons rfl (.c (.ref rfl (by decide))) (.cons rfl (avAs_free rfl) .nil)) (.row (by decide) rfl (fr_map fun _ => rfl) (.box (by decide) rfl (blkAs_cells (.cons (.same rfl) (.cons (lstC_ren rfl (by decide)) (.cons (.same rfl) .nil)))) .nil)))
abbrev heap_walked_l1_E2 (F_ : (List TJCell) → (List Int) → (List Int) → Option Twalker) (o : Twalker) (R_ : St → Prop) : Prop := ∀ (w01 : (List TJCell)) (w13 : (List Int)) (w21 : (List Int)) (zw13 : Bool) (_ : zw13 = true → w13 = []) (zw21 : Bool) (_ : zw21 = true → w21 = []), F_ w01 w13 w21 = some o → ∀ s, Weak 0 s ⟨(upd (fun _ => none) 5 (some (.c (.ref 0 3 0 0)))), (upd (upd (upd (fun _ => none) 0 (some (.cells 3 [[.ro false 3 (w01.map e_TJCell), lstC zw13 1 1 w13.length, lstC zw21 2 1 w21.length]]))) 1 (lstB zw13 1 (w13.map eI))) 2 (lstB zw21 1 (w21.map eI))), 3⟩ → R_ s
abbrev heap_walked_l1_I (roots : (List TJVal)) (F_ : Nat → (List TJCell) → (List Int) → (List Int) → Int → Option Twalker) (o : Twalker) : Nat → St → Prop := fun k s => ∃ (w0 : (List TJCell)), ∃ (w12 : (List Int)), ∃ (w2 : (List Int)), ∃ (v32 : Int), ∃ (zw12 : Bool), (zw12 = true → w12 = []) ∧ ∃ (zw2 : Bool), (zw2 = true → w2 = []) ∧ F_ k w0 w12 w2 v32 = some o ∧ s = ⟨(upd (upd (upd (upd (fun _ => none) 5 (some (.c (.ref 0 3 0 0)))) 30 (some (.c (.ro false 3 (roots.map e_TJVal))))) 31 (some (I (roots.length : Int)))) 32 (some (I v32))), (upd (upd (upd (fun _ => none) 0 (some (.cells 3 [[.ro false 3 (w0.map e_TJCell), lstC zw12 1 1 w12.length, lstC zw2 2 1 w2.length]]))) 1 (lstB zw12 1 (w12.map eI))) 2 (lstB zw2 1 (w2.map eI))), 3⟩
abbrev heap_walked_l1_H (roots : (List TJVal)) (F_ : (List TJCell) → (List Int) → (List Int) → Int → Option Twalker) (o : Twalker) (R_ : St → Prop) : Prop := ∀ (w0 : (List TJCell)) (w12 : (List Int)) (w2 : (List Int)) (v32 : Int) (zw12 : Bool) (_ : zw12 = true → w12 = []) (zw2 : Bool) (_ : zw2 = true → w2 = []), F_ w0 w12 w2 v32 = some o → ∀ s, Weak 0 s ⟨(upd (upd (upd (upd (fun _ => none) 5 (some (.c (.ref 0 3 0 0)))) 30 (some (.c (.ro false 3 (roots.map e_TJVal))))) 31 (some (I (roots.length : Int)))) 32 (some (I v32))), (upd (upd (upd (fun _ => none) 0 (some (.cells 3 [[.ro false 3 (w0.map e_TJCell), lstC zw12 1 1 w12.length, lstC zw2 2 1 w2.length]]))) 1 (lstB zw12 1 (w12.map eI))) 2 (lstB zw2 1 (w2.map eI))), 3⟩ → R_ s
noncomputable def heap_walked_l1 (roots : (List TJVal)) (K2_ : (List TJCell) → (List Int) → (List Int) → Option Twalker) : Nat → (List TJCell) → (List Int) → (List Int) → Int → Option Twalker
  | 0, _, _, _, _ => none
  | k + 1, w0, w12, w2, v32 =>
    if decide (v32 < (roots.length : Int)) then
      (at? roots v32).bind fun x_1 =>
      (clerestory_heap_walker_come (⟨w0, w12, w2⟩ : Twalker) x_1).bind fun r_ =>
      (heap_walked_l1 roots K2_ k) r_.f_h r_.f_to r_.f_all (wi (v32 + 1))
    else
      K2_ w0 w12 w2
theorem heap_walked_l1_ok {Γ : Glob} {Q : AExit → St → Prop} {roots : (List TJVal)} {K2_ : (List TJCell) → (List Int) → (List Int) → Option Twalker} {k : Nat} {w0 : (List TJCell)} {w12 : (List Int)} {w2 : (List Int)} {v32 : Int} {zw12 : Bool} (hzw12 : zw12 = true → w12 = []) {zw2 : Bool} (hzw2 : zw2 = true → w2 = []) {o : Twalker} (h : heap_walked_l1 roots K2_ k w0 w12 w2 v32 = some o)
    (hK2 : heap_walked_l1_E2 K2_ o (Q (.exit 2)))
    (hr : ∀ s, Ends a50.results 0 (heap_walked_post o) .ret s → Q .ret s) :
    Sv Try.prog Γ 0 (.loop a50_c1) Q ⟨(upd (upd (upd (upd (fun _ => none) 5 (some (.c (.ref 0 3 0 0)))) 30 (some (.c (.ro false 3 (roots.map e_TJVal))))) 31 (some (I (roots.length : Int)))) 32 (some (I v32))), (upd (upd (upd (fun _ => none) 0 (some (.cells 3 [[.ro false 3 (w0.map e_TJCell), lstC zw12 1 1 w12.length, lstC zw2 2 1 w2.length]]))) 1 (lstB zw12 1 (w12.map eI))) 2 (lstB zw2 1 (w2.map eI))), 3⟩ := by
  refine Sv.loop (I := heap_walked_l1_I roots (heap_walked_l1 roots K2_) o) (fun k s hI => ?_) ⟨w0, w12, w2, v32, zw12, hzw12, zw2, hzw2, h, rfl⟩
  clear h
  clear hzw2 hzw12 zw2 zw12 v32 w2 w12 w0
  obtain ⟨w0, w12, w2, v32, zw12, hzw12, zw2, hzw2, h, rfl⟩ := hI
  cases k with
  | zero => cases h
  | succ k =>
  rw [heap_walked_l1] at h
  have hself : heap_walked_l1_H roots (heap_walked_l1 roots K2_ k) o (rnd 0 (heap_walked_l1_I roots (heap_walked_l1 roots K2_) o) k Q) := fun w0 w12 w2 v32 zw12 hzw12 zw2 hzw2 h s hw => ⟨_, k, hw, Nat.lt_succ_self k, w0, w12, w2, v32, zw12, hzw12, zw2, hzw2, h, rfl⟩
  refine Sv.seq ?_
  refine Sv.region ?_
  refine un (a1 (v := (B (decide (v32 < (roots.length : Int))))) rfl ?_)
  refine dnil ?_
  refine Sv.seq ?_
  refine Sv.cond (b := decide (v32 < (roots.length : Int))) rfl (fun hc2 => ?_) (fun hc2 => ?_)
  · replace h := ifT hc2 h
    refine Sv.skip ?_
    refine Sv.seq ?_
    refine Sv.block ?_
    refine Sv.seq ?_
    refine Sv.region ?_
    obtain ⟨x_1, hx3, h⟩ := bnd h
    refine un (a1 (v := (.c (.rop [cI x_1.Kind, cI x_1.N, .str x_1.S]))) (s_iaddr (e := e_TJVal) (xs := roots) rfl rfl hx3) ?_)
    refine un (a1 (v := (.agg [cI x_1.Kind, cI x_1.N, .str x_1.S])) rfl ?_)
    refine un (a2v (v := (.c (.ref 3 3 0 0))) (h' := upd _ 3 (some (.cells 3 [[cI 0, cI 0, .str []]]))) (n' := 4) rfl rfl (fun h => by cases h) ?_)
    refine un (a2n (h' := upd _ 3 (some (.cells 3 [[cI x_1.Kind, cI x_1.N, .str x_1.S]]))) (n' := 4) rfl rfl (fun h => by cases h) ?_)
    refine dnil ?_
    refine Sv.region ?_
    refine un (a1 rfl ?_)
    refine un (a1 (v := (.agg [cI x_1.Kind, cI x_1.N, .str x_1.S])) rfl ?_)
    obtain ⟨r_, hr1, h⟩ := bnd h
    refine un (ac_gen (bs := [0, 1, 2]) («as» := [(.c (.ref 0 3 0 0)), (.agg [cI x_1.Kind, cI x_1.N, .str x_1.S])]) (h2 := _) (h1 := (upd (upd (upd (fun _ => none) 0 (some (.cells 3 [[.ro false 3 (w0.map e_TJCell), lstC zw12 1 1 w12.length, lstC zw2 2 1 w2.length]]))) 1 (lstB zw12 1 (w12.map eI))) 2 (lstB zw2 1 (w2.map eI)))) (clerestory_heap_walker_come_ok hzw12 hzw2 hr1) rfl (.cons (.c (.ref rfl (by decide))) (.cons (avAs_free rfl) .nil)) (hsub_refl _) (.cons rfl (.cons rfl (.cons rfl (.nil _)))) (fun h => by cases h) (by decide) (by decide) (.cons (.c (.ref rfl (by decide))) (.cons (avAs_free rfl) .nil)) (.row (by decide) rfl (fr_map fun _ => rfl) (.row (by decide) rfl (fr_map fun _ => rfl) (.box (by decide) rfl (blkAs_cells (.cons (.same rfl) (.cons (lstC_ren rfl (by decide)) (.cons (lstC_ren rfl (by decide)) .nil)))) .nil))) ?_)
    rintro _ _ _ hn ⟨z_, hz_, z_1, hz_1, rfl, rfl, rfl⟩
    refine ⟨.inl rfl, (upd (upd (upd (rem [0, 1, 2] _) 0 (some (.cells 3 [[.ro false 3 (r_.f_h.map e_TJCell), lstC z_ 4 1 r_.f_to.length, lstC z_1 5 1 r_.f_all.length]]))) 4 (lstB z_ 1 (r_.f_to.map eI))) 5 (lstB z_1 1 (r_.f_all.map eI))), fun hbd => (m3_cons (m3_row rfl (fr_map fun _ => rfl)) (m3_cons (m3_row rfl (fr_map fun _ => rfl)) (m3_cons (m3_box rfl (by cases z_ <;> cases z_1 <;> rfl)) (m3_rem (in_cons (by decide) (in_cons (by decide) (in_cons (by decide) (in_nil _)))) (.cons (by decide) (.cons (by decide) (.cons (by decide) .nil))) hbd)))), (.tup []), 6, (by cases z_ <;> cases z_1 <;> rfl), rfl, ?_⟩
    refine dnil ?_
    refine Sv.region ?_
    refine un (a1 (v := (I (wi (v32 + 1)))) rfl ?_)
    refine un (a1 rfl ?_)
    refine dnil ?_
    exact hself r_.f_h r_.f_to r_.f_all (wi (v32 + 1)) z_ hz_ z_1 hz_1 h _ (weak_canon [0, 4, 5] rfl (by decide) (by decide) (fun b h => absurd h (Nat.not_lt_zero _)) (.cons rfl (avAs_free rfl) (.cons rfl (avAs_free rfl) (.cons rfl (avAs_free rfl) (.cons rfl (.c (.ref rfl (by decide))) .nil)))) (.row (by decide) rfl (fr_map fun _ => rfl) (.row (by decide) rfl (fr_map fun _ => rfl) (.box (by decide) rfl (blkAs_cells (.cons (.same rfl) (.cons (lstC_ren rfl (by decide)) (.cons (lstC_ren rfl (by decide)) .nil)))) .nil))))
  · replace h := ifF hc2 h
    refine Sv.exit ?_
    exact hK2 w0 w12 w2 zw12 hzw12 zw2 hzw2 h _ (weak_canon [0, 1, 2] rfl (by decide) (by decide) (fun b h => absurd h (Nat.not_lt_zero _)) (.cons rfl (.c (.ref rfl (by decide))) .nil) (.row (by decide) rfl (fr_map fun _ => rfl) (.row (by decide) rfl (fr_map fun _ => rfl) (.box (by decide) rfl (blkAs_cells (.cons (.same rfl) (.cons (lstC_ren rfl (by decide)) (.cons (lstC_ren rfl (by decide)) .nil)))) .nil))))
/-- clerestory/heap.walked -/
noncomputable def heap_walked (h_ : (List TJCell)) (roots : (List TJVal)) : Option Twalker :=
  (mkl? 8 (h_.length : Int) (h_.length : Int) (0 : Int)).bind fun row =>
  lim fun kk1 => heap_walked_l0 roots h_ (fun (w11 : (List Int)) => 
      lim fun kk => heap_walked_l1 roots (fun (w01 : (List TJCell)) (w13 : (List Int)) (w21 : (List Int)) => 
          some (⟨w01, w13, w21⟩ : Twalker)) kk h_ w11 ([] : List Int) 0) kk1 row (row.length : Int) 0
theorem heap_walked_ok {Γ : Glob} {h_ : (List TJCell)} {roots : (List TJVal)} {r : Twalker} (h : heap_walked h_ roots = some r) : ACalls Try.prog Γ 50 [(.c (.ro false 3 (h_.map e_TJCell))), (.c (.ro false 3 (roots.map e_TJVal)))] (fun _ => none) 0 (heap_walked_post r) := by
  refine acalls_of_sv hmix c50 (R := heap_walked_post r) ?_
  unfold heap_walked at h
  refine Sv.seq ?_
  refine Sv.region ?_
  refine un (a1 rfl ?_)
  refine dnil ?_
  refine Sv.seq ?_
  refine Sv.region ?_
  refine un (a1 rfl ?_)
  refine un (a1 rfl ?_)
  refine un (a1 (v := (I (h_.length : Int))) (s_len (e := e_TJCell) (xs := h_) rfl) ?_)
  obtain ⟨row, hx1, h⟩ := bnd h
  refine un (a2mk (e := eI) rfl rfl hx1 (fun _ _ => (.cons (.same rfl) .nil)) ?_)
  refine un (a1 (v := (.agg [.ro false 3 (h_.map e_TJCell), lstC false 0 1 row.length, .ro true 1 []])) rfl ?_)
  refine un (a2v (v := (.c (.ref 1 3 0 0))) (h' := upd _ 1 (some (.cells 3 [[.ro false 3 (h_.map e_TJCell), lstC false 0 1 row.length, .ro true 1 []]]))) (n' := 2) rfl rfl (fun h => by cases h) ?_)
  refine un (a1 rfl ?_)
  refine dnil ?_
  refine Sv.seq ?_
  refine Sv.seq ?_
  refine Sv.region ?_
  refine un (a1 rfl ?_)
  refine un (a1 (v := (.c (.ref 1 3 0 0))) rfl ?_)
  refine un (a1 (v := (.c (.ref 1 3 0 1))) rfl ?_)
  refine un (a1 (v := (lstV false 0 1 row.length)) rfl ?_)
  refine un (a1 (v := (I (row.length : Int))) (s_lenL rfl (len_nil_of (fun h => by cases h))) ?_)
  refine un (a1 rfl ?_)
  refine dnil ?_
  refine Sv.block ?_
  obtain ⟨kk1, h⟩ := lim_some h
  refine Sv.weak (weak_canon [1, 0] rfl (by decide) (by decide) (fun b h => absurd h (Nat.not_lt_zero _)) (.cons rfl (avAs_free rfl) (.cons rfl (avAs_free rfl) (.cons rfl (.c (.ref rfl (by decide))) (.cons rfl (avAs_free rfl) .nil)))) (.row (by decide) rfl (fr_map fun _ => rfl) (.box (by decide) rfl (blkAs_cells (.cons (.same rfl) (.cons (lstC_ren rfl (by decide)) (.cons (.same rfl) .nil)))) .nil))) (heap_walked_l0_ok (fun h => by cases h) h ?_ (fun s hs => hs))
  · intro w11 zw11 hzw11 h _ hw1
    refine Sv.weak hw1 ?_
    refine Sv.seq ?_
    refine Sv.seq ?_
    refine Sv.region ?_
    refine un (a1 rfl ?_)
    refine un (a1 (v := (I (roots.length : Int))) (s_len (e := e_TJVal) (xs := roots) rfl) ?_)
    refine un (a1 rfl ?_)
    refine dnil ?_
    refine Sv.block ?_
    obtain ⟨kk, h⟩ := lim_some h
    refine Sv.weak (weak_canon [0, 1, 1000] rfl (by decide) (by decide) (fun b h => absurd h (Nat.not_lt_zero _)) (.cons rfl (avAs_free rfl) (.cons rfl (avAs_free rfl) (.cons rfl (avAs_free rfl) (.cons rfl (.c (.ref rfl (by decide))) .nil)))) (.non (by decide) (.row (by decide) rfl (fr_map fun _ => rfl) (.box (by decide) rfl (blkAs_cells (.cons (.same rfl) (.cons (lstC_ren rfl (by decide)) (.cons (.same rfl) .nil)))) .nil)))) (heap_walked_l1_ok hzw11 (fun _ => rfl) h ?_ (fun s hs => hs))
    · intro w01 w13 w21 zw13 hzw13 zw21 hzw21 h _ hw2
      refine Sv.weak hw2 ?_
      refine Sv.seq ?_
      refine Sv.region ?_
      refine un (a1 rfl ?_)
      refine un (a1 rfl ?_)
      refine dnil ?_
      refine Sv.ret ?_
      replace h := Option.some.inj h
      subst h
      exact ⟨_, .refl _, _, rfl, ⟨upd (fun _ => none) 0 (some (.c (.ref 2 3 0 0))), (upd (upd (upd (fun _ => none) 0 (lstB zw13 1 (w13.map eI))) 1 (lstB zw21 1 (w21.map eI))) 2 (some (.cells 3 [[.ro false 3 (w01.map e_TJCell), lstC zw13 0 1 w13.length, lstC zw21 1 1 w21.length]]))), 3⟩, (.c (.ref 2 3 0 0)), weak_canon2 [1, 2, 0] [0, 1, 2] (by decide) (by decide) (fun b h => absurd h (Nat.not_lt_zero _)) (.cons (by decide) (.cons (by decide) (.cons (by decide) .nil))) (.cons rfl (.c (.ref rfl (by decide))) .nil) (.box (by decide) rfl (blkAs_cells (.cons (.same rfl) (.cons (lstC_ren rfl (by decide)) (.cons (lstC_ren rfl (by decide)) .nil)))) (.row (by decide) rfl (fr_map fun _ => rfl) (.row (by decide) rfl (fr_map fun _ => rfl) .nil))), rfl, zw13, hzw13, zw21, hzw21, rfl, rfl, rfl⟩
noncomputable abbrev slices_Sort_int (x_ : List Int) : Option (List Int) := sort? x_
theorem slices_Sort_int_ok {Γ : Glob} {x_ r : List Int} {zx : Bool} (hzx : zx = true → x_ = []) (h : slices_Sort_int x_ = some r) : ACalls Try.prog Γ 51 [(lstV zx 0 1 x_.length)] (upd (fun _ => none) 0 (lstB zx 1 (x_.map eI))) 1 (fun v h' n' => v = (.tup []) ∧ (h' = (upd (fun _ => none) 0 (lstB zx 1 (r.map eI)))) ∧ n' = 1) := sort_ok hzx h
def a19 : AFunc := ⟨2, [(.tmp 4), (.tmp 5)], (.seq (.region [⟨(some 4), (.mov (.const (.c (.ro true 1 [])))), none⟩, ⟨(some 5), (.mov (.const (.c (.val (.int .i64 0))))), none⟩])
 (.seq (.seq (.region [⟨(some 8), (.mov (.tmp 0)), none⟩, ⟨(some 9), (.mov (.tmp 1)), none⟩, ⟨(some 10), (.call 49 [(.tmp 8), (.tmp 9)]), none⟩, ⟨(some 6), (.mov (.tmp 10)), none⟩])
 (.seq (.region [⟨(some 11), (.mov (.tmp 6)), none⟩, ⟨(some 12), (.bin .neq (.tmp 11) (.const (.c (.val (.int .i64 0))))), none⟩])
 (.cond (.tmp 12) (.seq (.region [⟨(some 13), (.mov (.tmp 6)), none⟩, ⟨(some 4), (.mov (.const (.c (.ro true 1 [])))), none⟩, ⟨(some 5), (.mov (.tmp 13)), none⟩])
 .ret) .skip)))
 (.seq (.region [⟨(some 14), (.mov (.tmp 0)), none⟩, ⟨(some 15), (.mov (.tmp 1)), none⟩, ⟨(some 16), (.call 50 [(.tmp 14), (.tmp 15)]), none⟩, ⟨(some 17), (.nilc (.tmp 16)), none⟩, ⟨(some 18), (.faddr 2 (.tmp 17)), none⟩, ⟨(some 19), (.load false 1 (.tmp 18)), none⟩, ⟨(some 7), (.mov (.tmp 19)), none⟩])
 (.seq (.region [⟨(some 20), (.mov (.tmp 7)), none⟩, ⟨(some 21), (.call 51 [(.tmp 20)]), none⟩])
 (.seq (.region [⟨(some 22), (.mov (.tmp 7)), none⟩, ⟨(some 4), (.mov (.tmp 22)), none⟩, ⟨(some 5), (.mov (.const (.c (.val (.int .i64 0))))), none⟩])
 .ret)))))⟩
set_option maxRecDepth 100000 in
theorem c19 : compFunc Try.prog 19 = some a19 := by kernel_rfl
def heap_Reach_post (r : ((List Int) × Int)) : AV → Heap → Nat → Prop := fun v h' n' => ∃ z0 : Bool, (z0 = true → r.1 = []) ∧ v = (.tup [(lstV z0 0 1 r.1.length), (I r.2)]) ∧ (h' = (upd (fun _ => none) 0 (lstB z0 1 (r.1.map eI)))) ∧ n' = 1
/-- clerestory/heap.Reach -/
noncomputable def heap_Reach (h_ : (List TJCell)) (roots : (List TJVal)) : Option ((List Int) × Int) :=
  (heap_asked h_ roots).bind fun r_ =>
  if (!decide (r_ = 0)) then
    some (([] : List Int), r_)
  else
    (heap_walked h_ roots).bind fun r_1 =>
    (slices_Sort_int r_1.f_all).bind fun r_2 =>
    guardLen r_1.f_all r_2 <|
    some (r_2, 0)
theorem heap_Reach_ok {Γ : Glob} {h_ : (List TJCell)} {roots : (List TJVal)} {r : ((List Int) × Int)} (h : heap_Reach h_ roots = some r) : ACalls Try.prog Γ 19 [(.c (.ro false 3 (h_.map e_TJCell))), (.c (.ro false 3 (roots.map e_TJVal)))] (fun _ => none) 0 (heap_Reach_post r) := by
  refine acalls_of_sv hmix c19 (R := heap_Reach_post r) ?_
  unfold heap_Reach at h
  refine Sv.seq ?_
  refine Sv.region ?_
  refine un (a1 rfl ?_)
  refine un (a1 rfl ?_)
  refine dnil ?_
  refine Sv.seq ?_
  refine Sv.seq ?_
  refine Sv.region ?_
  refine un (a1 rfl ?_)
  refine un (a1 rfl ?_)
  obtain ⟨r_, hr1, h⟩ := bnd h
  refine un (ac_pure (heap_asked_ok hr1) rfl rfl rfl ?_)
  refine un (a1 rfl ?_)
  refine dnil ?_
  refine Sv.seq ?_
  refine Sv.region ?_
  refine un (a1 rfl ?_)
  refine un (a1 (v := (B (!decide (r_ = 0)))) rfl ?_)
  refine dnil ?_
  refine Sv.cond (b := (!decide (r_ = 0))) rfl (fun hc1 => ?_) (fun hc1 => ?_)
  · replace h := ifT hc1 h
    refine Sv.seq ?_
    refine Sv.region ?_
    refine un (a1 rfl ?_)
    refine un (a1 rfl ?_)
    refine un (a1 rfl ?_)
    refine dnil ?_
    refine Sv.ret ?_
    replace h := Option.some.inj h
    subst h
    exact ⟨_, .refl _, _, rfl, ⟨upd (fun _ => none) 0 (some (.tup [(lstV true 0 1 ([] : List Int).length), (I r_)])), (upd (fun _ => none) 0 (lstB true 1 (([] : List Int).map eI))), 1⟩, (.tup [(lstV true 0 1 ([] : List Int).length), (I r_)]), weak_canon2 [1000] [0] (by decide) (by decide) (fun b h => absurd h (Nat.not_lt_zero _)) (.cons (by decide) .nil) (.cons rfl (avAs_tup (.cons (.c (.same rfl)) (.cons (avAs_free rfl) .nil))) .nil) (.non (by decide) .nil), rfl, true, (fun _ => rfl), rfl, rfl, rfl⟩
  · replace h := ifF hc1 h
    refine Sv.skip ?_
    refine Sv.seq ?_
    refine Sv.region ?_
    refine un (a1 rfl ?_)
    refine un (a1 rfl ?_)
    obtain ⟨r_1, hr2, h⟩ := bnd h
    refine un (ac_gen (bs := []) («as» := [(.c (.ro false 3 (h_.map e_TJCell))), (.c (.ro false 3 (roots.map e_TJVal)))]) (h2 := _) (h1 := (fun _ => none)) (heap_walked_ok hr2) rfl (.cons (avAs_free rfl) (.cons (avAs_free rfl) .nil)) (hsub_refl _) (.nil _) (fun _ => rfl) (by decide) (by decide) (.cons (avAs_free rfl) (.cons (avAs_free rfl) .nil)) .nil ?_)
    rintro _ _ _ hn ⟨z_, hz_, z_1, hz_1, rfl, rfl, rfl⟩
    refine ⟨.inl rfl, (upd (upd (upd (rem [] _) 0 (lstB z_ 1 (r_1.f_to.map eI))) 1 (lstB z_1 1 (r_1.f_all.map eI))) 2 (some (.cells 3 [[.ro false 3 (r_1.f_h.map e_TJCell), lstC z_ 0 1 r_1.f_to.length, lstC z_1 1 1 r_1.f_all.length]]))), fun hbd => (m3_cons (m3_box rfl (by cases z_ <;> cases z_1 <;> rfl)) (m3_cons (m3_row rfl (fr_map fun _ => rfl)) (m3_cons (m3_row rfl (fr_map fun _ => rfl)) (m3_rem (in_nil _) (.cons (by decide) (.cons (by decide) (.cons (by decide) .nil))) hbd)))), (.c (.ref 2 3 0 0)), 3, (by cases z_ <;> cases z_1 <;> rfl), rfl, ?_⟩
    refine un (a1 (v := (.c (.ref 2 3 0 0))) rfl ?_)
    refine un (a1 (v := (.c (.ref 2 3 0 2))) rfl ?_)
    refine un (a1 (v := (lstV z_1 1 1 r_1.f_all.length)) rfl ?_)
    refine un (a1 rfl ?_)
    refine dnil ?_
    refine Sv.seq ?_
    refine Sv.region ?_
    refine un (a1 rfl ?_)
    obtain ⟨r_2, hr3, h⟩ := bnd h
    refine un (ac_gen (bs := [1]) («as» := [(lstV z_1 1 1 r_1.f_all.length)]) (h2 := _) (h1 := (upd (fun _ => none) 1 (lstB z_1 1 (r_1.f_all.map eI)))) (slices_Sort_int_ok hz_1 hr3) rfl (.cons (.c (lstC_ren rfl (by decide))) .nil) (hsub_refl _) (.cons rfl (.nil _)) (fun h => by cases h) (by decide) (by decide) (.cons (.c (lstC_ren rfl (by decide))) .nil) (.row (by decide) rfl (fr_map fun _ => rfl) .nil) ?_)
    rintro _ _ _ hn ⟨rfl, rfl, rfl⟩
    refine ⟨.inl rfl, (upd (rem [1] _) 1 (lstB z_1 1 (r_2.map eI))), fun hbd => (m3_cons (m3_row rfl (fr_map fun _ => rfl)) (m3_rem (in_cons (by decide) (in_nil _)) (.cons (by decide) .nil) hbd)), (.tup []), 3, rfl, rfl, ?_⟩
    obtain ⟨hlen, h⟩ := guard_some h
    try rw [hlen]
    refine dnil ?_
    refine Sv.seq ?_
    refine Sv.region ?_
    refine un (a1 rfl ?_)
    refine un (a1 rfl ?_)
    refine un (a1 rfl ?_)
    refine dnil ?_
    refine Sv.ret ?_
    replace h := Option.some.inj h
    subst h
    exact ⟨_, .refl _, _, rfl, ⟨upd (fun _ => none) 0 (some (.tup [(lstV z_1 0 1 r_2.length), (I 0)])), (upd (fun _ => none) 0 (lstB z_1 1 (r_2.map eI))), 1⟩, (.tup [(lstV z_1 0 1 r_2.length), (I 0)]), weak_canon2 [1] [0] (by decide) (by decide) (fun b h => absurd h (Nat.not_lt_zero _)) (.cons (by decide) .nil) (.cons rfl (avAs_tup (.cons (.c (lstC_ren rfl (by decide))) (.cons (avAs_free rfl) .nil))) .nil) (.row (by decide) rfl (fr_map fun _ => rfl) .nil), rfl, z_1, (hz_len hz_1 hlen), rfl, rfl, rfl⟩
def a80 : AFunc := ⟨1, [(.tmp 2)], (.seq (.region [⟨(some 2), (.mov (.const (.c (.ro true 1 [])))), none⟩])
 (.seq (.seq (.region [⟨(some 3), (.mov (.tmp 0)), none⟩, ⟨(some 4), (.eqn false (.tmp 3)), none⟩])
 (.cond (.tmp 4) (.seq (.region [⟨(some 2), (.mov (.const (.c (.ro true 1 [])))), none⟩])
 .ret) .skip))
 (.seq (.region [⟨(some 5), (.bslice 1 [(.str [])] 0 []), none⟩, ⟨(some 6), (.mov (.tmp 0)), none⟩, ⟨(some 7), (.app 1 16 (.tmp 5) (.tmp 6)), none⟩, ⟨(some 2), (.mov (.tmp 7)), none⟩])
 .ret)))⟩
set_option maxRecDepth 100000 in
theorem c80 : compFunc Try.prog 80 = some a80 := by kernel_rfl
def slices_Clone_string_post (r : (List (List UInt8))) : AV → Heap → Nat → Prop := fun v h' n' => ∃ z0 : Bool, (z0 = true → r = []) ∧ v = (lstV z0 0 1 r.length) ∧ (h' = (upd (fun _ => none) 0 (lstB z0 1 (r.map eStr)))) ∧ n' = 1
/-- slices.Clone(()string,string) -/
noncomputable def slices_Clone_string (s_ : (List (List UInt8))) : Option (List (List UInt8)) :=
  (app? 16 ([] : List (List UInt8)) s_).bind fun r_ =>
  some r_
theorem slices_Clone_string_ok {Γ : Glob} {s_ : (List (List UInt8))} {r : (List (List UInt8))} (h : slices_Clone_string s_ = some r) : ACalls Try.prog Γ 80 [(.c (.ro false 1 (s_.map eStr)))] (fun _ => none) 0 (slices_Clone_string_post r) := by
  refine acalls_of_sv hmix c80 (R := slices_Clone_string_post r) ?_
  unfold slices_Clone_string at h
  refine Sv.seq ?_
  refine Sv.region ?_
  refine un (a1 rfl ?_)
  refine dnil ?_
  refine Sv.seq ?_
  refine Sv.seq ?_
  refine Sv.region ?_
  refine un (a1 rfl ?_)
  refine un (a1n (e := eStr) (xs := s_) rfl (fun hn1 => ?_) ?_)
  · replace h : (some ([] : List (List UInt8))) = some r := by rw [hn1] at h; exact h
    refine dnil ?_
    refine Sv.condT rfl ?_
    refine Sv.seq ?_
    refine Sv.region ?_
    refine un (a1 rfl ?_)
    refine dnil ?_
    refine Sv.ret ?_
    replace h := Option.some.inj h
    subst h
    exact ⟨_, .refl _, _, rfl, ⟨upd (fun _ => none) 0 (some (lstV true 0 1 ([] : List (List UInt8)).length)), (upd (fun _ => none) 0 (lstB true 1 (([] : List (List UInt8)).map eStr))), 1⟩, (lstV true 0 1 ([] : List (List UInt8)).length), weak_canon2 [1000] [0] (by decide) (by decide) (fun b h => absurd h (Nat.not_lt_zero _)) (.cons (by decide) .nil) (.cons rfl (.c (.same rfl)) .nil) (.non (by decide) .nil), rfl, true, (fun _ => rfl), rfl, rfl, rfl⟩
  · refine dnil ?_
    refine Sv.condF rfl ?_
    refine Sv.skip ?_
    refine Sv.seq ?_
    refine Sv.region ?_
    refine un (a2v (v := (lstV false 0 1 ([] : List (List UInt8)).length)) (h' := upd _ 0 (lstB false 1 (([] : List (List UInt8)).map eStr))) (n' := 1) rfl rfl (fun h => by cases h) ?_)
    refine un (a1 rfl ?_)
    obtain ⟨r_, hr1, h⟩ := bnd h
    have hz1 : (false && s_.isEmpty) = true → r_ = [] := app_nil (z := false) (ys := s_) (fun h => by cases h) hr1
    replace hz1 : false = true → r_ = [] := hz1
    refine un (a2v rfl (s_app (xs := ([] : List (List UInt8))) (ys := s_) (e := eStr) (z := false) (b := 0) rfl rfl (fun h => by cases h) rfl rfl (slc_ro) hr1) (fun h => by cases h) ?_)
    refine un (a1 rfl ?_)
    refine dnil ?_
    refine Sv.ret ?_
    replace h := Option.some.inj h
    subst h
    exact ⟨_, .refl _, _, rfl, ⟨upd (fun _ => none) 0 (some (lstV false 0 1 r_.length)), (upd (fun _ => none) 0 (lstB false 1 (r_.map eStr))), 1⟩, (lstV false 0 1 r_.length), weak_canon2 [1] [0] (by decide) (by decide) (fun b h => absurd h (Nat.not_lt_zero _)) (.cons (by decide) .nil) (.cons rfl (.c (lstC_ren rfl (by decide))) .nil) (.row (by decide) rfl (fr_map fun _ => rfl) .nil), rfl, false, hz1, rfl, rfl, rfl⟩
def a56 : AFunc := ⟨1, [(.tmp 2)], (.seq (.region [⟨(some 2), (.mov (.const (.c (.ro true 3 [])))), none⟩])
 (.seq (.seq (.region [⟨(some 3), (.mov (.tmp 0)), none⟩, ⟨(some 4), (.eqn false (.tmp 3)), none⟩])
 (.cond (.tmp 4) (.seq (.region [⟨(some 2), (.mov (.const (.c (.ro true 3 [])))), none⟩])
 .ret) .skip))
 (.seq (.region [⟨(some 5), (.bslice 3 [(.val (.int .i64 0)), (.val (.int .i64 0)), (.str [])] 0 []), none⟩, ⟨(some 6), (.mov (.tmp 0)), none⟩, ⟨(some 7), (.app 3 32 (.tmp 5) (.tmp 6)), none⟩, ⟨(some 2), (.mov (.tmp 7)), none⟩])
 .ret)))⟩
set_option maxRecDepth 100000 in
theorem c56 : compFunc Try.prog 56 = some a56 := by kernel_rfl
def slices_Clone_JVal_post (r : (List TJVal)) : AV → Heap → Nat → Prop := fun v h' n' => ∃ z0 : Bool, (z0 = true → r = []) ∧ v = (lstV z0 0 3 r.length) ∧ (h' = (upd (fun _ => none) 0 (lstB z0 3 (r.map e_TJVal)))) ∧ n' = 1
/-- slices.Clone(()clerestory/api.JVal,clerestory/api.JVal) -/
noncomputable def slices_Clone_JVal (s_ : (List TJVal)) : Option (List TJVal) :=
  (app? 32 ([] : List TJVal) s_).bind fun r_ =>
  some r_
theorem slices_Clone_JVal_ok {Γ : Glob} {s_ : (List TJVal)} {r : (List TJVal)} (h : slices_Clone_JVal s_ = some r) : ACalls Try.prog Γ 56 [(.c (.ro false 3 (s_.map e_TJVal)))] (fun _ => none) 0 (slices_Clone_JVal_post r) := by
  refine acalls_of_sv hmix c56 (R := slices_Clone_JVal_post r) ?_
  unfold slices_Clone_JVal at h
  refine Sv.seq ?_
  refine Sv.region ?_
  refine un (a1 rfl ?_)
  refine dnil ?_
  refine Sv.seq ?_
  refine Sv.seq ?_
  refine Sv.region ?_
  refine un (a1 rfl ?_)
  refine un (a1n (e := e_TJVal) (xs := s_) rfl (fun hn1 => ?_) ?_)
  · replace h : (some ([] : List TJVal)) = some r := by rw [hn1] at h; exact h
    refine dnil ?_
    refine Sv.condT rfl ?_
    refine Sv.seq ?_
    refine Sv.region ?_
    refine un (a1 rfl ?_)
    refine dnil ?_
    refine Sv.ret ?_
    replace h := Option.some.inj h
    subst h
    exact ⟨_, .refl _, _, rfl, ⟨upd (fun _ => none) 0 (some (lstV true 0 3 ([] : List TJVal).length)), (upd (fun _ => none) 0 (lstB true 3 (([] : List TJVal).map e_TJVal))), 1⟩, (lstV true 0 3 ([] : List TJVal).length), weak_canon2 [1000] [0] (by decide) (by decide) (fun b h => absurd h (Nat.not_lt_zero _)) (.cons (by decide) .nil) (.cons rfl (.c (.same rfl)) .nil) (.non (by decide) .nil), rfl, true, (fun _ => rfl), rfl, rfl, rfl⟩
  · refine dnil ?_
    refine Sv.condF rfl ?_
    refine Sv.skip ?_
    refine Sv.seq ?_
    refine Sv.region ?_
    refine un (a2v (v := (lstV false 0 3 ([] : List TJVal).length)) (h' := upd _ 0 (lstB false 3 (([] : List TJVal).map e_TJVal))) (n' := 1) rfl rfl (fun h => by cases h) ?_)
    refine un (a1 rfl ?_)
    obtain ⟨r_, hr1, h⟩ := bnd h
    have hz1 : (false && s_.isEmpty) = true → r_ = [] := app_nil (z := false) (ys := s_) (fun h => by cases h) hr1
    replace hz1 : false = true → r_ = [] := hz1
    refine un (a2v rfl (s_app (xs := ([] : List TJVal)) (ys := s_) (e := e_TJVal) (z := false) (b := 0) rfl rfl (fun h => by cases h) rfl rfl (slc_ro) hr1) (fun h => by cases h) ?_)
    refine un (a1 rfl ?_)
    refine dnil ?_
    refine Sv.ret ?_
    replace h := Option.some.inj h
    subst h
    exact ⟨_, .refl _, _, rfl, ⟨upd (fun _ => none) 0 (some (lstV false 0 3 r_.length)), (upd (fun _ => none) 0 (lstB false 3 (r_.map e_TJVal))), 1⟩, (lstV false 0 3 r_.length), weak_canon2 [1] [0] (by decide) (by decide) (fun b h => absurd h (Nat.not_lt_zero _)) (.cons (by decide) .nil) (.cons rfl (.c (lstC_ren rfl (by decide))) .nil) (.row (by decide) rfl (fr_map fun _ => rfl) .nil), rfl, false, hz1, rfl, rfl, rfl⟩
def a52 : AFunc := ⟨1, [(.cell true 3 2)], (.seq (.region [⟨(some 1), (.box (.tmp 0)), none⟩, ⟨(some 2), (.box (.const (.agg [(.val (.int .i64 0)), (.ro true 1 []), (.ro true 3 [])]))), none⟩])
 (.seq (.drawn (.fin [(⟨(some 3), (.faddr 0 (.tmp 1)), none⟩, (0, 0)), (⟨(some 4), (.load false 1 (.tmp 3)), none⟩, (0, 1)), (⟨(some 5), (.faddr 1 (.tmp 1)), none⟩, (0, 2)), (⟨(some 6), (.load false 1 (.tmp 5)), none⟩, (0, 3)), (⟨(some 8), (.faddr 2 (.tmp 1)), none⟩, (0, 5)), (⟨(some 9), (.load false 1 (.tmp 8)), none⟩, (0, 6)), (⟨(some 7), (.call 80 [(.tmp 6)]), none⟩, (1, 4)), (⟨(some 10), (.call 56 [(.tmp 9)]), none⟩, (1, 7)), (⟨(some 11), (.build [(.val (.int .i64 0)), (.ro true 1 []), (.ro true 3 [])] [(0, (1, (.tmp 4))), (1, (1, (.tmp 7))), (2, (1, (.tmp 10)))]), none⟩, (0, 8)), (⟨none, (.store 3 (.tmp 2) (.tmp 11)), none⟩, (2, 9))]))
 .ret))⟩
set_option maxRecDepth 100000 in
theorem c52 : compFunc Try.prog 52 = some a52 := by kernel_rfl
def heap_copied_post (r : TJCell) : AV → Heap → Nat → Prop := fun v h' n' => v = (.agg [cI r.Kind, .ro false 1 (r.Names.map eStr), .ro false 3 (r.Vals.map e_TJVal)]) ∧ (h' = (fun _ => none)) ∧ n' = 0
/-- clerestory/heap.copied -/
noncomputable def heap_copied (c_ : TJCell) : Option TJCell :=
  (slices_Clone_string c_.Names).bind fun r_ =>
  (slices_Clone_JVal c_.Vals).bind fun r_1 =>
  some (⟨c_.Kind, r_, r_1⟩ : TJCell)
theorem heap_copied_ok {Γ : Glob} {c_ : TJCell} {r : TJCell} (h : heap_copied c_ = some r) : CPure Try.prog Γ 52 [(.agg [cI c_.Kind, .ro false 1 (c_.Names.map eStr), .ro false 3 (c_.Vals.map e_TJVal)])] (.agg [cI r.Kind, .ro false 1 (r.Names.map eStr), .ro false 3 (r.Vals.map e_TJVal)]) := by
  refine acalls_of_sv hmix c52 (R := heap_copied_post r) ?_
  unfold heap_copied at h
  refine Sv.seq ?_
  refine Sv.region ?_
  refine un (a2v (v := (.c (.ref 0 3 0 0))) (h' := upd _ 0 (some (.cells 3 [[cI c_.Kind, .ro false 1 (c_.Names.map eStr), .ro false 3 (c_.Vals.map e_TJVal)]]))) (n' := 1) rfl rfl (fun h => by cases h) ?_)
  refine un (a2v (v := (.c (.ref 1 3 0 0))) (h' := upd _ 1 (some (.cells 3 [[cI 0, .ro true 1 [], .ro true 3 []]]))) (n' := 2) rfl rfl (fun h => by cases h) ?_)
  refine dnil ?_
  refine Sv.seq ?_
  refine Sv.drawn ?_
  refine un (a1 (v := (.c (.ref 0 3 0 0))) rfl ?_)
  refine un (a1 (v := (I c_.Kind)) rfl ?_)
  refine un (a1 (v := (.c (.ref 0 3 0 1))) rfl ?_)
  refine un (a1 (v := (.c (.ro false 1 (c_.Names.map eStr)))) rfl ?_)
  refine un (a1 (v := (.c (.ref 0 3 0 2))) rfl ?_)
  refine un (a1 (v := (.c (.ro false 3 (c_.Vals.map e_TJVal)))) rfl ?_)
  obtain ⟨r_, hr1, h⟩ := bnd h
  refine un (ac_gen (bs := []) («as» := [(.c (.ro false 1 (c_.Names.map eStr)))]) (h2 := _) (h1 := (fun _ => none)) (slices_Clone_string_ok hr1) rfl (.cons (avAs_free rfl) .nil) (hsub_refl _) (.nil _) (fun _ => rfl) (by decide) (by decide) (.cons (avAs_free rfl) .nil) .nil ?_)
  rintro _ _ _ hn ⟨z_, hz_, rfl, rfl, rfl⟩
  refine ⟨.inl rfl, (upd (rem [] _) 2 (lstB z_ 1 (r_.map eStr))), fun hbd => (m3_cons (m3_row rfl (fr_map fun _ => rfl)) (m3_rem (in_nil _) (.cons (by decide) .nil) hbd)), (lstV z_ 2 1 r_.length), 3, (by cases z_ <;> rfl), rfl, ?_⟩
  obtain ⟨r_1, hr2, h⟩ := bnd h
  refine un (ac_gen (bs := []) («as» := [(.c (.ro false 3 (c_.Vals.map e_TJVal)))]) (h2 := _) (h1 := (fun _ => none)) (slices_Clone_JVal_ok hr2) rfl (.cons (avAs_free rfl) .nil) (hsub_refl _) (.nil _) (fun _ => rfl) (by decide) (by decide) (.cons (avAs_free rfl) .nil) .nil ?_)
  rintro _ _ _ hn ⟨z_1, hz_1, rfl, rfl, rfl⟩
  refine ⟨.inl rfl, (upd (rem [] _) 3 (lstB z_1 3 (r_1.map e_TJVal))), fun hbd => (m3_cons (m3_row rfl (fr_map fun _ => rfl)) (m3_rem (in_nil _) (.cons (by decide) .nil) hbd)), (lstV z_1 3 3 r_1.length), 4, (by cases z_1 <;> rfl), rfl, ?_⟩
  refine un (a1 (v := (.agg [cI c_.Kind, lstC z_ 2 1 r_.length, lstC z_1 3 3 r_1.length])) rfl ?_)
  refine un (a2n (h' := upd _ 1 (some (.cells 3 [[cI c_.Kind, lstC z_ 2 1 r_.length, lstC z_1 3 3 r_1.length]]))) (n' := 4) rfl rfl (fun h => by cases h) ?_)
  refine dnil ?_
  refine Sv.ret ?_
  replace h := Option.some.inj h
  subst h
  exact ⟨_, .refl _, _, rfl, ⟨upd (fun _ => none) 0 (some (.agg [cI c_.Kind, .ro false 1 (r_.map eStr), .ro false 3 (r_1.map e_TJVal)])), (fun _ => none), 0⟩, (.agg [cI c_.Kind, .ro false 1 (r_.map eStr), .ro false 3 (r_1.map e_TJVal)]), weak_canon [] rfl List.nodup_nil (Nat.le_refl _) (fun b h => absurd h (Nat.not_lt_zero _)) (.cons rfl (avAs_agg (.cons (.same rfl) (.cons (lstC_ro (es := List.map eStr r_) rfl (List.length_map eStr).symm (map_nil_of hz_) (fun b x hx => not_in (bs := []) rfl b (((.nil) : HLt _ _) b x hx)) (fr_map fun _ => rfl)) (.cons (lstC_ro (es := List.map e_TJVal r_1) rfl (List.length_map e_TJVal).symm (map_nil_of hz_1) (fun b x hx => not_in (bs := []) rfl b (((.nil) : HLt _ _) b x hx)) (fr_map fun _ => rfl)) .nil)))) .nil) .nil, rfl, rfl, rfl, rfl⟩
def a20_c0 : ACode := (.seq (.region [⟨(some 29), (.bin .lss (.tmp 28) (.tmp 27)), none⟩])
 (.seq (.cond (.tmp 29) .skip (.exit 0))
 (.seq (.block 1 (.seq (.region [⟨(some 30), (.iaddr 1 (.tmp 26) (.tmp 28)), none⟩, ⟨(some 31), (.load false 1 (.tmp 30)), none⟩, ⟨(some 10), (.mov (.tmp 31)), none⟩])
 (.region [⟨(some 32), (.mov (.tmp 8)), none⟩, ⟨(some 33), (.mov (.tmp 10)), none⟩, ⟨(some 34), (.mov (.tmp 0)), none⟩, ⟨(some 35), (.mov (.tmp 10)), none⟩, ⟨(some 36), (.iaddr 3 (.tmp 34) (.tmp 35)), none⟩, ⟨(some 37), (.load true 3 (.tmp 36)), none⟩, ⟨(some 38), (.call 52 [(.tmp 37)]), none⟩, ⟨(some 39), (.iaddr 3 (.tmp 32) (.tmp 33)), none⟩, ⟨none, (.store 3 (.tmp 39) (.tmp 38)), none⟩])))
 (.region [⟨(some 40), (.bin .add (.tmp 28) (.const (.c (.val (.int .i64 1))))), none⟩, ⟨(some 28), (.mov (.tmp 40)), none⟩]))))
def a20 : AFunc := ⟨2, [(.tmp 4), (.tmp 5)], (.seq (.region [⟨(some 4), (.mov (.const (.c (.ro true 3 [])))), none⟩, ⟨(some 5), (.mov (.const (.c (.val (.int .i64 0))))), none⟩])
 (.seq (.seq (.region [⟨(some 11), (.mov (.tmp 0)), none⟩, ⟨(some 12), (.mov (.tmp 1)), none⟩, ⟨(some 13), (.call 49 [(.tmp 11), (.tmp 12)]), none⟩, ⟨(some 6), (.mov (.tmp 13)), none⟩])
 (.seq (.region [⟨(some 14), (.mov (.tmp 6)), none⟩, ⟨(some 15), (.bin .neq (.tmp 14) (.const (.c (.val (.int .i64 0))))), none⟩])
 (.cond (.tmp 15) (.seq (.region [⟨(some 16), (.mov (.tmp 6)), none⟩, ⟨(some 4), (.mov (.const (.c (.ro true 3 [])))), none⟩, ⟨(some 5), (.mov (.tmp 16)), none⟩])
 .ret) .skip)))
 (.seq (.region [⟨(some 17), (.mov (.tmp 0)), none⟩, ⟨(some 18), (.mov (.tmp 1)), none⟩, ⟨(some 19), (.call 50 [(.tmp 17), (.tmp 18)]), none⟩, ⟨(some 7), (.mov (.tmp 19)), none⟩])
 (.seq (.region [⟨(some 20), (.mov (.tmp 0)), none⟩, ⟨(some 21), (.len (.tmp 20)), none⟩, ⟨(some 22), (.mksl 3 56 [(.val (.int .i64 0)), (.ro true 1 []), (.ro true 3 [])] (.tmp 21) (.tmp 21)), none⟩, ⟨(some 8), (.mov (.tmp 22)), none⟩])
 (.seq (.seq (.region [⟨(some 23), (.mov (.tmp 7)), none⟩, ⟨(some 24), (.nilc (.tmp 23)), none⟩, ⟨(some 25), (.faddr 2 (.tmp 24)), none⟩, ⟨(some 26), (.load false 1 (.tmp 25)), none⟩, ⟨(some 27), (.len (.tmp 26)), none⟩, ⟨(some 28), (.mov (.const (.c (.val (.int .i64 0))))), none⟩])
 (.block 0 (.loop a20_c0)))
 (.seq (.region [⟨(some 41), (.mov (.tmp 8)), none⟩, ⟨(some 4), (.mov (.tmp 41)), none⟩, ⟨(some 5), (.mov (.const (.c (.val (.int .i64 0))))), none⟩])
 .ret))))))⟩
set_option maxRecDepth 100000 in
theorem c20 : compFunc Try.prog 20 = some a20 := by kernel_rfl
def heap_Sweep_post (r : ((List TJCell) × Int)) : AV → Heap → Nat → Prop := fun v h' n' => ∃ z0 : Bool, (z0 = true → r.1 = []) ∧ v = (.tup [(lstV z0 0 3 r.1.length), (I r.2)]) ∧ (h' = (upd (fun _ => none) 0 (lstB z0 3 (r.1.map e_TJCell)))) ∧ n' = 1
abbrev heap_Sweep_l0_E0 (F_ : (List TJCell) → Option ((List TJCell) × Int)) (o : ((List TJCell) × Int)) (R_ : St → Prop) : Prop := ∀ (out1 : (List TJCell)) (zout1 : Bool) (_ : zout1 = true → out1 = []), F_ out1 = some o → ∀ s, Weak 0 s ⟨(upd (fun _ => none) 8 (some (lstV zout1 0 3 out1.length))), (upd (fun _ => none) 0 (lstB zout1 3 (out1.map e_TJCell))), 1⟩ → R_ s
abbrev heap_Sweep_l0_I (h_ : (List TJCell)) (r_1 : Twalker) (F_ : Nat → (List TJCell) → (List Int) → Int → Option ((List TJCell) × Int)) (o : ((List TJCell) × Int)) : Nat → St → Prop := fun k s => ∃ (out : (List TJCell)), ∃ (v26 : (List Int)), ∃ (v28 : Int), ∃ (zout : Bool), (zout = true → out = []) ∧ ∃ (zv26 : Bool), (zv26 = true → v26 = []) ∧ F_ k out v26 v28 = some o ∧ s = ⟨(upd (upd (upd (upd (upd (fun _ => none) 0 (some (.c (.ro false 3 (h_.map e_TJCell))))) 8 (some (lstV zout 0 3 out.length))) 26 (some (lstV zv26 1 1 v26.length))) 27 (some (I (r_1.f_all.length : Int)))) 28 (some (I v28))), (upd (upd (fun _ => none) 0 (lstB zout 3 (out.map e_TJCell))) 1 (lstB zv26 1 (v26.map eI))), 2⟩
abbrev heap_Sweep_l0_H (h_ : (List TJCell)) (r_1 : Twalker) (F_ : (List TJCell) → (List Int) → Int → Option ((List TJCell) × Int)) (o : ((List TJCell) × Int)) (R_ : St → Prop) : Prop := ∀ (out : (List TJCell)) (v26 : (List Int)) (v28 : Int) (zout : Bool) (_ : zout = true → out = []) (zv26 : Bool) (_ : zv26 = true → v26 = []), F_ out v26 v28 = some o → ∀ s, Weak 0 s ⟨(upd (upd (upd (upd (upd (fun _ => none) 0 (some (.c (.ro false 3 (h_.map e_TJCell))))) 8 (some (lstV zout 0 3 out.length))) 26 (some (lstV zv26 1 1 v26.length))) 27 (some (I (r_1.f_all.length : Int)))) 28 (some (I v28))), (upd (upd (fun _ => none) 0 (lstB zout 3 (out.map e_TJCell))) 1 (lstB zv26 1 (v26.map eI))), 2⟩ → R_ s
noncomputable def heap_Sweep_l0 (r_1 : Twalker) (h_ : (List TJCell)) (K0_ : (List TJCell) → Option ((List TJCell) × Int)) : Nat → (List TJCell) → (List Int) → Int → Option ((List TJCell) × Int)
  | 0, _, _, _ => none
  | k + 1, out, v26, v28 =>
    if decide (v28 < (r_1.f_all.length : Int)) then
      (at? v26 v28).bind fun x_ =>
      (at? h_ x_).bind fun x_1 =>
      (heap_copied x_1).bind fun r_2 =>
      (at? out x_).bind fun x_2 =>
      (heap_Sweep_l0 r_1 h_ K0_ k) (out.set x_.toNat r_2) v26 (wi (v28 + 1))
    else
      K0_ out
theorem heap_Sweep_l0_ok {Γ : Glob} {Q : AExit → St → Prop} {r_1 : Twalker} {h_ : (List TJCell)} {K0_ : (List TJCell) → Option ((List TJCell) × Int)} {k : Nat} {out : (List TJCell)} {v26 : (List Int)} {v28 : Int} {zout : Bool} (hzout : zout = true → out = []) {zv26 : Bool} (hzv26 : zv26 = true → v26 = []) {o : ((List TJCell) × Int)} (h : heap_Sweep_l0 r_1 h_ K0_ k out v26 v28 = some o)
    (hK0 : heap_Sweep_l0_E0 K0_ o (Q (.exit 0)))
    (hr : ∀ s, Ends a20.results 0 (heap_Sweep_post o) .ret s → Q .ret s) :
    Sv Try.prog Γ 0 (.loop a20_c0) Q ⟨(upd (upd (upd (upd (upd (fun _ => none) 0 (some (.c (.ro false 3 (h_.map e_TJCell))))) 8 (some (lstV zout 0 3 out.length))) 26 (some (lstV zv26 1 1 v26.length))) 27 (some (I (r_1.f_all.length : Int)))) 28 (some (I v28))), (upd (upd (fun _ => none) 0 (lstB zout 3 (out.map e_TJCell))) 1 (lstB zv26 1 (v26.map eI))), 2⟩ := by
  refine Sv.loop (I := heap_Sweep_l0_I h_ r_1 (heap_Sweep_l0 r_1 h_ K0_) o) (fun k s hI => ?_) ⟨out, v26, v28, zout, hzout, zv26, hzv26, h, rfl⟩
  clear h
  clear hzv26 hzout zv26 zout v28 v26 out
  obtain ⟨out, v26, v28, zout, hzout, zv26, hzv26, h, rfl⟩ := hI
  cases k with
  | zero => cases h
  | succ k =>
  rw [heap_Sweep_l0] at h
  have hself : heap_Sweep_l0_H h_ r_1 (heap_Sweep_l0 r_1 h_ K0_ k) o (rnd 0 (heap_Sweep_l0_I h_ r_1 (heap_Sweep_l0 r_1 h_ K0_) o) k Q) := fun out v26 v28 zout hzout zv26 hzv26 h s hw => ⟨_, k, hw, Nat.lt_succ_self k, out, v26, v28, zout, hzout, zv26, hzv26, h, rfl⟩
  refine Sv.seq ?_
  refine Sv.region ?_
  refine un (a1 (v := (B (decide (v28 < (r_1.f_all.length : Int))))) rfl ?_)
  refine dnil ?_
  refine Sv.seq ?_
  refine Sv.cond (b := decide (v28 < (r_1.f_all.length : Int))) rfl (fun hc2 => ?_) (fun hc2 => ?_)
  · replace h := ifT hc2 h
    refine Sv.skip ?_
    refine Sv.seq ?_
    refine Sv.block ?_
    refine Sv.seq ?_
    refine Sv.region ?_
    obtain ⟨x_, hx2, h⟩ := bnd h
    refine un (a1 (v := (.c (.ref 1 1 v28.toNat 0))) (s_iaddrL rfl rfl hzv26 hx2) ?_)
    refine un (a1 (v := (I x_)) (s_loadL (z := zv26) (e := eI) rfl rfl hzv26 hx2 rfl rfl) ?_)
    refine un (a1 rfl ?_)
    refine dnil ?_
    refine Sv.region ?_
    refine un (a1 rfl ?_)
    refine un (a1 rfl ?_)
    refine un (a1 rfl ?_)
    refine un (a1 rfl ?_)
    obtain ⟨x_1, hx3, h⟩ := bnd h
    refine un (a1 (v := (.c (.rop [cI x_1.Kind, .ro false 1 (x_1.Names.map eStr), .ro false 3 (x_1.Vals.map e_TJVal)]))) (s_iaddr (e := e_TJCell) (xs := h_) rfl rfl hx3) ?_)
    refine un (a1 (v := (.agg [cI x_1.Kind, .ro false 1 (x_1.Names.map eStr), .ro false 3 (x_1.Vals.map e_TJVal)])) rfl ?_)
    obtain ⟨r_2, hr3, h⟩ := bnd h
    refine un (ac_pure (heap_copied_ok hr3) rfl rfl rfl ?_)
    obtain ⟨x_2, hx4, h⟩ := bnd h
    refine un (a1 (v := (.c (.ref 0 3 x_.toNat 0))) (s_iaddrL rfl rfl hzout hx4) ?_)
    refine un (a2n (h' := upd _ 0 (lstB zout 3 ((out.set x_.toNat r_2).map e_TJCell))) (n' := 2) rfl (s_storeL (e := e_TJCell) (q' := r_2) rfl rfl hzout hx4 rfl rfl rfl (Nat.le_of_ble_eq_true rfl) rfl) (fun h => by cases h) ?_)
    try rw [len_set out x_.toNat r_2]
    refine dnil ?_
    refine Sv.region ?_
    refine un (a1 (v := (I (wi (v28 + 1)))) rfl ?_)
    refine un (a1 rfl ?_)
    refine dnil ?_
    exact hself (out.set x_.toNat r_2) v26 (wi (v28 + 1)) zout (hz_len hzout (len_set out x_.toNat r_2)) zv26 hzv26 h _ (weak_canon [0, 1] rfl (by decide) (by decide) (fun b h => absurd h (Nat.not_lt_zero _)) (.cons rfl (avAs_free rfl) (.cons rfl (avAs_free rfl) (.cons rfl (.c (lstC_ren rfl (by decide))) (.cons rfl (.c (lstC_ren rfl (by decide))) (.cons rfl (avAs_free rfl) .nil))))) (.row (by decide) rfl (fr_map fun _ => rfl) (.row (by decide) rfl (fr_map fun _ => rfl) .nil)))
  · replace h := ifF hc2 h
    refine Sv.exit ?_
    exact hK0 out zout hzout h _ (weak_canon [0] rfl (by decide) (by decide) (fun b h => absurd h (Nat.not_lt_zero _)) (.cons rfl (.c (lstC_ren rfl (by decide))) .nil) (.row (by decide) rfl (fr_map fun _ => rfl) .nil))
/-- clerestory/heap.Sweep -/
noncomputable def heap_Sweep (h_ : (List TJCell)) (roots : (List TJVal)) : Option ((List TJCell) × Int) :=
  (heap_asked h_ roots).bind fun r_ =>
  if (!decide (r_ = 0)) then
    some (([] : List TJCell), r_)
  else
    (heap_walked h_ roots).bind fun r_1 =>
    (mkl? 56 (h_.length : Int) (h_.length : Int) ((⟨0, [], []⟩ : TJCell) : TJCell)).bind fun row =>
    lim fun kk => heap_Sweep_l0 r_1 h_ (fun (out1 : (List TJCell)) => 
        some (out1, 0)) kk row r_1.f_all 0
theorem heap_Sweep_ok {Γ : Glob} {h_ : (List TJCell)} {roots : (List TJVal)} {r : ((List TJCell) × Int)} (h : heap_Sweep h_ roots = some r) : ACalls Try.prog Γ 20 [(.c (.ro false 3 (h_.map e_TJCell))), (.c (.ro false 3 (roots.map e_TJVal)))] (fun _ => none) 0 (heap_Sweep_post r) := by
  refine acalls_of_sv hmix c20 (R := heap_Sweep_post r) ?_
  unfold heap_Sweep at h
  refine Sv.seq ?_
  refine Sv.region ?_
  refine un (a1 rfl ?_)
  refine un (a1 rfl ?_)
  refine dnil ?_
  refine Sv.seq ?_
  refine Sv.seq ?_
  refine Sv.region ?_
  refine un (a1 rfl ?_)
  refine un (a1 rfl ?_)
  obtain ⟨r_, hr1, h⟩ := bnd h
  refine un (ac_pure (heap_asked_ok hr1) rfl rfl rfl ?_)
  refine un (a1 rfl ?_)
  refine dnil ?_
  refine Sv.seq ?_
  refine Sv.region ?_
  refine un (a1 rfl ?_)
  refine un (a1 (v := (B (!decide (r_ = 0)))) rfl ?_)
  refine dnil ?_
  refine Sv.cond (b := (!decide (r_ = 0))) rfl (fun hc1 => ?_) (fun hc1 => ?_)
  · replace h := ifT hc1 h
    refine Sv.seq ?_
    refine Sv.region ?_
    refine un (a1 rfl ?_)
    refine un (a1 rfl ?_)
    refine un (a1 rfl ?_)
    refine dnil ?_
    refine Sv.ret ?_
    replace h := Option.some.inj h
    subst h
    exact ⟨_, .refl _, _, rfl, ⟨upd (fun _ => none) 0 (some (.tup [(lstV true 0 3 ([] : List TJCell).length), (I r_)])), (upd (fun _ => none) 0 (lstB true 3 (([] : List TJCell).map e_TJCell))), 1⟩, (.tup [(lstV true 0 3 ([] : List TJCell).length), (I r_)]), weak_canon2 [1000] [0] (by decide) (by decide) (fun b h => absurd h (Nat.not_lt_zero _)) (.cons (by decide) .nil) (.cons rfl (avAs_tup (.cons (.c (.same rfl)) (.cons (avAs_free rfl) .nil))) .nil) (.non (by decide) .nil), rfl, true, (fun _ => rfl), rfl, rfl, rfl⟩
  · replace h := ifF hc1 h
    refine Sv.skip ?_
    refine Sv.seq ?_
    refine Sv.region ?_
    refine un (a1 rfl ?_)
    refine un (a1 rfl ?_)
    obtain ⟨r_1, hr2, h⟩ := bnd h
    refine un (ac_gen (bs := []) («as» := [(.c (.ro false 3 (h_.map e_TJCell))), (.c (.ro false 3 (roots.map e_TJVal)))]) (h2 := _) (h1 := (fun _ => none)) (heap_walked_ok hr2) rfl (.cons (avAs_free rfl) (.cons (avAs_free rfl) .nil)) (hsub_refl _) (.nil _) (fun _ => rfl) (by decide) (by decide) (.cons (avAs_free rfl) (.cons (avAs_free rfl) .nil)) .nil ?_)
    rintro _ _ _ hn ⟨z_, hz_, z_1, hz_1, rfl, rfl, rfl⟩
    refine ⟨.inl rfl, (upd (upd (upd (rem [] _) 0 (lstB z_ 1 (r_1.f_to.map eI))) 1 (lstB z_1 1 (r_1.f_all.map eI))) 2 (some (.cells 3 [[.ro false 3 (r_1.f_h.map e_TJCell), lstC z_ 0 1 r_1.f_to.length, lstC z_1 1 1 r_1.f_all.length]]))), fun hbd => (m3_cons (m3_box rfl (by cases z_ <;> cases z_1 <;> rfl)) (m3_cons (m3_row rfl (fr_map fun _ => rfl)) (m3_cons (m3_row rfl (fr_map fun _ => rfl)) (m3_rem (in_nil _) (.cons (by decide) (.cons (by decide) (.cons (by decide) .nil))) hbd)))), (.c (.ref 2 3 0 0)), 3, (by cases z_ <;> cases z_1 <;> rfl), rfl, ?_⟩
    refine un (a1 rfl ?_)
    refine dnil ?_
    refine Sv.seq ?_
    refine Sv.region ?_
    refine un (a1 rfl ?_)
    refine un (a1 (v := (I (h_.length : Int))) (s_len (e := e_TJCell) (xs := h_) rfl) ?_)
    obtain ⟨row, hx1, h⟩ := bnd h
    refine un (a2mk (e := e_TJCell) rfl rfl hx1 (fun _ _ => (.cons (.same rfl) (.cons .nil (.cons .nil .nil)))) ?_)
    refine un (a1 rfl ?_)
    refine dnil ?_
    refine Sv.seq ?_
    refine Sv.seq ?_
    refine Sv.region ?_
    refine un (a1 rfl ?_)
    refine un (a1 (v := (.c (.ref 2 3 0 0))) rfl ?_)
    refine un (a1 (v := (.c (.ref 2 3 0 2))) rfl ?_)
    refine un (a1 (v := (lstV z_1 1 1 r_1.f_all.length)) rfl ?_)
    refine un (a1 (v := (I (r_1.f_all.length : Int))) (s_lenL rfl (len_nil_of hz_1)) ?_)
    refine un (a1 rfl ?_)
    refine dnil ?_
    refine Sv.block ?_
    obtain ⟨kk, h⟩ := lim_some h
    refine Sv.weak (weak_canon [3, 1] rfl (by decide) (by decide) (fun b h => absurd h (Nat.not_lt_zero _)) (.cons rfl (avAs_free rfl) (.cons rfl (avAs_free rfl) (.cons rfl (.c (lstC_ren rfl (by decide))) (.cons rfl (.c (lstC_ren rfl (by decide))) (.cons rfl (avAs_free rfl) .nil))))) (.row (by decide) rfl (fr_map fun _ => rfl) (.row (by decide) rfl (fr_map fun _ => rfl) .nil))) (heap_Sweep_l0_ok (fun h => by cases h) hz_1 h ?_ (fun s hs => hs))
    · intro out1 zout1 hzout1 h _ hw1
      refine Sv.weak hw1 ?_
      refine Sv.seq ?_
      refine Sv.region ?_
      refine un (a1 rfl ?_)
      refine un (a1 rfl ?_)
      refine un (a1 rfl ?_)
      refine dnil ?_
      refine Sv.ret ?_
      replace h := Option.some.inj h
      subst h
      exact ⟨_, .refl _, _, rfl, ⟨upd (fun _ => none) 0 (some (.tup [(lstV zout1 0 3 out1.length), (I 0)])), (upd (fun _ => none) 0 (lstB zout1 3 (out1.map e_TJCell))), 1⟩, (.tup [(lstV zout1 0 3 out1.length), (I 0)]), weak_canon2 [0] [0] (by decide) (by decide) (fun b h => absurd h (Nat.not_lt_zero _)) (.cons (by decide) .nil) (.cons rfl (avAs_tup (.cons (.c (lstC_ren rfl (by decide))) (.cons (avAs_free rfl) .nil))) .nil) (.row (by decide) rfl (fr_map fun _ => rfl) .nil), rfl, zout1, hzout1, rfl, rfl, rfl⟩
def a53_c0 : ACode := (.region [⟨(some 32), (.bin .add (.tmp 12) (.const (.c (.val (.int .i64 1))))), none⟩, ⟨(some 12), (.mov (.tmp 32)), none⟩])
def a53_c1 : ACode := (.seq (.region [⟨(some 13), (.bin .lss (.tmp 12) (.tmp 11)), none⟩])
 (.seq (.cond (.tmp 13) .skip (.exit 0))
 (.seq (.block 1 (.seq (.region [⟨(some 14), (.mov (.tmp 12)), none⟩, ⟨(some 15), (.iaddr 3 (.tmp 10) (.tmp 12)), none⟩, ⟨(some 16), (.load true 3 (.tmp 15)), none⟩, ⟨(some 6), (.box (.const (.agg [(.val (.int .i64 0)), (.val (.int .i64 0)), (.str [])]))), none⟩, ⟨(some 5), (.mov (.tmp 14)), none⟩, ⟨none, (.store 3 (.tmp 6) (.tmp 16)), none⟩])
 (.seq (.region [⟨(some 17), (.load true 3 (.tmp 6)), none⟩, ⟨(some 18), (.call 81 [(.tmp 17)]), none⟩, ⟨(some 7), (.mov (.tmp 18)), none⟩])
 (.seq (.region [⟨(some 19), (.mov (.tmp 7)), none⟩, ⟨(some 20), (.bin .geq (.tmp 19) (.const (.c (.val (.int .i64 0))))), none⟩])
 (.cond (.tmp 20) (.region [⟨(some 21), (.mov (.tmp 1)), none⟩, ⟨(some 22), (.mov (.tmp 5)), none⟩, ⟨(some 23), (.mov (.tmp 0)), none⟩, ⟨(some 24), (.nilc (.tmp 23)), none⟩, ⟨(some 25), (.faddr 1 (.tmp 24)), none⟩, ⟨(some 26), (.load false 1 (.tmp 25)), none⟩, ⟨(some 27), (.mov (.tmp 7)), none⟩, ⟨(some 28), (.iaddr 1 (.tmp 26) (.tmp 27)), none⟩, ⟨(some 29), (.load false 1 (.tmp 28)), none⟩, ⟨(some 30), (.iaddr 3 (.tmp 21) (.tmp 22)), none⟩, ⟨(some 31), (.faddr 1 (.tmp 30)), none⟩, ⟨none, (.store 1 (.tmp 31) (.tmp 29)), none⟩]) .skip)))))
 a53_c0)))
def a53 : AFunc := ⟨2, [(.tmp 4)], (.seq (.region [⟨(some 4), (.mov (.const (.c (.ro true 3 [])))), none⟩])
 (.seq (.region [⟨(some 8), (.mov (.tmp 1)), none⟩, ⟨(some 9), (.call 56 [(.tmp 8)]), none⟩, ⟨(some 1), (.mov (.tmp 9)), none⟩])
 (.seq (.seq (.region [⟨(some 10), (.mov (.tmp 1)), none⟩, ⟨(some 11), (.len (.tmp 10)), none⟩, ⟨(some 12), (.mov (.const (.c (.val (.int .i64 0))))), none⟩])
 (.block 0 (.loop a53_c1)))
 (.seq (.region [⟨(some 33), (.mov (.tmp 1)), none⟩, ⟨(some 4), (.mov (.tmp 33)), none⟩])
 .ret))))⟩
set_option maxRecDepth 100000 in
theorem c53 : compFunc Try.prog 53 = some a53 := by kernel_rfl
def clerestory_heap_walker_moved_post (r : (List TJVal)) : AV → Heap → Nat → Prop := fun v h' n' => ∃ z0 : Bool, (z0 = true → r = []) ∧ v = (lstV z0 0 3 r.length) ∧ (h' = (upd (fun _ => none) 0 (lstB z0 3 (r.map e_TJVal)))) ∧ n' = 1
abbrev clerestory_heap_walker_moved_l0_H (w_ : Twalker) (r_ : (List TJVal)) (F_ : (List TJVal) → Int → Option (List TJVal)) (o : (List TJVal)) (R_ : St → Prop) : Prop := ∀ (l_1 : (List TJVal)) (v12 : Int) (zl_1 : Bool) (_ : zl_1 = true → l_1 = []), F_ l_1 v12 = some o → ∀ s, Weak 0 s ⟨(upd (upd (upd (upd (upd (fun _ => none) 0 (some (.c (.rop [.ro false 3 (w_.f_h.map e_TJCell), .ro false 1 (w_.f_to.map eI), .ro false 1 (w_.f_all.map eI)])))) 1 (some (lstV zl_1 0 3 l_1.length))) 10 (some (lstV zl_1 0 3 l_1.length))) 11 (some (I (r_.length : Int)))) 12 (some (I v12))), (upd (fun _ => none) 0 (lstB zl_1 3 (l_1.map e_TJVal))), 1⟩ → R_ s
abbrev clerestory_heap_walker_moved_l0_E0 (F_ : (List TJVal) → Option (List TJVal)) (o : (List TJVal)) (R_ : St → Prop) : Prop := ∀ (l_2 : (List TJVal)) (zl_2 : Bool) (_ : zl_2 = true → l_2 = []), F_ l_2 = some o → ∀ s, Weak 0 s ⟨(upd (fun _ => none) 1 (some (lstV zl_2 0 3 l_2.length))), (upd (fun _ => none) 0 (lstB zl_2 3 (l_2.map e_TJVal))), 1⟩ → R_ s
noncomputable def clerestory_heap_walker_moved_j3 (v12 : Int) (w_ : Twalker) (r_ : (List TJVal)) (self : (List TJVal) → Int → Option (List TJVal)) (K0_ : (List TJVal) → Option (List TJVal)) (l_3 : (List TJVal)) : Option (List TJVal) :=
  self l_3 (wi (v12 + 1))
theorem clerestory_heap_walker_moved_j3_ok {Γ : Glob} {Q : AExit → St → Prop} {v12 : Int} {w_ : Twalker} {r_ : (List TJVal)} {self : (List TJVal) → Int → Option (List TJVal)} {K0_ : (List TJVal) → Option (List TJVal)} {l_3 : (List TJVal)} {zl_3 : Bool} (hzl_3 : zl_3 = true → l_3 = []) {o : (List TJVal)} (h : clerestory_heap_walker_moved_j3 v12 w_ r_ self K0_ l_3 = some o)
    (hself : clerestory_heap_walker_moved_l0_H w_ r_ self o (Q .normal))
    (hK0 : clerestory_heap_walker_moved_l0_E0 K0_ o (Q (.exit 0)))
    (hr : ∀ s, Ends a53.results 0 (clerestory_heap_walker_moved_post o) .ret s → Q .ret s) :
    Sv Try.prog Γ 0 a53_c0 Q ⟨(upd (upd (upd (upd (upd (fun _ => none) 0 (some (.c (.rop [.ro false 3 (w_.f_h.map e_TJCell), .ro false 1 (w_.f_to.map eI), .ro false 1 (w_.f_all.map eI)])))) 1 (some (lstV zl_3 0 3 l_3.length))) 10 (some (lstV zl_3 0 3 l_3.length))) 11 (some (I (r_.length : Int)))) 12 (some (I v12))), (upd (fun _ => none) 0 (lstB zl_3 3 (l_3.map e_TJVal))), 1⟩ := by
  unfold clerestory_heap_walker_moved_j3 at h
  refine Sv.region ?_
  refine un (a1 (v := (I (wi (v12 + 1)))) rfl ?_)
  refine un (a1 rfl ?_)
  refine dnil ?_
  exact hself l_3 (wi (v12 + 1)) zl_3 hzl_3 h _ (weak_canon [0] rfl (by decide) (by decide) (fun b h => absurd h (Nat.not_lt_zero _)) (.cons rfl (avAs_free rfl) (.cons rfl (avAs_free rfl) (.cons rfl (.c (lstC_ren rfl (by decide))) (.cons rfl (.c (lstC_ren rfl (by decide))) (.cons rfl (avAs_free rfl) .nil))))) (.row (by decide) rfl (fr_map fun _ => rfl) .nil))
abbrev clerestory_heap_walker_moved_l0_I (w_ : Twalker) (r_ : (List TJVal)) (F_ : Nat → (List TJVal) → Int → Option (List TJVal)) (o : (List TJVal)) : Nat → St → Prop := fun k s => ∃ (l_1 : (List TJVal)), ∃ (v12 : Int), ∃ (zl_1 : Bool), (zl_1 = true → l_1 = []) ∧ F_ k l_1 v12 = some o ∧ s = ⟨(upd (upd (upd (upd (upd (fun _ => none) 0 (some (.c (.rop [.ro false 3 (w_.f_h.map e_TJCell), .ro false 1 (w_.f_to.map eI), .ro false 1 (w_.f_all.map eI)])))) 1 (some (lstV zl_1 0 3 l_1.length))) 10 (some (lstV zl_1 0 3 l_1.length))) 11 (some (I (r_.length : Int)))) 12 (some (I v12))), (upd (fun _ => none) 0 (lstB zl_1 3 (l_1.map e_TJVal))), 1⟩
noncomputable def clerestory_heap_walker_moved_l0 (r_ : (List TJVal)) (w_ : Twalker) (K0_ : (List TJVal) → Option (List TJVal)) : Nat → (List TJVal) → Int → Option (List TJVal)
  | 0, _, _ => none
  | k + 1, l_1, v12 =>
    if decide (v12 < (r_.length : Int)) then
      (at? l_1 v12).bind fun x_ =>
      if decide (0 ≤ (heap_ref x_)) then
        (at? w_.f_to (heap_ref x_)).bind fun x_1 =>
        (at? l_1 v12).bind fun x_2 =>
        clerestory_heap_walker_moved_j3 v12 w_ r_ (clerestory_heap_walker_moved_l0 r_ w_ K0_ k) K0_ (l_1.set v12.toNat (⟨x_2.Kind, x_1, x_2.S⟩ : TJVal))
      else
        clerestory_heap_walker_moved_j3 v12 w_ r_ (clerestory_heap_walker_moved_l0 r_ w_ K0_ k) K0_ l_1
    else
      K0_ l_1
theorem clerestory_heap_walker_moved_l0_ok {Γ : Glob} {Q : AExit → St → Prop} {r_ : (List TJVal)} {w_ : Twalker} {K0_ : (List TJVal) → Option (List TJVal)} {k : Nat} {l_1 : (List TJVal)} {v12 : Int} {zl_1 : Bool} (hzl_1 : zl_1 = true → l_1 = []) {o : (List TJVal)} (h : clerestory_heap_walker_moved_l0 r_ w_ K0_ k l_1 v12 = some o)
    (hK0 : clerestory_heap_walker_moved_l0_E0 K0_ o (Q (.exit 0)))
    (hr : ∀ s, Ends a53.results 0 (clerestory_heap_walker_moved_post o) .ret s → Q .ret s) :
    Sv Try.prog Γ 0 (.loop a53_c1) Q ⟨(upd (upd (upd (upd (upd (fun _ => none) 0 (some (.c (.rop [.ro false 3 (w_.f_h.map e_TJCell), .ro false 1 (w_.f_to.map eI), .ro false 1 (w_.f_all.map eI)])))) 1 (some (lstV zl_1 0 3 l_1.length))) 10 (some (lstV zl_1 0 3 l_1.length))) 11 (some (I (r_.length : Int)))) 12 (some (I v12))), (upd (fun _ => none) 0 (lstB zl_1 3 (l_1.map e_TJVal))), 1⟩ := by
  refine Sv.loop (I := clerestory_heap_walker_moved_l0_I w_ r_ (clerestory_heap_walker_moved_l0 r_ w_ K0_) o) (fun k s hI => ?_) ⟨l_1, v12, zl_1, hzl_1, h, rfl⟩
  clear h
  clear hzl_1 zl_1 v12 l_1
  obtain ⟨l_1, v12, zl_1, hzl_1, h, rfl⟩ := hI
  cases k with
  | zero => cases h
  | succ k =>
  rw [clerestory_heap_walker_moved_l0] at h
  have hself : clerestory_heap_walker_moved_l0_H w_ r_ (clerestory_heap_walker_moved_l0 r_ w_ K0_ k) o (rnd 0 (clerestory_heap_walker_moved_l0_I w_ r_ (clerestory_heap_walker_moved_l0 r_ w_ K0_) o) k Q) := fun l_1 v12 zl_1 hzl_1 h s hw => ⟨_, k, hw, Nat.lt_succ_self k, l_1, v12, zl_1, hzl_1, h, rfl⟩
  refine Sv.seq ?_
  refine Sv.region ?_
  refine un (a1 (v := (B (decide (v12 < (r_.length : Int))))) rfl ?_)
  refine dnil ?_
  refine Sv.seq ?_
  refine Sv.cond (b := decide (v12 < (r_.length : Int))) rfl (fun hc1 => ?_) (fun hc1 => ?_)
  · replace h := ifT hc1 h
    refine Sv.skip ?_
    refine Sv.seq ?_
    refine Sv.block ?_
    refine Sv.seq ?_
    refine Sv.region ?_
    refine un (a1 rfl ?_)
    obtain ⟨x_, hx1, h⟩ := bnd h
    refine un (a1 (v := (.c (.ref 0 3 v12.toNat 0))) (s_iaddrL rfl rfl hzl_1 hx1) ?_)
    refine un (a1 (v := (.agg [cI x_.Kind, cI x_.N, .str x_.S])) (s_loadL (z := zl_1) (e := e_TJVal) rfl rfl hzl_1 hx1 rfl rfl) ?_)
    refine un (a2v (v := (.c (.ref 1 3 0 0))) (h' := upd _ 1 (some (.cells 3 [[cI 0, cI 0, .str []]]))) (n' := 2) rfl rfl (fun h => by cases h) ?_)
    refine un (a1 rfl ?_)
    refine un (a2n (h' := upd _ 1 (some (.cells 3 [[cI x_.Kind, cI x_.N, .str x_.S]]))) (n' := 2) rfl rfl (fun h => by cases h) ?_)
    refine dnil ?_
    refine Sv.seq ?_
    refine Sv.region ?_
    refine un (a1 (v := (.agg [cI x_.Kind, cI x_.N, .str x_.S])) rfl ?_)
    refine un (ac_pure (heap_ref_ok (Γ := Γ) x_) rfl rfl rfl ?_)
    refine un (a1 rfl ?_)
    refine dnil ?_
    refine Sv.seq ?_
    refine Sv.region ?_
    refine un (a1 rfl ?_)
    refine un (a1 (v := (B (decide (0 ≤ (heap_ref x_))))) rfl ?_)
    refine dnil ?_
    refine Sv.cond (b := decide (0 ≤ (heap_ref x_))) rfl (fun hc2 => ?_) (fun hc2 => ?_)
    · replace h := ifT hc2 h
      refine Sv.region ?_
      refine un (a1 rfl ?_)
      refine un (a1 rfl ?_)
      refine un (a1 rfl ?_)
      refine un (a1 (v := (.c (.rop [.ro false 3 (w_.f_h.map e_TJCell), .ro false 1 (w_.f_to.map eI), .ro false 1 (w_.f_all.map eI)]))) rfl ?_)
      refine un (a1 (v := (.c (.rop [.ro false 1 (w_.f_to.map eI), .ro false 1 (w_.f_all.map eI)]))) rfl ?_)
      refine un (a1 (v := (.c (.ro false 1 (w_.f_to.map eI)))) rfl ?_)
      refine un (a1 rfl ?_)
      obtain ⟨x_1, hx2, h⟩ := bnd h
      refine un (a1 (v := (.c (.rop [cI x_1]))) (s_iaddr (e := eI) (xs := w_.f_to) rfl rfl hx2) ?_)
      refine un (a1 (v := (I x_1)) rfl ?_)
      obtain ⟨x_2, hx3, h⟩ := bnd h
      refine un (a1 (v := (.c (.ref 0 3 v12.toNat 0))) (s_iaddrL rfl rfl hzl_1 hx3) ?_)
      refine un (a1 (v := (.c (.ref 0 3 v12.toNat 1))) rfl ?_)
      refine un (a2n (h' := upd _ 0 (lstB zl_1 3 ((l_1.set v12.toNat (⟨x_2.Kind, x_1, x_2.S⟩ : TJVal)).map e_TJVal))) (n' := 2) rfl (s_storeL (e := e_TJVal) (q' := (⟨x_2.Kind, x_1, x_2.S⟩ : TJVal)) rfl rfl hzl_1 hx3 rfl rfl rfl (Nat.le_of_ble_eq_true rfl) rfl) (fun h => by cases h) ?_)
      try rw [len_set l_1 v12.toNat (⟨x_2.Kind, x_1, x_2.S⟩ : TJVal)]
      refine dnil ?_
      exact Sv.weak (weak_canon [0] rfl (by decide) (by decide) (fun b h => absurd h (Nat.not_lt_zero _)) (.cons rfl (avAs_free rfl) (.cons rfl (avAs_free rfl) (.cons rfl (.c (lstC_ren rfl (by decide))) (.cons rfl (.c (lstC_ren rfl (by decide))) (.cons rfl (avAs_free rfl) .nil))))) (.row (by decide) rfl (fr_map fun _ => rfl) .nil)) (clerestory_heap_walker_moved_j3_ok (hz_len hzl_1 (len_set l_1 v12.toNat (⟨x_2.Kind, x_1, x_2.S⟩ : TJVal))) h hself hK0 hr)
    · replace h := ifF hc2 h
      refine Sv.skip ?_
      exact Sv.weak (weak_canon [0] rfl (by decide) (by decide) (fun b h => absurd h (Nat.not_lt_zero _)) (.cons rfl (avAs_free rfl) (.cons rfl (avAs_free rfl) (.cons rfl (.c (lstC_ren rfl (by decide))) (.cons rfl (.c (lstC_ren rfl (by decide))) (.cons rfl (avAs_free rfl) .nil))))) (.row (by decide) rfl (fr_map fun _ => rfl) .nil)) (clerestory_heap_walker_moved_j3_ok hzl_1 h hself hK0 hr)
  · replace h := ifF hc1 h
    refine Sv.exit ?_
    exact hK0 l_1 zl_1 hzl_1 h _ (weak_canon [0] rfl (by decide) (by decide) (fun b h => absurd h (Nat.not_lt_zero _)) (.cons rfl (.c (lstC_ren rfl (by decide))) .nil) (.row (by decide) rfl (fr_map fun _ => rfl) .nil))
/-- (*clerestory/heap.walker).moved -/
noncomputable def clerestory_heap_walker_moved (w_ : Twalker) (l_ : (List TJVal)) : Option (List TJVal) :=
  (slices_Clone_JVal l_).bind fun r_ =>
  lim fun kk => clerestory_heap_walker_moved_l0 r_ w_ (fun (l_2 : (List TJVal)) => 
      some l_2) kk r_ 0
theorem clerestory_heap_walker_moved_ok {Γ : Glob} {w_ : Twalker} {l_ : (List TJVal)} {r : (List TJVal)} (h : clerestory_heap_walker_moved w_ l_ = some r) : ACalls Try.prog Γ 53 [(.c (.rop [.ro false 3 (w_.f_h.map e_TJCell), .ro false 1 (w_.f_to.map eI), .ro false 1 (w_.f_all.map eI)])), (.c (.ro false 3 (l_.map e_TJVal)))] (fun _ => none) 0 (clerestory_heap_walker_moved_post r) := by
  refine acalls_of_sv hmix c53 (R := clerestory_heap_walker_moved_post r) ?_
  unfold clerestory_heap_walker_moved at h
  refine Sv.seq ?_
  refine Sv.region ?_
  refine un (a1 rfl ?_)
  refine dnil ?_
  refine Sv.seq ?_
  refine Sv.region ?_
  refine un (a1 rfl ?_)
  obtain ⟨r_, hr1, h⟩ := bnd h
  refine un (ac_gen (bs := []) («as» := [(.c (.ro false 3 (l_.map e_TJVal)))]) (h2 := _) (h1 := (fun _ => none)) (slices_Clone_JVal_ok hr1) rfl (.cons (avAs_free rfl) .nil) (hsub_refl _) (.nil _) (fun _ => rfl) (by decide) (by decide) (.cons (avAs_free rfl) .nil) .nil ?_)
  rintro _ _ _ hn ⟨z_, hz_, rfl, rfl, rfl⟩
  refine ⟨.inl rfl, (upd (rem [] _) 0 (lstB z_ 3 (r_.map e_TJVal))), fun hbd => (m3_cons (m3_row rfl (fr_map fun _ => rfl)) (m3_rem (in_nil _) (.cons (by decide) .nil) hbd)), (lstV z_ 0 3 r_.length), 1, (by cases z_ <;> rfl), rfl, ?_⟩
  refine un (a1 rfl ?_)
  refine dnil ?_
  refine Sv.seq ?_
  refine Sv.seq ?_
  refine Sv.region ?_
  refine un (a1 rfl ?_)
  refine un (a1 (v := (I (r_.length : Int))) (s_lenL rfl (len_nil_of hz_)) ?_)
  refine un (a1 rfl ?_)
  refine dnil ?_
  refine Sv.block ?_
  obtain ⟨kk, h⟩ := lim_some h
  refine Sv.weak (weak_canon [0] rfl (by decide) (by decide) (fun b h => absurd h (Nat.not_lt_zero _)) (.cons rfl (avAs_free rfl) (.cons rfl (avAs_free rfl) (.cons rfl (.c (lstC_ren rfl (by decide))) (.cons rfl (.c (lstC_ren rfl (by decide))) (.cons rfl (avAs_free rfl) .nil))))) (.row (by decide) rfl (fr_map fun _ => rfl) .nil)) (clerestory_heap_walker_moved_l0_ok hz_ h ?_ (fun s hs => hs))
  · intro l_2 zl_2 hzl_2 h _ hw1
    refine Sv.weak hw1 ?_
    refine Sv.seq ?_
    refine Sv.region ?_
    refine un (a1 rfl ?_)
    refine un (a1 rfl ?_)
    refine dnil ?_
    refine Sv.ret ?_
    replace h := Option.some.inj h
    subst h
    exact ⟨_, .refl _, _, rfl, ⟨upd (fun _ => none) 0 (some (lstV zl_2 0 3 l_2.length)), (upd (fun _ => none) 0 (lstB zl_2 3 (l_2.map e_TJVal))), 1⟩, (lstV zl_2 0 3 l_2.length), weak_canon2 [0] [0] (by decide) (by decide) (fun b h => absurd h (Nat.not_lt_zero _)) (.cons (by decide) .nil) (.cons rfl (.c (lstC_ren rfl (by decide))) .nil) (.row (by decide) rfl (fr_map fun _ => rfl) .nil), rfl, zl_2, hzl_2, rfl, rfl, rfl⟩
def a21_c0 : ACode := (.seq (.region [⟨(some 28), (.bin .lss (.tmp 27) (.tmp 26)), none⟩])
 (.seq (.cond (.tmp 28) .skip (.exit 0))
 (.seq (.block 1 (.seq (.region [⟨(some 29), (.iaddr 1 (.tmp 25) (.tmp 27)), none⟩, ⟨(some 30), (.load false 1 (.tmp 29)), none⟩, ⟨(some 11), (.mov (.tmp 30)), none⟩])
 (.seq (.region [⟨(some 31), (.mov (.tmp 0)), none⟩, ⟨(some 32), (.mov (.tmp 11)), none⟩, ⟨(some 33), (.iaddr 3 (.tmp 31) (.tmp 32)), none⟩, ⟨(some 34), (.load true 3 (.tmp 33)), none⟩, ⟨(some 35), (.call 52 [(.tmp 34)]), none⟩, ⟨(some 12), (.box (.const (.agg [(.val (.int .i64 0)), (.ro true 1 []), (.ro true 3 [])]))), none⟩, ⟨none, (.store 3 (.tmp 12) (.tmp 35)), none⟩])
 (.seq (.region [⟨(some 36), (.mov (.tmp 8)), none⟩, ⟨(some 37), (.faddr 2 (.tmp 12)), none⟩, ⟨(some 38), (.load false 1 (.tmp 37)), none⟩, ⟨(some 39), (.call 53 [(.tmp 36), (.tmp 38)]), none⟩, ⟨(some 40), (.faddr 2 (.tmp 12)), none⟩, ⟨none, (.store 1 (.tmp 40) (.tmp 39)), none⟩])
 (.region [⟨(some 41), (.mov (.tmp 9)), none⟩, ⟨(some 42), (.load true 3 (.tmp 12)), none⟩, ⟨(some 43), (.bslice 3 [(.val (.int .i64 0)), (.ro true 1 []), (.ro true 3 [])] 1 [(0, (.tmp 42))]), none⟩, ⟨(some 44), (.app 3 56 (.tmp 41) (.tmp 43)), none⟩, ⟨(some 9), (.mov (.tmp 44)), none⟩])))))
 (.region [⟨(some 45), (.bin .add (.tmp 27) (.const (.c (.val (.int .i64 1))))), none⟩, ⟨(some 27), (.mov (.tmp 45)), none⟩]))))
def a21 : AFunc := ⟨2, [(.tmp 4), (.tmp 5), (.tmp 6)], (.seq (.region [⟨(some 4), (.mov (.const (.c (.ro true 3 [])))), none⟩, ⟨(some 5), (.mov (.const (.c (.ro true 3 [])))), none⟩, ⟨(some 6), (.mov (.const (.c (.val (.int .i64 0))))), none⟩])
 (.seq (.seq (.region [⟨(some 13), (.mov (.tmp 0)), none⟩, ⟨(some 14), (.mov (.tmp 1)), none⟩, ⟨(some 15), (.call 49 [(.tmp 13), (.tmp 14)]), none⟩, ⟨(some 7), (.mov (.tmp 15)), none⟩])
 (.seq (.region [⟨(some 16), (.mov (.tmp 7)), none⟩, ⟨(some 17), (.bin .neq (.tmp 16) (.const (.c (.val (.int .i64 0))))), none⟩])
 (.cond (.tmp 17) (.seq (.region [⟨(some 18), (.mov (.tmp 7)), none⟩, ⟨(some 4), (.mov (.const (.c (.ro true 3 [])))), none⟩, ⟨(some 5), (.mov (.const (.c (.ro true 3 [])))), none⟩, ⟨(some 6), (.mov (.tmp 18)), none⟩])
 .ret) .skip)))
 (.seq (.region [⟨(some 19), (.mov (.tmp 0)), none⟩, ⟨(some 20), (.mov (.tmp 1)), none⟩, ⟨(some 21), (.call 50 [(.tmp 19), (.tmp 20)]), none⟩, ⟨(some 8), (.mov (.tmp 21)), none⟩])
 (.seq (.region [⟨(some 9), (.mov (.const (.c (.ro true 3 [])))), none⟩])
 (.seq (.seq (.region [⟨(some 22), (.mov (.tmp 8)), none⟩, ⟨(some 23), (.nilc (.tmp 22)), none⟩, ⟨(some 24), (.faddr 2 (.tmp 23)), none⟩, ⟨(some 25), (.load false 1 (.tmp 24)), none⟩, ⟨(some 26), (.len (.tmp 25)), none⟩, ⟨(some 27), (.mov (.const (.c (.val (.int .i64 0))))), none⟩])
 (.block 0 (.loop a21_c0)))
 (.seq (.region [⟨(some 46), (.mov (.tmp 9)), none⟩, ⟨(some 47), (.mov (.tmp 8)), none⟩, ⟨(some 48), (.mov (.tmp 1)), none⟩, ⟨(some 49), (.call 53 [(.tmp 47), (.tmp 48)]), none⟩, ⟨(some 4), (.mov (.tmp 46)), none⟩, ⟨(some 5), (.mov (.tmp 49)), none⟩, ⟨(some 6), (.mov (.const (.c (.val (.int .i64 0))))), none⟩])
 .ret))))))⟩
set_option maxRecDepth 100000 in
theorem c21 : compFunc Try.prog 21 = some a21 := by kernel_rfl
def heap_Move_post (r : ((List TJCell) × (List TJVal) × Int)) : AV → Heap → Nat → Prop := fun v h' n' => ∃ z0 : Bool, (z0 = true → r.1 = []) ∧ ∃ z1 : Bool, (z1 = true → r.2.1 = []) ∧ v = (.tup [(lstV z0 0 3 r.1.length), (lstV z1 1 3 r.2.1.length), (I r.2.2)]) ∧ (h' = (upd (upd (fun _ => none) 0 (lstB z0 3 (r.1.map e_TJCell))) 1 (lstB z1 3 (r.2.1.map e_TJVal)))) ∧ n' = 2
abbrev heap_Move_l0_E0 (roots : (List TJVal)) (r_1 : Twalker) (F_ : (List Int) → (List Int) → (List TJCell) → Option ((List TJCell) × (List TJVal) × Int)) (o : ((List TJCell) × (List TJVal) × Int)) (R_ : St → Prop) : Prop := ∀ (w11 : (List Int)) (w21 : (List Int)) (out1 : (List TJCell)) (zw11 : Bool) (_ : zw11 = true → w11 = []) (zw21 : Bool) (_ : zw21 = true → w21 = []) (zout1 : Bool) (_ : zout1 = true → out1 = []), F_ w11 w21 out1 = some o → ∀ s, Weak 0 s ⟨(upd (upd (upd (fun _ => none) 1 (some (.c (.ro false 3 (roots.map e_TJVal))))) 8 (some (.c (.ref 0 3 0 0)))) 9 (some (lstV zout1 3 3 out1.length))), (upd (upd (upd (upd (fun _ => none) 0 (some (.cells 3 [[.ro false 3 (r_1.f_h.map e_TJCell), lstC zw11 1 1 w11.length, lstC zw21 2 1 w21.length]]))) 1 (lstB zw11 1 (w11.map eI))) 2 (lstB zw21 1 (w21.map eI))) 3 (lstB zout1 3 (out1.map e_TJCell))), 4⟩ → R_ s
abbrev heap_Move_l0_I (h_ : (List TJCell)) (roots : (List TJVal)) (r_1 : Twalker) (F_ : Nat → (List Int) → (List Int) → (List TJCell) → Int → Option ((List TJCell) × (List TJVal) × Int)) (o : ((List TJCell) × (List TJVal) × Int)) : Nat → St → Prop := fun k s => ∃ (w1 : (List Int)), ∃ (w2 : (List Int)), ∃ (out : (List TJCell)), ∃ (v27 : Int), ∃ (zw1 : Bool), (zw1 = true → w1 = []) ∧ ∃ (zw2 : Bool), (zw2 = true → w2 = []) ∧ ∃ (zout : Bool), (zout = true → out = []) ∧ F_ k w1 w2 out v27 = some o ∧ s = ⟨(upd (upd (upd (upd (upd (upd (upd (fun _ => none) 0 (some (.c (.ro false 3 (h_.map e_TJCell))))) 1 (some (.c (.ro false 3 (roots.map e_TJVal))))) 8 (some (.c (.ref 0 3 0 0)))) 9 (some (lstV zout 3 3 out.length))) 25 (some (lstV zw2 2 1 w2.length))) 26 (some (I (r_1.f_all.length : Int)))) 27 (some (I v27))), (upd (upd (upd (upd (fun _ => none) 0 (some (.cells 3 [[.ro false 3 (r_1.f_h.map e_TJCell), lstC zw1 1 1 w1.length, lstC zw2 2 1 w2.length]]))) 1 (lstB zw1 1 (w1.map eI))) 2 (lstB zw2 1 (w2.map eI))) 3 (lstB zout 3 (out.map e_TJCell))), 4⟩
abbrev heap_Move_l0_H (h_ : (List TJCell)) (roots : (List TJVal)) (r_1 : Twalker) (F_ : (List Int) → (List Int) → (List TJCell) → Int → Option ((List TJCell) × (List TJVal) × Int)) (o : ((List TJCell) × (List TJVal) × Int)) (R_ : St → Prop) : Prop := ∀ (w1 : (List Int)) (w2 : (List Int)) (out : (List TJCell)) (v27 : Int) (zw1 : Bool) (_ : zw1 = true → w1 = []) (zw2 : Bool) (_ : zw2 = true → w2 = []) (zout : Bool) (_ : zout = true → out = []), F_ w1 w2 out v27 = some o → ∀ s, Weak 0 s ⟨(upd (upd (upd (upd (upd (upd (upd (fun _ => none) 0 (some (.c (.ro false 3 (h_.map e_TJCell))))) 1 (some (.c (.ro false 3 (roots.map e_TJVal))))) 8 (some (.c (.ref 0 3 0 0)))) 9 (some (lstV zout 3 3 out.length))) 25 (some (lstV zw2 2 1 w2.length))) 26 (some (I (r_1.f_all.length : Int)))) 27 (some (I v27))), (upd (upd (upd (upd (fun _ => none) 0 (some (.cells 3 [[.ro false 3 (r_1.f_h.map e_TJCell), lstC zw1 1 1 w1.length, lstC zw2 2 1 w2.length]]))) 1 (lstB zw1 1 (w1.map eI))) 2 (lstB zw2 1 (w2.map eI))) 3 (lstB zout 3 (out.map e_TJCell))), 4⟩ → R_ s
noncomputable def heap_Move_l0 (r_1 : Twalker) (h_ : (List TJCell)) (roots : (List TJVal)) (K0_ : (List Int) → (List Int) → (List TJCell) → Option ((List TJCell) × (List TJVal) × Int)) : Nat → (List Int) → (List Int) → (List TJCell) → Int → Option ((List TJCell) × (List TJVal) × Int)
  | 0, _, _, _, _ => none
  | k + 1, w1, w2, out, v27 =>
    if decide (v27 < (r_1.f_all.length : Int)) then
      (at? w2 v27).bind fun x_ =>
      (at? h_ x_).bind fun x_1 =>
      (heap_copied x_1).bind fun r_2 =>
      (clerestory_heap_walker_moved (⟨r_1.f_h, w1, w2⟩ : Twalker) r_2.Vals).bind fun r_3 =>
      (app? 56 out [(⟨r_2.Kind, r_2.Names, r_3⟩ : TJCell)]).bind fun r_4 =>
      (heap_Move_l0 r_1 h_ roots K0_ k) w1 w2 r_4 (wi (v27 + 1))
    else
      K0_ w1 w2 out
theorem heap_Move_l0_ok {Γ : Glob} {Q : AExit → St → Prop} {r_1 : Twalker} {h_ : (List TJCell)} {roots : (List TJVal)} {K0_ : (List Int) → (List Int) → (List TJCell) → Option ((List TJCell) × (List TJVal) × Int)} {k : Nat} {w1 : (List Int)} {w2 : (List Int)} {out : (List TJCell)} {v27 : Int} {zw1 : Bool} (hzw1 : zw1 = true → w1 = []) {zw2 : Bool} (hzw2 : zw2 = true → w2 = []) {zout : Bool} (hzout : zout = true → out = []) {o : ((List TJCell) × (List TJVal) × Int)} (h : heap_Move_l0 r_1 h_ roots K0_ k w1 w2 out v27 = some o)
    (hK0 : heap_Move_l0_E0 roots r_1 K0_ o (Q (.exit 0)))
    (hr : ∀ s, Ends a21.results 0 (heap_Move_post o) .ret s → Q .ret s) :
    Sv Try.prog Γ 0 (.loop a21_c0) Q ⟨(upd (upd (upd (upd (upd (upd (upd (fun _ => none) 0 (some (.c (.ro false 3 (h_.map e_TJCell))))) 1 (some (.c (.ro false 3 (roots.map e_TJVal))))) 8 (some (.c (.ref 0 3 0 0)))) 9 (some (lstV zout 3 3 out.length))) 25 (some (lstV zw2 2 1 w2.length))) 26 (some (I (r_1.f_all.length : Int)))) 27 (some (I v27))), (upd (upd (upd (upd (fun _ => none) 0 (some (.cells 3 [[.ro false 3 (r_1.f_h.map e_TJCell), lstC zw1 1 1 w1.length, lstC zw2 2 1 w2.length]]))) 1 (lstB zw1 1 (w1.map eI))) 2 (lstB zw2 1 (w2.map eI))) 3 (lstB zout 3 (out.map e_TJCell))), 4⟩ := by
  refine Sv.loop (I := heap_Move_l0_I h_ roots r_1 (heap_Move_l0 r_1 h_ roots K0_) o) (fun k s hI => ?_) ⟨w1, w2, out, v27, zw1, hzw1, zw2, hzw2, zout, hzout, h, rfl⟩
  clear h
  clear hzout hzw2 hzw1 zout zw2 zw1 v27 out w2 w1
  obtain ⟨w1, w2, out, v27, zw1, hzw1, zw2, hzw2, zout, hzout, h, rfl⟩ := hI
  cases k with
  | zero => cases h
  | succ k =>
  rw [heap_Move_l0] at h
  have hself : heap_Move_l0_H h_ roots r_1 (heap_Move_l0 r_1 h_ roots K0_ k) o (rnd 0 (heap_Move_l0_I h_ roots r_1 (heap_Move_l0 r_1 h_ roots K0_) o) k Q) := fun w1 w2 out v27 zw1 hzw1 zw2 hzw2 zout hzout h s hw => ⟨_, k, hw, Nat.lt_succ_self k, w1, w2, out, v27, zw1, hzw1, zw2, hzw2, zout, hzout, h, rfl⟩
  refine Sv.seq ?_
  refine Sv.region ?_
  refine un (a1 (v := (B (decide (v27 < (r_1.f_all.length : Int))))) rfl ?_)
  refine dnil ?_
  refine Sv.seq ?_
  refine Sv.cond (b := decide (v27 < (r_1.f_all.length : Int))) rfl (fun hc2 => ?_) (fun hc2 => ?_)
  · replace h := ifT hc2 h
    refine Sv.skip ?_
    refine Sv.seq ?_
    refine Sv.block ?_
    refine Sv.seq ?_
    refine Sv.region ?_
    obtain ⟨x_, hx1, h⟩ := bnd h
    refine un (a1 (v := (.c (.ref 2 1 v27.toNat 0))) (s_iaddrL rfl rfl hzw2 hx1) ?_)
    refine un (a1 (v := (I x_)) (s_loadL (z := zw2) (e := eI) rfl rfl hzw2 hx1 rfl rfl) ?_)
    refine un (a1 rfl ?_)
    refine dnil ?_
    refine Sv.seq ?_
    refine Sv.region ?_
    refine un (a1 rfl ?_)
    refine un (a1 rfl ?_)
    obtain ⟨x_1, hx2, h⟩ := bnd h
    refine un (a1 (v := (.c (.rop [cI x_1.Kind, .ro false 1 (x_1.Names.map eStr), .ro false 3 (x_1.Vals.map e_TJVal)]))) (s_iaddr (e := e_TJCell) (xs := h_) rfl rfl hx2) ?_)
    refine un (a1 (v := (.agg [cI x_1.Kind, .ro false 1 (x_1.Names.map eStr), .ro false 3 (x_1.Vals.map e_TJVal)])) rfl ?_)
    obtain ⟨r_2, hr3, h⟩ := bnd h
    refine un (ac_pure (heap_copied_ok hr3) rfl rfl rfl ?_)
    refine un (a2v (v := (.c (.ref 4 3 0 0))) (h' := upd _ 4 (some (.cells 3 [[cI 0, .ro true 1 [], .ro true 3 []]]))) (n' := 5) rfl rfl (fun h => by cases h) ?_)
    refine un (a2n (h' := upd _ 4 (some (.cells 3 [[cI r_2.Kind, .ro false 1 (r_2.Names.map eStr), .ro false 3 (r_2.Vals.map e_TJVal)]]))) (n' := 5) rfl rfl (fun h => by cases h) ?_)
    refine dnil ?_
    refine Sv.seq ?_
    refine Sv.region ?_
    refine un (a1 rfl ?_)
    refine un (a1 (v := (.c (.ref 4 3 0 2))) rfl ?_)
    refine un (a1 (v := (.c (.ro false 3 (r_2.Vals.map e_TJVal)))) rfl ?_)
    obtain ⟨r_3, hr4, h⟩ := bnd h
    refine un (ac_gen (bs := []) («as» := [(.c (.rop [.ro false 3 (r_1.f_h.map e_TJCell), .ro false 1 (w1.map eI), .ro false 1 (w2.map eI)])), (.c (.ro false 3 (r_2.Vals.map e_TJVal)))]) (h2 := (upd (upd (upd _ 0 none) 1 none) 2 none)) (h1 := (fun _ => none)) (clerestory_heap_walker_moved_ok hr4) rfl (.cons (.c (ref_ro rfl (gone rfl) (.cons (.same rfl) (.cons (lstC_ro (es := List.map eI w1) rfl (List.length_map eI).symm (map_nil_of hzw1) (gone rfl) (fr_map fun _ => rfl)) (.cons (lstC_ro (es := List.map eI w2) rfl (List.length_map eI).symm (map_nil_of hzw2) (gone rfl) (fr_map fun _ => rfl)) .nil))) rfl)) (.cons (avAs_free rfl) .nil)) (hsub_none (hsub_none (hsub_none (hsub_refl _)))) (.nil _) (fun _ => rfl) (by decide) (by decide) (.cons (avAs_free rfl) (.cons (avAs_free rfl) .nil)) .nil ?_)
    rintro _ _ _ hn ⟨z_2, hz_2, rfl, rfl, rfl⟩
    refine ⟨.inr ⟨(by cases z_2 <;> rfl), (.row (cl_map fun _ => rfl) .nil)⟩, (upd (rem [] _) 5 (lstB z_2 3 (r_3.map e_TJVal))), fun hbd => (m3_cons (m3_row rfl (fr_map fun _ => rfl)) (m3_rem (in_nil _) (.cons (by decide) .nil) hbd)), (lstV z_2 5 3 r_3.length), 6, (by cases z_2 <;> rfl), rfl, ?_⟩
    refine un (a1 (v := (.c (.ref 4 3 0 2))) rfl ?_)
    refine un (a2n (h' := upd _ 4 (some (.cells 3 [[cI r_2.Kind, .ro false 1 (r_2.Names.map eStr), lstC z_2 5 3 r_3.length]]))) (n' := 6) rfl rfl (fun h => by cases h) ?_)
    refine dnil ?_
    refine Sv.region ?_
    refine un (a1 rfl ?_)
    refine un (a1 (v := (.agg [cI r_2.Kind, .ro false 1 (r_2.Names.map eStr), lstC z_2 5 3 r_3.length])) rfl ?_)
    refine dweak (show Weak 0 _ ⟨(upd (upd (upd (upd (upd (upd (upd (upd (upd (upd (upd (upd (upd (upd (upd (upd (upd (upd (upd (upd (upd (upd (upd (upd (fun _ => none) 0 (some (.c (.ro false 3 (h_.map e_TJCell))))) 1 (some (.c (.ro false 3 (roots.map e_TJVal))))) 8 (some (.c (.ref 0 3 0 0)))) 9 (some (lstV zout 3 3 out.length))) 11 (some (I x_))) 12 (some (.c (.ref 4 3 0 0)))) 25 (some (lstV zw2 2 1 w2.length))) 26 (some (I (r_1.f_all.length : Int)))) 27 (some (I v27))) 28 (some (B (decide (v27 < (r_1.f_all.length : Int)))))) 29 (some (.c (.ref 2 1 v27.toNat 0)))) 30 (some (I x_))) 31 (some (.c (.ro false 3 (h_.map e_TJCell))))) 32 (some (I x_))) 33 (some (.c (.rop [cI x_1.Kind, .ro false 1 (x_1.Names.map eStr), .ro false 3 (x_1.Vals.map e_TJVal)])))) 34 (some (.agg [cI x_1.Kind, .ro false 1 (x_1.Names.map eStr), .ro false 3 (x_1.Vals.map e_TJVal)]))) 35 (some (.agg [cI r_2.Kind, .ro false 1 (r_2.Names.map eStr), .ro false 3 (r_2.Vals.map e_TJVal)]))) 36 (some (.c (.ref 0 3 0 0)))) 37 (some (.c (.ref 4 3 0 2)))) 38 (some (.c (.ro false 3 (r_2.Vals.map e_TJVal))))) 39 (some (.c (.ro false 3 (r_3.map e_TJVal))))) 40 (some (.c (.ref 4 3 0 2)))) 41 (some (lstV zout 3 3 out.length))) 42 (some (.agg [cI r_2.Kind, .ro false 1 (r_2.Names.map eStr), .ro false 3 (r_3.map e_TJVal)]))), (upd (upd (upd (upd (upd (fun _ => none) 0 (some (.cells 3 [[.ro false 3 (r_1.f_h.map e_TJCell), lstC zw1 1 1 w1.length, lstC zw2 2 1 w2.length]]))) 1 (lstB zw1 1 (w1.map eI))) 2 (lstB zw2 1 (w2.map eI))) 3 (lstB zout 3 (out.map e_TJCell))) 4 (some (.cells 3 [[cI r_2.Kind, .ro false 1 (r_2.Names.map eStr), .ro false 3 (r_3.map e_TJVal)]]))), 6⟩ from (weak_canon [0, 1, 2, 3, 4, 1005] rfl (by decide) (by decide) (fun b h => absurd h (Nat.not_lt_zero _)) (.cons rfl (avAs_agg (.cons (.same rfl) (.cons (.same rfl) (.cons (lstC_ro (es := List.map e_TJVal r_3) rfl (List.length_map e_TJVal).symm (map_nil_of hz_2) (fun b x hx => not_in (bs := [0, 1, 2, 3, 4, 1005]) rfl b (((.cons (by decide) (.cons (by decide) (.cons (by decide) (.cons (by decide) (.cons (by decide) .nil))))) : HLt _ _) b x hx)) (fr_map fun _ => rfl)) .nil)))) (.cons rfl (.c (lstC_ren rfl (by decide))) (.cons rfl (.c (.ref rfl (by decide))) (.cons rfl (.c (lstC_ro (es := List.map e_TJVal r_3) rfl (List.length_map e_TJVal).symm (map_nil_of hz_2) (fun b x hx => not_in (bs := [0, 1, 2, 3, 4, 1005]) rfl b (((.cons (by decide) (.cons (by decide) (.cons (by decide) (.cons (by decide) (.cons (by decide) .nil))))) : HLt _ _) b x hx)) (fr_map fun _ => rfl))) (.cons rfl (avAs_free rfl) (.cons rfl (.c (.ref rfl (by decide))) (.cons rfl (.c (.ref rfl (by decide))) (.cons rfl (avAs_free rfl) (.cons rfl (avAs_free rfl) (.cons rfl (avAs_free rfl) (.cons rfl (avAs_free rfl) (.cons rfl (avAs_free rfl) (.cons rfl (avAs_free rfl) (.cons rfl (.c (.ref rfl (by decide))) (.cons rfl (avAs_free rfl) (.cons rfl (avAs_free rfl) (.cons rfl (avAs_free rfl) (.cons rfl (.c (lstC_ren rfl (by decide))) (.cons rfl (.c (.ref rfl (by decide))) (.cons rfl (avAs_free rfl) (.cons rfl (.c (lstC_ren rfl (by decide))) (.cons rfl (.c (.ref rfl (by decide))) (.cons rfl (avAs_free rfl) (.cons rfl (avAs_free rfl) .nil)))))))))))))))))))))))) (.box (by decide) rfl (blkAs_cells (.cons (.same rfl) (.cons (.same rfl) (.cons (lstC_ro (es := List.map e_TJVal r_3) rfl (List.length_map e_TJVal).symm (map_nil_of hz_2) (fun b x hx => not_in (bs := [0, 1, 2, 3, 4, 1005]) rfl b (((.cons (by decide) (.cons (by decide) (.cons (by decide) (.cons (by decide) (.cons (by decide) .nil))))) : HLt _ _) b x hx)) (fr_map fun _ => rfl)) .nil)))) (.row (by decide) rfl (fr_map fun _ => rfl) (.row (by decide) rfl (fr_map fun _ => rfl) (.row (by decide) rfl (fr_map fun _ => rfl) (.box (by decide) rfl (blkAs_cells (.cons (.same rfl) (.cons (lstC_ren rfl (by decide)) (.cons (lstC_ren rfl (by decide)) .nil)))) .nil))))))) ?_
    refine un (a2v (v := (lstV false 6 3 [(⟨r_2.Kind, r_2.Names, r_3⟩ : TJCell)].length)) (h' := upd _ 6 (lstB false 3 ([(⟨r_2.Kind, r_2.Names, r_3⟩ : TJCell)].map e_TJCell))) (n' := 7) rfl rfl (fun h => by cases h) ?_)
    obtain ⟨r_4, hr5, h⟩ := bnd h
    have hz1 : (zout && [(⟨r_2.Kind, r_2.Names, r_3⟩ : TJCell)].isEmpty) = true → r_4 = [] := app_nil (z := zout) (ys := [(⟨r_2.Kind, r_2.Names, r_3⟩ : TJCell)]) hzout hr5
    refine un (a2v rfl (s_app (xs := out) (ys := [(⟨r_2.Kind, r_2.Names, r_3⟩ : TJCell)]) (e := e_TJCell) (z := zout) (b := 3) rfl rfl hzout rfl rfl (slc_lst rfl (List.length_map _).symm (map_nil_of (fun h => by cases h))) hr5) (fun h => by cases h) ?_)
    refine un (a1 rfl ?_)
    refine dnil ?_
    refine Sv.region ?_
    refine un (a1 (v := (I (wi (v27 + 1)))) rfl ?_)
    refine un (a1 rfl ?_)
    refine dnil ?_
    exact hself w1 w2 r_4 (wi (v27 + 1)) zw1 hzw1 zw2 hzw2 (zout && [(⟨r_2.Kind, r_2.Names, r_3⟩ : TJCell)].isEmpty) hz1 h _ (weak_canon [0, 1, 2, 7] rfl (by decide) (by decide) (fun b h => absurd h (Nat.not_lt_zero _)) (.cons rfl (avAs_free rfl) (.cons rfl (avAs_free rfl) (.cons rfl (.c (lstC_ren rfl (by decide))) (.cons rfl (.c (lstC_ren rfl (by decide))) (.cons rfl (.c (.ref rfl (by decide))) (.cons rfl (avAs_free rfl) (.cons rfl (avAs_free rfl) .nil))))))) (.row (by decide) rfl (fr_map fun _ => rfl) (.row (by decide) rfl (fr_map fun _ => rfl) (.row (by decide) rfl (fr_map fun _ => rfl) (.box (by decide) rfl (blkAs_cells (.cons (.same rfl) (.cons (lstC_ren rfl (by decide)) (.cons (lstC_ren rfl (by decide)) .nil)))) .nil)))))
  · replace h := ifF hc2 h
    refine Sv.exit ?_
    exact hK0 w1 w2 out zw1 hzw1 zw2 hzw2 zout hzout h _ (weak_canon [0, 1, 2, 3] rfl (by decide) (by decide) (fun b h => absurd h (Nat.not_lt_zero _)) (.cons rfl (.c (lstC_ren rfl (by decide))) (.cons rfl (.c (.ref rfl (by decide))) (.cons rfl (avAs_free rfl) .nil))) (.row (by decide) rfl (fr_map fun _ => rfl) (.row (by decide) rfl (fr_map fun _ => rfl) (.row (by decide) rfl (fr_map fun _ => rfl) (.box (by decide) rfl (blkAs_cells (.cons (.same rfl) (.cons (lstC_ren rfl (by decide)) (.cons (lstC_ren rfl (by decide)) .nil)))) .nil)))))
/-- clerestory/heap.Move -/
noncomputable def heap_Move (h_ : (List TJCell)) (roots : (List TJVal)) : Option ((List TJCell) × (List TJVal) × Int) :=
  (heap_asked h_ roots).bind fun r_ =>
  if (!decide (r_ = 0)) then
    some (([] : List TJCell), ([] : List TJVal), r_)
  else
    (heap_walked h_ roots).bind fun r_1 =>
    lim fun kk => heap_Move_l0 r_1 h_ roots (fun (w11 : (List Int)) (w21 : (List Int)) (out1 : (List TJCell)) => 
        (clerestory_heap_walker_moved (⟨r_1.f_h, w11, w21⟩ : Twalker) roots).bind fun r_5 =>
        some (out1, r_5, 0)) kk r_1.f_to r_1.f_all ([] : List TJCell) 0
theorem heap_Move_ok {Γ : Glob} {h_ : (List TJCell)} {roots : (List TJVal)} {r : ((List TJCell) × (List TJVal) × Int)} (h : heap_Move h_ roots = some r) : ACalls Try.prog Γ 21 [(.c (.ro false 3 (h_.map e_TJCell))), (.c (.ro false 3 (roots.map e_TJVal)))] (fun _ => none) 0 (heap_Move_post r) := by
  refine acalls_of_sv hmix c21 (R := heap_Move_post r) ?_
  unfold heap_Move at h
  refine Sv.seq ?_
  refine Sv.region ?_
  refine un (a1 rfl ?_)
  refine un (a1 rfl ?_)
  refine un (a1 rfl ?_)
  refine dnil ?_
  refine Sv.seq ?_
  refine Sv.seq ?_
  refine Sv.region ?_
  refine un (a1 rfl ?_)
  refine un (a1 rfl ?_)
  obtain ⟨r_, hr1, h⟩ := bnd h
  refine un (ac_pure (heap_asked_ok hr1) rfl rfl rfl ?_)
  refine un (a1 rfl ?_)
  refine dnil ?_
  refine Sv.seq ?_
  refine Sv.region ?_
  refine un (a1 rfl ?_)
  refine un (a1 (v := (B (!decide (r_ = 0)))) rfl ?_)
  refine dnil ?_
  refine Sv.cond (b := (!decide (r_ = 0))) rfl (fun hc1 => ?_) (fun hc1 => ?_)
  · replace h := ifT hc1 h
    refine Sv.seq ?_
    refine Sv.region ?_
    refine un (a1 rfl ?_)
    refine un (a1 rfl ?_)
    refine un (a1 rfl ?_)
    refine un (a1 rfl ?_)
    refine dnil ?_
    refine Sv.ret ?_
    replace h := Option.some.inj h
    subst h
    exact ⟨_, .refl _, _, rfl, ⟨upd (fun _ => none) 0 (some (.tup [(lstV true 0 3 ([] : List TJCell).length), (lstV true 1 3 ([] : List TJVal).length), (I r_)])), (upd (upd (fun _ => none) 0 (lstB true 3 (([] : List TJCell).map e_TJCell))) 1 (lstB true 3 (([] : List TJVal).map e_TJVal))), 2⟩, (.tup [(lstV true 0 3 ([] : List TJCell).length), (lstV true 1 3 ([] : List TJVal).length), (I r_)]), weak_canon2 [1000, 1001] [0, 1] (by decide) (by decide) (fun b h => absurd h (Nat.not_lt_zero _)) (.cons (by decide) (.cons (by decide) .nil)) (.cons rfl (avAs_tup (.cons (.c (.same rfl)) (.cons (.c (.same rfl)) (.cons (avAs_free rfl) .nil)))) .nil) (.non (by decide) (.non (by decide) .nil)), rfl, true, (fun _ => rfl), true, (fun _ => rfl), rfl, rfl, rfl⟩
  · replace h := ifF hc1 h
    refine Sv.skip ?_
    refine Sv.seq ?_
    refine Sv.region ?_
    refine un (a1 rfl ?_)
    refine un (a1 rfl ?_)
    obtain ⟨r_1, hr2, h⟩ := bnd h
    refine un (ac_gen (bs := []) («as» := [(.c (.ro false 3 (h_.map e_TJCell))), (.c (.ro false 3 (roots.map e_TJVal)))]) (h2 := _) (h1 := (fun _ => none)) (heap_walked_ok hr2) rfl (.cons (avAs_free rfl) (.cons (avAs_free rfl) .nil)) (hsub_refl _) (.nil _) (fun _ => rfl) (by decide) (by decide) (.cons (avAs_free rfl) (.cons (avAs_free rfl) .nil)) .nil ?_)
    rintro _ _ _ hn ⟨z_, hz_, z_1, hz_1, rfl, rfl, rfl⟩
    refine ⟨.inl rfl, (upd (upd (upd (rem [] _) 0 (lstB z_ 1 (r_1.f_to.map eI))) 1 (lstB z_1 1 (r_1.f_all.map eI))) 2 (some (.cells 3 [[.ro false 3 (r_1.f_h.map e_TJCell), lstC z_ 0 1 r_1.f_to.length, lstC z_1 1 1 r_1.f_all.length]]))), fun hbd => (m3_cons (m3_box rfl (by cases z_ <;> cases z_1 <;> rfl)) (m3_cons (m3_row rfl (fr_map fun _ => rfl)) (m3_cons (m3_row rfl (fr_map fun _ => rfl)) (m3_rem (in_nil _) (.cons (by decide) (.cons (by decide) (.cons (by decide) .nil))) hbd)))), (.c (.ref 2 3 0 0)), 3, (by cases z_ <;> cases z_1 <;> rfl), rfl, ?_⟩
    refine un (a1 rfl ?_)
    refine dnil ?_
    refine Sv.seq ?_
    refine Sv.region ?_
    refine un (a1 rfl ?_)
    refine dnil ?_
    refine Sv.seq ?_
    refine Sv.seq ?_
    refine Sv.region ?_
    refine un (a1 rfl ?_)
    refine un (a1 (v := (.c (.ref 2 3 0 0))) rfl ?_)
    refine un (a1 (v := (.c (.ref 2 3 0 2))) rfl ?_)
    refine un (a1 (v := (lstV z_1 1 1 r_1.f_all.length)) rfl ?_)
    refine un (a1 (v := (I (r_1.f_all.length : Int))) (s_lenL rfl (len_nil_of hz_1)) ?_)
    refine un (a1 rfl ?_)
    refine dnil ?_
    refine Sv.block ?_
    obtain ⟨kk, h⟩ := lim_some h
    refine Sv.weak (weak_canon [2, 0, 1, 1000] rfl (by decide) (by decide) (fun b h => absurd h (Nat.not_lt_zero _)) (.cons rfl (avAs_free rfl) (.cons rfl (avAs_free rfl) (.cons rfl (.c (lstC_ren rfl (by decide))) (.cons rfl (.c (.same rfl)) (.cons rfl (.c (.ref rfl (by decide))) (.cons rfl (avAs_free rfl) (.cons rfl (avAs_free rfl) .nil))))))) (.non (by decide) (.row (by decide) rfl (fr_map fun _ => rfl) (.row (by decide) rfl (fr_map fun _ => rfl) (.box (by decide) rfl (blkAs_cells (.cons (.same rfl) (.cons (lstC_ren rfl (by decide)) (.cons (lstC_ren rfl (by decide)) .nil)))) .nil))))) (heap_Move_l0_ok hz_ hz_1 (fun _ => rfl) h ?_ (fun s hs => hs))
    · intro w11 w21 out1 zw11 hzw11 zw21 hzw21 zout1 hzout1 h _ hw1
      refine Sv.weak hw1 ?_
      refine Sv.seq ?_
      refine Sv.region ?_
      refine un (a1 rfl ?_)
      refine un (a1 rfl ?_)
      refine un (a1 rfl ?_)
      obtain ⟨r_5, hr6, h⟩ := bnd h
      refine un (ac_gen (bs := []) («as» := [(.c (.rop [.ro false 3 (r_1.f_h.map e_TJCell), .ro false 1 (w11.map eI), .ro false 1 (w21.map eI)])), (.c (.ro false 3 (roots.map e_TJVal)))]) (h2 := (upd (upd (upd _ 0 none) 1 none) 2 none)) (h1 := (fun _ => none)) (clerestory_heap_walker_moved_ok hr6) rfl (.cons (.c (ref_ro rfl (gone rfl) (.cons (.same rfl) (.cons (lstC_ro (es := List.map eI w11) rfl (List.length_map eI).symm (map_nil_of hzw11) (gone rfl) (fr_map fun _ => rfl)) (.cons (lstC_ro (es := List.map eI w21) rfl (List.length_map eI).symm (map_nil_of hzw21) (gone rfl) (fr_map fun _ => rfl)) .nil))) rfl)) (.cons (avAs_free rfl) .nil)) (hsub_none (hsub_none (hsub_none (hsub_refl _)))) (.nil _) (fun _ => rfl) (by decide) (by decide) (.cons (avAs_free rfl) (.cons (avAs_free rfl) .nil)) .nil ?_)
      rintro _ _ _ hn ⟨z_3, hz_3, rfl, rfl, rfl⟩
      refine ⟨.inr ⟨(by cases z_3 <;> rfl), (.row (cl_map fun _ => rfl) .nil)⟩, (upd (rem [] _) 4 (lstB z_3 3 (r_5.map e_TJVal))), fun hbd => (m3_cons (m3_row rfl (fr_map fun _ => rfl)) (m3_rem (in_nil _) (.cons (by decide) .nil) hbd)), (lstV z_3 4 3 r_5.length), 5, (by cases z_3 <;> rfl), rfl, ?_⟩
      refine un (a1 rfl ?_)
      refine un (a1 rfl ?_)
      refine un (a1 rfl ?_)
      refine dnil ?_
      refine Sv.ret ?_
      replace h := Option.some.inj h
      subst h
      exact ⟨_, .refl _, _, rfl, ⟨upd (fun _ => none) 0 (some (.tup [(lstV zout1 0 3 out1.length), (lstV z_3 1 3 r_5.length), (I 0)])), (upd (upd (fun _ => none) 0 (lstB zout1 3 (out1.map e_TJCell))) 1 (lstB z_3 3 (r_5.map e_TJVal))), 2⟩, (.tup [(lstV zout1 0 3 out1.length), (lstV z_3 1 3 r_5.length), (I 0)]), weak_canon2 [3, 4] [0, 1] (by decide) (by decide) (fun b h => absurd h (Nat.not_lt_zero _)) (.cons (by decide) (.cons (by decide) .nil)) (.cons rfl (avAs_tup (.cons (.c (lstC_ren rfl (by decide))) (.cons (.c (lstC_ren rfl (by decide))) (.cons (avAs_free rfl) .nil)))) .nil) (.row (by decide) rfl (fr_map fun _ => rfl) (.row (by decide) rfl (fr_map fun _ => rfl) .nil)), rfl, zout1, hzout1, z_3, hz_3, rfl, rfl, rfl⟩
def a12 : AFunc := ⟨3, [(.tmp 6)], (.seq (.region [⟨(some 6), (.mov (.const (.c (.val (.bool false))))), none⟩])
 (.seq (.region [⟨(some 7), (.mov (.tmp 1)), none⟩, ⟨(some 8), (.mov (.tmp 0)), none⟩, ⟨(some 9), (.bin .leq (.tmp 7) (.tmp 8)), none⟩, ⟨(some 10), (.mov (.tmp 9)), none⟩, ⟨(some 11), (.mov (.tmp 0)), (some (10, true))⟩, ⟨(some 12), (.mov (.tmp 2)), (some (10, true))⟩, ⟨(some 13), (.bin .leq (.tmp 11) (.tmp 12)), (some (10, true))⟩, ⟨(some 14), (.pick (.tmp 10) (.tmp 13) (.const (.c (.val (.bool false))))), none⟩, ⟨(some 6), (.mov (.tmp 14)), none⟩])
 .ret))⟩
set_option maxRecDepth 100000 in
theorem c12 : compFunc Try.prog 12 = some a12 := by kernel_rfl
def clerestoryref4_Between_post (r : Bool) : AV → Heap → Nat → Prop := fun v h' n' => v = (B r) ∧ (h' = (fun _ => none)) ∧ n' = 0
/-- clerestory/clerestoryref4.Between -/
def clerestoryref4_Between (n_ : Int) (low : Int) (high : Int) : Bool :=
  ((decide (low ≤ n_)) && (decide (n_ ≤ high)))
theorem clerestoryref4_Between_ok {Γ : Glob} (n_ : Int) (low : Int) (high : Int) : CPure Try.prog Γ 12 [(I n_), (I low), (I high)] (B (clerestoryref4_Between n_ low high)) := by
  generalize h : clerestoryref4_Between n_ low high = o
  refine acalls_of_sv hmix c12 (R := clerestoryref4_Between_post o) ?_
  unfold clerestoryref4_Between at h
  refine Sv.seq ?_
  refine Sv.region ?_
  refine un (a1 rfl ?_)
  refine dnil ?_
  refine Sv.seq ?_
  refine Sv.region ?_
  refine un (a1 rfl ?_)
  refine un (a1 rfl ?_)
  refine un (a1 (v := (B (decide (low ≤ n_)))) rfl ?_)
  refine un (a1 rfl ?_)
  refine gjoin 4 (d := 14) (v := (B ((decide (low ≤ n_)) && (decide (n_ ≤ high))))) (fun X hX => ?_) ?_
  · refine split2 (fun hc1 => ?_) (fun hc1 => ?_)
    · refine gt rfl (a1 rfl ?_)
      refine gt rfl (a1 rfl ?_)
      refine gt rfl (a1 (v := (B (decide (n_ ≤ high)))) rfl ?_)
      refine un (a1 (v := (B (decide (n_ ≤ high)))) rfl ?_)
      refine dnil ?_
      exact hX _ (.putEq (by rw [hc1]; rfl) (.skip _ _ (.skip _ _ (.skip _ _ (.putEq (by rw [hc1]) (.refl _)) rfl) rfl) rfl))
    · refine gs rfl rfl ?_
      refine gs rfl rfl ?_
      refine gs rfl rfl ?_
      refine un (a1 (v := (B false)) rfl ?_)
      refine dnil ?_
      exact hX _ (.putEq (by rw [hc1]; rfl) (.skip _ _ (.skip _ _ (.skip _ _ (.putEq (by rw [hc1]) (.refl _)) rfl) rfl) rfl))
  refine un (a1 rfl ?_)
  refine dnil ?_
  refine Sv.ret ?_
  subst h
  exact ⟨_, .refl _, _, rfl, ⟨upd (fun _ => none) 0 (some (B ((decide (low ≤ n_)) && (decide (n_ ≤ high))))), (fun _ => none), 0⟩, (B ((decide (low ≤ n_)) && (decide (n_ ≤ high)))), weak_canon [] rfl List.nodup_nil (Nat.le_refl _) (fun b h => absurd h (Nat.not_lt_zero _)) (.cons rfl (avAs_free rfl) .nil) .nil, rfl, rfl, rfl, rfl⟩
end Go.Proofs.YtoomjemboekooaaBv
