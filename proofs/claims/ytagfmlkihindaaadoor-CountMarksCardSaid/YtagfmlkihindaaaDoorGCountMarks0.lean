/- Printed by a program of mine (bgen.py): plain functions, and the walks that show that the code comes to what they answer. -/
import Derived.Test.YtagfmlkihindaaaDoorRows
import Derived.Test.YtagfmlkihindaaaDoorBv22
import Derived.Test.YtagfmlkihindaaaDoorBv30
import Derived.Test.YtagfmlkihindaaaDoorShelf
import Derived.Test.YtagfmlkihindaaaDoorBld
import Derived.Test.YtagfmlkihindaaaDoorBv33
namespace Go.Proofs.YtagfmlkihindaaaDoorBv
open Go
set_option linter.unusedVariables false
set_option maxRecDepth 100000
theorem hmix : Tryd.prog.follows .mixedOrders = true := by kernel_rfl
structure Tanon where
  f_n : Int
  f_s : (List UInt8)
def e_Tanon (x : Tanon) : List Cel := [cI x.f_n, .str x.f_s]
def g6_c : List Cel := [.val (.int .u8 240), .val (.int .u8 240), .val (.int .u8 240), .val (.int .u8 240), .val (.int .u8 240), .val (.int .u8 240), .val (.int .u8 240), .val (.int .u8 240), .val (.int .u8 240), .val (.int .u8 240), .val (.int .u8 240), .val (.int .u8 240), .val (.int .u8 240), .val (.int .u8 240), .val (.int .u8 240), .val (.int .u8 240), .val (.int .u8 240), .val (.int .u8 240), .val (.int .u8 240), .val (.int .u8 240), .val (.int .u8 240), .val (.int .u8 240), .val (.int .u8 240), .val (.int .u8 240), .val (.int .u8 240), .val (.int .u8 240), .val (.int .u8 240), .val (.int .u8 240), .val (.int .u8 240), .val (.int .u8 240), .val (.int .u8 240), .val (.int .u8 240), .val (.int .u8 240), .val (.int .u8 240), .val (.int .u8 240), .val (.int .u8 240), .val (.int .u8 240), .val (.int .u8 240), .val (.int .u8 240), .val (.int .u8 240), .val (.int .u8 240), .val (.int .u8 240), .val (.int .u8 240), .val (.int .u8 240), .val (.int .u8 240), .val (.int .u8 240), .val (.int .u8 240), .val (.int .u8 240), .val (.int .u8 240), .val (.int .u8 240), .val (.int .u8 240), .val (.int .u8 240), .val (.int .u8 240), .val (.int .u8 240), .val (.int .u8 240), .val (.int .u8 240), .val (.int .u8 240), .val (.int .u8 240), .val (.int .u8 240), .val (.int .u8 240), .val (.int .u8 240), .val (.int .u8 240), .val (.int .u8 240), .val (.int .u8 240), .val (.int .u8 240), .val (.int .u8 240), .val (.int .u8 240), .val (.int .u8 240), .val (.int .u8 240), .val (.int .u8 240), .val (.int .u8 240), .val (.int .u8 240), .val (.int .u8 240), .val (.int .u8 240), .val (.int .u8 240), .val (.int .u8 240), .val (.int .u8 240), .val (.int .u8 240), .val (.int .u8 240), .val (.int .u8 240), .val (.int .u8 240), .val (.int .u8 240), .val (.int .u8 240), .val (.int .u8 240), .val (.int .u8 240), .val (.int .u8 240), .val (.int .u8 240), .val (.int .u8 240), .val (.int .u8 240), .val (.int .u8 240), .val (.int .u8 240), .val (.int .u8 240), .val (.int .u8 240), .val (.int .u8 240), .val (.int .u8 240), .val (.int .u8 240), .val (.int .u8 240), .val (.int .u8 240), .val (.int .u8 240), .val (.int .u8 240), .val (.int .u8 240), .val (.int .u8 240), .val (.int .u8 240), .val (.int .u8 240), .val (.int .u8 240), .val (.int .u8 240), .val (.int .u8 240), .val (.int .u8 240), .val (.int .u8 240), .val (.int .u8 240), .val (.int .u8 240), .val (.int .u8 240), .val (.int .u8 240), .val (.int .u8 240), .val (.int .u8 240), .val (.int .u8 240), .val (.int .u8 240), .val (.int .u8 240), .val (.int .u8 240), .val (.int .u8 240), .val (.int .u8 240), .val (.int .u8 240), .val (.int .u8 240), .val (.int .u8 240), .val (.int .u8 240), .val (.int .u8 240), .val (.int .u8 240), .val (.int .u8 240), .val (.int .u8 241), .val (.int .u8 241), .val (.int .u8 241), .val (.int .u8 241), .val (.int .u8 241), .val (.int .u8 241), .val (.int .u8 241), .val (.int .u8 241), .val (.int .u8 241), .val (.int .u8 241), .val (.int .u8 241), .val (.int .u8 241), .val (.int .u8 241), .val (.int .u8 241), .val (.int .u8 241), .val (.int .u8 241), .val (.int .u8 241), .val (.int .u8 241), .val (.int .u8 241), .val (.int .u8 241), .val (.int .u8 241), .val (.int .u8 241), .val (.int .u8 241), .val (.int .u8 241), .val (.int .u8 241), .val (.int .u8 241), .val (.int .u8 241), .val (.int .u8 241), .val (.int .u8 241), .val (.int .u8 241), .val (.int .u8 241), .val (.int .u8 241), .val (.int .u8 241), .val (.int .u8 241), .val (.int .u8 241), .val (.int .u8 241), .val (.int .u8 241), .val (.int .u8 241), .val (.int .u8 241), .val (.int .u8 241), .val (.int .u8 241), .val (.int .u8 241), .val (.int .u8 241), .val (.int .u8 241), .val (.int .u8 241), .val (.int .u8 241), .val (.int .u8 241), .val (.int .u8 241), .val (.int .u8 241), .val (.int .u8 241), .val (.int .u8 241), .val (.int .u8 241), .val (.int .u8 241), .val (.int .u8 241), .val (.int .u8 241), .val (.int .u8 241), .val (.int .u8 241), .val (.int .u8 241), .val (.int .u8 241), .val (.int .u8 241), .val (.int .u8 241), .val (.int .u8 241), .val (.int .u8 241), .val (.int .u8 241), .val (.int .u8 241), .val (.int .u8 241), .val (.int .u8 2), .val (.int .u8 2), .val (.int .u8 2), .val (.int .u8 2), .val (.int .u8 2), .val (.int .u8 2), .val (.int .u8 2), .val (.int .u8 2), .val (.int .u8 2), .val (.int .u8 2), .val (.int .u8 2), .val (.int .u8 2), .val (.int .u8 2), .val (.int .u8 2), .val (.int .u8 2), .val (.int .u8 2), .val (.int .u8 2), .val (.int .u8 2), .val (.int .u8 2), .val (.int .u8 2), .val (.int .u8 2), .val (.int .u8 2), .val (.int .u8 2), .val (.int .u8 2), .val (.int .u8 2), .val (.int .u8 2), .val (.int .u8 2), .val (.int .u8 2), .val (.int .u8 2), .val (.int .u8 2), .val (.int .u8 19), .val (.int .u8 3), .val (.int .u8 3), .val (.int .u8 3), .val (.int .u8 3), .val (.int .u8 3), .val (.int .u8 3), .val (.int .u8 3), .val (.int .u8 3), .val (.int .u8 3), .val (.int .u8 3), .val (.int .u8 3), .val (.int .u8 3), .val (.int .u8 35), .val (.int .u8 3), .val (.int .u8 3), .val (.int .u8 52), .val (.int .u8 4), .val (.int .u8 4), .val (.int .u8 4), .val (.int .u8 68), .val (.int .u8 241), .val (.int .u8 241), .val (.int .u8 241), .val (.int .u8 241), .val (.int .u8 241), .val (.int .u8 241), .val (.int .u8 241), .val (.int .u8 241), .val (.int .u8 241), .val (.int .u8 241), .val (.int .u8 241)]
def g7_c : List Cel := [.val (.int .u8 128), .val (.int .u8 191), .val (.int .u8 160), .val (.int .u8 191), .val (.int .u8 128), .val (.int .u8 159), .val (.int .u8 144), .val (.int .u8 191), .val (.int .u8 128), .val (.int .u8 143), .val (.int .u8 0), .val (.int .u8 0), .val (.int .u8 0), .val (.int .u8 0), .val (.int .u8 0), .val (.int .u8 0), .val (.int .u8 0), .val (.int .u8 0), .val (.int .u8 0), .val (.int .u8 0), .val (.int .u8 0), .val (.int .u8 0), .val (.int .u8 0), .val (.int .u8 0), .val (.int .u8 0), .val (.int .u8 0), .val (.int .u8 0), .val (.int .u8 0), .val (.int .u8 0), .val (.int .u8 0), .val (.int .u8 0), .val (.int .u8 0)]
def g8_c : List Cel := [.val (.int .u64 1), .val (.int .u64 10), .val (.int .u64 100), .val (.int .u64 1000), .val (.int .u64 10000), .val (.int .u64 100000), .val (.int .u64 1000000), .val (.int .u64 10000000), .val (.int .u64 100000000), .val (.int .u64 1000000000), .val (.int .u64 10000000000), .val (.int .u64 100000000000), .val (.int .u64 1000000000000), .val (.int .u64 10000000000000), .val (.int .u64 100000000000000), .val (.int .u64 1000000000000000), .val (.int .u64 10000000000000000), .val (.int .u64 100000000000000000), .val (.int .u64 1000000000000000000), .val (.int .u64 10000000000000000000)]
def g9_c : List Cel := [.val (.int .u8 0), .val (.int .u8 1), .val (.int .u8 28), .val (.int .u8 2), .val (.int .u8 29), .val (.int .u8 14), .val (.int .u8 24), .val (.int .u8 3), .val (.int .u8 30), .val (.int .u8 22), .val (.int .u8 20), .val (.int .u8 15), .val (.int .u8 25), .val (.int .u8 17), .val (.int .u8 4), .val (.int .u8 8), .val (.int .u8 31), .val (.int .u8 27), .val (.int .u8 13), .val (.int .u8 23), .val (.int .u8 21), .val (.int .u8 19), .val (.int .u8 16), .val (.int .u8 7), .val (.int .u8 26), .val (.int .u8 12), .val (.int .u8 18), .val (.int .u8 6), .val (.int .u8 11), .val (.int .u8 5), .val (.int .u8 10), .val (.int .u8 9)]
def g10_c : List Cel := [.val (.int .u8 0), .val (.int .u8 1), .val (.int .u8 56), .val (.int .u8 2), .val (.int .u8 57), .val (.int .u8 49), .val (.int .u8 28), .val (.int .u8 3), .val (.int .u8 61), .val (.int .u8 58), .val (.int .u8 42), .val (.int .u8 50), .val (.int .u8 38), .val (.int .u8 29), .val (.int .u8 17), .val (.int .u8 4), .val (.int .u8 62), .val (.int .u8 47), .val (.int .u8 59), .val (.int .u8 36), .val (.int .u8 45), .val (.int .u8 43), .val (.int .u8 51), .val (.int .u8 22), .val (.int .u8 53), .val (.int .u8 39), .val (.int .u8 33), .val (.int .u8 30), .val (.int .u8 24), .val (.int .u8 18), .val (.int .u8 12), .val (.int .u8 5), .val (.int .u8 63), .val (.int .u8 55), .val (.int .u8 48), .val (.int .u8 27), .val (.int .u8 60), .val (.int .u8 41), .val (.int .u8 37), .val (.int .u8 16), .val (.int .u8 46), .val (.int .u8 35), .val (.int .u8 44), .val (.int .u8 21), .val (.int .u8 52), .val (.int .u8 32), .val (.int .u8 23), .val (.int .u8 11), .val (.int .u8 54), .val (.int .u8 26), .val (.int .u8 40), .val (.int .u8 15), .val (.int .u8 34), .val (.int .u8 20), .val (.int .u8 31), .val (.int .u8 10), .val (.int .u8 25), .val (.int .u8 14), .val (.int .u8 19), .val (.int .u8 9), .val (.int .u8 13), .val (.int .u8 8), .val (.int .u8 7), .val (.int .u8 6)]
/-- what the listed package variables hold -/
def GG : Glob := fun g => if g = 6 then g6_c else if g = 7 then g7_c else if g = 8 then g8_c else if g = 9 then g9_c else if g = 10 then g10_c else []
def a73 : AFunc := ⟨3, [(.tmp 6)], (.seq (.region [⟨(some 6), (.mov (.const (.c (.val (.bool false))))), none⟩])
 (.seq (.region [⟨(some 7), (.mov (.tmp 0)), none⟩, ⟨(some 8), (.mov (.tmp 1)), none⟩, ⟨(some 9), (.bin .geq (.tmp 7) (.tmp 8)), none⟩, ⟨(some 10), (.mov (.tmp 9)), none⟩, ⟨(some 11), (.mov (.tmp 0)), (some (10, true))⟩, ⟨(some 12), (.mov (.tmp 2)), (some (10, true))⟩, ⟨(some 13), (.bin .leq (.tmp 11) (.tmp 12)), (some (10, true))⟩, ⟨(some 14), (.pick (.tmp 10) (.tmp 13) (.const (.c (.val (.bool false))))), none⟩, ⟨(some 6), (.mov (.tmp 14)), none⟩])
 .ret))⟩
set_option maxRecDepth 100000 in
theorem c73 : compFunc Tryd.prog 73 = some a73 := by kernel_rfl
def count_in_post (r : Bool) : AV → Heap → Nat → Prop := fun v h' n' => v = (B r) ∧ (h' = (fun _ => none)) ∧ n' = 0
/-- clerestory/count.in -/
def count_in (n_ : Int) (low : Int) (high : Int) : Bool :=
  ((decide (low ≤ n_)) && (decide (n_ ≤ high)))
theorem count_in_ok (n_ : Int) (low : Int) (high : Int) : CPure Tryd.prog GG 73 [(I n_), (I low), (I high)] (B (count_in n_ low high)) := by
  generalize h : count_in n_ low high = o
  refine acalls_of_sv hmix c73 (R := count_in_post o) ?_
  unfold count_in at h
  refine Sv.seq ?_
  refine Sv.region ?_
  refine un (a1 rfl ?_)
  refine dnil ?_
  refine Sv.seq ?_
  refine Sv.region ?_
  refine un (a1 rfl ?_)
  refine un (a1 rfl ?_)
  refine un (a1 (v := (B (decide (low ≤ n_)))) rfl ?_)
  refine un (a1 rfl ?_)
  refine gjoin 4 (d := 14) (v := (B ((decide (low ≤ n_)) && (decide (n_ ≤ high))))) (fun X hX => ?_) ?_
  · refine split2 (fun hc1 => ?_) (fun hc1 => ?_)
    · refine gt rfl (a1 rfl ?_)
      refine gt rfl (a1 rfl ?_)
      refine gt rfl (a1 (v := (B (decide (n_ ≤ high)))) rfl ?_)
      refine un (a1 (v := (B (decide (n_ ≤ high)))) rfl ?_)
      refine dnil ?_
      exact hX _ (.putEq (by rw [hc1]; rfl) (.skip _ _ (.skip _ _ (.skip _ _ (.putEq (by rw [hc1]) (.refl _)) rfl) rfl) rfl))
    · refine gs rfl rfl ?_
      refine gs rfl rfl ?_
      refine gs rfl rfl ?_
      refine un (a1 (v := (B false)) rfl ?_)
      refine dnil ?_
      exact hX _ (.putEq (by rw [hc1]; rfl) (.skip _ _ (.skip _ _ (.skip _ _ (.putEq (by rw [hc1]) (.refl _)) rfl) rfl) rfl))
  refine un (a1 rfl ?_)
  refine dnil ?_
  refine Sv.ret ?_
  subst h
  exact ⟨_, .refl _, _, rfl, ⟨upd (fun _ => none) 0 (some (B ((decide (low ≤ n_)) && (decide (n_ ≤ high))))), (fun _ => none), 0⟩, (B ((decide (low ≤ n_)) && (decide (n_ ≤ high)))), weak_canon [] rfl List.nodup_nil (Nat.le_refl _) (fun b h => absurd h (Nat.not_lt_zero _)) (.cons rfl (avAs_free rfl) .nil) .nil, rfl, rfl, rfl, rfl⟩
def a143_c0 : ACode := (.seq (.seq (.region [⟨(some 7), (.mov (.tmp 2)), none⟩, ⟨(some 8), (.mov (.tmp 3)), none⟩, ⟨(some 9), (.bin .lss (.tmp 7) (.tmp 8)), none⟩])
 (.cond (.tmp 9) .skip (.exit 0)))
 (.seq (.block 1 (.drawn (.fin [(⟨(some 14), (.mov (.tmp 0)), none⟩, (0, 0)), (⟨(some 15), (.mov (.tmp 2)), none⟩, (0, 1)), (⟨(some 16), (.mov (.tmp 0)), none⟩, (0, 2)), (⟨(some 17), (.mov (.tmp 3)), none⟩, (0, 3)), (⟨(some 18), (.mov (.tmp 0)), none⟩, (0, 4)), (⟨(some 19), (.mov (.tmp 3)), none⟩, (0, 5)), (⟨(some 20), (.iaddr 1 (.tmp 18) (.tmp 19)), none⟩, (0, 6)), (⟨(some 21), (.load false 1 (.tmp 20)), none⟩, (0, 7)), (⟨(some 22), (.mov (.tmp 0)), none⟩, (0, 8)), (⟨(some 23), (.mov (.tmp 2)), none⟩, (0, 9)), (⟨(some 24), (.iaddr 1 (.tmp 22) (.tmp 23)), none⟩, (0, 10)), (⟨(some 25), (.load false 1 (.tmp 24)), none⟩, (0, 11)), (⟨(some 26), (.iaddr 1 (.tmp 14) (.tmp 15)), none⟩, (0, 12)), (⟨none, (.store 1 (.tmp 26) (.tmp 21)), none⟩, (2, 13)), (⟨(some 27), (.iaddr 1 (.tmp 16) (.tmp 17)), none⟩, (0, 14)), (⟨none, (.store 1 (.tmp 27) (.tmp 25)), none⟩, (2, 15))])))
 (.region [⟨(some 10), (.mov (.tmp 2)), none⟩, ⟨(some 11), (.bin .add (.tmp 10) (.const (.c (.val (.int .i64 1))))), none⟩, ⟨(some 12), (.mov (.tmp 3)), none⟩, ⟨(some 13), (.bin .sub (.tmp 12) (.const (.c (.val (.int .i64 1))))), none⟩, ⟨(some 2), (.mov (.tmp 11)), none⟩, ⟨(some 3), (.mov (.tmp 13)), none⟩])))
def a143 : AFunc := ⟨1, [], (.seq (.region [⟨(some 4), (.mov (.tmp 0)), none⟩, ⟨(some 5), (.len (.tmp 4)), none⟩, ⟨(some 6), (.bin .sub (.tmp 5) (.const (.c (.val (.int .i64 1))))), none⟩, ⟨(some 2), (.mov (.const (.c (.val (.int .i64 0))))), none⟩, ⟨(some 3), (.mov (.tmp 6)), none⟩])
 (.block 0 (.loop a143_c0)))⟩
set_option maxRecDepth 100000 in
theorem c143 : compFunc Tryd.prog 143 = some a143 := by kernel_rfl
def slices_Reverse_byte_post (zs : Bool) (r : (List Int)) : AV → Heap → Nat → Prop := fun v h' n' => v = (.tup []) ∧ (h' = (upd (fun _ => none) 0 (lstB zs 1 (r.map (eK .u8))))) ∧ n' = 1
noncomputable def slices_Reverse_byte_l0 (K0_ : (List Int) → Option (List Int)) : Nat → (List Int) → Int → Int → Option (List Int)
  | 0, _, _, _ => none
  | k + 1, s_1, i_, j_ =>
    if decide (i_ < j_) then
      (at? s_1 j_).bind fun x_ =>
      (at? s_1 i_).bind fun x_1 =>
      (at? s_1 i_).bind fun x_2 =>
      (at? (s_1.set i_.toNat x_) j_).bind fun x_3 =>
      (slices_Reverse_byte_l0 K0_ k) ((s_1.set i_.toNat x_).set j_.toNat x_1) (wi (i_ + 1)) (wi (j_ - 1))
    else
      K0_ s_1
theorem slices_Reverse_byte_l0_ok {Q : AExit → St → Prop} {zs : Bool} {K0_ : (List Int) → Option (List Int)} {k : Nat} {s_1 : (List Int)} {i_ : Int} {j_ : Int} (hzs1 : zs = true → s_1 = []) {o : (List Int)} (h : slices_Reverse_byte_l0 K0_ k s_1 i_ j_ = some o)
    (hK0 : ∀ (s_2 : (List Int)) (_ : zs = true → s_2 = []), K0_ s_2 = some o → ∀ s, Weak 1 s ⟨(upd (fun _ => none) 0 (some (lstV zs 0 1 s_2.length))), (upd (fun _ => none) 0 (lstB zs 1 (s_2.map (eK .u8)))), 1⟩ → Q (.exit 0) s)
    (hr : ∀ s, Ends a143.results 1 (slices_Reverse_byte_post zs o) .ret s → Q .ret s) :
    Sv Tryd.prog GG 1 (.loop a143_c0) Q ⟨(upd (upd (upd (fun _ => none) 0 (some (lstV zs 0 1 s_1.length))) 2 (some (I i_))) 3 (some (I j_))), (upd (fun _ => none) 0 (lstB zs 1 (s_1.map (eK .u8)))), 1⟩ := by
  refine Sv.loop (I := fun k s => ∃ (s_1 : (List Int)), ∃ (i_ : Int), ∃ (j_ : Int), (zs = true → s_1 = []) ∧ slices_Reverse_byte_l0 K0_ k s_1 i_ j_ = some o ∧ s = ⟨(upd (upd (upd (fun _ => none) 0 (some (lstV zs 0 1 s_1.length))) 2 (some (I i_))) 3 (some (I j_))), (upd (fun _ => none) 0 (lstB zs 1 (s_1.map (eK .u8)))), 1⟩) (fun k s hI => ?_) ⟨s_1, i_, j_, hzs1, h, rfl⟩
  clear h
  clear hzs1 j_ i_ s_1
  obtain ⟨s_1, i_, j_, hzs1, h, rfl⟩ := hI
  cases k with
  | zero => cases h
  | succ k =>
  rw [slices_Reverse_byte_l0] at h
  have hself : ∀ (s_1 : (List Int)) (i_ : Int) (j_ : Int) (_ : zs = true → s_1 = []), (slices_Reverse_byte_l0 K0_ k) s_1 i_ j_ = some o → ∀ s, Weak 1 s ⟨(upd (upd (upd (fun _ => none) 0 (some (lstV zs 0 1 s_1.length))) 2 (some (I i_))) 3 (some (I j_))), (upd (fun _ => none) 0 (lstB zs 1 (s_1.map (eK .u8)))), 1⟩ → (AThen (fun s' => ∃ s'' k', Weak 1 s' s'' ∧ k' < k + 1 ∧ (fun k s => ∃ (s_1 : (List Int)), ∃ (i_ : Int), ∃ (j_ : Int), (zs = true → s_1 = []) ∧ slices_Reverse_byte_l0 K0_ k s_1 i_ j_ = some o ∧ s = ⟨(upd (upd (upd (fun _ => none) 0 (some (lstV zs 0 1 s_1.length))) 2 (some (I i_))) 3 (some (I j_))), (upd (fun _ => none) 0 (lstB zs 1 (s_1.map (eK .u8)))), 1⟩) k' s'') Q) .normal s := fun s_1 i_ j_ hzs1 h s hw => ⟨_, k, hw, Nat.lt_succ_self k, s_1, i_, j_, hzs1, h, rfl⟩
  refine Sv.seq ?_
  refine Sv.seq ?_
  refine Sv.region ?_
  refine un (a1 rfl ?_)
  refine un (a1 rfl ?_)
  refine un (a1 (v := (B (decide (i_ < j_)))) rfl ?_)
  refine dnil ?_
  refine Sv.cond (b := decide (i_ < j_)) rfl (fun hc1 => ?_) (fun hc1 => ?_)
  · replace h := ifT hc1 h
    refine Sv.skip ?_
    refine Sv.seq ?_
    refine Sv.block ?_
    refine Sv.drawn ?_
    refine un (a1 rfl ?_)
    refine un (a1 rfl ?_)
    refine un (a1 rfl ?_)
    refine un (a1 rfl ?_)
    refine un (a1 rfl ?_)
    refine un (a1 rfl ?_)
    obtain ⟨x_, hx1, h⟩ := bnd h
    refine un (a1 (v := (.c (.ref 0 1 j_.toNat 0))) (s_iaddrL rfl rfl hzs1 hx1) ?_)
    refine un (a1 (v := (.c (.val (.int .u8 x_)))) (s_loadL (z := zs) (e := (eK .u8)) rfl rfl hzs1 hx1 rfl rfl) ?_)
    refine un (a1 rfl ?_)
    refine un (a1 rfl ?_)
    obtain ⟨x_1, hx2, h⟩ := bnd h
    refine un (a1 (v := (.c (.ref 0 1 i_.toNat 0))) (s_iaddrL rfl rfl hzs1 hx2) ?_)
    refine un (a1 (v := (.c (.val (.int .u8 x_1)))) (s_loadL (z := zs) (e := (eK .u8)) rfl rfl hzs1 hx2 rfl rfl) ?_)
    obtain ⟨x_2, hx3, h⟩ := bnd h
    refine un (a1 (v := (.c (.ref 0 1 i_.toNat 0))) (s_iaddrL rfl rfl hzs1 hx3) ?_)
    refine un (a2n (h' := upd _ 0 (lstB zs 1 ((s_1.set i_.toNat x_).map (eK .u8)))) (n' := 1) rfl (s_storeL (e := (eK .u8)) (q' := x_) rfl rfl hzs1 hx3 rfl rfl rfl (Nat.le_of_ble_eq_true rfl) rfl) (fun h => by cases h) ?_)
    try rw [len_set s_1 i_.toNat x_]
    obtain ⟨x_3, hx4, h⟩ := bnd h
    refine un (a1 (v := (.c (.ref 0 1 j_.toNat 0))) (s_iaddrL rfl rfl (hz_len hzs1 (len_set s_1 i_.toNat x_)) hx4) ?_)
    refine un (a2n (h' := upd _ 0 (lstB zs 1 (((s_1.set i_.toNat x_).set j_.toNat x_1).map (eK .u8)))) (n' := 1) rfl (s_storeL (e := (eK .u8)) (q' := x_1) rfl rfl (hz_len hzs1 (len_set s_1 i_.toNat x_)) hx4 rfl rfl rfl (Nat.le_of_ble_eq_true rfl) rfl) (fun h => by cases h) ?_)
    try rw [len_set (s_1.set i_.toNat x_) j_.toNat x_1]
    refine dnil ?_
    refine Sv.region ?_
    refine un (a1 rfl ?_)
    refine un (a1 (v := (I (wi (i_ + 1)))) rfl ?_)
    refine un (a1 rfl ?_)
    refine un (a1 (v := (I (wi (j_ - 1)))) rfl ?_)
    refine un (a1 rfl ?_)
    refine un (a1 rfl ?_)
    refine dnil ?_
    exact hself ((s_1.set i_.toNat x_).set j_.toNat x_1) (wi (i_ + 1)) (wi (j_ - 1)) (hz_len (hz_len hzs1 (len_set s_1 i_.toNat x_)) (len_set (s_1.set i_.toNat x_) j_.toNat x_1)) h _ (weak_canon [0] rfl (by decide) (by decide) (by decide) (.cons rfl (avAs_free rfl) (.cons rfl (avAs_free rfl) (.cons rfl (.c (lstC_ren rfl (by decide))) .nil))) (.row (by decide) rfl (fr_map fun _ => rfl) .nil))
  · replace h := ifF hc1 h
    refine Sv.exit ?_
    exact hK0 s_1 hzs1 h _ (weak_canon [0] rfl (by decide) (by decide) (by decide) (.cons rfl (.c (lstC_ren rfl (by decide))) .nil) (.row (by decide) rfl (fr_map fun _ => rfl) .nil))
/-- slices.Reverse(()byte,byte) -/
noncomputable def slices_Reverse_byte (s_ : (List Int)) : Option (List Int) :=
  lim fun kk => slices_Reverse_byte_l0 (fun (s_2 : (List Int)) => 
      some s_2) kk s_ 0 (wi ((s_.length : Int) - 1))
theorem slices_Reverse_byte_ok {s_ : (List Int)} {zs : Bool} (hzs : zs = true → s_ = []) {r : (List Int)} (h : slices_Reverse_byte s_ = some r) : ACalls Tryd.prog GG 143 [(lstV zs 0 1 s_.length)] (upd (fun _ => none) 0 (lstB zs 1 (s_.map (eK .u8)))) 1 (slices_Reverse_byte_post zs r) := by
  refine acalls_of_sv hmix c143 (R := slices_Reverse_byte_post zs r) ?_
  unfold slices_Reverse_byte at h
  refine Sv.seq ?_
  refine Sv.region ?_
  refine un (a1 rfl ?_)
  refine un (a1 (v := (I (s_.length : Int))) (s_lenL rfl (len_nil_of hzs)) ?_)
  refine un (a1 (v := (I (wi ((s_.length : Int) - 1)))) rfl ?_)
  refine un (a1 rfl ?_)
  refine un (a1 rfl ?_)
  refine dnil ?_
  refine Sv.block ?_
  obtain ⟨kk, h⟩ := lim_some h
  refine Sv.weak (weak_canon [0] rfl (by decide) (by decide) (by decide) (.cons rfl (avAs_free rfl) (.cons rfl (avAs_free rfl) (.cons rfl (.c (lstC_ren rfl (by decide))) .nil))) (.row (by decide) rfl (fr_map fun _ => rfl) .nil)) (slices_Reverse_byte_l0_ok hzs h ?_ (fun s hs => hs))
  · intro s_2 hzs2 h _ hw1
    replace h := Option.some.inj h
    subst h
    exact ⟨_, hw1, _, rfl, ⟨upd (fun _ => none) 0 (some (.tup [])), (upd (fun _ => none) 0 (lstB zs 1 (s_2.map (eK .u8)))), 1⟩, (.tup []), weak_canon2 [0] [0] (by decide) (by decide) (by decide) (.cons (by decide) .nil) (.cons rfl (avAs_tup .nil) .nil) (.row (by decide) rfl (fr_map fun _ => rfl) .nil), rfl, rfl, rfl, rfl⟩
def a114_c0 : ACode := (.seq (.seq (.region [⟨(some 4), (.mov (.tmp 0)), none⟩, ⟨(some 5), (.bin .gtr (.tmp 4) (.const (.c (.val (.int .i64 0))))), none⟩])
 (.cond (.tmp 5) .skip (.exit 0)))
 (.seq (.block 1 (.region [⟨(some 9), (.mov (.tmp 3)), none⟩, ⟨(some 10), (.mov (.tmp 0)), none⟩, ⟨(some 11), (.bin .sub (.tmp 10) (.const (.c (.val (.int .i64 1))))), none⟩, ⟨(some 12), (.bin .rem (.tmp 11) (.const (.c (.val (.int .i64 26))))), none⟩, ⟨(some 13), (.bin .add (.const (.c (.val (.int .i64 97)))) (.tmp 12)), none⟩, ⟨(some 14), (.conv .u8 (.tmp 13)), none⟩, ⟨(some 15), (.bslice 1 [(.val (.int .u8 0))] 1 [(0, (.tmp 14))]), none⟩, ⟨(some 16), (.app 1 1 (.tmp 9) (.tmp 15)), none⟩, ⟨(some 3), (.mov (.tmp 16)), none⟩]))
 (.region [⟨(some 6), (.mov (.tmp 0)), none⟩, ⟨(some 7), (.bin .sub (.tmp 6) (.const (.c (.val (.int .i64 1))))), none⟩, ⟨(some 8), (.bin .quo (.tmp 7) (.const (.c (.val (.int .i64 26))))), none⟩, ⟨(some 0), (.mov (.tmp 8)), none⟩])))
def a114 : AFunc := ⟨1, [(.tmp 2)], (.seq (.region [⟨(some 2), (.mov (.const (.c (.str [])))), none⟩])
 (.seq (.region [⟨(some 3), (.mov (.const (.c (.ro true 1 [])))), none⟩])
 (.seq (.block 0 (.loop a114_c0))
 (.seq (.region [⟨(some 17), (.mov (.tmp 3)), none⟩, ⟨(some 18), (.call 143 [(.tmp 17)]), none⟩])
 (.seq (.region [⟨(some 19), (.mov (.tmp 3)), none⟩, ⟨(some 20), (.ofBytes (.tmp 19)), none⟩, ⟨(some 2), (.mov (.tmp 20)), none⟩])
 .ret)))))⟩
set_option maxRecDepth 100000 in
theorem c114 : compFunc Tryd.prog 114 = some a114 := by kernel_rfl
def count_letters_post (r : (List UInt8)) : AV → Heap → Nat → Prop := fun v h' n' => v = (S r) ∧ (h' = (fun _ => none)) ∧ n' = 0
noncomputable def count_letters_l0 (K0_ : (List Int) → Option (List UInt8)) : Nat → Int → (List Int) → Option (List UInt8)
  | 0, _, _ => none
  | k + 1, n_1, out =>
    if decide (0 < n_1) then
      (app? 1 out [(wr .u8 (wi (97 + ((wi (n_1 - 1)).tmod 26))))]).bind fun r_ =>
      (count_letters_l0 K0_ k) (wi ((wi (n_1 - 1)).tdiv 26)) r_
    else
      K0_ out
theorem count_letters_l0_ok {Q : AExit → St → Prop} {K0_ : (List Int) → Option (List UInt8)} {k : Nat} {n_1 : Int} {out : (List Int)} {zout : Bool} (hzout : zout = true → out = []) {o : (List UInt8)} (h : count_letters_l0 K0_ k n_1 out = some o)
    (hK0 : ∀ (out1 : (List Int)) (zout1 : Bool) (_ : zout1 = true → out1 = []), K0_ out1 = some o → ∀ s, Weak 0 s ⟨(upd (fun _ => none) 3 (some (lstV zout1 0 1 out1.length))), (upd (fun _ => none) 0 (lstB zout1 1 (out1.map (eK .u8)))), 1⟩ → Q (.exit 0) s)
    (hr : ∀ s, Ends a114.results 0 (count_letters_post o) .ret s → Q .ret s) :
    Sv Tryd.prog GG 0 (.loop a114_c0) Q ⟨(upd (upd (fun _ => none) 0 (some (I n_1))) 3 (some (lstV zout 0 1 out.length))), (upd (fun _ => none) 0 (lstB zout 1 (out.map (eK .u8)))), 1⟩ := by
  refine Sv.loop (I := fun k s => ∃ (n_1 : Int), ∃ (out : (List Int)), ∃ (zout : Bool), (zout = true → out = []) ∧ count_letters_l0 K0_ k n_1 out = some o ∧ s = ⟨(upd (upd (fun _ => none) 0 (some (I n_1))) 3 (some (lstV zout 0 1 out.length))), (upd (fun _ => none) 0 (lstB zout 1 (out.map (eK .u8)))), 1⟩) (fun k s hI => ?_) ⟨n_1, out, zout, hzout, h, rfl⟩
  clear h
  clear hzout zout out n_1
  obtain ⟨n_1, out, zout, hzout, h, rfl⟩ := hI
  cases k with
  | zero => cases h
  | succ k =>
  rw [count_letters_l0] at h
  have hself : ∀ (n_1 : Int) (out : (List Int)) (zout : Bool) (_ : zout = true → out = []), (count_letters_l0 K0_ k) n_1 out = some o → ∀ s, Weak 0 s ⟨(upd (upd (fun _ => none) 0 (some (I n_1))) 3 (some (lstV zout 0 1 out.length))), (upd (fun _ => none) 0 (lstB zout 1 (out.map (eK .u8)))), 1⟩ → (AThen (fun s' => ∃ s'' k', Weak 0 s' s'' ∧ k' < k + 1 ∧ (fun k s => ∃ (n_1 : Int), ∃ (out : (List Int)), ∃ (zout : Bool), (zout = true → out = []) ∧ count_letters_l0 K0_ k n_1 out = some o ∧ s = ⟨(upd (upd (fun _ => none) 0 (some (I n_1))) 3 (some (lstV zout 0 1 out.length))), (upd (fun _ => none) 0 (lstB zout 1 (out.map (eK .u8)))), 1⟩) k' s'') Q) .normal s := fun n_1 out zout hzout h s hw => ⟨_, k, hw, Nat.lt_succ_self k, n_1, out, zout, hzout, h, rfl⟩
  refine Sv.seq ?_
  refine Sv.seq ?_
  refine Sv.region ?_
  refine un (a1 rfl ?_)
  refine un (a1 (v := (B (decide (0 < n_1)))) rfl ?_)
  refine dnil ?_
  refine Sv.cond (b := decide (0 < n_1)) rfl (fun hc1 => ?_) (fun hc1 => ?_)
  · replace h := ifT hc1 h
    refine Sv.skip ?_
    refine Sv.seq ?_
    refine Sv.block ?_
    refine Sv.region ?_
    refine un (a1 rfl ?_)
    refine un (a1 rfl ?_)
    refine un (a1 (v := (I (wi (n_1 - 1)))) rfl ?_)
    refine un (a1 (v := (I ((wi (n_1 - 1)).tmod 26))) rfl ?_)
    refine un (a1 (v := (I (wi (97 + ((wi (n_1 - 1)).tmod 26))))) rfl ?_)
    refine un (a1 (v := (.c (.val (.int .u8 (wr .u8 (wi (97 + ((wi (n_1 - 1)).tmod 26)))))))) rfl ?_)
    refine un (a2v (v := (lstV false 1 1 [(wr .u8 (wi (97 + ((wi (n_1 - 1)).tmod 26))))].length)) (h' := upd _ 1 (lstB false 1 ([(wr .u8 (wi (97 + ((wi (n_1 - 1)).tmod 26))))].map (eK .u8)))) (n' := 2) rfl rfl (fun h => by cases h) ?_)
    obtain ⟨r_, hr1, h⟩ := bnd h
    have hz1 : (zout && [(wr .u8 (wi (97 + ((wi (n_1 - 1)).tmod 26))))].isEmpty) = true → r_ = [] := app_nil (z := zout) (ys := [(wr .u8 (wi (97 + ((wi (n_1 - 1)).tmod 26))))]) hzout hr1
    refine un (a2v rfl (s_app (xs := out) (ys := [(wr .u8 (wi (97 + ((wi (n_1 - 1)).tmod 26))))]) (e := (eK .u8)) (z := zout) (b := 0) rfl rfl hzout rfl rfl (slc_lst rfl (List.length_map _).symm (map_nil_of (fun h => by cases h))) hr1) (fun h => by cases h) ?_)
    refine un (a1 rfl ?_)
    refine dnil ?_
    refine Sv.region ?_
    refine un (a1 rfl ?_)
    refine un (a1 (v := (I (wi (n_1 - 1)))) rfl ?_)
    refine un (a1 (v := (I (wi ((wi (n_1 - 1)).tdiv 26)))) rfl ?_)
    refine un (a1 rfl ?_)
    refine dnil ?_
    exact hself (wi ((wi (n_1 - 1)).tdiv 26)) r_ (zout && [(wr .u8 (wi (97 + ((wi (n_1 - 1)).tmod 26))))].isEmpty) hz1 h _ (weak_canon [2] rfl (by decide) (by decide) (fun b h => absurd h (Nat.not_lt_zero _)) (.cons rfl (.c (lstC_ren rfl (by decide))) (.cons rfl (avAs_free rfl) .nil)) (.row (by decide) rfl (fr_map fun _ => rfl) .nil))
  · replace h := ifF hc1 h
    refine Sv.exit ?_
    exact hK0 out zout hzout h _ (weak_canon [0] rfl (by decide) (by decide) (fun b h => absurd h (Nat.not_lt_zero _)) (.cons rfl (.c (lstC_ren rfl (by decide))) .nil) (.row (by decide) rfl (fr_map fun _ => rfl) .nil))
/-- clerestory/count.letters -/
noncomputable def count_letters (n_ : Int) : Option (List UInt8) :=
  lim fun kk => count_letters_l0 (fun (out1 : (List Int)) => 
      (slices_Reverse_byte out1).bind fun r_1 =>
      guardLen out1 r_1 <|
      some (byts r_1)) kk n_ ([] : List Int)
theorem count_letters_ok {n_ : Int} {r : (List UInt8)} (h : count_letters n_ = some r) : CPure Tryd.prog GG 114 [(I n_)] (S r) := by
  refine acalls_of_sv hmix c114 (R := count_letters_post r) ?_
  unfold count_letters at h
  refine Sv.seq ?_
  refine Sv.region ?_
  refine un (a1 rfl ?_)
  refine dnil ?_
  refine Sv.seq ?_
  refine Sv.region ?_
  refine un (a1 rfl ?_)
  refine dnil ?_
  refine Sv.seq ?_
  refine Sv.block ?_
  obtain ⟨kk, h⟩ := lim_some h
  refine Sv.weak (weak_canon [1000] rfl (by decide) (by decide) (fun b h => absurd h (Nat.not_lt_zero _)) (.cons rfl (.c (.same rfl)) (.cons rfl (avAs_free rfl) .nil)) (.non (by decide) .nil)) (count_letters_l0_ok (fun _ => rfl) h ?_ (fun s hs => hs))
  · intro out1 zout1 hzout1 h _ hw1
    refine Sv.weak hw1 ?_
    refine Sv.seq ?_
    refine Sv.region ?_
    refine un (a1 rfl ?_)
    obtain ⟨r_1, hr2, h⟩ := bnd h
    refine un (ac_gen (bs := [0]) («as» := [(lstV zout1 0 1 out1.length)]) (h2 := _) (h1 := (upd (fun _ => none) 0 (lstB zout1 1 (out1.map (eK .u8))))) (slices_Reverse_byte_ok hzout1 hr2) rfl (.cons (.c (lstC_ren rfl (by decide))) .nil) (hsub_refl _) (.cons rfl (.nil _)) (fun h => by cases h) (by decide) (by decide) (.cons (.c (lstC_ren rfl (by decide))) .nil) (.row (by decide) rfl (fr_map fun _ => rfl) .nil) ?_)
    rintro _ _ _ hn ⟨rfl, rfl, rfl⟩
    refine ⟨.inl rfl, (upd (rem [0] _) 0 (lstB zout1 1 (r_1.map (eK .u8)))), fun hbd => (m3_cons (m3_row rfl (fr_map fun _ => rfl)) (m3_rem (in_cons (by decide) (in_nil _)) (.cons (by decide) .nil) hbd)), (.tup []), 1, rfl, rfl, ?_⟩
    obtain ⟨hlen, h⟩ := guard_some h
    try rw [hlen]
    refine dnil ?_
    refine Sv.seq ?_
    refine Sv.region ?_
    refine un (a1 rfl ?_)
    refine un (a1 (v := (S (byts r_1))) (s_ofBytes (xs := r_1) rfl (slc_lst rfl (List.length_map _).symm (map_nil_of (hz_len hzout1 hlen)))) ?_)
    refine un (a1 rfl ?_)
    refine dnil ?_
    refine Sv.ret ?_
    replace h := Option.some.inj h
    subst h
    exact ⟨_, .refl _, _, rfl, ⟨upd (fun _ => none) 0 (some (S (byts r_1))), (fun _ => none), 0⟩, (S (byts r_1)), weak_canon [] rfl List.nodup_nil (Nat.le_refl _) (fun b h => absurd h (Nat.not_lt_zero _)) (.cons rfl (avAs_free rfl) .nil) .nil, rfl, rfl, rfl, rfl⟩
noncomputable abbrev strings_Builder_Grow (l : List UInt8) (x0 : Int) : Option (List UInt8) := bGrow? x0
/-- (*strings.Builder).Grow, by my own walk of it -/
theorem strings_Builder_Grow_ok {z : Bool} {l : List UInt8} {x0 : Int} {r : List UInt8} (hz : z = true → l = []) (h : strings_Builder_Grow l x0 = some r) : ACalls Tryd.prog GG 132 [.c (.ref 0 2 0 0), (I x0)] (bldH 99 5 true []) 2 (bPost 99 5 (.tup []) r) := bGrow_ok blays bL4 b165 h
noncomputable abbrev strings_Builder_WriteString (l : List UInt8) (x0 : (List UInt8)) : Option (List UInt8) := bWriteString? l x0
/-- (*strings.Builder).WriteString, by my own walk of it -/
theorem strings_Builder_WriteString_ok {z : Bool} {l : List UInt8} {x0 : (List UInt8)} {r : List UInt8} (hz : z = true → l = []) (h : strings_Builder_WriteString l x0 = some r) : ACalls Tryd.prog GG 44 [.c (.ref 0 2 0 0), (S x0)] (bldH 99 5 z l) 2 (bPost 99 5 (.tup [.c (.val (.int .i64 (x0.length : Int))), .c (.val .nilIface)]) r) := bWriteString_ok blays b166 hz h
noncomputable abbrev strings_Builder_WriteByte (l : List UInt8) (x0 : Int) : Option (List UInt8) := bWriteByte? l x0
/-- (*strings.Builder).WriteByte, by my own walk of it -/
theorem strings_Builder_WriteByte_ok {z : Bool} {l : List UInt8} {x0 : Int} {r : List UInt8} (hz : z = true → l = []) (h : strings_Builder_WriteByte l x0 = some r) : ACalls Tryd.prog GG 43 [.c (.ref 0 2 0 0), (.c (.val (.int .u8 x0)))] (bldH 99 5 z l) 2 (bPost 99 5 (.c (.val .nilIface)) r) := bWriteByte_ok blays b167 hz h
/-- (*strings.Builder).String, by my own walk of it -/
theorem strings_Builder_String_ok {z : Bool} {l : List UInt8} (hz : z = true → l = []) : ACalls Tryd.prog GG 46 [.c (.ref 0 2 0 0)] (bldH 99 5 z l) 2 (fun v h' n' => v = .c (.str l) ∧ h' = (fun _ => none) ∧ n' = 2) := bString_ok bL bX hz
def a133 : AFunc := ⟨2, [(.tmp 4)], (.seq (.region [⟨(some 4), (.mov (.const (.c (.str [])))), none⟩])
 (.seq (.region [⟨(some 5), (.boxB 99), none⟩])
 (.seq (.seq (.region [⟨(some 13), (.mov (.tmp 1)), none⟩, ⟨(some 14), (.rangeS (.tmp 13)), none⟩])
 (.block 0 (.loop (.seq (.region [⟨(some 15), (.nextS (.tmp 14)), none⟩, ⟨(some 16), (.ext (.tmp 15) 0), none⟩])
 (.seq (.cond (.tmp 16) .skip (.exit 0))
 (.block 1 (.seq (.region [⟨(some 17), (.ext (.tmp 15) 1), none⟩, ⟨(some 18), (.ext (.tmp 15) 2), none⟩, ⟨(some 6), (.mov (.tmp 17)), none⟩, ⟨(some 7), (.mov (.tmp 18)), none⟩])
 (.seq (.region [⟨(some 19), (.mov (.tmp 0)), none⟩, ⟨(some 20), (.mov (.tmp 7)), none⟩, ⟨(some 21), (.callv (.tmp 19) [(.tmp 20)]), none⟩, ⟨(some 8), (.mov (.tmp 21)), none⟩])
 (.seq (.seq (.region [⟨(some 22), (.mov (.tmp 8)), none⟩, ⟨(some 23), (.mov (.tmp 7)), none⟩, ⟨(some 24), (.bin .eql (.tmp 22) (.tmp 23)), none⟩, ⟨(some 25), (.mov (.tmp 24)), none⟩, ⟨(some 26), (.mov (.tmp 7)), (some (25, true))⟩, ⟨(some 27), (.bin .neq (.tmp 26) (.const (.c (.val (.int .i32 65533))))), (some (25, true))⟩, ⟨(some 28), (.pick (.tmp 25) (.tmp 27) (.const (.c (.val (.bool false))))), none⟩])
 (.cond (.tmp 28) (.exit 1) .skip))
 (.seq (.region [⟨(some 9), (.mov (.const (.c (.val (.int .i64 0))))), none⟩])
 (.seq (.seq (.region [⟨(some 29), (.mov (.tmp 7)), none⟩, ⟨(some 30), (.bin .eql (.tmp 29) (.const (.c (.val (.int .i32 65533))))), none⟩])
 (.cond (.tmp 30) (.seq (.region [⟨(some 32), (.mov (.tmp 1)), none⟩, ⟨(some 33), (.mov (.tmp 6)), none⟩, ⟨(some 34), (.slStr (.tmp 32) (some (.tmp 33)) none), none⟩, ⟨(some 35), (.call 160 [(.tmp 34)]), none⟩, ⟨(some 31), (.mov (.tmp 35)), none⟩, ⟨(some 36), (.ext (.tmp 31) 0), none⟩, ⟨(some 37), (.ext (.tmp 31) 1), none⟩, ⟨(some 7), (.mov (.tmp 36)), none⟩, ⟨(some 9), (.mov (.tmp 37)), none⟩])
 (.seq (.region [⟨(some 38), (.mov (.tmp 9)), none⟩, ⟨(some 39), (.bin .neq (.tmp 38) (.const (.c (.val (.int .i64 1))))), none⟩, ⟨(some 40), (.mov (.tmp 39)), none⟩, ⟨(some 41), (.mov (.tmp 8)), (some (40, true))⟩, ⟨(some 42), (.mov (.tmp 7)), (some (40, true))⟩, ⟨(some 43), (.bin .eql (.tmp 41) (.tmp 42)), (some (40, true))⟩, ⟨(some 44), (.pick (.tmp 40) (.tmp 43) (.const (.c (.val (.bool false))))), none⟩])
 (.cond (.tmp 44) (.exit 1) .skip))) (.region [⟨(some 45), (.mov (.tmp 7)), none⟩, ⟨(some 46), (.call 161 [(.tmp 45)]), none⟩, ⟨(some 9), (.mov (.tmp 46)), none⟩])))
 (.seq (.region [⟨(some 47), (.mov (.tmp 1)), none⟩, ⟨(some 48), (.lenS (.tmp 47)), none⟩, ⟨(some 49), (.bin .add (.tmp 48) (.const (.c (.val (.int .i64 4))))), none⟩, ⟨(some 50), (.call 132 [(.tmp 5), (.tmp 49)]), none⟩])
 (.seq (.region [⟨(some 51), (.mov (.tmp 1)), none⟩, ⟨(some 52), (.mov (.tmp 6)), none⟩, ⟨(some 53), (.slStr (.tmp 51) none (some (.tmp 52))), none⟩, ⟨(some 54), (.call 44 [(.tmp 5), (.tmp 53)]), none⟩])
 (.seq (.seq (.region [⟨(some 55), (.mov (.tmp 8)), none⟩, ⟨(some 56), (.bin .geq (.tmp 55) (.const (.c (.val (.int .i32 0))))), none⟩])
 (.cond (.tmp 56) (.region [⟨(some 57), (.mov (.tmp 8)), none⟩, ⟨(some 58), (.call 162 [(.tmp 5), (.tmp 57)]), none⟩]) .skip))
 (.seq (.region [⟨(some 59), (.mov (.tmp 1)), none⟩, ⟨(some 60), (.mov (.tmp 6)), none⟩, ⟨(some 61), (.mov (.tmp 9)), none⟩, ⟨(some 62), (.bin .add (.tmp 60) (.tmp 61)), none⟩, ⟨(some 63), (.slStr (.tmp 59) (some (.tmp 62)) none), none⟩, ⟨(some 1), (.mov (.tmp 63)), none⟩])
 (.exit 0))))))))))))))))
 (.seq (.seq (.region [⟨(some 64), (.call 163 [(.tmp 5)]), none⟩, ⟨(some 65), (.bin .eql (.tmp 64) (.const (.c (.val (.int .i64 0))))), none⟩])
 (.cond (.tmp 65) (.seq (.region [⟨(some 66), (.mov (.tmp 1)), none⟩, ⟨(some 4), (.mov (.tmp 66)), none⟩])
 .ret) .skip))
 (.seq (.seq (.region [⟨(some 67), (.mov (.tmp 1)), none⟩, ⟨(some 68), (.rangeS (.tmp 67)), none⟩])
 (.block 2 (.loop (.seq (.region [⟨(some 69), (.nextS (.tmp 68)), none⟩, ⟨(some 70), (.ext (.tmp 69) 0), none⟩])
 (.seq (.cond (.tmp 70) .skip (.exit 2))
 (.block 3 (.seq (.region [⟨(some 71), (.ext (.tmp 69) 2), none⟩, ⟨(some 11), (.mov (.tmp 71)), none⟩])
 (.seq (.region [⟨(some 72), (.mov (.tmp 0)), none⟩, ⟨(some 73), (.mov (.tmp 11)), none⟩, ⟨(some 74), (.callv (.tmp 72) [(.tmp 73)]), none⟩, ⟨(some 12), (.mov (.tmp 74)), none⟩])
 (.seq (.region [⟨(some 75), (.mov (.tmp 12)), none⟩, ⟨(some 76), (.bin .geq (.tmp 75) (.const (.c (.val (.int .i32 0))))), none⟩])
 (.cond (.tmp 76) (.seq (.region [⟨(some 77), (.mov (.tmp 12)), none⟩, ⟨(some 78), (.bin .lss (.tmp 77) (.const (.c (.val (.int .i32 128))))), none⟩])
 (.cond (.tmp 78) (.region [⟨(some 79), (.mov (.tmp 12)), none⟩, ⟨(some 80), (.conv .u8 (.tmp 79)), none⟩, ⟨(some 81), (.call 43 [(.tmp 5), (.tmp 80)]), none⟩]) (.region [⟨(some 82), (.mov (.tmp 12)), none⟩, ⟨(some 83), (.call 162 [(.tmp 5), (.tmp 82)]), none⟩]))) .skip))))))))))
 (.seq (.region [⟨(some 84), (.call 46 [(.tmp 5)]), none⟩, ⟨(some 4), (.mov (.tmp 84)), none⟩])
 .ret))))))⟩
set_option maxRecDepth 100000 in
theorem c133 : compFunc Tryd.prog 133 = some a133 := by kernel_rfl
def strings_Map_post (r : (List UInt8)) : AV → Heap → Nat → Prop := fun v h' n' => v = (S r) ∧ (h' = (fun _ => none)) ∧ n' = 0
/-- strings.Map -/
noncomputable def strings_Map (s_ : (List UInt8)) : Option (List UInt8) :=
  none
theorem strings_Map_ok {s_ : (List UInt8)} {r : (List UInt8)} (h : strings_Map s_ = some r) : CPure Tryd.prog GG 133 [(.c (.fn (.func 144) [] [])), (S s_)] (S r) := by
  refine acalls_of_sv hmix c133 (R := strings_Map_post r) ?_
  unfold strings_Map at h
  refine Sv.seq ?_
  refine Sv.region ?_
  refine un (a1 rfl ?_)
  refine dnil ?_
  refine Sv.seq ?_
  refine Sv.region ?_
  refine un (a2v (v := (.c (.ref 1 2 0 0))) (h' := upd _ 1 (some (.bld 99 true 0 ([] : List UInt8).length))) (n' := 2) rfl rfl (fun h => by cases h) ?_)
  refine dnil ?_
  refine Sv.seq ?_
  refine Sv.seq ?_
  refine Sv.region ?_
  refine un (a1 rfl ?_)
  cases h
def a115_c0 : ACode := (.seq (.seq (.region [⟨(some 11), (.mov (.tmp 5)), none⟩, ⟨(some 12), (.mov (.tmp 0)), none⟩, ⟨(some 13), (.lenS (.tmp 12)), none⟩, ⟨(some 14), (.bin .lss (.tmp 11) (.tmp 13)), none⟩])
 (.cond (.tmp 14) .skip (.exit 0)))
 (.seq (.block 1 (.seq (.region [⟨(some 17), (.mov (.tmp 0)), none⟩, ⟨(some 18), (.mov (.tmp 5)), none⟩, ⟨(some 19), (.idxS (.tmp 17) (.tmp 18)), none⟩, ⟨(some 6), (.mov (.tmp 19)), none⟩])
 (.seq (.seq (.region [⟨(some 20), (.mov (.tmp 6)), none⟩, ⟨(some 21), (.bin .geq (.tmp 20) (.const (.c (.val (.int .u8 128))))), none⟩])
 (.cond (.tmp 21) (.seq (.region [⟨(some 3), (.mov (.const (.c (.val (.bool false))))), none⟩])
 (.exit 0)) .skip))
 (.region [⟨(some 22), (.mov (.tmp 4)), none⟩, ⟨(some 23), (.mov (.tmp 22)), none⟩, ⟨(some 24), (.mov (.tmp 6)), (some (23, false))⟩, ⟨(some 25), (.bin .leq (.const (.c (.val (.int .u8 97)))) (.tmp 24)), (some (23, false))⟩, ⟨(some 26), (.mov (.tmp 25)), (some (23, false))⟩, ⟨(some 27), (.mov (.tmp 6)), (some (26, true))⟩, ⟨(some 28), (.bin .leq (.tmp 27) (.const (.c (.val (.int .u8 122))))), (some (26, true))⟩, ⟨(some 29), (.pick (.tmp 26) (.tmp 28) (.const (.c (.val (.bool false))))), (some (23, false))⟩, ⟨(some 30), (.pick (.tmp 23) (.const (.c (.val (.bool true)))) (.tmp 29)), none⟩, ⟨(some 4), (.mov (.tmp 30)), none⟩]))))
 (.region [⟨(some 15), (.mov (.tmp 5)), none⟩, ⟨(some 16), (.bin .add (.tmp 15) (.const (.c (.val (.int .i64 1))))), none⟩, ⟨(some 5), (.mov (.tmp 16)), none⟩])))
def a115_c1 : ACode := (.seq (.region [⟨(some 63), (.mov (.tmp 10)), none⟩, ⟨(some 64), (.call 43 [(.tmp 7), (.tmp 63)]), none⟩])
 (.region [⟨(some 65), (.mov (.tmp 9)), none⟩, ⟨(some 66), (.bin .add (.tmp 65) (.const (.c (.val (.int .i64 1))))), none⟩, ⟨(some 8), (.mov (.tmp 66)), none⟩]))
def a115_c2 : ACode := (.region [⟨(some 42), (.mov (.tmp 9)), none⟩, ⟨(some 43), (.bin .add (.tmp 42) (.const (.c (.val (.int .i64 1))))), none⟩, ⟨(some 9), (.mov (.tmp 43)), none⟩])
def a115_c3 : ACode := (.seq (.seq (.region [⟨(some 38), (.mov (.tmp 9)), none⟩, ⟨(some 39), (.mov (.tmp 0)), none⟩, ⟨(some 40), (.lenS (.tmp 39)), none⟩, ⟨(some 41), (.bin .lss (.tmp 38) (.tmp 40)), none⟩])
 (.cond (.tmp 41) .skip (.exit 2)))
 (.seq (.block 3 (.seq (.region [⟨(some 44), (.mov (.tmp 0)), none⟩, ⟨(some 45), (.mov (.tmp 9)), none⟩, ⟨(some 46), (.idxS (.tmp 44) (.tmp 45)), none⟩, ⟨(some 10), (.mov (.tmp 46)), none⟩])
 (.seq (.region [⟨(some 47), (.mov (.tmp 10)), none⟩, ⟨(some 48), (.bin .leq (.const (.c (.val (.int .u8 97)))) (.tmp 47)), none⟩, ⟨(some 49), (.mov (.tmp 48)), none⟩, ⟨(some 50), (.mov (.tmp 10)), (some (49, true))⟩, ⟨(some 51), (.bin .leq (.tmp 50) (.const (.c (.val (.int .u8 122))))), (some (49, true))⟩, ⟨(some 52), (.pick (.tmp 49) (.tmp 51) (.const (.c (.val (.bool false))))), none⟩])
 (.cond (.tmp 52) (.seq (.region [⟨(some 53), (.mov (.tmp 10)), none⟩, ⟨(some 54), (.bin .sub (.tmp 53) (.const (.c (.val (.int .u8 32))))), none⟩, ⟨(some 10), (.mov (.tmp 54)), none⟩])
 (.seq (.seq (.region [⟨(some 55), (.mov (.tmp 8)), none⟩, ⟨(some 56), (.mov (.tmp 9)), none⟩, ⟨(some 57), (.bin .lss (.tmp 55) (.tmp 56)), none⟩])
 (.cond (.tmp 57) (.region [⟨(some 58), (.mov (.tmp 0)), none⟩, ⟨(some 59), (.mov (.tmp 8)), none⟩, ⟨(some 60), (.mov (.tmp 9)), none⟩, ⟨(some 61), (.slStr (.tmp 58) (some (.tmp 59)) (some (.tmp 60))), none⟩, ⟨(some 62), (.call 44 [(.tmp 7), (.tmp 61)]), none⟩]) .skip))
 a115_c1)) .skip))))
 a115_c2))
def a115_c4 : ACode := (.seq (.region [⟨(some 75), (.call 46 [(.tmp 7)]), none⟩, ⟨(some 2), (.mov (.tmp 75)), none⟩])
 .ret)
def a115_c5 : ACode := (.seq (.region [⟨(some 76), (.mov (.tmp 0)), none⟩, ⟨(some 77), (.call 133 [(.const (.c (.fn (.func 144) [] []))), (.tmp 76)]), none⟩, ⟨(some 2), (.mov (.tmp 77)), none⟩])
 .ret)
def a115 : AFunc := ⟨1, [(.tmp 2)], (.seq (.region [⟨(some 2), (.mov (.const (.c (.str [])))), none⟩])
 (.seq (.region [⟨(some 3), (.mov (.const (.c (.val (.bool true))))), none⟩, ⟨(some 4), (.mov (.const (.c (.val (.bool false))))), none⟩])
 (.seq (.seq (.region [⟨(some 5), (.mov (.const (.c (.val (.int .i64 0))))), none⟩])
 (.block 0 (.loop a115_c0)))
 (.seq (.seq (.region [⟨(some 31), (.mov (.tmp 3)), none⟩])
 (.cond (.tmp 31) (.seq (.seq (.region [⟨(some 32), (.mov (.tmp 4)), none⟩, ⟨(some 33), (.un .not (.tmp 32)), none⟩])
 (.cond (.tmp 33) (.seq (.region [⟨(some 34), (.mov (.tmp 0)), none⟩, ⟨(some 2), (.mov (.tmp 34)), none⟩])
 .ret) .skip))
 (.seq (.region [⟨(some 7), (.boxB 99), none⟩])
 (.seq (.region [⟨(some 8), (.mov (.const (.c (.val (.int .i64 0))))), none⟩])
 (.seq (.region [⟨(some 35), (.mov (.tmp 0)), none⟩, ⟨(some 36), (.lenS (.tmp 35)), none⟩, ⟨(some 37), (.call 132 [(.tmp 7), (.tmp 36)]), none⟩])
 (.seq (.seq (.region [⟨(some 9), (.mov (.const (.c (.val (.int .i64 0))))), none⟩])
 (.block 2 (.loop a115_c3)))
 (.seq (.seq (.region [⟨(some 67), (.mov (.tmp 8)), none⟩, ⟨(some 68), (.mov (.tmp 0)), none⟩, ⟨(some 69), (.lenS (.tmp 68)), none⟩, ⟨(some 70), (.bin .lss (.tmp 67) (.tmp 69)), none⟩])
 (.cond (.tmp 70) (.region [⟨(some 71), (.mov (.tmp 0)), none⟩, ⟨(some 72), (.mov (.tmp 8)), none⟩, ⟨(some 73), (.slStr (.tmp 71) (some (.tmp 72)) none), none⟩, ⟨(some 74), (.call 44 [(.tmp 7), (.tmp 73)]), none⟩]) .skip))
 a115_c4)))))) .skip))
 a115_c5))))⟩
set_option maxRecDepth 100000 in
theorem c115 : compFunc Tryd.prog 115 = some a115 := by kernel_rfl
def strings_ToUpper_post (r : (List UInt8)) : AV → Heap → Nat → Prop := fun v h' n' => v = (S r) ∧ (h' = (fun _ => none)) ∧ n' = 0
noncomputable def strings_ToUpper_l0 (s_ : (List UInt8)) (K0_ : Bool → Bool → Option (List UInt8)) : Nat → Bool → Int → Option (List UInt8)
  | 0, _, _ => none
  | k + 1, hasLower, i_ =>
    if decide (i_ < (s_.length : Int)) then
      (at? s_ i_).bind fun c_ =>
      if decide (128 ≤ (c_.toNat : Int)) then
        K0_ false hasLower
      else
        (strings_ToUpper_l0 s_ K0_ k) (hasLower || ((decide (97 ≤ (c_.toNat : Int))) && (decide ((c_.toNat : Int) ≤ 122)))) (wi (i_ + 1))
    else
      K0_ true hasLower
theorem strings_ToUpper_l0_ok {Q : AExit → St → Prop} {s_ : (List UInt8)} {K0_ : Bool → Bool → Option (List UInt8)} {k : Nat} {hasLower : Bool} {i_ : Int} {o : (List UInt8)} (h : strings_ToUpper_l0 s_ K0_ k hasLower i_ = some o)
    (hK0 : ∀ (isASCII : Bool) (hasLower1 : Bool), K0_ isASCII hasLower1 = some o → ∀ s, Weak 0 s ⟨(upd (upd (upd (fun _ => none) 0 (some (S s_))) 3 (some (B isASCII))) 4 (some (B hasLower1))), (fun _ => none), 0⟩ → Q (.exit 0) s)
    (hr : ∀ s, Ends a115.results 0 (strings_ToUpper_post o) .ret s → Q .ret s) :
    Sv Tryd.prog GG 0 (.loop a115_c0) Q ⟨(upd (upd (upd (upd (fun _ => none) 0 (some (S s_))) 3 (some (B true))) 4 (some (B hasLower))) 5 (some (I i_))), (fun _ => none), 0⟩ := by
  refine Sv.loop (I := fun k s => ∃ (hasLower : Bool), ∃ (i_ : Int), strings_ToUpper_l0 s_ K0_ k hasLower i_ = some o ∧ s = ⟨(upd (upd (upd (upd (fun _ => none) 0 (some (S s_))) 3 (some (B true))) 4 (some (B hasLower))) 5 (some (I i_))), (fun _ => none), 0⟩) (fun k s hI => ?_) ⟨hasLower, i_, h, rfl⟩
  clear h
  clear i_ hasLower
  obtain ⟨hasLower, i_, h, rfl⟩ := hI
  cases k with
  | zero => cases h
  | succ k =>
  rw [strings_ToUpper_l0] at h
  have hself : ∀ (hasLower : Bool) (i_ : Int), (strings_ToUpper_l0 s_ K0_ k) hasLower i_ = some o → ∀ s, Weak 0 s ⟨(upd (upd (upd (upd (fun _ => none) 0 (some (S s_))) 3 (some (B true))) 4 (some (B hasLower))) 5 (some (I i_))), (fun _ => none), 0⟩ → (AThen (fun s' => ∃ s'' k', Weak 0 s' s'' ∧ k' < k + 1 ∧ (fun k s => ∃ (hasLower : Bool), ∃ (i_ : Int), strings_ToUpper_l0 s_ K0_ k hasLower i_ = some o ∧ s = ⟨(upd (upd (upd (upd (fun _ => none) 0 (some (S s_))) 3 (some (B true))) 4 (some (B hasLower))) 5 (some (I i_))), (fun _ => none), 0⟩) k' s'') Q) .normal s := fun hasLower i_ h s hw => ⟨_, k, hw, Nat.lt_succ_self k, hasLower, i_, h, rfl⟩
  refine Sv.seq ?_
  refine Sv.seq ?_
  refine Sv.region ?_
  refine un (a1 rfl ?_)
  refine un (a1 rfl ?_)
  refine un (a1 (v := (I (s_.length : Int))) rfl ?_)
  refine un (a1 (v := (B (decide (i_ < (s_.length : Int))))) rfl ?_)
  refine dnil ?_
  refine Sv.cond (b := decide (i_ < (s_.length : Int))) rfl (fun hc1 => ?_) (fun hc1 => ?_)
  · replace h := ifT hc1 h
    refine Sv.skip ?_
    refine Sv.seq ?_
    refine Sv.block ?_
    refine Sv.seq ?_
    refine Sv.region ?_
    refine un (a1 rfl ?_)
    refine un (a1 rfl ?_)
    obtain ⟨c_, hx1, h⟩ := bnd h
    refine un (a1 (v := (.c (.val (.int .u8 (c_.toNat : Int))))) (s_idxS rfl rfl hx1) ?_)
    refine un (a1 rfl ?_)
    refine dnil ?_
    refine Sv.seq ?_
    refine Sv.seq ?_
    refine Sv.region ?_
    refine un (a1 rfl ?_)
    refine un (a1 (v := (B (decide (128 ≤ (c_.toNat : Int))))) rfl ?_)
    refine dnil ?_
    refine Sv.cond (b := decide (128 ≤ (c_.toNat : Int))) rfl (fun hc2 => ?_) (fun hc2 => ?_)
    · replace h := ifT hc2 h
      refine Sv.seq ?_
      refine Sv.region ?_
      refine un (a1 rfl ?_)
      refine dnil ?_
      refine Sv.exit ?_
      exact hK0 false hasLower h _ (weak_canon [] rfl (by decide) (by decide) (fun b h => absurd h (Nat.not_lt_zero _)) (.cons rfl (avAs_free rfl) (.cons rfl (avAs_free rfl) (.cons rfl (avAs_free rfl) .nil))) .nil)
    · replace h := ifF hc2 h
      refine Sv.skip ?_
      refine Sv.region ?_
      refine un (a1 rfl ?_)
      refine un (a1 rfl ?_)
      refine gjoin 7 (d := 30) (v := (B (hasLower || ((decide (97 ≤ (c_.toNat : Int))) && (decide ((c_.toNat : Int) ≤ 122)))))) (fun X hX => ?_) ?_
      · refine split2 (fun hc4 => ?_) (fun hc4 => ?_)
        · refine gs rfl rfl ?_
          refine gs rfl rfl ?_
          refine gs rfl rfl ?_
          refine gu rfl ?_
          refine gu rfl ?_
          refine gs rfl rfl ?_
          refine un (a1 (v := (B true)) rfl ?_)
          refine dnil ?_
          exact hX _ (.putEq (by rw [hc4]; rfl) (.skip _ _ (.skip _ _ (.skip _ _ (.skip _ _ (.skip _ _ (.skip _ _ (.putEq (by rw [hc4]) (.refl _)) rfl) rfl) rfl) rfl) rfl) rfl))
        · refine gt rfl (a1 rfl ?_)
          refine gt rfl (a1 (v := (B (decide (97 ≤ (c_.toNat : Int))))) rfl ?_)
          refine gt rfl (a1 rfl ?_)
          refine gjoin 3 (d := 29) (v := (B ((decide (97 ≤ (c_.toNat : Int))) && (decide ((c_.toNat : Int) ≤ 122))))) (fun X hX => ?_) ?_
          · refine split2 (fun hc3 => ?_) (fun hc3 => ?_)
            · refine gt rfl (a1 rfl ?_)
              refine gt rfl (a1 (v := (B (decide ((c_.toNat : Int) ≤ 122)))) rfl ?_)
              refine gt rfl (a1 (v := (B (decide ((c_.toNat : Int) ≤ 122)))) rfl ?_)
              refine dnil ?_
              exact hX _ (.putEq (by rw [hc3]; rfl) (.skip _ _ (.skip _ _ (.putEq (by rw [hc3]) (.refl _)) rfl) rfl))
            · refine gs rfl rfl ?_
              refine gs rfl rfl ?_
              refine gt rfl (a1 (v := (B false)) rfl ?_)
              refine dnil ?_
              exact hX _ (.putEq (by rw [hc3]; rfl) (.skip _ _ (.skip _ _ (.putEq (by rw [hc3]) (.refl _)) rfl) rfl))
          refine un (a1 (v := (B ((decide (97 ≤ (c_.toNat : Int))) && (decide ((c_.toNat : Int) ≤ 122))))) rfl ?_)
          refine dnil ?_
          exact hX _ (.putEq (by rw [hc4]; rfl) (.skip _ _ (.skip _ _ (.skip _ _ (.skip _ _ (.putEq (by rw [hc4]) (.refl _)) rfl) rfl) rfl) rfl))
      refine un (a1 rfl ?_)
      refine dnil ?_
      refine Sv.region ?_
      refine un (a1 rfl ?_)
      refine un (a1 (v := (I (wi (i_ + 1)))) rfl ?_)
      refine un (a1 rfl ?_)
      refine dnil ?_
      exact hself (hasLower || ((decide (97 ≤ (c_.toNat : Int))) && (decide ((c_.toNat : Int) ≤ 122)))) (wi (i_ + 1)) h _ (weak_canon [] rfl (by decide) (by decide) (fun b h => absurd h (Nat.not_lt_zero _)) (.cons rfl (avAs_free rfl) (.cons rfl (avAs_free rfl) (.cons rfl (avAs_free rfl) (.cons rfl (avAs_free rfl) .nil)))) .nil)
  · replace h := ifF hc1 h
    refine Sv.exit ?_
    exact hK0 true hasLower h _ (weak_canon [] rfl (by decide) (by decide) (fun b h => absurd h (Nat.not_lt_zero _)) (.cons rfl (avAs_free rfl) (.cons rfl (avAs_free rfl) (.cons rfl (avAs_free rfl) .nil))) .nil)
noncomputable def strings_ToUpper_j11 (i_1 : Int) (s_ : (List UInt8)) (self : (List UInt8) → Int → Int → Option (List UInt8)) (K2_ : (List UInt8) → Int → Option (List UInt8)) (b_2 : (List UInt8)) (pos_2 : Int) : Option (List UInt8) :=
  self b_2 pos_2 (wi (i_1 + 1))
theorem strings_ToUpper_j11_ok {Q : AExit → St → Prop} {i_1 : Int} {s_ : (List UInt8)} {self : (List UInt8) → Int → Int → Option (List UInt8)} {K2_ : (List UInt8) → Int → Option (List UInt8)} {b_2 : (List UInt8)} {pos_2 : Int} {zb_2 : Bool} (hzb_2 : zb_2 = true → b_2 = []) {o : (List UInt8)} (h : strings_ToUpper_j11 i_1 s_ self K2_ b_2 pos_2 = some o)
    (hself : ∀ (b_ : (List UInt8)) (pos_ : Int) (i_1 : Int) (zb : Bool) (_ : zb = true → b_ = []), self b_ pos_ i_1 = some o → ∀ s, Weak 0 s ⟨(upd (upd (upd (upd (fun _ => none) 0 (some (S s_))) 7 (some (.c (.ref 0 2 0 0)))) 8 (some (I pos_))) 9 (some (I i_1))), (upd (upd (fun _ => none) 0 (some (.bld 99 zb 1 b_.length))) 1 (bufB zb 5 b_)), 2⟩ → (Q) .normal s)
    (hK2 : ∀ (b_1 : (List UInt8)) (pos_1 : Int) (zb_1 : Bool) (_ : zb_1 = true → b_1 = []), K2_ b_1 pos_1 = some o → ∀ s, Weak 0 s ⟨(upd (upd (upd (fun _ => none) 0 (some (S s_))) 7 (some (.c (.ref 0 2 0 0)))) 8 (some (I pos_1))), (upd (upd (fun _ => none) 0 (some (.bld 99 zb_1 1 b_1.length))) 1 (bufB zb_1 5 b_1)), 2⟩ → Q (.exit 2) s)
    (hr : ∀ s, Ends a115.results 0 (strings_ToUpper_post o) .ret s → Q .ret s) :
    Sv Tryd.prog GG 0 a115_c2 Q ⟨(upd (upd (upd (upd (fun _ => none) 0 (some (S s_))) 7 (some (.c (.ref 0 2 0 0)))) 8 (some (I pos_2))) 9 (some (I i_1))), (upd (upd (fun _ => none) 0 (some (.bld 99 zb_2 1 b_2.length))) 1 (bufB zb_2 5 b_2)), 2⟩ := by
  unfold strings_ToUpper_j11 at h
  refine Sv.region ?_
  refine un (a1 rfl ?_)
  refine un (a1 (v := (I (wi (i_1 + 1)))) rfl ?_)
  refine un (a1 rfl ?_)
  refine dnil ?_
  exact hself b_2 pos_2 (wi (i_1 + 1)) zb_2 hzb_2 h _ (weak_canon [0, 1] rfl (by decide) (by decide) (fun b h => absurd h (Nat.not_lt_zero _)) (.cons rfl (avAs_free rfl) (.cons rfl (avAs_free rfl) (.cons rfl (.c (.ref rfl (by decide))) (.cons rfl (avAs_free rfl) .nil)))) (.buf (by decide) rfl (.box (by decide) rfl (.bld rfl (by decide)) .nil)))
abbrev strings_ToUpper_q0 (Q : AExit → St → Prop) : AExit → St → Prop := AThen (Sv Tryd.prog GG 0 a115_c2 Q) Q
abbrev strings_ToUpper_q1 (Q : AExit → St → Prop) : AExit → St → Prop := ABlock 3 (strings_ToUpper_q0 Q)
noncomputable def strings_ToUpper_j12 (c_1 : UInt8) (i_1 : Int) (s_ : (List UInt8)) (self : (List UInt8) → Int → Int → Option (List UInt8)) (K2_ : (List UInt8) → Int → Option (List UInt8)) (b_3 : (List UInt8)) : Option (List UInt8) :=
  (strings_Builder_WriteByte b_3 (wr .u8 ((c_1.toNat : Int) - 32))).bind fun r_1 =>
  strings_ToUpper_j11 i_1 s_ self K2_ r_1 (wi (i_1 + 1))
theorem strings_ToUpper_j12_ok {Q : AExit → St → Prop} {c_1 : UInt8} {i_1 : Int} {s_ : (List UInt8)} {self : (List UInt8) → Int → Int → Option (List UInt8)} {K2_ : (List UInt8) → Int → Option (List UInt8)} {b_3 : (List UInt8)} {zb_3 : Bool} (hzb_3 : zb_3 = true → b_3 = []) {o : (List UInt8)} (h : strings_ToUpper_j12 c_1 i_1 s_ self K2_ b_3 = some o)
    (hself : ∀ (b_ : (List UInt8)) (pos_ : Int) (i_1 : Int) (zb : Bool) (_ : zb = true → b_ = []), self b_ pos_ i_1 = some o → ∀ s, Weak 0 s ⟨(upd (upd (upd (upd (fun _ => none) 0 (some (S s_))) 7 (some (.c (.ref 0 2 0 0)))) 8 (some (I pos_))) 9 (some (I i_1))), (upd (upd (fun _ => none) 0 (some (.bld 99 zb 1 b_.length))) 1 (bufB zb 5 b_)), 2⟩ → (Q) .normal s)
    (hK2 : ∀ (b_1 : (List UInt8)) (pos_1 : Int) (zb_1 : Bool) (_ : zb_1 = true → b_1 = []), K2_ b_1 pos_1 = some o → ∀ s, Weak 0 s ⟨(upd (upd (upd (fun _ => none) 0 (some (S s_))) 7 (some (.c (.ref 0 2 0 0)))) 8 (some (I pos_1))), (upd (upd (fun _ => none) 0 (some (.bld 99 zb_1 1 b_1.length))) 1 (bufB zb_1 5 b_1)), 2⟩ → Q (.exit 2) s)
    (hr : ∀ s, Ends a115.results 0 (strings_ToUpper_post o) .ret s → Q .ret s) :
    Sv Tryd.prog GG 0 a115_c1 (strings_ToUpper_q1 Q) ⟨(upd (upd (upd (upd (fun _ => none) 0 (some (S s_))) 7 (some (.c (.ref 0 2 0 0)))) 9 (some (I i_1))) 10 (some (.c (.val (.int .u8 (wr .u8 ((c_1.toNat : Int) - 32))))))), (upd (upd (fun _ => none) 0 (some (.bld 99 zb_3 1 b_3.length))) 1 (bufB zb_3 5 b_3)), 2⟩ := by
  unfold strings_ToUpper_j12 at h
  refine Sv.seq ?_
  refine Sv.region ?_
  refine un (a1 rfl ?_)
  obtain ⟨r_1, hr2, h⟩ := bnd h
  refine un (ac_gen (bs := [0, 1]) («as» := [(.c (.ref 0 2 0 0)), (.c (.val (.int .u8 (wr .u8 ((c_1.toNat : Int) - 32)))))]) (h2 := _) (h1 := (upd (upd (fun _ => none) 0 (some (.bld 99 zb_3 1 b_3.length))) 1 (bufB zb_3 5 b_3))) (strings_Builder_WriteByte_ok (z := zb_3) (l := b_3) hzb_3 hr2) rfl (.cons (.c (.ref rfl (by decide))) (.cons (avAs_free rfl) .nil)) (hsub_refl _) (.cons rfl (.cons rfl (.nil _))) (fun h => by cases h) (by decide) (by decide) (.cons (.c (.ref rfl (by decide))) (.cons (avAs_free rfl) .nil)) (.buf (by decide) rfl (.box (by decide) rfl (.bld rfl (by decide)) .nil)) ?_)
  rintro _ _ _ hn ⟨z_1, hz_1, rfl, rfl, rfl⟩
  refine ⟨.inl rfl, (upd (upd (rem [0, 1] _) 0 (some (.bld 99 z_1 2 r_1.length))) 2 (bufB z_1 5 r_1)), fun hbd => (m3_cons (m3_buf rfl) (m3_cons (m3_box rfl rfl) (m3_rem (in_cons (by decide) (in_cons (by decide) (in_nil _))) (.cons (by decide) (.cons (by decide) .nil)) hbd))), (.c (.val .nilIface)), 3, (by cases z_1 <;> rfl), rfl, ?_⟩
  refine dnil ?_
  refine Sv.region ?_
  refine un (a1 rfl ?_)
  refine un (a1 (v := (I (wi (i_1 + 1)))) rfl ?_)
  refine un (a1 rfl ?_)
  refine dnil ?_
  exact Sv.weak (weak_canon [0, 2] rfl (by decide) (by decide) (fun b h => absurd h (Nat.not_lt_zero _)) (.cons rfl (avAs_free rfl) (.cons rfl (avAs_free rfl) (.cons rfl (.c (.ref rfl (by decide))) (.cons rfl (avAs_free rfl) .nil)))) (.buf (by decide) rfl (.box (by decide) rfl (.bld rfl (by decide)) .nil))) (strings_ToUpper_j11_ok hz_1 h hself hK2 hr)
noncomputable def strings_ToUpper_l1 (s_ : (List UInt8)) (K2_ : (List UInt8) → Int → Option (List UInt8)) : Nat → (List UInt8) → Int → Int → Option (List UInt8)
  | 0, _, _, _ => none
  | k + 1, b_, pos_, i_1 =>
    if decide (i_1 < (s_.length : Int)) then
      (at? s_ i_1).bind fun c_1 =>
      if ((decide (97 ≤ (c_1.toNat : Int))) && (decide ((c_1.toNat : Int) ≤ 122))) then
        if decide (pos_ < i_1) then
          (sub? s_ pos_ i_1).bind fun r_2 =>
          (strings_Builder_WriteString b_ r_2).bind fun r_3 =>
          strings_ToUpper_j12 c_1 i_1 s_ (strings_ToUpper_l1 s_ K2_ k) K2_ r_3
        else
          strings_ToUpper_j12 c_1 i_1 s_ (strings_ToUpper_l1 s_ K2_ k) K2_ b_
      else
        strings_ToUpper_j11 i_1 s_ (strings_ToUpper_l1 s_ K2_ k) K2_ b_ pos_
    else
      K2_ b_ pos_
theorem strings_ToUpper_l1_ok {Q : AExit → St → Prop} {s_ : (List UInt8)} {K2_ : (List UInt8) → Int → Option (List UInt8)} {k : Nat} {b_ : (List UInt8)} {pos_ : Int} {i_1 : Int} {zb : Bool} (hzb : zb = true → b_ = []) {o : (List UInt8)} (h : strings_ToUpper_l1 s_ K2_ k b_ pos_ i_1 = some o)
    (hK2 : ∀ (b_1 : (List UInt8)) (pos_1 : Int) (zb_1 : Bool) (_ : zb_1 = true → b_1 = []), K2_ b_1 pos_1 = some o → ∀ s, Weak 0 s ⟨(upd (upd (upd (fun _ => none) 0 (some (S s_))) 7 (some (.c (.ref 0 2 0 0)))) 8 (some (I pos_1))), (upd (upd (fun _ => none) 0 (some (.bld 99 zb_1 1 b_1.length))) 1 (bufB zb_1 5 b_1)), 2⟩ → Q (.exit 2) s)
    (hr : ∀ s, Ends a115.results 0 (strings_ToUpper_post o) .ret s → Q .ret s) :
    Sv Tryd.prog GG 0 (.loop a115_c3) Q ⟨(upd (upd (upd (upd (fun _ => none) 0 (some (S s_))) 7 (some (.c (.ref 0 2 0 0)))) 8 (some (I pos_))) 9 (some (I i_1))), (upd (upd (fun _ => none) 0 (some (.bld 99 zb 1 b_.length))) 1 (bufB zb 5 b_)), 2⟩ := by
  refine Sv.loop (I := fun k s => ∃ (b_ : (List UInt8)), ∃ (pos_ : Int), ∃ (i_1 : Int), ∃ (zb : Bool), (zb = true → b_ = []) ∧ strings_ToUpper_l1 s_ K2_ k b_ pos_ i_1 = some o ∧ s = ⟨(upd (upd (upd (upd (fun _ => none) 0 (some (S s_))) 7 (some (.c (.ref 0 2 0 0)))) 8 (some (I pos_))) 9 (some (I i_1))), (upd (upd (fun _ => none) 0 (some (.bld 99 zb 1 b_.length))) 1 (bufB zb 5 b_)), 2⟩) (fun k s hI => ?_) ⟨b_, pos_, i_1, zb, hzb, h, rfl⟩
  clear h
  clear hzb zb i_1 pos_ b_
  obtain ⟨b_, pos_, i_1, zb, hzb, h, rfl⟩ := hI
  cases k with
  | zero => cases h
  | succ k =>
  rw [strings_ToUpper_l1] at h
  have hself : ∀ (b_ : (List UInt8)) (pos_ : Int) (i_1 : Int) (zb : Bool) (_ : zb = true → b_ = []), (strings_ToUpper_l1 s_ K2_ k) b_ pos_ i_1 = some o → ∀ s, Weak 0 s ⟨(upd (upd (upd (upd (fun _ => none) 0 (some (S s_))) 7 (some (.c (.ref 0 2 0 0)))) 8 (some (I pos_))) 9 (some (I i_1))), (upd (upd (fun _ => none) 0 (some (.bld 99 zb 1 b_.length))) 1 (bufB zb 5 b_)), 2⟩ → (AThen (fun s' => ∃ s'' k', Weak 0 s' s'' ∧ k' < k + 1 ∧ (fun k s => ∃ (b_ : (List UInt8)), ∃ (pos_ : Int), ∃ (i_1 : Int), ∃ (zb : Bool), (zb = true → b_ = []) ∧ strings_ToUpper_l1 s_ K2_ k b_ pos_ i_1 = some o ∧ s = ⟨(upd (upd (upd (upd (fun _ => none) 0 (some (S s_))) 7 (some (.c (.ref 0 2 0 0)))) 8 (some (I pos_))) 9 (some (I i_1))), (upd (upd (fun _ => none) 0 (some (.bld 99 zb 1 b_.length))) 1 (bufB zb 5 b_)), 2⟩) k' s'') Q) .normal s := fun b_ pos_ i_1 zb hzb h s hw => ⟨_, k, hw, Nat.lt_succ_self k, b_, pos_, i_1, zb, hzb, h, rfl⟩
  refine Sv.seq ?_
  refine Sv.seq ?_
  refine Sv.region ?_
  refine un (a1 rfl ?_)
  refine un (a1 rfl ?_)
  refine un (a1 (v := (I (s_.length : Int))) rfl ?_)
  refine un (a1 (v := (B (decide (i_1 < (s_.length : Int))))) rfl ?_)
  refine dnil ?_
  refine Sv.cond (b := decide (i_1 < (s_.length : Int))) rfl (fun hc7 => ?_) (fun hc7 => ?_)
  · replace h := ifT hc7 h
    refine Sv.skip ?_
    refine Sv.seq ?_
    refine Sv.block ?_
    refine Sv.seq ?_
    refine Sv.region ?_
    refine un (a1 rfl ?_)
    refine un (a1 rfl ?_)
    obtain ⟨c_1, hx2, h⟩ := bnd h
    refine un (a1 (v := (.c (.val (.int .u8 (c_1.toNat : Int))))) (s_idxS rfl rfl hx2) ?_)
    refine un (a1 rfl ?_)
    refine dnil ?_
    refine Sv.seq ?_
    refine Sv.region ?_
    refine un (a1 rfl ?_)
    refine un (a1 (v := (B (decide (97 ≤ (c_1.toNat : Int))))) rfl ?_)
    refine un (a1 rfl ?_)
    refine gjoin 3 (d := 52) (v := (B ((decide (97 ≤ (c_1.toNat : Int))) && (decide ((c_1.toNat : Int) ≤ 122))))) (fun X hX => ?_) ?_
    · refine split2 (fun hc8 => ?_) (fun hc8 => ?_)
      · refine gt rfl (a1 rfl ?_)
        refine gt rfl (a1 (v := (B (decide ((c_1.toNat : Int) ≤ 122)))) rfl ?_)
        refine un (a1 (v := (B (decide ((c_1.toNat : Int) ≤ 122)))) rfl ?_)
        refine dnil ?_
        exact hX _ (.putEq (by rw [hc8]; rfl) (.skip _ _ (.skip _ _ (.putEq (by rw [hc8]) (.refl _)) rfl) rfl))
      · refine gs rfl rfl ?_
        refine gs rfl rfl ?_
        refine un (a1 (v := (B false)) rfl ?_)
        refine dnil ?_
        exact hX _ (.putEq (by rw [hc8]; rfl) (.skip _ _ (.skip _ _ (.putEq (by rw [hc8]) (.refl _)) rfl) rfl))
    refine dnil ?_
    refine Sv.cond (b := ((decide (97 ≤ (c_1.toNat : Int))) && (decide ((c_1.toNat : Int) ≤ 122)))) rfl (fun hc9 => ?_) (fun hc9 => ?_)
    · replace h := ifT hc9 h
      refine Sv.seq ?_
      refine Sv.region ?_
      refine un (a1 rfl ?_)
      refine un (a1 (v := (.c (.val (.int .u8 (wr .u8 ((c_1.toNat : Int) - 32)))))) rfl ?_)
      refine un (a1 rfl ?_)
      refine dnil ?_
      refine Sv.seq ?_
      refine Sv.seq ?_
      refine Sv.region ?_
      refine un (a1 rfl ?_)
      refine un (a1 rfl ?_)
      refine un (a1 (v := (B (decide (pos_ < i_1)))) rfl ?_)
      refine dnil ?_
      refine Sv.cond (b := decide (pos_ < i_1)) rfl (fun hc10 => ?_) (fun hc10 => ?_)
      · replace h := ifT hc10 h
        refine Sv.region ?_
        refine un (a1 rfl ?_)
        refine un (a1 rfl ?_)
        refine un (a1 rfl ?_)
        obtain ⟨r_2, hx3, h⟩ := bnd h
        refine un (a1 (v := (S r_2)) (s_slStr rfl rfl rfl hx3) ?_)
        obtain ⟨r_3, hr3, h⟩ := bnd h
        refine un (ac_gen (bs := [0, 1]) («as» := [(.c (.ref 0 2 0 0)), (S r_2)]) (h2 := _) (h1 := (upd (upd (fun _ => none) 0 (some (.bld 99 zb 1 b_.length))) 1 (bufB zb 5 b_))) (strings_Builder_WriteString_ok (z := zb) (l := b_) hzb hr3) rfl (.cons (.c (.ref rfl (by decide))) (.cons (avAs_free rfl) .nil)) (hsub_refl _) (.cons rfl (.cons rfl (.nil _))) (fun h => by cases h) (by decide) (by decide) (.cons (.c (.ref rfl (by decide))) (.cons (avAs_free rfl) .nil)) (.buf (by decide) rfl (.box (by decide) rfl (.bld rfl (by decide)) .nil)) ?_)
        rintro _ _ _ hn ⟨z_2, hz_2, rfl, rfl, rfl⟩
        refine ⟨.inl rfl, (upd (upd (rem [0, 1] _) 0 (some (.bld 99 z_2 2 r_3.length))) 2 (bufB z_2 5 r_3)), fun hbd => (m3_cons (m3_buf rfl) (m3_cons (m3_box rfl rfl) (m3_rem (in_cons (by decide) (in_cons (by decide) (in_nil _))) (.cons (by decide) (.cons (by decide) .nil)) hbd))), (.tup [(I (r_2.length : Int)), (.c (.val .nilIface))]), 3, (by cases z_2 <;> rfl), rfl, ?_⟩
        refine dnil ?_
        exact Sv.weak (weak_canon [0, 2] rfl (by decide) (by decide) (fun b h => absurd h (Nat.not_lt_zero _)) (.cons rfl (avAs_free rfl) (.cons rfl (avAs_free rfl) (.cons rfl (.c (.ref rfl (by decide))) (.cons rfl (avAs_free rfl) .nil)))) (.buf (by decide) rfl (.box (by decide) rfl (.bld rfl (by decide)) .nil))) (strings_ToUpper_j12_ok hz_2 h hself hK2 hr)
      · replace h := ifF hc10 h
        refine Sv.skip ?_
        exact Sv.weak (weak_canon [0, 1] rfl (by decide) (by decide) (fun b h => absurd h (Nat.not_lt_zero _)) (.cons rfl (avAs_free rfl) (.cons rfl (avAs_free rfl) (.cons rfl (.c (.ref rfl (by decide))) (.cons rfl (avAs_free rfl) .nil)))) (.buf (by decide) rfl (.box (by decide) rfl (.bld rfl (by decide)) .nil))) (strings_ToUpper_j12_ok hzb h hself hK2 hr)
    · replace h := ifF hc9 h
      refine Sv.skip ?_
      exact Sv.weak (weak_canon [0, 1] rfl (by decide) (by decide) (fun b h => absurd h (Nat.not_lt_zero _)) (.cons rfl (avAs_free rfl) (.cons rfl (avAs_free rfl) (.cons rfl (.c (.ref rfl (by decide))) (.cons rfl (avAs_free rfl) .nil)))) (.buf (by decide) rfl (.box (by decide) rfl (.bld rfl (by decide)) .nil))) (strings_ToUpper_j11_ok hzb h hself hK2 hr)
  · replace h := ifF hc7 h
    refine Sv.exit ?_
    exact hK2 b_ pos_ zb hzb h _ (weak_canon [0, 1] rfl (by decide) (by decide) (fun b h => absurd h (Nat.not_lt_zero _)) (.cons rfl (avAs_free rfl) (.cons rfl (.c (.ref rfl (by decide))) (.cons rfl (avAs_free rfl) .nil))) (.buf (by decide) rfl (.box (by decide) rfl (.bld rfl (by decide)) .nil)))
abbrev strings_ToUpper_q2 (o : (List UInt8)) : AExit → St → Prop := AThen (Sv Tryd.prog GG 0 a115_c5 (Ends a115.results 0 (strings_ToUpper_post o))) (Ends a115.results 0 (strings_ToUpper_post o))
noncomputable def strings_ToUpper_j13 (b_4 : (List UInt8)) : Option (List UInt8) :=
  some b_4
theorem strings_ToUpper_j13_ok {b_4 : (List UInt8)} {zb_4 : Bool} (hzb_4 : zb_4 = true → b_4 = []) {o : (List UInt8)} (h : strings_ToUpper_j13 b_4 = some o) :
    Sv Tryd.prog GG 0 a115_c4 (strings_ToUpper_q2 o) ⟨(upd (fun _ => none) 7 (some (.c (.ref 0 2 0 0)))), (upd (upd (fun _ => none) 0 (some (.bld 99 zb_4 1 b_4.length))) 1 (bufB zb_4 5 b_4)), 2⟩ := by
  unfold strings_ToUpper_j13 at h
  refine Sv.seq ?_
  refine Sv.region ?_
  refine un (ac_gen (bs := [0, 1]) («as» := [(.c (.ref 0 2 0 0))]) (h2 := _) (h1 := (upd (upd (fun _ => none) 0 (some (.bld 99 zb_4 1 b_4.length))) 1 (bufB zb_4 5 b_4))) (strings_Builder_String_ok (z := zb_4) (l := b_4) hzb_4) rfl (.cons (.c (.ref rfl (by decide))) .nil) (hsub_refl _) (.cons rfl (.cons rfl (.nil _))) (fun h => by cases h) (by decide) (by decide) (.cons (.c (.ref rfl (by decide))) .nil) (.buf (by decide) rfl (.box (by decide) rfl (.bld rfl (by decide)) .nil)) ?_)
  rintro _ _ _ hn ⟨rfl, rfl, rfl⟩
  refine ⟨.inl rfl, (rem [0, 1] _), fun hbd => (m3_rem (in_cons (by decide) (in_cons (by decide) (in_nil _))) (.nil) hbd), (S b_4), 2, rfl, rfl, ?_⟩
  refine un (a1 rfl ?_)
  refine dnil ?_
  refine Sv.ret ?_
  replace h := Option.some.inj h
  subst h
  exact ⟨_, .refl _, _, rfl, ⟨upd (fun _ => none) 0 (some (S b_4)), (fun _ => none), 0⟩, (S b_4), weak_canon [] rfl List.nodup_nil (Nat.le_refl _) (fun b h => absurd h (Nat.not_lt_zero _)) (.cons rfl (avAs_free rfl) .nil) .nil, rfl, rfl, rfl, rfl⟩
/-- strings.ToUpper -/
noncomputable def strings_ToUpper (s_ : (List UInt8)) : Option (List UInt8) :=
  lim fun kk1 => strings_ToUpper_l0 s_ (fun (isASCII : Bool) (hasLower1 : Bool) => 
      if isASCII then
        if (!hasLower1) then
          some s_
        else
          (strings_Builder_Grow ([] : List UInt8) (s_.length : Int)).bind fun r_ =>
          lim fun kk => strings_ToUpper_l1 s_ (fun (b_1 : (List UInt8)) (pos_1 : Int) => 
              if decide (pos_1 < (s_.length : Int)) then
                (sub? s_ pos_1 (s_.length : Int)).bind fun r_4 =>
                (strings_Builder_WriteString b_1 r_4).bind fun r_5 =>
                strings_ToUpper_j13 r_5
              else
                strings_ToUpper_j13 b_1) kk r_ 0 0
      else
        (strings_Map s_).bind fun r_6 =>
        some r_6) kk1 false 0
theorem strings_ToUpper_ok {s_ : (List UInt8)} {r : (List UInt8)} (h : strings_ToUpper s_ = some r) : CPure Tryd.prog GG 115 [(S s_)] (S r) := by
  refine acalls_of_sv hmix c115 (R := strings_ToUpper_post r) ?_
  unfold strings_ToUpper at h
  refine Sv.seq ?_
  refine Sv.region ?_
  refine un (a1 rfl ?_)
  refine dnil ?_
  refine Sv.seq ?_
  refine Sv.region ?_
  refine un (a1 rfl ?_)
  refine un (a1 rfl ?_)
  refine dnil ?_
  refine Sv.seq ?_
  refine Sv.seq ?_
  refine Sv.region ?_
  refine un (a1 rfl ?_)
  refine dnil ?_
  refine Sv.block ?_
  obtain ⟨kk1, h⟩ := lim_some h
  refine Sv.weak (weak_canon [] rfl (by decide) (by decide) (fun b h => absurd h (Nat.not_lt_zero _)) (.cons rfl (avAs_free rfl) (.cons rfl (avAs_free rfl) (.cons rfl (avAs_free rfl) (.cons rfl (avAs_free rfl) .nil)))) .nil) (strings_ToUpper_l0_ok h ?_ (fun s hs => hs))
  · intro isASCII hasLower1 h _ hw1
    refine Sv.weak hw1 ?_
    refine Sv.seq ?_
    refine Sv.seq ?_
    refine Sv.region ?_
    refine un (a1 rfl ?_)
    refine dnil ?_
    refine Sv.cond (b := isASCII) rfl (fun hc5 => ?_) (fun hc5 => ?_)
    · replace h := ifT hc5 h
      refine Sv.seq ?_
      refine Sv.seq ?_
      refine Sv.region ?_
      refine un (a1 rfl ?_)
      refine un (a1 (v := (B (!hasLower1))) rfl ?_)
      refine dnil ?_
      refine Sv.cond (b := (!hasLower1)) rfl (fun hc6 => ?_) (fun hc6 => ?_)
      · replace h := ifT hc6 h
        refine Sv.seq ?_
        refine Sv.region ?_
        refine un (a1 rfl ?_)
        refine un (a1 rfl ?_)
        refine dnil ?_
        refine Sv.ret ?_
        replace h := Option.some.inj h
        subst h
        exact ⟨_, .refl _, _, rfl, ⟨upd (fun _ => none) 0 (some (S s_)), (fun _ => none), 0⟩, (S s_), weak_canon [] rfl List.nodup_nil (Nat.le_refl _) (fun b h => absurd h (Nat.not_lt_zero _)) (.cons rfl (avAs_free rfl) .nil) .nil, rfl, rfl, rfl, rfl⟩
      · replace h := ifF hc6 h
        refine Sv.skip ?_
        refine Sv.seq ?_
        refine Sv.region ?_
        refine un (a2v (v := (.c (.ref 1 2 0 0))) (h' := upd _ 1 (some (.bld 99 true 0 ([] : List UInt8).length))) (n' := 2) rfl rfl (fun h => by cases h) ?_)
        refine dnil ?_
        refine Sv.seq ?_
        refine Sv.region ?_
        refine un (a1 rfl ?_)
        refine dnil ?_
        refine Sv.seq ?_
        refine Sv.region ?_
        refine un (a1 rfl ?_)
        refine un (a1 (v := (I (s_.length : Int))) rfl ?_)
        obtain ⟨r_, hr1, h⟩ := bnd h
        refine un (ac_gen (bs := [1, 0]) («as» := [(.c (.ref 1 2 0 0)), (I (s_.length : Int))]) (h2 := _) (h1 := (upd (fun _ => none) 1 (some (.bld 99 true 0 ([] : List UInt8).length)))) (strings_Builder_Grow_ok (z := true) (l := ([] : List UInt8)) (fun _ => rfl) hr1) rfl (.cons (.c (.ref rfl (by decide))) (.cons (avAs_free rfl) .nil)) (hsub_refl _) (.cons rfl (.nil _)) (fun h => by cases h) (by decide) (by decide) (.cons (.c (.ref rfl (by decide))) (.cons (avAs_free rfl) .nil)) (.nonB (by decide) (.box (by decide) rfl (.bldN (by decide)) .nil)) ?_)
        rintro _ _ _ hn ⟨z_, hz_, rfl, rfl, rfl⟩
        refine ⟨.inl rfl, (upd (upd (rem [1, 0] _) 1 (some (.bld 99 z_ 2 r_.length))) 2 (bufB z_ 5 r_)), fun hbd => (m3_cons (m3_buf rfl) (m3_cons (m3_box rfl rfl) (m3_rem (in_cons (by decide) (in_nil _)) (.cons (by decide) (.cons (by decide) .nil)) hbd))), (.tup []), 3, (by cases z_ <;> rfl), rfl, ?_⟩
        refine dnil ?_
        refine Sv.seq ?_
        refine Sv.seq ?_
        refine Sv.region ?_
        refine un (a1 rfl ?_)
        refine dnil ?_
        refine Sv.block ?_
        obtain ⟨kk, h⟩ := lim_some h
        refine Sv.weak (weak_canon [1, 2] rfl (by decide) (by decide) (fun b h => absurd h (Nat.not_lt_zero _)) (.cons rfl (avAs_free rfl) (.cons rfl (avAs_free rfl) (.cons rfl (.c (.ref rfl (by decide))) (.cons rfl (avAs_free rfl) .nil)))) (.buf (by decide) rfl (.box (by decide) rfl (.bld rfl (by decide)) .nil))) (strings_ToUpper_l1_ok hz_ h ?_ (fun s hs => hs))
        · intro b_1 pos_1 zb_1 hzb_1 h _ hw2
          refine Sv.weak hw2 ?_
          refine Sv.seq ?_
          refine Sv.seq ?_
          refine Sv.region ?_
          refine un (a1 rfl ?_)
          refine un (a1 rfl ?_)
          refine un (a1 (v := (I (s_.length : Int))) rfl ?_)
          refine un (a1 (v := (B (decide (pos_1 < (s_.length : Int))))) rfl ?_)
          refine dnil ?_
          refine Sv.cond (b := decide (pos_1 < (s_.length : Int))) rfl (fun hc11 => ?_) (fun hc11 => ?_)
          · replace h := ifT hc11 h
            refine Sv.region ?_
            refine un (a1 rfl ?_)
            refine un (a1 rfl ?_)
            obtain ⟨r_4, hx4, h⟩ := bnd h
            refine un (a1 (v := (S r_4)) (s_slStr rfl rfl rfl hx4) ?_)
            obtain ⟨r_5, hr4, h⟩ := bnd h
            refine un (ac_gen (bs := [0, 1]) («as» := [(.c (.ref 0 2 0 0)), (S r_4)]) (h2 := _) (h1 := (upd (upd (fun _ => none) 0 (some (.bld 99 zb_1 1 b_1.length))) 1 (bufB zb_1 5 b_1))) (strings_Builder_WriteString_ok (z := zb_1) (l := b_1) hzb_1 hr4) rfl (.cons (.c (.ref rfl (by decide))) (.cons (avAs_free rfl) .nil)) (hsub_refl _) (.cons rfl (.cons rfl (.nil _))) (fun h => by cases h) (by decide) (by decide) (.cons (.c (.ref rfl (by decide))) (.cons (avAs_free rfl) .nil)) (.buf (by decide) rfl (.box (by decide) rfl (.bld rfl (by decide)) .nil)) ?_)
            rintro _ _ _ hn ⟨z_3, hz_3, rfl, rfl, rfl⟩
            refine ⟨.inl rfl, (upd (upd (rem [0, 1] _) 0 (some (.bld 99 z_3 2 r_5.length))) 2 (bufB z_3 5 r_5)), fun hbd => (m3_cons (m3_buf rfl) (m3_cons (m3_box rfl rfl) (m3_rem (in_cons (by decide) (in_cons (by decide) (in_nil _))) (.cons (by decide) (.cons (by decide) .nil)) hbd))), (.tup [(I (r_4.length : Int)), (.c (.val .nilIface))]), 3, (by cases z_3 <;> rfl), rfl, ?_⟩
            refine dnil ?_
            exact Sv.weak (weak_canon [0, 2] rfl (by decide) (by decide) (fun b h => absurd h (Nat.not_lt_zero _)) (.cons rfl (.c (.ref rfl (by decide))) .nil) (.buf (by decide) rfl (.box (by decide) rfl (.bld rfl (by decide)) .nil))) (strings_ToUpper_j13_ok hz_3 h)
          · replace h := ifF hc11 h
            refine Sv.skip ?_
            exact Sv.weak (weak_canon [0, 1] rfl (by decide) (by decide) (fun b h => absurd h (Nat.not_lt_zero _)) (.cons rfl (.c (.ref rfl (by decide))) .nil) (.buf (by decide) rfl (.box (by decide) rfl (.bld rfl (by decide)) .nil))) (strings_ToUpper_j13_ok hzb_1 h)
    · replace h := ifF hc5 h
      refine Sv.skip ?_
      refine Sv.seq ?_
      refine Sv.region ?_
      refine un (a1 rfl ?_)
      obtain ⟨r_6, hr5, h⟩ := bnd h
      refine un (ac_pure (strings_Map_ok hr5) rfl rfl rfl ?_)
      refine un (a1 rfl ?_)
      refine dnil ?_
      refine Sv.ret ?_
      replace h := Option.some.inj h
      subst h
      exact ⟨_, .refl _, _, rfl, ⟨upd (fun _ => none) 0 (some (S r_6)), (fun _ => none), 0⟩, (S r_6), weak_canon [] rfl List.nodup_nil (Nat.le_refl _) (fun b h => absurd h (Nat.not_lt_zero _)) (.cons rfl (avAs_free rfl) .nil) .nil, rfl, rfl, rfl, rfl⟩
def a116_c0 : ACode := (.seq (.seq (.region [⟨(some 23), (.mov (.tmp 0)), none⟩, ⟨(some 24), (.faddr 0 (.tmp 5)), none⟩, ⟨(some 25), (.load false 1 (.tmp 24)), none⟩, ⟨(some 26), (.bin .geq (.tmp 23) (.tmp 25)), none⟩])
 (.cond (.tmp 26) .skip (.exit 2)))
 (.seq (.block 3 (.region [⟨(some 31), (.faddr 1 (.tmp 5)), none⟩, ⟨(some 32), (.load false 1 (.tmp 31)), none⟩, ⟨(some 33), (.call 44 [(.tmp 3), (.tmp 32)]), none⟩]))
 (.region [⟨(some 27), (.mov (.tmp 0)), none⟩, ⟨(some 28), (.faddr 0 (.tmp 5)), none⟩, ⟨(some 29), (.load false 1 (.tmp 28)), none⟩, ⟨(some 30), (.bin .sub (.tmp 27) (.tmp 29)), none⟩, ⟨(some 0), (.mov (.tmp 30)), none⟩])))
def a116_c1 : ACode := (.seq (.region [⟨(some 21), (.bin .lss (.tmp 20) (.const (.c (.val (.int .i64 13))))), none⟩])
 (.seq (.cond (.tmp 21) .skip (.exit 0))
 (.seq (.block 1 (.seq (.region [⟨(some 22), (.idxA true 13 2 (.tmp 19) (.tmp 20)), none⟩, ⟨(some 5), (.box (.const (.agg [(.val (.int .i64 0)), (.str [])]))), none⟩, ⟨none, (.store 2 (.tmp 5) (.tmp 22)), none⟩])
 (.block 2 (.loop a116_c0))))
 (.region [⟨(some 34), (.bin .add (.tmp 20) (.const (.c (.val (.int .i64 1))))), none⟩, ⟨(some 20), (.mov (.tmp 34)), none⟩]))))
def a116 : AFunc := ⟨1, [(.tmp 2)], (.seq (.region [⟨(some 2), (.mov (.const (.c (.str [])))), none⟩])
 (.seq (.region [⟨(some 3), (.boxB 99), none⟩])
 (.seq (.seq (.region [⟨(some 6), (.build [(.val (.int .i64 0)), (.str [])] [(0, (1, (.const (.c (.val (.int .i64 1000)))))), (1, (1, (.const (.c (.str [109])))))]), none⟩, ⟨(some 7), (.build [(.val (.int .i64 0)), (.str [])] [(0, (1, (.const (.c (.val (.int .i64 900)))))), (1, (1, (.const (.c (.str [99, 109])))))]), none⟩, ⟨(some 8), (.build [(.val (.int .i64 0)), (.str [])] [(0, (1, (.const (.c (.val (.int .i64 500)))))), (1, (1, (.const (.c (.str [100])))))]), none⟩, ⟨(some 9), (.build [(.val (.int .i64 0)), (.str [])] [(0, (1, (.const (.c (.val (.int .i64 400)))))), (1, (1, (.const (.c (.str [99, 100])))))]), none⟩, ⟨(some 10), (.build [(.val (.int .i64 0)), (.str [])] [(0, (1, (.const (.c (.val (.int .i64 100)))))), (1, (1, (.const (.c (.str [99])))))]), none⟩, ⟨(some 11), (.build [(.val (.int .i64 0)), (.str [])] [(0, (1, (.const (.c (.val (.int .i64 90)))))), (1, (1, (.const (.c (.str [120, 99])))))]), none⟩, ⟨(some 12), (.build [(.val (.int .i64 0)), (.str [])] [(0, (1, (.const (.c (.val (.int .i64 50)))))), (1, (1, (.const (.c (.str [108])))))]), none⟩, ⟨(some 13), (.build [(.val (.int .i64 0)), (.str [])] [(0, (1, (.const (.c (.val (.int .i64 40)))))), (1, (1, (.const (.c (.str [120, 108])))))]), none⟩, ⟨(some 14), (.build [(.val (.int .i64 0)), (.str [])] [(0, (1, (.const (.c (.val (.int .i64 10)))))), (1, (1, (.const (.c (.str [120])))))]), none⟩, ⟨(some 15), (.build [(.val (.int .i64 0)), (.str [])] [(0, (1, (.const (.c (.val (.int .i64 9)))))), (1, (1, (.const (.c (.str [105, 120])))))]), none⟩, ⟨(some 16), (.build [(.val (.int .i64 0)), (.str [])] [(0, (1, (.const (.c (.val (.int .i64 5)))))), (1, (1, (.const (.c (.str [118])))))]), none⟩, ⟨(some 17), (.build [(.val (.int .i64 0)), (.str [])] [(0, (1, (.const (.c (.val (.int .i64 4)))))), (1, (1, (.const (.c (.str [105, 118])))))]), none⟩, ⟨(some 18), (.build [(.val (.int .i64 0)), (.str [])] [(0, (1, (.const (.c (.val (.int .i64 1)))))), (1, (1, (.const (.c (.str [105])))))]), none⟩, ⟨(some 19), (.build [(.val (.int .i64 0)), (.str []), (.val (.int .i64 0)), (.str []), (.val (.int .i64 0)), (.str []), (.val (.int .i64 0)), (.str []), (.val (.int .i64 0)), (.str []), (.val (.int .i64 0)), (.str []), (.val (.int .i64 0)), (.str []), (.val (.int .i64 0)), (.str []), (.val (.int .i64 0)), (.str []), (.val (.int .i64 0)), (.str []), (.val (.int .i64 0)), (.str []), (.val (.int .i64 0)), (.str []), (.val (.int .i64 0)), (.str [])] [(0, (2, (.tmp 6))), (2, (2, (.tmp 7))), (4, (2, (.tmp 8))), (6, (2, (.tmp 9))), (8, (2, (.tmp 10))), (10, (2, (.tmp 11))), (12, (2, (.tmp 12))), (14, (2, (.tmp 13))), (16, (2, (.tmp 14))), (18, (2, (.tmp 15))), (20, (2, (.tmp 16))), (22, (2, (.tmp 17))), (24, (2, (.tmp 18)))]), none⟩, ⟨(some 20), (.mov (.const (.c (.val (.int .i64 0))))), none⟩])
 (.block 0 (.loop a116_c1)))
 (.seq (.region [⟨(some 35), (.call 46 [(.tmp 3)]), none⟩, ⟨(some 2), (.mov (.tmp 35)), none⟩])
 .ret))))⟩
set_option maxRecDepth 100000 in
theorem c116 : compFunc Tryd.prog 116 = some a116 := by kernel_rfl
def count_roman_post (r : (List UInt8)) : AV → Heap → Nat → Prop := fun v h' n' => v = (S r) ∧ (h' = (fun _ => none)) ∧ n' = 0
def count_roman_t0 : AV := (.agg [cI 1000, .str [109], cI 900, .str [99, 109], cI 500, .str [100], cI 400, .str [99, 100], cI 100, .str [99], cI 90, .str [120, 99], cI 50, .str [108], cI 40, .str [120, 108], cI 10, .str [120], cI 9, .str [105, 120], cI 5, .str [118], cI 4, .str [105, 118], cI 1, .str [105]])
def count_roman_t1 : List Tanon := [(⟨1000, [109]⟩ : Tanon), (⟨900, [99, 109]⟩ : Tanon), (⟨500, [100]⟩ : Tanon), (⟨400, [99, 100]⟩ : Tanon), (⟨100, [99]⟩ : Tanon), (⟨90, [120, 99]⟩ : Tanon), (⟨50, [108]⟩ : Tanon), (⟨40, [120, 108]⟩ : Tanon), (⟨10, [120]⟩ : Tanon), (⟨9, [105, 120]⟩ : Tanon), (⟨5, [118]⟩ : Tanon), (⟨4, [105, 118]⟩ : Tanon), (⟨1, [105]⟩ : Tanon)]
noncomputable def count_roman_l3 (x_ : Tanon) (v20 : Int) (K2_ : Int → (List UInt8) → Option (List UInt8)) : Nat → Int → (List UInt8) → Option (List UInt8)
  | 0, _, _ => none
  | k + 1, n_2, b_2 =>
    if decide (x_.f_n ≤ n_2) then
      (strings_Builder_WriteString b_2 x_.f_s).bind fun r_ =>
      (count_roman_l3 x_ v20 K2_ k) (wi (n_2 - x_.f_n)) r_
    else
      K2_ n_2 b_2
theorem count_roman_l3_ok {Q : AExit → St → Prop} {x_ : Tanon} {v20 : Int} {K2_ : Int → (List UInt8) → Option (List UInt8)} {k : Nat} {n_2 : Int} {b_2 : (List UInt8)} {zb_2 : Bool} (hzb_2 : zb_2 = true → b_2 = []) {o : (List UInt8)} (h : count_roman_l3 x_ v20 K2_ k n_2 b_2 = some o)
    (hK2 : ∀ (n_3 : Int) (b_3 : (List UInt8)) (zb_3 : Bool) (_ : zb_3 = true → b_3 = []), K2_ n_3 b_3 = some o → ∀ s, Weak 0 s ⟨(upd (upd (upd (upd (fun _ => none) 0 (some (I n_3))) 3 (some (.c (.ref 0 2 0 0)))) 19 (some (.agg [cI 1000, .str [109], cI 900, .str [99, 109], cI 500, .str [100], cI 400, .str [99, 100], cI 100, .str [99], cI 90, .str [120, 99], cI 50, .str [108], cI 40, .str [120, 108], cI 10, .str [120], cI 9, .str [105, 120], cI 5, .str [118], cI 4, .str [105, 118], cI 1, .str [105]]))) 20 (some (I v20))), (upd (upd (fun _ => none) 0 (some (.bld 99 zb_3 1 b_3.length))) 1 (bufB zb_3 5 b_3)), 2⟩ → Q (.exit 2) s)
    (hr : ∀ s, Ends a116.results 0 (count_roman_post o) .ret s → Q .ret s) :
    Sv Tryd.prog GG 0 (.loop a116_c0) Q ⟨(upd (upd (upd (upd (upd (fun _ => none) 0 (some (I n_2))) 3 (some (.c (.ref 0 2 0 0)))) 5 (some (.c (.ref 2 2 0 0)))) 19 (some (.agg [cI 1000, .str [109], cI 900, .str [99, 109], cI 500, .str [100], cI 400, .str [99, 100], cI 100, .str [99], cI 90, .str [120, 99], cI 50, .str [108], cI 40, .str [120, 108], cI 10, .str [120], cI 9, .str [105, 120], cI 5, .str [118], cI 4, .str [105, 118], cI 1, .str [105]]))) 20 (some (I v20))), (upd (upd (upd (fun _ => none) 0 (some (.bld 99 zb_2 1 b_2.length))) 1 (bufB zb_2 5 b_2)) 2 (some (.cells 2 [[cI x_.f_n, .str x_.f_s]]))), 3⟩ := by
  refine Sv.loop (I := fun k s => ∃ (n_2 : Int), ∃ (b_2 : (List UInt8)), ∃ (zb_2 : Bool), (zb_2 = true → b_2 = []) ∧ count_roman_l3 x_ v20 K2_ k n_2 b_2 = some o ∧ s = ⟨(upd (upd (upd (upd (upd (fun _ => none) 0 (some (I n_2))) 3 (some (.c (.ref 0 2 0 0)))) 5 (some (.c (.ref 2 2 0 0)))) 19 (some (.agg [cI 1000, .str [109], cI 900, .str [99, 109], cI 500, .str [100], cI 400, .str [99, 100], cI 100, .str [99], cI 90, .str [120, 99], cI 50, .str [108], cI 40, .str [120, 108], cI 10, .str [120], cI 9, .str [105, 120], cI 5, .str [118], cI 4, .str [105, 118], cI 1, .str [105]]))) 20 (some (I v20))), (upd (upd (upd (fun _ => none) 0 (some (.bld 99 zb_2 1 b_2.length))) 1 (bufB zb_2 5 b_2)) 2 (some (.cells 2 [[cI x_.f_n, .str x_.f_s]]))), 3⟩) (fun k s hI => ?_) ⟨n_2, b_2, zb_2, hzb_2, h, rfl⟩
  clear h
  clear hzb_2 zb_2 b_2 n_2
  obtain ⟨n_2, b_2, zb_2, hzb_2, h, rfl⟩ := hI
  cases k with
  | zero => cases h
  | succ k =>
  rw [count_roman_l3] at h
  have hself : ∀ (n_2 : Int) (b_2 : (List UInt8)) (zb_2 : Bool) (_ : zb_2 = true → b_2 = []), (count_roman_l3 x_ v20 K2_ k) n_2 b_2 = some o → ∀ s, Weak 0 s ⟨(upd (upd (upd (upd (upd (fun _ => none) 0 (some (I n_2))) 3 (some (.c (.ref 0 2 0 0)))) 5 (some (.c (.ref 2 2 0 0)))) 19 (some (.agg [cI 1000, .str [109], cI 900, .str [99, 109], cI 500, .str [100], cI 400, .str [99, 100], cI 100, .str [99], cI 90, .str [120, 99], cI 50, .str [108], cI 40, .str [120, 108], cI 10, .str [120], cI 9, .str [105, 120], cI 5, .str [118], cI 4, .str [105, 118], cI 1, .str [105]]))) 20 (some (I v20))), (upd (upd (upd (fun _ => none) 0 (some (.bld 99 zb_2 1 b_2.length))) 1 (bufB zb_2 5 b_2)) 2 (some (.cells 2 [[cI x_.f_n, .str x_.f_s]]))), 3⟩ → (AThen (fun s' => ∃ s'' k', Weak 0 s' s'' ∧ k' < k + 1 ∧ (fun k s => ∃ (n_2 : Int), ∃ (b_2 : (List UInt8)), ∃ (zb_2 : Bool), (zb_2 = true → b_2 = []) ∧ count_roman_l3 x_ v20 K2_ k n_2 b_2 = some o ∧ s = ⟨(upd (upd (upd (upd (upd (fun _ => none) 0 (some (I n_2))) 3 (some (.c (.ref 0 2 0 0)))) 5 (some (.c (.ref 2 2 0 0)))) 19 (some (.agg [cI 1000, .str [109], cI 900, .str [99, 109], cI 500, .str [100], cI 400, .str [99, 100], cI 100, .str [99], cI 90, .str [120, 99], cI 50, .str [108], cI 40, .str [120, 108], cI 10, .str [120], cI 9, .str [105, 120], cI 5, .str [118], cI 4, .str [105, 118], cI 1, .str [105]]))) 20 (some (I v20))), (upd (upd (upd (fun _ => none) 0 (some (.bld 99 zb_2 1 b_2.length))) 1 (bufB zb_2 5 b_2)) 2 (some (.cells 2 [[cI x_.f_n, .str x_.f_s]]))), 3⟩) k' s'') Q) .normal s := fun n_2 b_2 zb_2 hzb_2 h s hw => ⟨_, k, hw, Nat.lt_succ_self k, n_2, b_2, zb_2, hzb_2, h, rfl⟩
  refine Sv.seq ?_
  refine Sv.seq ?_
  refine Sv.region ?_
  refine un (a1 rfl ?_)
  refine un (a1 (v := (.c (.ref 2 2 0 0))) rfl ?_)
  refine un (a1 (v := (I x_.f_n)) rfl ?_)
  refine un (a1 (v := (B (decide (x_.f_n ≤ n_2)))) rfl ?_)
  refine dnil ?_
  refine Sv.cond (b := decide (x_.f_n ≤ n_2)) rfl (fun hc2 => ?_) (fun hc2 => ?_)
  · replace h := ifT hc2 h
    refine Sv.skip ?_
    refine Sv.seq ?_
    refine Sv.block ?_
    refine Sv.region ?_
    refine un (a1 (v := (.c (.ref 2 2 0 1))) rfl ?_)
    refine un (a1 (v := (S x_.f_s)) rfl ?_)
    obtain ⟨r_, hr1, h⟩ := bnd h
    refine un (ac_gen (bs := [0, 1]) («as» := [(.c (.ref 0 2 0 0)), (S x_.f_s)]) (h2 := _) (h1 := (upd (upd (fun _ => none) 0 (some (.bld 99 zb_2 1 b_2.length))) 1 (bufB zb_2 5 b_2))) (strings_Builder_WriteString_ok (z := zb_2) (l := b_2) hzb_2 hr1) rfl (.cons (.c (.ref rfl (by decide))) (.cons (avAs_free rfl) .nil)) (hsub_refl _) (.cons rfl (.cons rfl (.nil _))) (fun h => by cases h) (by decide) (by decide) (.cons (.c (.ref rfl (by decide))) (.cons (avAs_free rfl) .nil)) (.buf (by decide) rfl (.box (by decide) rfl (.bld rfl (by decide)) .nil)) ?_)
    rintro _ _ _ hn ⟨z_, hz_, rfl, rfl, rfl⟩
    refine ⟨.inl rfl, (upd (upd (rem [0, 1] _) 0 (some (.bld 99 z_ 3 r_.length))) 3 (bufB z_ 5 r_)), fun hbd => (m3_cons (m3_buf rfl) (m3_cons (m3_box rfl rfl) (m3_rem (in_cons (by decide) (in_cons (by decide) (in_nil _))) (.cons (by decide) (.cons (by decide) .nil)) hbd))), (.tup [(I (x_.f_s.length : Int)), (.c (.val .nilIface))]), 4, (by cases z_ <;> rfl), rfl, ?_⟩
    refine dnil ?_
    refine Sv.region ?_
    refine un (a1 rfl ?_)
    refine un (a1 (v := (.c (.ref 2 2 0 0))) rfl ?_)
    refine un (a1 (v := (I x_.f_n)) rfl ?_)
    refine un (a1 (v := (I (wi (n_2 - x_.f_n)))) rfl ?_)
    refine un (a1 rfl ?_)
    refine dnil ?_
    exact hself (wi (n_2 - x_.f_n)) r_ z_ hz_ h _ (weak_canon [0, 3, 2] rfl (by decide) (by decide) (fun b h => absurd h (Nat.not_lt_zero _)) (.cons rfl (avAs_free rfl) (.cons rfl (avAs_free rfl) (.cons rfl (.c (.ref rfl (by decide))) (.cons rfl (.c (.ref rfl (by decide))) (.cons rfl (avAs_free rfl) .nil))))) (.box (by decide) rfl (blkAs_cells (.cons (.same rfl) (.cons (.same rfl) .nil))) (.buf (by decide) rfl (.box (by decide) rfl (.bld rfl (by decide)) .nil))))
  · replace h := ifF hc2 h
    refine Sv.exit ?_
    exact hK2 n_2 b_2 zb_2 hzb_2 h _ (weak_canon [0, 1] rfl (by decide) (by decide) (fun b h => absurd h (Nat.not_lt_zero _)) (.cons rfl (avAs_free rfl) (.cons rfl (avAs_free rfl) (.cons rfl (.c (.ref rfl (by decide))) (.cons rfl (avAs_free rfl) .nil)))) (.buf (by decide) rfl (.box (by decide) rfl (.bld rfl (by decide)) .nil)))
noncomputable def count_roman_l2 (K0_ : (List UInt8) → Option (List UInt8)) : Nat → Int → (List UInt8) → Int → Option (List UInt8)
  | 0, _, _, _ => none
  | k + 1, n_1, b_, v20 =>
    if decide (v20 < 13) then
      (at? count_roman_t1 v20).bind fun x_ =>
      lim fun kk => count_roman_l3 x_ v20 (fun (n_3 : Int) (b_3 : (List UInt8)) => 
          (count_roman_l2 K0_ k) n_3 b_3 (wi (v20 + 1))) kk n_1 b_
    else
      K0_ b_
theorem count_roman_l2_ok {Q : AExit → St → Prop} {K0_ : (List UInt8) → Option (List UInt8)} {k : Nat} {n_1 : Int} {b_ : (List UInt8)} {v20 : Int} {zb : Bool} (hzb : zb = true → b_ = []) {o : (List UInt8)} (h : count_roman_l2 K0_ k n_1 b_ v20 = some o)
    (hK0 : ∀ (b_1 : (List UInt8)) (zb_1 : Bool) (_ : zb_1 = true → b_1 = []), K0_ b_1 = some o → ∀ s, Weak 0 s ⟨(upd (fun _ => none) 3 (some (.c (.ref 0 2 0 0)))), (upd (upd (fun _ => none) 0 (some (.bld 99 zb_1 1 b_1.length))) 1 (bufB zb_1 5 b_1)), 2⟩ → Q (.exit 0) s)
    (hr : ∀ s, Ends a116.results 0 (count_roman_post o) .ret s → Q .ret s) :
    Sv Tryd.prog GG 0 (.loop a116_c1) Q ⟨(upd (upd (upd (upd (fun _ => none) 0 (some (I n_1))) 3 (some (.c (.ref 0 2 0 0)))) 19 (some (.agg [cI 1000, .str [109], cI 900, .str [99, 109], cI 500, .str [100], cI 400, .str [99, 100], cI 100, .str [99], cI 90, .str [120, 99], cI 50, .str [108], cI 40, .str [120, 108], cI 10, .str [120], cI 9, .str [105, 120], cI 5, .str [118], cI 4, .str [105, 118], cI 1, .str [105]]))) 20 (some (I v20))), (upd (upd (fun _ => none) 0 (some (.bld 99 zb 1 b_.length))) 1 (bufB zb 5 b_)), 2⟩ := by
  refine Sv.loop (I := fun k s => ∃ (n_1 : Int), ∃ (b_ : (List UInt8)), ∃ (v20 : Int), ∃ (zb : Bool), (zb = true → b_ = []) ∧ count_roman_l2 K0_ k n_1 b_ v20 = some o ∧ s = ⟨(upd (upd (upd (upd (fun _ => none) 0 (some (I n_1))) 3 (some (.c (.ref 0 2 0 0)))) 19 (some (.agg [cI 1000, .str [109], cI 900, .str [99, 109], cI 500, .str [100], cI 400, .str [99, 100], cI 100, .str [99], cI 90, .str [120, 99], cI 50, .str [108], cI 40, .str [120, 108], cI 10, .str [120], cI 9, .str [105, 120], cI 5, .str [118], cI 4, .str [105, 118], cI 1, .str [105]]))) 20 (some (I v20))), (upd (upd (fun _ => none) 0 (some (.bld 99 zb 1 b_.length))) 1 (bufB zb 5 b_)), 2⟩) (fun k s hI => ?_) ⟨n_1, b_, v20, zb, hzb, h, rfl⟩
  clear h
  clear hzb zb v20 b_ n_1
  obtain ⟨n_1, b_, v20, zb, hzb, h, rfl⟩ := hI
  cases k with
  | zero => cases h
  | succ k =>
  rw [count_roman_l2] at h
  have hself : ∀ (n_1 : Int) (b_ : (List UInt8)) (v20 : Int) (zb : Bool) (_ : zb = true → b_ = []), (count_roman_l2 K0_ k) n_1 b_ v20 = some o → ∀ s, Weak 0 s ⟨(upd (upd (upd (upd (fun _ => none) 0 (some (I n_1))) 3 (some (.c (.ref 0 2 0 0)))) 19 (some (.agg [cI 1000, .str [109], cI 900, .str [99, 109], cI 500, .str [100], cI 400, .str [99, 100], cI 100, .str [99], cI 90, .str [120, 99], cI 50, .str [108], cI 40, .str [120, 108], cI 10, .str [120], cI 9, .str [105, 120], cI 5, .str [118], cI 4, .str [105, 118], cI 1, .str [105]]))) 20 (some (I v20))), (upd (upd (fun _ => none) 0 (some (.bld 99 zb 1 b_.length))) 1 (bufB zb 5 b_)), 2⟩ → (AThen (fun s' => ∃ s'' k', Weak 0 s' s'' ∧ k' < k + 1 ∧ (fun k s => ∃ (n_1 : Int), ∃ (b_ : (List UInt8)), ∃ (v20 : Int), ∃ (zb : Bool), (zb = true → b_ = []) ∧ count_roman_l2 K0_ k n_1 b_ v20 = some o ∧ s = ⟨(upd (upd (upd (upd (fun _ => none) 0 (some (I n_1))) 3 (some (.c (.ref 0 2 0 0)))) 19 (some (.agg [cI 1000, .str [109], cI 900, .str [99, 109], cI 500, .str [100], cI 400, .str [99, 100], cI 100, .str [99], cI 90, .str [120, 99], cI 50, .str [108], cI 40, .str [120, 108], cI 10, .str [120], cI 9, .str [105, 120], cI 5, .str [118], cI 4, .str [105, 118], cI 1, .str [105]]))) 20 (some (I v20))), (upd (upd (fun _ => none) 0 (some (.bld 99 zb 1 b_.length))) 1 (bufB zb 5 b_)), 2⟩) k' s'') Q) .normal s := fun n_1 b_ v20 zb hzb h s hw => ⟨_, k, hw, Nat.lt_succ_self k, n_1, b_, v20, zb, hzb, h, rfl⟩
  refine Sv.seq ?_
  refine Sv.region ?_
  refine un (a1 (v := (B (decide (v20 < 13)))) rfl ?_)
  refine dnil ?_
  refine Sv.seq ?_
  refine Sv.cond (b := decide (v20 < 13)) rfl (fun hc1 => ?_) (fun hc1 => ?_)
  · replace h := ifT hc1 h
    refine Sv.skip ?_
    refine Sv.seq ?_
    refine Sv.block ?_
    refine Sv.seq ?_
    refine Sv.region ?_
    obtain ⟨x_, hx1, h⟩ := bnd h
    refine un (a1 (v := (.agg [cI x_.f_n, .str x_.f_s])) (s_idxA (L := count_roman_t1) (v := fun q => (.agg [cI q.f_n, .str q.f_s])) rfl rfl rfl (.cons rfl (.cons rfl (.cons rfl (.cons rfl (.cons rfl (.cons rfl (.cons rfl (.cons rfl (.cons rfl (.cons rfl (.cons rfl (.cons rfl (.cons rfl .nil))))))))))))) hx1) ?_)
    refine un (a2v (v := (.c (.ref 2 2 0 0))) (h' := upd _ 2 (some (.cells 2 [[cI 0, .str []]]))) (n' := 3) rfl rfl (fun h => by cases h) ?_)
    refine un (a2n (h' := upd _ 2 (some (.cells 2 [[cI x_.f_n, .str x_.f_s]]))) (n' := 3) rfl rfl (fun h => by cases h) ?_)
    refine dnil ?_
    refine Sv.block ?_
    obtain ⟨kk, h⟩ := lim_some h
    refine Sv.weak (weak_canon [0, 1, 2] rfl (by decide) (by decide) (fun b h => absurd h (Nat.not_lt_zero _)) (.cons rfl (avAs_free rfl) (.cons rfl (avAs_free rfl) (.cons rfl (.c (.ref rfl (by decide))) (.cons rfl (.c (.ref rfl (by decide))) (.cons rfl (avAs_free rfl) .nil))))) (.box (by decide) rfl (blkAs_cells (.cons (.same rfl) (.cons (.same rfl) .nil))) (.buf (by decide) rfl (.box (by decide) rfl (.bld rfl (by decide)) .nil)))) (count_roman_l3_ok hzb h ?_ hr)
    · intro n_3 b_3 zb_3 hzb_3 h _ hw1
      refine Sv.weak hw1 ?_
      refine Sv.region ?_
      refine un (a1 (v := (I (wi (v20 + 1)))) rfl ?_)
      refine un (a1 rfl ?_)
      refine dnil ?_
      exact hself n_3 b_3 (wi (v20 + 1)) zb_3 hzb_3 h _ (weak_canon [0, 1] rfl (by decide) (by decide) (fun b h => absurd h (Nat.not_lt_zero _)) (.cons rfl (avAs_free rfl) (.cons rfl (avAs_free rfl) (.cons rfl (.c (.ref rfl (by decide))) (.cons rfl (avAs_free rfl) .nil)))) (.buf (by decide) rfl (.box (by decide) rfl (.bld rfl (by decide)) .nil)))
  · replace h := ifF hc1 h
    refine Sv.exit ?_
    exact hK0 b_ zb hzb h _ (weak_canon [0, 1] rfl (by decide) (by decide) (fun b h => absurd h (Nat.not_lt_zero _)) (.cons rfl (.c (.ref rfl (by decide))) .nil) (.buf (by decide) rfl (.box (by decide) rfl (.bld rfl (by decide)) .nil)))
/-- clerestory/count.roman -/
noncomputable def count_roman (n_ : Int) : Option (List UInt8) :=
  lim fun kk1 => count_roman_l2 (fun (b_1 : (List UInt8)) => 
      some b_1) kk1 n_ ([] : List UInt8) 0
theorem count_roman_ok {n_ : Int} {r : (List UInt8)} (h : count_roman n_ = some r) : CPure Tryd.prog GG 116 [(I n_)] (S r) := by
  refine acalls_of_sv hmix c116 (R := count_roman_post r) ?_
  unfold count_roman at h
  refine Sv.seq ?_
  refine Sv.region ?_
  refine un (a1 rfl ?_)
  refine dnil ?_
  refine Sv.seq ?_
  refine Sv.region ?_
  refine un (a2v (v := (.c (.ref 1 2 0 0))) (h' := upd _ 1 (some (.bld 99 true 0 ([] : List UInt8).length))) (n' := 2) rfl rfl (fun h => by cases h) ?_)
  refine dnil ?_
  refine Sv.seq ?_
  refine Sv.seq ?_
  refine Sv.region ?_
  refine un (a1 (v := (.agg [cI 1000, .str [109]])) rfl ?_)
  refine un (a1 (v := (.agg [cI 900, .str [99, 109]])) rfl ?_)
  refine un (a1 (v := (.agg [cI 500, .str [100]])) rfl ?_)
  refine un (a1 (v := (.agg [cI 400, .str [99, 100]])) rfl ?_)
  refine un (a1 (v := (.agg [cI 100, .str [99]])) rfl ?_)
  refine un (a1 (v := (.agg [cI 90, .str [120, 99]])) rfl ?_)
  refine un (a1 (v := (.agg [cI 50, .str [108]])) rfl ?_)
  refine un (a1 (v := (.agg [cI 40, .str [120, 108]])) rfl ?_)
  refine un (a1 (v := (.agg [cI 10, .str [120]])) rfl ?_)
  refine un (a1 (v := (.agg [cI 9, .str [105, 120]])) rfl ?_)
  refine un (a1 (v := (.agg [cI 5, .str [118]])) rfl ?_)
  refine un (a1 (v := (.agg [cI 4, .str [105, 118]])) rfl ?_)
  refine un (a1 (v := (.agg [cI 1, .str [105]])) rfl ?_)
  refine un (a1 (v := count_roman_t0) rfl ?_)
  refine un (a1 rfl ?_)
  refine dnil ?_
  refine Sv.block ?_
  obtain ⟨kk1, h⟩ := lim_some h
  refine Sv.weak (weak_canon [1, 1000] rfl (by decide) (by decide) (fun b h => absurd h (Nat.not_lt_zero _)) (.cons rfl (avAs_free rfl) (.cons rfl (avAs_free rfl) (.cons rfl (.c (.ref rfl (by decide))) (.cons rfl (avAs_free rfl) .nil)))) (.nonB (by decide) (.box (by decide) rfl (.bldN (by decide)) .nil))) (count_roman_l2_ok (fun _ => rfl) h ?_ (fun s hs => hs))
  · intro b_1 zb_1 hzb_1 h _ hw2
    refine Sv.weak hw2 ?_
    refine Sv.seq ?_
    refine Sv.region ?_
    refine un (ac_gen (bs := [0, 1]) («as» := [(.c (.ref 0 2 0 0))]) (h2 := _) (h1 := (upd (upd (fun _ => none) 0 (some (.bld 99 zb_1 1 b_1.length))) 1 (bufB zb_1 5 b_1))) (strings_Builder_String_ok (z := zb_1) (l := b_1) hzb_1) rfl (.cons (.c (.ref rfl (by decide))) .nil) (hsub_refl _) (.cons rfl (.cons rfl (.nil _))) (fun h => by cases h) (by decide) (by decide) (.cons (.c (.ref rfl (by decide))) .nil) (.buf (by decide) rfl (.box (by decide) rfl (.bld rfl (by decide)) .nil)) ?_)
    rintro _ _ _ hn ⟨rfl, rfl, rfl⟩
    refine ⟨.inl rfl, (rem [0, 1] _), fun hbd => (m3_rem (in_cons (by decide) (in_cons (by decide) (in_nil _))) (.nil) hbd), (S b_1), 2, rfl, rfl, ?_⟩
    refine un (a1 rfl ?_)
    refine dnil ?_
    refine Sv.ret ?_
    replace h := Option.some.inj h
    subst h
    exact ⟨_, .refl _, _, rfl, ⟨upd (fun _ => none) 0 (some (S b_1)), (fun _ => none), 0⟩, (S b_1), weak_canon [] rfl List.nodup_nil (Nat.le_refl _) (fun b h => absurd h (Nat.not_lt_zero _)) (.cons rfl (avAs_free rfl) .nil) .nil, rfl, rfl, rfl, rfl⟩
noncomputable abbrev strconv_Itoa (i_ : Int) : Option (List UInt8) := itoa? i_
/-- strconv.Itoa, by the contract of the shelf -/
theorem strconv_Itoa_ok {i_ : Int} {r : (List UInt8)} (h : strconv_Itoa i_ = some r) : CPure Tryd.prog GG 117 [(I i_)] (S r) := itoa_ok (g := 8) Tryd.laysM171 (by kernel_rfl) (by kernel_rfl) h
def a74 : AFunc := ⟨2, [(.tmp 4)], (.seq (.region [⟨(some 4), (.mov (.const (.c (.str [])))), none⟩])
 (.seq (.block 0 (.seq (.region [⟨(some 6), (.mov (.tmp 0)), none⟩, ⟨(some 7), (.bin .eql (.tmp 6) (.const (.c (.val (.int .i64 0))))), none⟩, ⟨(some 5), (.mov (.tmp 7)), none⟩])
 (.cond (.tmp 5) (.seq (.region [⟨(some 4), (.mov (.const (.c (.str [])))), none⟩])
 .ret) (.seq (.region [⟨(some 9), (.mov (.tmp 0)), none⟩, ⟨(some 10), (.bin .eql (.tmp 9) (.const (.c (.val (.int .i64 1))))), none⟩, ⟨(some 8), (.mov (.tmp 10)), none⟩])
 (.cond (.tmp 8) (.seq (.region [⟨(some 4), (.mov (.const (.c (.str [226, 128, 162])))), none⟩])
 .ret) (.seq (.region [⟨(some 12), (.mov (.tmp 0)), none⟩, ⟨(some 13), (.bin .eql (.tmp 12) (.const (.c (.val (.int .i64 3))))), none⟩, ⟨(some 14), (.mov (.tmp 13)), none⟩, ⟨(some 15), (.mov (.tmp 1)), (some (14, true))⟩, ⟨(some 16), (.bin .gtr (.tmp 15) (.const (.c (.val (.int .i64 0))))), (some (14, true))⟩, ⟨(some 17), (.pick (.tmp 14) (.tmp 16) (.const (.c (.val (.bool false))))), none⟩, ⟨(some 11), (.mov (.tmp 17)), none⟩])
 (.cond (.tmp 11) (.seq (.region [⟨(some 18), (.mov (.tmp 1)), none⟩, ⟨(some 19), (.call 114 [(.tmp 18)]), none⟩, ⟨(some 4), (.mov (.tmp 19)), none⟩])
 .ret) (.seq (.region [⟨(some 21), (.mov (.tmp 0)), none⟩, ⟨(some 22), (.bin .eql (.tmp 21) (.const (.c (.val (.int .i64 4))))), none⟩, ⟨(some 23), (.mov (.tmp 22)), none⟩, ⟨(some 24), (.mov (.tmp 1)), (some (23, true))⟩, ⟨(some 25), (.bin .gtr (.tmp 24) (.const (.c (.val (.int .i64 0))))), (some (23, true))⟩, ⟨(some 26), (.pick (.tmp 23) (.tmp 25) (.const (.c (.val (.bool false))))), none⟩, ⟨(some 20), (.mov (.tmp 26)), none⟩])
 (.cond (.tmp 20) (.seq (.region [⟨(some 27), (.mov (.tmp 1)), none⟩, ⟨(some 28), (.call 114 [(.tmp 27)]), none⟩, ⟨(some 29), (.call 115 [(.tmp 28)]), none⟩, ⟨(some 4), (.mov (.tmp 29)), none⟩])
 .ret) (.seq (.region [⟨(some 31), (.mov (.tmp 0)), none⟩, ⟨(some 32), (.bin .eql (.tmp 31) (.const (.c (.val (.int .i64 5))))), none⟩, ⟨(some 33), (.mov (.tmp 32)), none⟩, ⟨(some 34), (.mov (.tmp 1)), (some (33, true))⟩, ⟨(some 35), (.call 73 [(.tmp 34), (.const (.c (.val (.int .i64 1)))), (.const (.c (.val (.int .i64 3999))))]), (some (33, true))⟩, ⟨(some 36), (.pick (.tmp 33) (.tmp 35) (.const (.c (.val (.bool false))))), none⟩, ⟨(some 30), (.mov (.tmp 36)), none⟩])
 (.cond (.tmp 30) (.seq (.region [⟨(some 37), (.mov (.tmp 1)), none⟩, ⟨(some 38), (.call 116 [(.tmp 37)]), none⟩, ⟨(some 4), (.mov (.tmp 38)), none⟩])
 .ret) (.seq (.region [⟨(some 40), (.mov (.tmp 0)), none⟩, ⟨(some 41), (.bin .eql (.tmp 40) (.const (.c (.val (.int .i64 6))))), none⟩, ⟨(some 42), (.mov (.tmp 41)), none⟩, ⟨(some 43), (.mov (.tmp 1)), (some (42, true))⟩, ⟨(some 44), (.call 73 [(.tmp 43), (.const (.c (.val (.int .i64 1)))), (.const (.c (.val (.int .i64 3999))))]), (some (42, true))⟩, ⟨(some 45), (.pick (.tmp 42) (.tmp 44) (.const (.c (.val (.bool false))))), none⟩, ⟨(some 39), (.mov (.tmp 45)), none⟩])
 (.cond (.tmp 39) (.seq (.region [⟨(some 46), (.mov (.tmp 1)), none⟩, ⟨(some 47), (.call 116 [(.tmp 46)]), none⟩, ⟨(some 48), (.call 115 [(.tmp 47)]), none⟩, ⟨(some 4), (.mov (.tmp 48)), none⟩])
 .ret) .skip)))))))))))))
 (.seq (.region [⟨(some 49), (.mov (.tmp 1)), none⟩, ⟨(some 50), (.call 117 [(.tmp 49)]), none⟩, ⟨(some 4), (.mov (.tmp 50)), none⟩])
 .ret)))⟩
set_option maxRecDepth 100000 in
theorem c74 : compFunc Tryd.prog 74 = some a74 := by kernel_rfl
def count_mark_post (r : (List UInt8)) : AV → Heap → Nat → Prop := fun v h' n' => v = (S r) ∧ (h' = (fun _ => none)) ∧ n' = 0
/-- clerestory/count.mark -/
noncomputable def count_mark (kind : Int) (n_ : Int) : Option (List UInt8) :=
  if decide (kind = 0) then
    some []
  else
    if decide (kind = 1) then
      some [226, 128, 162]
    else
      if ((decide (kind = 3)) && (decide (0 < n_))) then
        (count_letters n_).bind fun r_ =>
        some r_
      else
        if ((decide (kind = 4)) && (decide (0 < n_))) then
          (count_letters n_).bind fun r_1 =>
          (strings_ToUpper r_1).bind fun r_2 =>
          some r_2
        else
          if ((decide (kind = 5)) && (count_in n_ 1 3999)) then
            (count_roman n_).bind fun r_3 =>
            some r_3
          else
            if ((decide (kind = 6)) && (count_in n_ 1 3999)) then
              (count_roman n_).bind fun r_4 =>
              (strings_ToUpper r_4).bind fun r_5 =>
              some r_5
            else
              (strconv_Itoa n_).bind fun r_6 =>
              some r_6
theorem count_mark_ok {kind : Int} {n_ : Int} {r : (List UInt8)} (h : count_mark kind n_ = some r) : CPure Tryd.prog GG 74 [(I kind), (I n_)] (S r) := by
  refine acalls_of_sv hmix c74 (R := count_mark_post r) ?_
  unfold count_mark at h
  refine Sv.seq ?_
  refine Sv.region ?_
  refine un (a1 rfl ?_)
  refine dnil ?_
  refine Sv.seq ?_
  refine Sv.block ?_
  refine Sv.seq ?_
  refine Sv.region ?_
  refine un (a1 rfl ?_)
  refine un (a1 (v := (B (decide (kind = 0)))) rfl ?_)
  refine un (a1 rfl ?_)
  refine dnil ?_
  refine Sv.cond (b := decide (kind = 0)) rfl (fun hc1 => ?_) (fun hc1 => ?_)
  · replace h := ifT hc1 h
    refine Sv.seq ?_
    refine Sv.region ?_
    refine un (a1 rfl ?_)
    refine dnil ?_
    refine Sv.ret ?_
    replace h := Option.some.inj h
    subst h
    exact ⟨_, .refl _, _, rfl, ⟨upd (fun _ => none) 0 (some (S [])), (fun _ => none), 0⟩, (S []), weak_canon [] rfl List.nodup_nil (Nat.le_refl _) (fun b h => absurd h (Nat.not_lt_zero _)) (.cons rfl (avAs_free rfl) .nil) .nil, rfl, rfl, rfl, rfl⟩
  · replace h := ifF hc1 h
    refine Sv.seq ?_
    refine Sv.region ?_
    refine un (a1 rfl ?_)
    refine un (a1 (v := (B (decide (kind = 1)))) rfl ?_)
    refine un (a1 rfl ?_)
    refine dnil ?_
    refine Sv.cond (b := decide (kind = 1)) rfl (fun hc2 => ?_) (fun hc2 => ?_)
    · replace h := ifT hc2 h
      refine Sv.seq ?_
      refine Sv.region ?_
      refine un (a1 rfl ?_)
      refine dnil ?_
      refine Sv.ret ?_
      replace h := Option.some.inj h
      subst h
      exact ⟨_, .refl _, _, rfl, ⟨upd (fun _ => none) 0 (some (S [226, 128, 162])), (fun _ => none), 0⟩, (S [226, 128, 162]), weak_canon [] rfl List.nodup_nil (Nat.le_refl _) (fun b h => absurd h (Nat.not_lt_zero _)) (.cons rfl (avAs_free rfl) .nil) .nil, rfl, rfl, rfl, rfl⟩
    · replace h := ifF hc2 h
      refine Sv.seq ?_
      refine Sv.region ?_
      refine un (a1 rfl ?_)
      refine un (a1 (v := (B (decide (kind = 3)))) rfl ?_)
      refine un (a1 rfl ?_)
      refine gjoin 3 (d := 17) (v := (B ((decide (kind = 3)) && (decide (0 < n_))))) (fun X hX => ?_) ?_
      · refine split2 (fun hc3 => ?_) (fun hc3 => ?_)
        · refine gt rfl (a1 rfl ?_)
          refine gt rfl (a1 (v := (B (decide (0 < n_)))) rfl ?_)
          refine un (a1 (v := (B (decide (0 < n_)))) rfl ?_)
          refine dnil ?_
          exact hX _ (.putEq (by rw [hc3]; rfl) (.skip _ _ (.skip _ _ (.putEq (by rw [hc3]) (.refl _)) rfl) rfl))
        · refine gs rfl rfl ?_
          refine gs rfl rfl ?_
          refine un (a1 (v := (B false)) rfl ?_)
          refine dnil ?_
          exact hX _ (.putEq (by rw [hc3]; rfl) (.skip _ _ (.skip _ _ (.putEq (by rw [hc3]) (.refl _)) rfl) rfl))
      refine un (a1 rfl ?_)
      refine dnil ?_
      refine Sv.cond (b := ((decide (kind = 3)) && (decide (0 < n_)))) rfl (fun hc4 => ?_) (fun hc4 => ?_)
      · replace h := ifT hc4 h
        refine Sv.seq ?_
        refine Sv.region ?_
        refine un (a1 rfl ?_)
        obtain ⟨r_, hr1, h⟩ := bnd h
        refine un (ac_pure (count_letters_ok hr1) rfl rfl rfl ?_)
        refine un (a1 rfl ?_)
        refine dnil ?_
        refine Sv.ret ?_
        replace h := Option.some.inj h
        subst h
        exact ⟨_, .refl _, _, rfl, ⟨upd (fun _ => none) 0 (some (S r_)), (fun _ => none), 0⟩, (S r_), weak_canon [] rfl List.nodup_nil (Nat.le_refl _) (fun b h => absurd h (Nat.not_lt_zero _)) (.cons rfl (avAs_free rfl) .nil) .nil, rfl, rfl, rfl, rfl⟩
      · replace h := ifF hc4 h
        refine Sv.seq ?_
        refine Sv.region ?_
        refine un (a1 rfl ?_)
        refine un (a1 (v := (B (decide (kind = 4)))) rfl ?_)
        refine un (a1 rfl ?_)
        refine gjoin 3 (d := 26) (v := (B ((decide (kind = 4)) && (decide (0 < n_))))) (fun X hX => ?_) ?_
        · refine split2 (fun hc5 => ?_) (fun hc5 => ?_)
          · refine gt rfl (a1 rfl ?_)
            refine gt rfl (a1 (v := (B (decide (0 < n_)))) rfl ?_)
            refine un (a1 (v := (B (decide (0 < n_)))) rfl ?_)
            refine dnil ?_
            exact hX _ (.putEq (by rw [hc5]; rfl) (.skip _ _ (.skip _ _ (.putEq (by rw [hc5]) (.refl _)) rfl) rfl))
          · refine gs rfl rfl ?_
            refine gs rfl rfl ?_
            refine un (a1 (v := (B false)) rfl ?_)
            refine dnil ?_
            exact hX _ (.putEq (by rw [hc5]; rfl) (.skip _ _ (.skip _ _ (.putEq (by rw [hc5]) (.refl _)) rfl) rfl))
        refine un (a1 rfl ?_)
        refine dnil ?_
        refine Sv.cond (b := ((decide (kind = 4)) && (decide (0 < n_)))) rfl (fun hc6 => ?_) (fun hc6 => ?_)
        · replace h := ifT hc6 h
          refine Sv.seq ?_
          refine Sv.region ?_
          refine un (a1 rfl ?_)
          obtain ⟨r_1, hr2, h⟩ := bnd h
          refine un (ac_pure (count_letters_ok hr2) rfl rfl rfl ?_)
          obtain ⟨r_2, hr3, h⟩ := bnd h
          refine un (ac_pure (strings_ToUpper_ok hr3) rfl rfl rfl ?_)
          refine un (a1 rfl ?_)
          refine dnil ?_
          refine Sv.ret ?_
          replace h := Option.some.inj h
          subst h
          exact ⟨_, .refl _, _, rfl, ⟨upd (fun _ => none) 0 (some (S r_2)), (fun _ => none), 0⟩, (S r_2), weak_canon [] rfl List.nodup_nil (Nat.le_refl _) (fun b h => absurd h (Nat.not_lt_zero _)) (.cons rfl (avAs_free rfl) .nil) .nil, rfl, rfl, rfl, rfl⟩
        · replace h := ifF hc6 h
          refine Sv.seq ?_
          refine Sv.region ?_
          refine un (a1 rfl ?_)
          refine un (a1 (v := (B (decide (kind = 5)))) rfl ?_)
          refine un (a1 rfl ?_)
          refine gjoin 3 (d := 36) (v := (B ((decide (kind = 5)) && (count_in n_ 1 3999)))) (fun X hX => ?_) ?_
          · refine split2 (fun hc7 => ?_) (fun hc7 => ?_)
            · refine gt rfl (a1 rfl ?_)
              refine gt rfl (ac_pure (count_in_ok n_ 1 3999) rfl rfl rfl ?_)
              refine un (a1 (v := (B (count_in n_ 1 3999))) rfl ?_)
              refine dnil ?_
              exact hX _ (.putEq (by rw [hc7]; rfl) (.skip _ _ (.skip _ _ (.putEq (by rw [hc7]) (.refl _)) rfl) rfl))
            · refine gs rfl rfl ?_
              refine gs rfl rfl ?_
              refine un (a1 (v := (B false)) rfl ?_)
              refine dnil ?_
              exact hX _ (.putEq (by rw [hc7]; rfl) (.skip _ _ (.skip _ _ (.putEq (by rw [hc7]) (.refl _)) rfl) rfl))
          refine un (a1 rfl ?_)
          refine dnil ?_
          refine Sv.cond (b := ((decide (kind = 5)) && (count_in n_ 1 3999))) rfl (fun hc8 => ?_) (fun hc8 => ?_)
          · replace h := ifT hc8 h
            refine Sv.seq ?_
            refine Sv.region ?_
            refine un (a1 rfl ?_)
            obtain ⟨r_3, hr4, h⟩ := bnd h
            refine un (ac_pure (count_roman_ok hr4) rfl rfl rfl ?_)
            refine un (a1 rfl ?_)
            refine dnil ?_
            refine Sv.ret ?_
            replace h := Option.some.inj h
            subst h
            exact ⟨_, .refl _, _, rfl, ⟨upd (fun _ => none) 0 (some (S r_3)), (fun _ => none), 0⟩, (S r_3), weak_canon [] rfl List.nodup_nil (Nat.le_refl _) (fun b h => absurd h (Nat.not_lt_zero _)) (.cons rfl (avAs_free rfl) .nil) .nil, rfl, rfl, rfl, rfl⟩
          · replace h := ifF hc8 h
            refine Sv.seq ?_
            refine Sv.region ?_
            refine un (a1 rfl ?_)
            refine un (a1 (v := (B (decide (kind = 6)))) rfl ?_)
            refine un (a1 rfl ?_)
            refine gjoin 3 (d := 45) (v := (B ((decide (kind = 6)) && (count_in n_ 1 3999)))) (fun X hX => ?_) ?_
            · refine split2 (fun hc9 => ?_) (fun hc9 => ?_)
              · refine gt rfl (a1 rfl ?_)
                refine gt rfl (ac_pure (count_in_ok n_ 1 3999) rfl rfl rfl ?_)
                refine un (a1 (v := (B (count_in n_ 1 3999))) rfl ?_)
                refine dnil ?_
                exact hX _ (.putEq (by rw [hc9]; rfl) (.skip _ _ (.skip _ _ (.putEq (by rw [hc9]) (.refl _)) rfl) rfl))
              · refine gs rfl rfl ?_
                refine gs rfl rfl ?_
                refine un (a1 (v := (B false)) rfl ?_)
                refine dnil ?_
                exact hX _ (.putEq (by rw [hc9]; rfl) (.skip _ _ (.skip _ _ (.putEq (by rw [hc9]) (.refl _)) rfl) rfl))
            refine un (a1 rfl ?_)
            refine dnil ?_
            refine Sv.cond (b := ((decide (kind = 6)) && (count_in n_ 1 3999))) rfl (fun hc10 => ?_) (fun hc10 => ?_)
            · replace h := ifT hc10 h
              refine Sv.seq ?_
              refine Sv.region ?_
              refine un (a1 rfl ?_)
              obtain ⟨r_4, hr5, h⟩ := bnd h
              refine un (ac_pure (count_roman_ok hr5) rfl rfl rfl ?_)
              obtain ⟨r_5, hr6, h⟩ := bnd h
              refine un (ac_pure (strings_ToUpper_ok hr6) rfl rfl rfl ?_)
              refine un (a1 rfl ?_)
              refine dnil ?_
              refine Sv.ret ?_
              replace h := Option.some.inj h
              subst h
              exact ⟨_, .refl _, _, rfl, ⟨upd (fun _ => none) 0 (some (S r_5)), (fun _ => none), 0⟩, (S r_5), weak_canon [] rfl List.nodup_nil (Nat.le_refl _) (fun b h => absurd h (Nat.not_lt_zero _)) (.cons rfl (avAs_free rfl) .nil) .nil, rfl, rfl, rfl, rfl⟩
            · replace h := ifF hc10 h
              refine Sv.skip ?_
              refine Sv.seq ?_
              refine Sv.region ?_
              refine un (a1 rfl ?_)
              obtain ⟨r_6, hr7, h⟩ := bnd h
              refine un (ac_pure (strconv_Itoa_ok hr7) rfl rfl rfl ?_)
              refine un (a1 rfl ?_)
              refine dnil ?_
              refine Sv.ret ?_
              replace h := Option.some.inj h
              subst h
              exact ⟨_, .refl _, _, rfl, ⟨upd (fun _ => none) 0 (some (S r_6)), (fun _ => none), 0⟩, (S r_6), weak_canon [] rfl List.nodup_nil (Nat.le_refl _) (fun b h => absurd h (Nat.not_lt_zero _)) (.cons rfl (avAs_free rfl) .nil) .nil, rfl, rfl, rfl, rfl⟩
def a32 : AFunc := ⟨2, [(.tmp 4), (.tmp 5)], (.seq (.region [⟨(some 4), (.mov (.const (.c (.str [])))), none⟩, ⟨(some 5), (.mov (.const (.c (.val (.int .i64 0))))), none⟩])
 (.seq (.seq (.region [⟨(some 6), (.mov (.tmp 0)), none⟩, ⟨(some 7), (.call 73 [(.tmp 6), (.const (.c (.val (.int .i64 0)))), (.const (.c (.val (.int .i64 6))))]), none⟩, ⟨(some 8), (.un .not (.tmp 7)), none⟩])
 (.cond (.tmp 8) (.seq (.region [⟨(some 4), (.mov (.const (.c (.str [])))), none⟩, ⟨(some 5), (.mov (.const (.c (.val (.int .i64 7))))), none⟩])
 .ret) .skip))
 (.seq (.seq (.region [⟨(some 9), (.mov (.tmp 1)), none⟩, ⟨(some 10), (.call 73 [(.tmp 9), (.const (.c (.val (.int .i64 (-1000000))))), (.const (.c (.val (.int .i64 1000000))))]), none⟩, ⟨(some 11), (.un .not (.tmp 10)), none⟩])
 (.cond (.tmp 11) (.seq (.region [⟨(some 4), (.mov (.const (.c (.str [])))), none⟩, ⟨(some 5), (.mov (.const (.c (.val (.int .i64 1))))), none⟩])
 .ret) .skip))
 (.seq (.region [⟨(some 12), (.mov (.tmp 0)), none⟩, ⟨(some 13), (.mov (.tmp 1)), none⟩, ⟨(some 14), (.call 74 [(.tmp 12), (.tmp 13)]), none⟩, ⟨(some 4), (.mov (.tmp 14)), none⟩, ⟨(some 5), (.mov (.const (.c (.val (.int .i64 0))))), none⟩])
 .ret))))⟩
set_option maxRecDepth 100000 in
theorem c32 : compFunc Tryd.prog 32 = some a32 := by kernel_rfl
def count_Mark_post (r : ((List UInt8) × Int)) : AV → Heap → Nat → Prop := fun v h' n' => v = (.tup [(S r.1), (I r.2)]) ∧ (h' = (fun _ => none)) ∧ n' = 0
/-- clerestory/count.Mark -/
noncomputable def count_Mark (kind : Int) (n_ : Int) : Option ((List UInt8) × Int) :=
  if (!(count_in kind 0 6)) then
    some ([], 7)
  else
    if (!(count_in n_ (-1000000) 1000000)) then
      some ([], 1)
    else
      (count_mark kind n_).bind fun r_ =>
      some (r_, 0)
theorem count_Mark_ok {kind : Int} {n_ : Int} {r : ((List UInt8) × Int)} (h : count_Mark kind n_ = some r) : CPure Tryd.prog GG 32 [(I kind), (I n_)] (.tup [(S r.1), (I r.2)]) := by
  refine acalls_of_sv hmix c32 (R := count_Mark_post r) ?_
  unfold count_Mark at h
  refine Sv.seq ?_
  refine Sv.region ?_
  refine un (a1 rfl ?_)
  refine un (a1 rfl ?_)
  refine dnil ?_
  refine Sv.seq ?_
  refine Sv.seq ?_
  refine Sv.region ?_
  refine un (a1 rfl ?_)
  refine un (ac_pure (count_in_ok kind 0 6) rfl rfl rfl ?_)
  refine un (a1 (v := (B (!(count_in kind 0 6)))) rfl ?_)
  refine dnil ?_
  refine Sv.cond (b := (!(count_in kind 0 6))) rfl (fun hc1 => ?_) (fun hc1 => ?_)
  · replace h := ifT hc1 h
    refine Sv.seq ?_
    refine Sv.region ?_
    refine un (a1 rfl ?_)
    refine un (a1 rfl ?_)
    refine dnil ?_
    refine Sv.ret ?_
    replace h := Option.some.inj h
    subst h
    exact ⟨_, .refl _, _, rfl, ⟨upd (fun _ => none) 0 (some (.tup [(S []), (I 7)])), (fun _ => none), 0⟩, (.tup [(S []), (I 7)]), weak_canon [] rfl List.nodup_nil (Nat.le_refl _) (fun b h => absurd h (Nat.not_lt_zero _)) (.cons rfl (avAs_tup (.cons (avAs_free rfl) (.cons (avAs_free rfl) .nil))) .nil) .nil, rfl, rfl, rfl, rfl⟩
  · replace h := ifF hc1 h
    refine Sv.skip ?_
    refine Sv.seq ?_
    refine Sv.seq ?_
    refine Sv.region ?_
    refine un (a1 rfl ?_)
    refine un (ac_pure (count_in_ok n_ (-1000000) 1000000) rfl rfl rfl ?_)
    refine un (a1 (v := (B (!(count_in n_ (-1000000) 1000000)))) rfl ?_)
    refine dnil ?_
    refine Sv.cond (b := (!(count_in n_ (-1000000) 1000000))) rfl (fun hc2 => ?_) (fun hc2 => ?_)
    · replace h := ifT hc2 h
      refine Sv.seq ?_
      refine Sv.region ?_
      refine un (a1 rfl ?_)
      refine un (a1 rfl ?_)
      refine dnil ?_
      refine Sv.ret ?_
      replace h := Option.some.inj h
      subst h
      exact ⟨_, .refl _, _, rfl, ⟨upd (fun _ => none) 0 (some (.tup [(S []), (I 1)])), (fun _ => none), 0⟩, (.tup [(S []), (I 1)]), weak_canon [] rfl List.nodup_nil (Nat.le_refl _) (fun b h => absurd h (Nat.not_lt_zero _)) (.cons rfl (avAs_tup (.cons (avAs_free rfl) (.cons (avAs_free rfl) .nil))) .nil) .nil, rfl, rfl, rfl, rfl⟩
    · replace h := ifF hc2 h
      refine Sv.skip ?_
      refine Sv.seq ?_
      refine Sv.region ?_
      refine un (a1 rfl ?_)
      refine un (a1 rfl ?_)
      obtain ⟨r_, hr1, h⟩ := bnd h
      refine un (ac_pure (count_mark_ok hr1) rfl rfl rfl ?_)
      refine un (a1 rfl ?_)
      refine un (a1 rfl ?_)
      refine dnil ?_
      refine Sv.ret ?_
      replace h := Option.some.inj h
      subst h
      exact ⟨_, .refl _, _, rfl, ⟨upd (fun _ => none) 0 (some (.tup [(S r_), (I 0)])), (fun _ => none), 0⟩, (.tup [(S r_), (I 0)]), weak_canon [] rfl List.nodup_nil (Nat.le_refl _) (fun b h => absurd h (Nat.not_lt_zero _)) (.cons rfl (avAs_tup (.cons (avAs_free rfl) (.cons (avAs_free rfl) .nil))) .nil) .nil, rfl, rfl, rfl, rfl⟩
def a31 : AFunc := ⟨0, [(.tmp 0)], (.seq (.region [⟨(some 0), (.mov (.const (.c (.val (.bool false))))), none⟩])
 (.seq (.region [⟨(some 4), (.call 32 [(.const (.c (.val (.int .i64 5)))), (.const (.c (.val (.int .i64 14))))]), none⟩, ⟨(some 3), (.mov (.tmp 4)), none⟩, ⟨(some 5), (.ext (.tmp 3) 0), none⟩, ⟨(some 6), (.ext (.tmp 3) 1), none⟩, ⟨(some 1), (.mov (.tmp 5)), none⟩, ⟨(some 2), (.mov (.tmp 6)), none⟩])
 (.seq (.region [⟨(some 7), (.mov (.tmp 2)), none⟩, ⟨(some 8), (.bin .eql (.tmp 7) (.const (.c (.val (.int .i64 0))))), none⟩, ⟨(some 9), (.mov (.tmp 8)), none⟩, ⟨(some 10), (.mov (.tmp 1)), (some (9, true))⟩, ⟨(some 11), (.bin .eql (.tmp 10) (.const (.c (.str [120, 105, 118])))), (some (9, true))⟩, ⟨(some 12), (.pick (.tmp 9) (.tmp 11) (.const (.c (.val (.bool false))))), none⟩, ⟨(some 0), (.mov (.tmp 12)), none⟩])
 .ret)))⟩
set_option maxRecDepth 100000 in
theorem c31 : compFunc Tryd.prog 31 = some a31 := by kernel_rfl
def clerestorylaw2_fourth_post (r : Bool) : AV → Heap → Nat → Prop := fun v h' n' => v = (B r) ∧ (h' = (fun _ => none)) ∧ n' = 0
/-- clerestory/clerestorylaw2.fourth -/
noncomputable def clerestorylaw2_fourth : Option Bool :=
  (count_Mark 5 14).bind fun r_ =>
  some ((decide (r_.2 = 0)) && (decide (r_.1 = [120, 105, 118])))
theorem clerestorylaw2_fourth_ok {r : Bool} (h : clerestorylaw2_fourth = some r) : CPure Tryd.prog GG 31 [] (B r) := by
  refine acalls_of_sv hmix c31 (R := clerestorylaw2_fourth_post r) ?_
  unfold clerestorylaw2_fourth at h
  refine Sv.seq ?_
  refine Sv.region ?_
  refine un (a1 rfl ?_)
  refine dnil ?_
  refine Sv.seq ?_
  refine Sv.region ?_
  obtain ⟨r_, hr1, h⟩ := bnd h
  refine un (ac_pure (count_Mark_ok hr1) rfl rfl rfl ?_)
  refine un (a1 rfl ?_)
  refine un (a1 (v := (S r_.1)) rfl ?_)
  refine un (a1 (v := (I r_.2)) rfl ?_)
  refine un (a1 rfl ?_)
  refine un (a1 rfl ?_)
  refine dnil ?_
  refine Sv.seq ?_
  refine Sv.region ?_
  refine un (a1 rfl ?_)
  refine un (a1 (v := (B (decide (r_.2 = 0)))) rfl ?_)
  refine un (a1 rfl ?_)
  refine gjoin 3 (d := 12) (v := (B ((decide (r_.2 = 0)) && (decide (r_.1 = [120, 105, 118]))))) (fun X hX => ?_) ?_
  · refine split2 (fun hc1 => ?_) (fun hc1 => ?_)
    · refine gt rfl (a1 rfl ?_)
      refine gt rfl (a1 (v := (B (decide (r_.1 = [120, 105, 118])))) rfl ?_)
      refine un (a1 (v := (B (decide (r_.1 = [120, 105, 118])))) rfl ?_)
      refine dnil ?_
      exact hX _ (.putEq (by rw [hc1]; rfl) (.skip _ _ (.skip _ _ (.putEq (by rw [hc1]) (.refl _)) rfl) rfl))
    · refine gs rfl rfl ?_
      refine gs rfl rfl ?_
      refine un (a1 (v := (B false)) rfl ?_)
      refine dnil ?_
      exact hX _ (.putEq (by rw [hc1]; rfl) (.skip _ _ (.skip _ _ (.putEq (by rw [hc1]) (.refl _)) rfl) rfl))
  refine un (a1 rfl ?_)
  refine dnil ?_
  refine Sv.ret ?_
  replace h := Option.some.inj h
  subst h
  exact ⟨_, .refl _, _, rfl, ⟨upd (fun _ => none) 0 (some (B ((decide (r_.2 = 0)) && (decide (r_.1 = [120, 105, 118]))))), (fun _ => none), 0⟩, (B ((decide (r_.2 = 0)) && (decide (r_.1 = [120, 105, 118])))), weak_canon [] rfl List.nodup_nil (Nat.le_refl _) (fun b h => absurd h (Nat.not_lt_zero _)) (.cons rfl (avAs_free rfl) .nil) .nil, rfl, rfl, rfl, rfl⟩
def a75 : AFunc := ⟨1, [(.tmp 2)], (.seq (.region [⟨(some 2), (.mov (.const (.c (.str [])))), none⟩])
 (.seq (.seq (.region [⟨(some 3), (.mov (.tmp 0)), none⟩, ⟨(some 4), (.bin .eql (.tmp 3) (.const (.c (.val (.int .i64 0))))), none⟩])
 (.cond (.tmp 4) (.seq (.region [⟨(some 2), (.mov (.const (.c (.str [])))), none⟩])
 .ret) .skip))
 (.seq (.drawn (.fin [(⟨(some 5), (.mov (.tmp 0)), none⟩, (0, 0)), (⟨(some 6), (.bin .sub (.tmp 5) (.const (.c (.val (.int .i64 1))))), none⟩, (0, 1)), (⟨(some 7), (.bin .quo (.tmp 6) (.const (.c (.val (.int .i64 26))))), none⟩, (0, 2)), (⟨(some 9), (.mov (.tmp 0)), none⟩, (0, 4)), (⟨(some 10), (.bin .sub (.tmp 9) (.const (.c (.val (.int .i64 1))))), none⟩, (0, 5)), (⟨(some 11), (.bin .rem (.tmp 10) (.const (.c (.val (.int .i64 26))))), none⟩, (0, 6)), (⟨(some 12), (.mov (.tmp 0)), none⟩, (0, 7)), (⟨(some 13), (.bin .sub (.tmp 12) (.const (.c (.val (.int .i64 1))))), none⟩, (0, 8)), (⟨(some 14), (.bin .rem (.tmp 13) (.const (.c (.val (.int .i64 26))))), none⟩, (0, 9)), (⟨(some 15), (.bin .add (.tmp 14) (.const (.c (.val (.int .i64 1))))), none⟩, (0, 10)), (⟨(some 16), (.slStr (.const (.c (.str [97, 98, 99, 100, 101, 102, 103, 104, 105, 106, 107, 108, 109, 110, 111, 112, 113, 114, 115, 116, 117, 118, 119, 120, 121, 122]))) (some (.tmp 11)) (some (.tmp 15))), none⟩, (0, 11)), (⟨(some 8), (.call 75 [(.tmp 7)]), none⟩, (2, 3)), (⟨(some 17), (.bin .add (.tmp 8) (.tmp 16)), none⟩, (0, 12)), (⟨(some 2), (.mov (.tmp 17)), none⟩, (0, 13))]))
 .ret)))⟩
set_option maxRecDepth 100000 in
theorem c75 : compFunc Tryd.prog 75 = some a75 := by kernel_rfl
def clerestoryref2_LettersOf_post (r : (List UInt8)) : AV → Heap → Nat → Prop := fun v h' n' => v = (S r) ∧ (h' = (fun _ => none)) ∧ n' = 0
def clerestoryref2_LettersOf_Rec (recf : Int → Option (List UInt8)) : Prop := ∀ (n_ : Int) (r : (List UInt8)), recf n_ = some r → CPure Tryd.prog GG 75 [(I n_)] (S r)
/-- clerestory/clerestoryref2.LettersOf -/
noncomputable def clerestoryref2_LettersOf_r : Nat → Int → Option (List UInt8)
  | 0, _ => none
  | k + 1, n_ =>
    if decide (n_ = 0) then
      some []
    else
      (sub? [97, 98, 99, 100, 101, 102, 103, 104, 105, 106, 107, 108, 109, 110, 111, 112, 113, 114, 115, 116, 117, 118, 119, 120, 121, 122] ((wi (n_ - 1)).tmod 26) (wi (((wi (n_ - 1)).tmod 26) + 1))).bind fun r_ =>
      ((clerestoryref2_LettersOf_r k) (wi ((wi (n_ - 1)).tdiv 26))).bind fun r_1 =>
      (cat? r_1 r_).bind fun r_2 =>
      some r_2
noncomputable def clerestoryref2_LettersOf (n_ : Int) : Option (List UInt8) :=
  lim fun kr => clerestoryref2_LettersOf_r kr n_
theorem clerestoryref2_LettersOf_r_ok (k : Nat) : clerestoryref2_LettersOf_Rec (clerestoryref2_LettersOf_r k) := by
  induction k with
  | zero => intro n_ r h; cases h
  | succ k hrec =>
  intro n_ r h
  refine acalls_of_sv hmix c75 (R := clerestoryref2_LettersOf_post r) ?_
  rw [clerestoryref2_LettersOf_r] at h
  refine Sv.seq ?_
  refine Sv.region ?_
  refine un (a1 rfl ?_)
  refine dnil ?_
  refine Sv.seq ?_
  refine Sv.seq ?_
  refine Sv.region ?_
  refine un (a1 rfl ?_)
  refine un (a1 (v := (B (decide (n_ = 0)))) rfl ?_)
  refine dnil ?_
  refine Sv.cond (b := decide (n_ = 0)) rfl (fun hc1 => ?_) (fun hc1 => ?_)
  · replace h := ifT hc1 h
    refine Sv.seq ?_
    refine Sv.region ?_
    refine un (a1 rfl ?_)
    refine dnil ?_
    refine Sv.ret ?_
    replace h := Option.some.inj h
    subst h
    exact ⟨_, .refl _, _, rfl, ⟨upd (fun _ => none) 0 (some (S [])), (fun _ => none), 0⟩, (S []), weak_canon [] rfl List.nodup_nil (Nat.le_refl _) (fun b h => absurd h (Nat.not_lt_zero _)) (.cons rfl (avAs_free rfl) .nil) .nil, rfl, rfl, rfl, rfl⟩
  · replace h := ifF hc1 h
    refine Sv.skip ?_
    refine Sv.seq ?_
    refine Sv.drawn ?_
    refine un (a1 rfl ?_)
    refine un (a1 (v := (I (wi (n_ - 1)))) rfl ?_)
    refine un (a1 (v := (I (wi ((wi (n_ - 1)).tdiv 26)))) rfl ?_)
    refine un (a1 rfl ?_)
    refine un (a1 (v := (I (wi (n_ - 1)))) rfl ?_)
    refine un (a1 (v := (I ((wi (n_ - 1)).tmod 26))) rfl ?_)
    refine un (a1 rfl ?_)
    refine un (a1 (v := (I (wi (n_ - 1)))) rfl ?_)
    refine un (a1 (v := (I ((wi (n_ - 1)).tmod 26))) rfl ?_)
    refine un (a1 (v := (I (wi (((wi (n_ - 1)).tmod 26) + 1)))) rfl ?_)
    obtain ⟨r_, hx1, h⟩ := bnd h
    refine un (a1 (v := (S r_)) (s_slStr rfl rfl rfl hx1) ?_)
    obtain ⟨r_1, hr1, h⟩ := bnd h
    refine un (ac_pure (hrec (wi ((wi (n_ - 1)).tdiv 26)) _ hr1) rfl rfl rfl ?_)
    obtain ⟨r_2, hx2, h⟩ := bnd h
    refine un (a1 (v := (S r_2)) (s_cat rfl rfl hx2) ?_)
    refine un (a1 rfl ?_)
    refine dnil ?_
    refine Sv.ret ?_
    replace h := Option.some.inj h
    subst h
    exact ⟨_, .refl _, _, rfl, ⟨upd (fun _ => none) 0 (some (S r_2)), (fun _ => none), 0⟩, (S r_2), weak_canon [] rfl List.nodup_nil (Nat.le_refl _) (fun b h => absurd h (Nat.not_lt_zero _)) (.cons rfl (avAs_free rfl) .nil) .nil, rfl, rfl, rfl, rfl⟩
theorem clerestoryref2_LettersOf_ok {n_ : Int} {r : (List UInt8)} (h : clerestoryref2_LettersOf n_ = some r) : CPure Tryd.prog GG 75 [(I n_)] (S r) := by
  unfold clerestoryref2_LettersOf at h
  obtain ⟨k, h⟩ := lim_some h
  exact clerestoryref2_LettersOf_r_ok k n_  r h
def a76_c0 : ACode := (.cond (.tmp 24) (.region [⟨(some 25), (.mov (.tmp 3)), none⟩, ⟨(some 26), (.mov (.tmp 4)), none⟩, ⟨(some 27), (.mov (.tmp 3)), none⟩, ⟨(some 28), (.mov (.tmp 4)), none⟩, ⟨(some 29), (.iaddr 1 (.tmp 27) (.tmp 28)), none⟩, ⟨(some 30), (.load false 1 (.tmp 29)), none⟩, ⟨(some 31), (.bin .sub (.tmp 30) (.const (.c (.val (.int .u8 32))))), none⟩, ⟨(some 32), (.iaddr 1 (.tmp 25) (.tmp 26)), none⟩, ⟨none, (.store 1 (.tmp 32) (.tmp 31)), none⟩]) .skip)
def a76_c1 : ACode := (.region [⟨(some 11), (.mov (.tmp 4)), none⟩, ⟨(some 12), (.bin .add (.tmp 11) (.const (.c (.val (.int .i64 1))))), none⟩, ⟨(some 4), (.mov (.tmp 12)), none⟩])
def a76_c2 : ACode := (.seq (.seq (.region [⟨(some 7), (.mov (.tmp 4)), none⟩, ⟨(some 8), (.mov (.tmp 3)), none⟩, ⟨(some 9), (.len (.tmp 8)), none⟩, ⟨(some 10), (.bin .lss (.tmp 7) (.tmp 9)), none⟩])
 (.cond (.tmp 10) .skip (.exit 0)))
 (.seq (.block 1 (.seq (.region [⟨(some 13), (.mov (.tmp 3)), none⟩, ⟨(some 14), (.mov (.tmp 4)), none⟩, ⟨(some 15), (.iaddr 1 (.tmp 13) (.tmp 14)), none⟩, ⟨(some 16), (.load false 1 (.tmp 15)), none⟩, ⟨(some 17), (.bin .geq (.tmp 16) (.const (.c (.val (.int .u8 97))))), none⟩, ⟨(some 18), (.mov (.tmp 17)), none⟩, ⟨(some 19), (.mov (.tmp 3)), (some (18, true))⟩, ⟨(some 20), (.mov (.tmp 4)), (some (18, true))⟩, ⟨(some 21), (.iaddr 1 (.tmp 19) (.tmp 20)), (some (18, true))⟩, ⟨(some 22), (.load false 1 (.tmp 21)), (some (18, true))⟩, ⟨(some 23), (.bin .leq (.tmp 22) (.const (.c (.val (.int .u8 122))))), (some (18, true))⟩, ⟨(some 24), (.pick (.tmp 18) (.tmp 23) (.const (.c (.val (.bool false))))), none⟩])
 a76_c0))
 a76_c1))
def a76 : AFunc := ⟨1, [(.tmp 2)], (.seq (.region [⟨(some 2), (.mov (.const (.c (.str [])))), none⟩])
 (.seq (.region [⟨(some 5), (.mov (.tmp 0)), none⟩, ⟨(some 6), (.toBytes (.tmp 5)), none⟩, ⟨(some 3), (.mov (.tmp 6)), none⟩])
 (.seq (.seq (.region [⟨(some 4), (.mov (.const (.c (.val (.int .i64 0))))), none⟩])
 (.block 0 (.loop a76_c2)))
 (.seq (.region [⟨(some 33), (.mov (.tmp 3)), none⟩, ⟨(some 34), (.ofBytes (.tmp 33)), none⟩, ⟨(some 2), (.mov (.tmp 34)), none⟩])
 .ret))))⟩
set_option maxRecDepth 100000 in
theorem c76 : compFunc Tryd.prog 76 = some a76 := by kernel_rfl
def clerestoryref2_upper_post (r : (List UInt8)) : AV → Heap → Nat → Prop := fun v h' n' => v = (S r) ∧ (h' = (fun _ => none)) ∧ n' = 0
noncomputable def clerestoryref2_upper_j11 (i_ : Int) (self : (List Int) → Int → Option (List UInt8)) (K0_ : (List Int) → Option (List UInt8)) (b_2 : (List Int)) : Option (List UInt8) :=
  self b_2 (wi (i_ + 1))
theorem clerestoryref2_upper_j11_ok {Q : AExit → St → Prop} {i_ : Int} {self : (List Int) → Int → Option (List UInt8)} {K0_ : (List Int) → Option (List UInt8)} {b_2 : (List Int)} {zb_2 : Bool} (hzb_2 : zb_2 = true → b_2 = []) {o : (List UInt8)} (h : clerestoryref2_upper_j11 i_ self K0_ b_2 = some o)
    (hself : ∀ (b_ : (List Int)) (i_ : Int) (zb : Bool) (_ : zb = true → b_ = []), self b_ i_ = some o → ∀ s, Weak 0 s ⟨(upd (upd (fun _ => none) 3 (some (lstV zb 0 1 b_.length))) 4 (some (I i_))), (upd (fun _ => none) 0 (lstB zb 1 (b_.map (eK .u8)))), 1⟩ → (Q) .normal s)
    (hK0 : ∀ (b_1 : (List Int)) (zb_1 : Bool) (_ : zb_1 = true → b_1 = []), K0_ b_1 = some o → ∀ s, Weak 0 s ⟨(upd (fun _ => none) 3 (some (lstV zb_1 0 1 b_1.length))), (upd (fun _ => none) 0 (lstB zb_1 1 (b_1.map (eK .u8)))), 1⟩ → Q (.exit 0) s)
    (hr : ∀ s, Ends a76.results 0 (clerestoryref2_upper_post o) .ret s → Q .ret s) :
    Sv Tryd.prog GG 0 a76_c1 Q ⟨(upd (upd (fun _ => none) 3 (some (lstV zb_2 0 1 b_2.length))) 4 (some (I i_))), (upd (fun _ => none) 0 (lstB zb_2 1 (b_2.map (eK .u8)))), 1⟩ := by
  unfold clerestoryref2_upper_j11 at h
  refine Sv.region ?_
  refine un (a1 rfl ?_)
  refine un (a1 (v := (I (wi (i_ + 1)))) rfl ?_)
  refine un (a1 rfl ?_)
  refine dnil ?_
  exact hself b_2 (wi (i_ + 1)) zb_2 hzb_2 h _ (weak_canon [0] rfl (by decide) (by decide) (fun b h => absurd h (Nat.not_lt_zero _)) (.cons rfl (avAs_free rfl) (.cons rfl (.c (lstC_ren rfl (by decide))) .nil)) (.row (by decide) rfl (fr_map fun _ => rfl) .nil))
abbrev clerestoryref2_upper_q0 (Q : AExit → St → Prop) : AExit → St → Prop := AThen (Sv Tryd.prog GG 0 a76_c1 Q) Q
abbrev clerestoryref2_upper_q1 (Q : AExit → St → Prop) : AExit → St → Prop := ABlock 1 (clerestoryref2_upper_q0 Q)
noncomputable def clerestoryref2_upper_j12 (i_ : Int) (self : (List Int) → Int → Option (List UInt8)) (K0_ : (List Int) → Option (List UInt8)) (b_3 : (List Int)) (v24 : Bool) : Option (List UInt8) :=
  if v24 then
    (at? b_3 i_).bind fun x_ =>
    (at? b_3 i_).bind fun x_1 =>
    clerestoryref2_upper_j11 i_ self K0_ (b_3.set i_.toNat (wr .u8 (x_ - 32)))
  else
    clerestoryref2_upper_j11 i_ self K0_ b_3
theorem clerestoryref2_upper_j12_ok {Q : AExit → St → Prop} {i_ : Int} {self : (List Int) → Int → Option (List UInt8)} {K0_ : (List Int) → Option (List UInt8)} {b_3 : (List Int)} {v24 : Bool} {zb_3 : Bool} (hzb_3 : zb_3 = true → b_3 = []) {o : (List UInt8)} (h : clerestoryref2_upper_j12 i_ self K0_ b_3 v24 = some o)
    (hself : ∀ (b_ : (List Int)) (i_ : Int) (zb : Bool) (_ : zb = true → b_ = []), self b_ i_ = some o → ∀ s, Weak 0 s ⟨(upd (upd (fun _ => none) 3 (some (lstV zb 0 1 b_.length))) 4 (some (I i_))), (upd (fun _ => none) 0 (lstB zb 1 (b_.map (eK .u8)))), 1⟩ → (Q) .normal s)
    (hK0 : ∀ (b_1 : (List Int)) (zb_1 : Bool) (_ : zb_1 = true → b_1 = []), K0_ b_1 = some o → ∀ s, Weak 0 s ⟨(upd (fun _ => none) 3 (some (lstV zb_1 0 1 b_1.length))), (upd (fun _ => none) 0 (lstB zb_1 1 (b_1.map (eK .u8)))), 1⟩ → Q (.exit 0) s)
    (hr : ∀ s, Ends a76.results 0 (clerestoryref2_upper_post o) .ret s → Q .ret s) :
    Sv Tryd.prog GG 0 a76_c0 (clerestoryref2_upper_q1 Q) ⟨(upd (upd (upd (fun _ => none) 3 (some (lstV zb_3 0 1 b_3.length))) 4 (some (I i_))) 24 (some (B v24))), (upd (fun _ => none) 0 (lstB zb_3 1 (b_3.map (eK .u8)))), 1⟩ := by
  unfold clerestoryref2_upper_j12 at h
  refine Sv.cond (b := v24) rfl (fun hc2 => ?_) (fun hc2 => ?_)
  · replace h := ifT hc2 h
    refine Sv.region ?_
    refine un (a1 rfl ?_)
    refine un (a1 rfl ?_)
    refine un (a1 rfl ?_)
    refine un (a1 rfl ?_)
    obtain ⟨x_, hx1, h⟩ := bnd h
    refine un (a1 (v := (.c (.ref 0 1 i_.toNat 0))) (s_iaddrL rfl rfl hzb_3 hx1) ?_)
    refine un (a1 (v := (.c (.val (.int .u8 x_)))) (s_loadL (z := zb_3) (e := (eK .u8)) rfl rfl hzb_3 hx1 rfl rfl) ?_)
    refine un (a1 (v := (.c (.val (.int .u8 (wr .u8 (x_ - 32)))))) rfl ?_)
    obtain ⟨x_1, hx2, h⟩ := bnd h
    refine un (a1 (v := (.c (.ref 0 1 i_.toNat 0))) (s_iaddrL rfl rfl hzb_3 hx2) ?_)
    refine un (a2n (h' := upd _ 0 (lstB zb_3 1 ((b_3.set i_.toNat (wr .u8 (x_ - 32))).map (eK .u8)))) (n' := 1) rfl (s_storeL (e := (eK .u8)) (q' := (wr .u8 (x_ - 32))) rfl rfl hzb_3 hx2 rfl rfl rfl (Nat.le_of_ble_eq_true rfl) rfl) (fun h => by cases h) ?_)
    try rw [len_set b_3 i_.toNat (wr .u8 (x_ - 32))]
    refine dnil ?_
    exact Sv.weak (weak_canon [0] rfl (by decide) (by decide) (fun b h => absurd h (Nat.not_lt_zero _)) (.cons rfl (avAs_free rfl) (.cons rfl (.c (lstC_ren rfl (by decide))) .nil)) (.row (by decide) rfl (fr_map fun _ => rfl) .nil)) (clerestoryref2_upper_j11_ok (hz_len hzb_3 (len_set b_3 i_.toNat (wr .u8 (x_ - 32)))) h hself hK0 hr)
  · replace h := ifF hc2 h
    refine Sv.skip ?_
    exact Sv.weak (weak_canon [0] rfl (by decide) (by decide) (fun b h => absurd h (Nat.not_lt_zero _)) (.cons rfl (avAs_free rfl) (.cons rfl (.c (lstC_ren rfl (by decide))) .nil)) (.row (by decide) rfl (fr_map fun _ => rfl) .nil)) (clerestoryref2_upper_j11_ok hzb_3 h hself hK0 hr)
noncomputable def clerestoryref2_upper_l0 (K0_ : (List Int) → Option (List UInt8)) : Nat → (List Int) → Int → Option (List UInt8)
  | 0, _, _ => none
  | k + 1, b_, i_ =>
    if decide (i_ < (b_.length : Int)) then
      (at? b_ i_).bind fun x_2 =>
      if decide (97 ≤ x_2) then
        (at? b_ i_).bind fun x_3 =>
        clerestoryref2_upper_j12 i_ (clerestoryref2_upper_l0 K0_ k) K0_ b_ (decide (x_3 ≤ 122))
      else
        clerestoryref2_upper_j12 i_ (clerestoryref2_upper_l0 K0_ k) K0_ b_ false
    else
      K0_ b_
theorem clerestoryref2_upper_l0_ok {Q : AExit → St → Prop} {K0_ : (List Int) → Option (List UInt8)} {k : Nat} {b_ : (List Int)} {i_ : Int} {zb : Bool} (hzb : zb = true → b_ = []) {o : (List UInt8)} (h : clerestoryref2_upper_l0 K0_ k b_ i_ = some o)
    (hK0 : ∀ (b_1 : (List Int)) (zb_1 : Bool) (_ : zb_1 = true → b_1 = []), K0_ b_1 = some o → ∀ s, Weak 0 s ⟨(upd (fun _ => none) 3 (some (lstV zb_1 0 1 b_1.length))), (upd (fun _ => none) 0 (lstB zb_1 1 (b_1.map (eK .u8)))), 1⟩ → Q (.exit 0) s)
    (hr : ∀ s, Ends a76.results 0 (clerestoryref2_upper_post o) .ret s → Q .ret s) :
    Sv Tryd.prog GG 0 (.loop a76_c2) Q ⟨(upd (upd (fun _ => none) 3 (some (lstV zb 0 1 b_.length))) 4 (some (I i_))), (upd (fun _ => none) 0 (lstB zb 1 (b_.map (eK .u8)))), 1⟩ := by
  refine Sv.loop (I := fun k s => ∃ (b_ : (List Int)), ∃ (i_ : Int), ∃ (zb : Bool), (zb = true → b_ = []) ∧ clerestoryref2_upper_l0 K0_ k b_ i_ = some o ∧ s = ⟨(upd (upd (fun _ => none) 3 (some (lstV zb 0 1 b_.length))) 4 (some (I i_))), (upd (fun _ => none) 0 (lstB zb 1 (b_.map (eK .u8)))), 1⟩) (fun k s hI => ?_) ⟨b_, i_, zb, hzb, h, rfl⟩
  clear h
  clear hzb zb i_ b_
  obtain ⟨b_, i_, zb, hzb, h, rfl⟩ := hI
  cases k with
  | zero => cases h
  | succ k =>
  rw [clerestoryref2_upper_l0] at h
  have hself : ∀ (b_ : (List Int)) (i_ : Int) (zb : Bool) (_ : zb = true → b_ = []), (clerestoryref2_upper_l0 K0_ k) b_ i_ = some o → ∀ s, Weak 0 s ⟨(upd (upd (fun _ => none) 3 (some (lstV zb 0 1 b_.length))) 4 (some (I i_))), (upd (fun _ => none) 0 (lstB zb 1 (b_.map (eK .u8)))), 1⟩ → (AThen (fun s' => ∃ s'' k', Weak 0 s' s'' ∧ k' < k + 1 ∧ (fun k s => ∃ (b_ : (List Int)), ∃ (i_ : Int), ∃ (zb : Bool), (zb = true → b_ = []) ∧ clerestoryref2_upper_l0 K0_ k b_ i_ = some o ∧ s = ⟨(upd (upd (fun _ => none) 3 (some (lstV zb 0 1 b_.length))) 4 (some (I i_))), (upd (fun _ => none) 0 (lstB zb 1 (b_.map (eK .u8)))), 1⟩) k' s'') Q) .normal s := fun b_ i_ zb hzb h s hw => ⟨_, k, hw, Nat.lt_succ_self k, b_, i_, zb, hzb, h, rfl⟩
  refine Sv.seq ?_
  refine Sv.seq ?_
  refine Sv.region ?_
  refine un (a1 rfl ?_)
  refine un (a1 rfl ?_)
  refine un (a1 (v := (I (b_.length : Int))) (s_lenL rfl (len_nil_of hzb)) ?_)
  refine un (a1 (v := (B (decide (i_ < (b_.length : Int))))) rfl ?_)
  refine dnil ?_
  refine Sv.cond (b := decide (i_ < (b_.length : Int))) rfl (fun hc1 => ?_) (fun hc1 => ?_)
  · replace h := ifT hc1 h
    refine Sv.skip ?_
    refine Sv.seq ?_
    refine Sv.block ?_
    refine Sv.seq ?_
    refine Sv.region ?_
    refine un (a1 rfl ?_)
    refine un (a1 rfl ?_)
    obtain ⟨x_2, hx3, h⟩ := bnd h
    refine un (a1 (v := (.c (.ref 0 1 i_.toNat 0))) (s_iaddrL rfl rfl hzb hx3) ?_)
    refine un (a1 (v := (.c (.val (.int .u8 x_2)))) (s_loadL (z := zb) (e := (eK .u8)) rfl rfl hzb hx3 rfl rfl) ?_)
    refine un (a1 (v := (B (decide (97 ≤ x_2)))) rfl ?_)
    refine un (a1 rfl ?_)
    refine split2 (fun hc3 => ?_) (fun hc3 => ?_)
    · replace h := ifT hc3 h
      refine gt rfl (a1 rfl ?_)
      refine gt rfl (a1 rfl ?_)
      obtain ⟨x_3, hx4, h⟩ := bnd h
      refine gt rfl (a1 (v := (.c (.ref 0 1 i_.toNat 0))) (s_iaddrL rfl rfl hzb hx4) ?_)
      refine gt rfl (a1 (v := (.c (.val (.int .u8 x_3)))) (s_loadL (z := zb) (e := (eK .u8)) rfl rfl hzb hx4 rfl rfl) ?_)
      refine gt rfl (a1 (v := (B (decide (x_3 ≤ 122)))) rfl ?_)
      refine un (a1 (v := (B (decide (x_3 ≤ 122)))) rfl ?_)
      refine dnil ?_
      exact Sv.weak (weak_canon [0] rfl (by decide) (by decide) (fun b h => absurd h (Nat.not_lt_zero _)) (.cons rfl (avAs_free rfl) (.cons rfl (avAs_free rfl) (.cons rfl (.c (lstC_ren rfl (by decide))) .nil))) (.row (by decide) rfl (fr_map fun _ => rfl) .nil)) (clerestoryref2_upper_j12_ok hzb h hself hK0 hr)
    · replace h := ifF hc3 h
      refine gs rfl rfl ?_
      refine gs rfl rfl ?_
      refine gs rfl rfl ?_
      refine gs rfl rfl ?_
      refine gs rfl rfl ?_
      refine un (a1 (v := (B false)) rfl ?_)
      refine dnil ?_
      exact Sv.weak (weak_canon [0] rfl (by decide) (by decide) (fun b h => absurd h (Nat.not_lt_zero _)) (.cons rfl (avAs_free rfl) (.cons rfl (avAs_free rfl) (.cons rfl (.c (lstC_ren rfl (by decide))) .nil))) (.row (by decide) rfl (fr_map fun _ => rfl) .nil)) (clerestoryref2_upper_j12_ok hzb h hself hK0 hr)
  · replace h := ifF hc1 h
    refine Sv.exit ?_
    exact hK0 b_ zb hzb h _ (weak_canon [0] rfl (by decide) (by decide) (fun b h => absurd h (Nat.not_lt_zero _)) (.cons rfl (.c (lstC_ren rfl (by decide))) .nil) (.row (by decide) rfl (fr_map fun _ => rfl) .nil))
/-- clerestory/clerestoryref2.upper -/
noncomputable def clerestoryref2_upper (s_ : (List UInt8)) : Option (List UInt8) :=
  lim fun kk => clerestoryref2_upper_l0 (fun (b_1 : (List Int)) => 
      some (byts b_1)) kk (ints s_) 0
theorem clerestoryref2_upper_ok {s_ : (List UInt8)} {r : (List UInt8)} (h : clerestoryref2_upper s_ = some r) : CPure Tryd.prog GG 76 [(S s_)] (S r) := by
  refine acalls_of_sv hmix c76 (R := clerestoryref2_upper_post r) ?_
  unfold clerestoryref2_upper at h
  refine Sv.seq ?_
  refine Sv.region ?_
  refine un (a1 rfl ?_)
  refine dnil ?_
  refine Sv.seq ?_
  refine Sv.region ?_
  refine un (a1 rfl ?_)
  refine un (a2v (v := (lstV false 0 1 (ints s_).length)) (h' := upd _ 0 (lstB false 1 ((ints s_).map (eK .u8)))) (n' := 1) rfl (s_toBytes rfl) (fun h => by cases h) ?_)
  refine un (a1 rfl ?_)
  refine dnil ?_
  refine Sv.seq ?_
  refine Sv.seq ?_
  refine Sv.region ?_
  refine un (a1 rfl ?_)
  refine dnil ?_
  refine Sv.block ?_
  obtain ⟨kk, h⟩ := lim_some h
  refine Sv.weak (weak_canon [0] rfl (by decide) (by decide) (fun b h => absurd h (Nat.not_lt_zero _)) (.cons rfl (avAs_free rfl) (.cons rfl (.c (lstC_ren rfl (by decide))) .nil)) (.row (by decide) rfl (fr_map fun _ => rfl) .nil)) (clerestoryref2_upper_l0_ok (fun h => by cases h) h ?_ (fun s hs => hs))
  · intro b_1 zb_1 hzb_1 h _ hw1
    refine Sv.weak hw1 ?_
    refine Sv.seq ?_
    refine Sv.region ?_
    refine un (a1 rfl ?_)
    refine un (a1 (v := (S (byts b_1))) (s_ofBytes (xs := b_1) rfl (slc_lst rfl (List.length_map _).symm (map_nil_of hzb_1))) ?_)
    refine un (a1 rfl ?_)
    refine dnil ?_
    refine Sv.ret ?_
    replace h := Option.some.inj h
    subst h
    exact ⟨_, .refl _, _, rfl, ⟨upd (fun _ => none) 0 (some (S (byts b_1))), (fun _ => none), 0⟩, (S (byts b_1)), weak_canon [] rfl List.nodup_nil (Nat.le_refl _) (fun b h => absurd h (Nat.not_lt_zero _)) (.cons rfl (avAs_free rfl) .nil) .nil, rfl, rfl, rfl, rfl⟩
def a77 : AFunc := ⟨1, [(.tmp 2)], (.seq (.region [⟨(some 2), (.mov (.const (.c (.str [])))), none⟩])
 (.seq (.region [⟨(some 7), (.bslice 1 [(.str [])] 10 [(0, (.const (.c (.str [])))), (1, (.const (.c (.str [105])))), (2, (.const (.c (.str [105, 105])))), (3, (.const (.c (.str [105, 105, 105])))), (4, (.const (.c (.str [105, 118])))), (5, (.const (.c (.str [118])))), (6, (.const (.c (.str [118, 105])))), (7, (.const (.c (.str [118, 105, 105])))), (8, (.const (.c (.str [118, 105, 105, 105])))), (9, (.const (.c (.str [105, 120]))))]), none⟩, ⟨(some 3), (.mov (.tmp 7)), none⟩])
 (.seq (.region [⟨(some 8), (.bslice 1 [(.str [])] 10 [(0, (.const (.c (.str [])))), (1, (.const (.c (.str [120])))), (2, (.const (.c (.str [120, 120])))), (3, (.const (.c (.str [120, 120, 120])))), (4, (.const (.c (.str [120, 108])))), (5, (.const (.c (.str [108])))), (6, (.const (.c (.str [108, 120])))), (7, (.const (.c (.str [108, 120, 120])))), (8, (.const (.c (.str [108, 120, 120, 120])))), (9, (.const (.c (.str [120, 99]))))]), none⟩, ⟨(some 4), (.mov (.tmp 8)), none⟩])
 (.seq (.region [⟨(some 9), (.bslice 1 [(.str [])] 10 [(0, (.const (.c (.str [])))), (1, (.const (.c (.str [99])))), (2, (.const (.c (.str [99, 99])))), (3, (.const (.c (.str [99, 99, 99])))), (4, (.const (.c (.str [99, 100])))), (5, (.const (.c (.str [100])))), (6, (.const (.c (.str [100, 99])))), (7, (.const (.c (.str [100, 99, 99])))), (8, (.const (.c (.str [100, 99, 99, 99])))), (9, (.const (.c (.str [99, 109]))))]), none⟩, ⟨(some 5), (.mov (.tmp 9)), none⟩])
 (.seq (.region [⟨(some 10), (.bslice 1 [(.str [])] 4 [(0, (.const (.c (.str [])))), (1, (.const (.c (.str [109])))), (2, (.const (.c (.str [109, 109])))), (3, (.const (.c (.str [109, 109, 109]))))]), none⟩, ⟨(some 6), (.mov (.tmp 10)), none⟩])
 (.seq (.drawn (.fin [(⟨(some 11), (.mov (.tmp 6)), none⟩, (0, 0)), (⟨(some 12), (.mov (.tmp 0)), none⟩, (0, 1)), (⟨(some 13), (.bin .quo (.tmp 12) (.const (.c (.val (.int .i64 1000))))), none⟩, (0, 2)), (⟨(some 14), (.iaddr 1 (.tmp 11) (.tmp 13)), none⟩, (0, 3)), (⟨(some 15), (.load false 1 (.tmp 14)), none⟩, (0, 4)), (⟨(some 16), (.mov (.tmp 5)), none⟩, (0, 5)), (⟨(some 17), (.mov (.tmp 0)), none⟩, (0, 6)), (⟨(some 18), (.bin .quo (.tmp 17) (.const (.c (.val (.int .i64 100))))), none⟩, (0, 7)), (⟨(some 19), (.bin .rem (.tmp 18) (.const (.c (.val (.int .i64 10))))), none⟩, (0, 8)), (⟨(some 20), (.iaddr 1 (.tmp 16) (.tmp 19)), none⟩, (0, 9)), (⟨(some 21), (.load false 1 (.tmp 20)), none⟩, (0, 10)), (⟨(some 22), (.bin .add (.tmp 15) (.tmp 21)), none⟩, (0, 11)), (⟨(some 23), (.mov (.tmp 4)), none⟩, (0, 12)), (⟨(some 24), (.mov (.tmp 0)), none⟩, (0, 13)), (⟨(some 25), (.bin .quo (.tmp 24) (.const (.c (.val (.int .i64 10))))), none⟩, (0, 14)), (⟨(some 26), (.bin .rem (.tmp 25) (.const (.c (.val (.int .i64 10))))), none⟩, (0, 15)), (⟨(some 27), (.iaddr 1 (.tmp 23) (.tmp 26)), none⟩, (0, 16)), (⟨(some 28), (.load false 1 (.tmp 27)), none⟩, (0, 17)), (⟨(some 29), (.bin .add (.tmp 22) (.tmp 28)), none⟩, (0, 18)), (⟨(some 30), (.mov (.tmp 3)), none⟩, (0, 19)), (⟨(some 31), (.mov (.tmp 0)), none⟩, (0, 20)), (⟨(some 32), (.bin .rem (.tmp 31) (.const (.c (.val (.int .i64 10))))), none⟩, (0, 21)), (⟨(some 33), (.iaddr 1 (.tmp 30) (.tmp 32)), none⟩, (0, 22)), (⟨(some 34), (.load false 1 (.tmp 33)), none⟩, (0, 23)), (⟨(some 35), (.bin .add (.tmp 29) (.tmp 34)), none⟩, (0, 24)), (⟨(some 2), (.mov (.tmp 35)), none⟩, (0, 25))]))
 .ret))))))⟩
set_option maxRecDepth 100000 in
theorem c77 : compFunc Tryd.prog 77 = some a77 := by kernel_rfl
def clerestoryref2_RomanOf_post (r : (List UInt8)) : AV → Heap → Nat → Prop := fun v h' n' => v = (S r) ∧ (h' = (fun _ => none)) ∧ n' = 0
def clerestoryref2_RomanOf_t0 : List (List UInt8) := [[], [105], [105, 105], [105, 105, 105], [105, 118], [118], [118, 105], [118, 105, 105], [118, 105, 105, 105], [105, 120]]
def clerestoryref2_RomanOf_t1 : List (List UInt8) := [[], [120], [120, 120], [120, 120, 120], [120, 108], [108], [108, 120], [108, 120, 120], [108, 120, 120, 120], [120, 99]]
def clerestoryref2_RomanOf_t2 : List (List UInt8) := [[], [99], [99, 99], [99, 99, 99], [99, 100], [100], [100, 99], [100, 99, 99], [100, 99, 99, 99], [99, 109]]
/-- clerestory/clerestoryref2.RomanOf -/
noncomputable def clerestoryref2_RomanOf (n_ : Int) : Option (List UInt8) :=
  (at? ([[], [109], [109, 109], [109, 109, 109]] : List (List UInt8)) (wi (n_.tdiv 1000))).bind fun x_ =>
  (at? clerestoryref2_RomanOf_t2 ((wi (n_.tdiv 100)).tmod 10)).bind fun x_1 =>
  (cat? x_ x_1).bind fun r_ =>
  (at? clerestoryref2_RomanOf_t1 ((wi (n_.tdiv 10)).tmod 10)).bind fun x_2 =>
  (cat? r_ x_2).bind fun r_1 =>
  (at? clerestoryref2_RomanOf_t0 (n_.tmod 10)).bind fun x_3 =>
  (cat? r_1 x_3).bind fun r_2 =>
  some r_2
theorem clerestoryref2_RomanOf_ok {n_ : Int} {r : (List UInt8)} (h : clerestoryref2_RomanOf n_ = some r) : CPure Tryd.prog GG 77 [(I n_)] (S r) := by
  refine acalls_of_sv hmix c77 (R := clerestoryref2_RomanOf_post r) ?_
  unfold clerestoryref2_RomanOf at h
  refine Sv.seq ?_
  refine Sv.region ?_
  refine un (a1 rfl ?_)
  refine dnil ?_
  refine Sv.seq ?_
  refine Sv.region ?_
  refine un (a2v (v := (lstV false 0 1 clerestoryref2_RomanOf_t0.length)) (h' := upd _ 0 (lstB false 1 (clerestoryref2_RomanOf_t0.map eStr))) (n' := 1) rfl rfl (fun h => by cases h) ?_)
  refine un (a1 rfl ?_)
  refine dnil ?_
  refine Sv.seq ?_
  refine Sv.region ?_
  refine un (a2v (v := (lstV false 1 1 clerestoryref2_RomanOf_t1.length)) (h' := upd _ 1 (lstB false 1 (clerestoryref2_RomanOf_t1.map eStr))) (n' := 2) rfl rfl (fun h => by cases h) ?_)
  refine un (a1 rfl ?_)
  refine dnil ?_
  refine Sv.seq ?_
  refine Sv.region ?_
  refine un (a2v (v := (lstV false 2 1 clerestoryref2_RomanOf_t2.length)) (h' := upd _ 2 (lstB false 1 (clerestoryref2_RomanOf_t2.map eStr))) (n' := 3) rfl rfl (fun h => by cases h) ?_)
  refine un (a1 rfl ?_)
  refine dnil ?_
  refine Sv.seq ?_
  refine Sv.region ?_
  refine un (a2v (v := (lstV false 3 1 ([[], [109], [109, 109], [109, 109, 109]] : List (List UInt8)).length)) (h' := upd _ 3 (lstB false 1 (([[], [109], [109, 109], [109, 109, 109]] : List (List UInt8)).map eStr))) (n' := 4) rfl rfl (fun h => by cases h) ?_)
  refine un (a1 rfl ?_)
  refine dnil ?_
  refine Sv.seq ?_
  refine Sv.drawn ?_
  refine un (a1 rfl ?_)
  refine un (a1 rfl ?_)
  refine un (a1 (v := (I (wi (n_.tdiv 1000)))) rfl ?_)
  obtain ⟨x_, hx1, h⟩ := bnd h
  refine un (a1 (v := (.c (.ref 3 1 (wi (n_.tdiv 1000)).toNat 0))) (s_iaddrL rfl rfl (fun h => by cases h) hx1) ?_)
  refine un (a1 (v := (S x_)) (s_loadL (z := false) (e := eStr) rfl rfl (fun h => by cases h) hx1 rfl rfl) ?_)
  refine un (a1 rfl ?_)
  refine un (a1 rfl ?_)
  refine un (a1 (v := (I (wi (n_.tdiv 100)))) rfl ?_)
  refine un (a1 (v := (I ((wi (n_.tdiv 100)).tmod 10))) rfl ?_)
  obtain ⟨x_1, hx2, h⟩ := bnd h
  refine un (a1 (v := (.c (.ref 2 1 ((wi (n_.tdiv 100)).tmod 10).toNat 0))) (s_iaddrL rfl rfl (fun h => by cases h) hx2) ?_)
  refine un (a1 (v := (S x_1)) (s_loadL (z := false) (e := eStr) rfl rfl (fun h => by cases h) hx2 rfl rfl) ?_)
  obtain ⟨r_, hx3, h⟩ := bnd h
  refine un (a1 (v := (S r_)) (s_cat rfl rfl hx3) ?_)
  refine un (a1 rfl ?_)
  refine un (a1 rfl ?_)
  refine un (a1 (v := (I (wi (n_.tdiv 10)))) rfl ?_)
  refine un (a1 (v := (I ((wi (n_.tdiv 10)).tmod 10))) rfl ?_)
  obtain ⟨x_2, hx4, h⟩ := bnd h
  refine un (a1 (v := (.c (.ref 1 1 ((wi (n_.tdiv 10)).tmod 10).toNat 0))) (s_iaddrL rfl rfl (fun h => by cases h) hx4) ?_)
  refine un (a1 (v := (S x_2)) (s_loadL (z := false) (e := eStr) rfl rfl (fun h => by cases h) hx4 rfl rfl) ?_)
  obtain ⟨r_1, hx5, h⟩ := bnd h
  refine un (a1 (v := (S r_1)) (s_cat rfl rfl hx5) ?_)
  refine un (a1 rfl ?_)
  refine un (a1 rfl ?_)
  refine un (a1 (v := (I (n_.tmod 10))) rfl ?_)
  obtain ⟨x_3, hx6, h⟩ := bnd h
  refine un (a1 (v := (.c (.ref 0 1 (n_.tmod 10).toNat 0))) (s_iaddrL rfl rfl (fun h => by cases h) hx6) ?_)
  refine un (a1 (v := (S x_3)) (s_loadL (z := false) (e := eStr) rfl rfl (fun h => by cases h) hx6 rfl rfl) ?_)
  obtain ⟨r_2, hx7, h⟩ := bnd h
  refine un (a1 (v := (S r_2)) (s_cat rfl rfl hx7) ?_)
  refine un (a1 rfl ?_)
  refine dnil ?_
  refine Sv.ret ?_
  replace h := Option.some.inj h
  subst h
  exact ⟨_, .refl _, _, rfl, ⟨upd (fun _ => none) 0 (some (S r_2)), (fun _ => none), 0⟩, (S r_2), weak_canon [] rfl List.nodup_nil (Nat.le_refl _) (fun b h => absurd h (Nat.not_lt_zero _)) (.cons rfl (avAs_free rfl) .nil) .nil, rfl, rfl, rfl, rfl⟩
def a118_c0 : ACode := (.seq (.region [⟨(some 17), (.mov (.tmp 3)), none⟩, ⟨(some 2), (.mov (.tmp 17)), none⟩])
 .ret)
def a118 : AFunc := ⟨1, [(.tmp 2)], (.seq (.region [⟨(some 2), (.mov (.const (.c (.str [])))), none⟩])
 (.seq (.region [⟨(some 4), (.mov (.tmp 0)), none⟩, ⟨(some 5), (.bin .rem (.tmp 4) (.const (.c (.val (.int .i64 10))))), none⟩, ⟨(some 6), (.bin .add (.const (.c (.val (.int .i64 48)))) (.tmp 5)), none⟩, ⟨(some 7), (.conv .u8 (.tmp 6)), none⟩, ⟨(some 8), (.bslice 1 [(.val (.int .u8 0))] 1 [(0, (.tmp 7))]), none⟩, ⟨(some 9), (.ofBytes (.tmp 8)), none⟩, ⟨(some 3), (.mov (.tmp 9)), none⟩])
 (.seq (.seq (.region [⟨(some 10), (.mov (.tmp 0)), none⟩, ⟨(some 11), (.bin .gtr (.tmp 10) (.const (.c (.val (.int .i64 9))))), none⟩])
 (.cond (.tmp 11) (.region [⟨(some 12), (.mov (.tmp 0)), none⟩, ⟨(some 13), (.bin .quo (.tmp 12) (.const (.c (.val (.int .i64 10))))), none⟩, ⟨(some 14), (.call 118 [(.tmp 13)]), none⟩, ⟨(some 15), (.mov (.tmp 3)), none⟩, ⟨(some 16), (.bin .add (.tmp 14) (.tmp 15)), none⟩, ⟨(some 3), (.mov (.tmp 16)), none⟩]) .skip))
 a118_c0)))⟩
set_option maxRecDepth 100000 in
theorem c118 : compFunc Tryd.prog 118 = some a118 := by kernel_rfl
def clerestoryref2_Digits_post (r : (List UInt8)) : AV → Heap → Nat → Prop := fun v h' n' => v = (S r) ∧ (h' = (fun _ => none)) ∧ n' = 0
def clerestoryref2_Digits_Rec (recf : Int → Option (List UInt8)) : Prop := ∀ (n_ : Int) (r : (List UInt8)), recf n_ = some r → CPure Tryd.prog GG 118 [(I n_)] (S r)
noncomputable def clerestoryref2_Digits_j1 (s_ : (List UInt8)) : Option (List UInt8) :=
  some s_
theorem clerestoryref2_Digits_j1_ok {s_ : (List UInt8)} {o : (List UInt8)} (h : clerestoryref2_Digits_j1 s_ = some o) :
    Sv Tryd.prog GG 0 a118_c0 (Ends a118.results 0 (clerestoryref2_Digits_post o)) ⟨(upd (fun _ => none) 3 (some (S s_))), (fun _ => none), 0⟩ := by
  unfold clerestoryref2_Digits_j1 at h
  refine Sv.seq ?_
  refine Sv.region ?_
  refine un (a1 rfl ?_)
  refine un (a1 rfl ?_)
  refine dnil ?_
  refine Sv.ret ?_
  replace h := Option.some.inj h
  subst h
  exact ⟨_, .refl _, _, rfl, ⟨upd (fun _ => none) 0 (some (S s_)), (fun _ => none), 0⟩, (S s_), weak_canon [] rfl List.nodup_nil (Nat.le_refl _) (fun b h => absurd h (Nat.not_lt_zero _)) (.cons rfl (avAs_free rfl) .nil) .nil, rfl, rfl, rfl, rfl⟩
/-- clerestory/clerestoryref2.Digits -/
noncomputable def clerestoryref2_Digits_r : Nat → Int → Option (List UInt8)
  | 0, _ => none
  | k + 1, n_ =>
    if decide (9 < n_) then
      ((clerestoryref2_Digits_r k) (wi (n_.tdiv 10))).bind fun r_ =>
      (cat? r_ (byts [(wr .u8 (wi (48 + (n_.tmod 10))))])).bind fun r_1 =>
      clerestoryref2_Digits_j1 r_1
    else
      clerestoryref2_Digits_j1 (byts [(wr .u8 (wi (48 + (n_.tmod 10))))])
noncomputable def clerestoryref2_Digits (n_ : Int) : Option (List UInt8) :=
  lim fun kr => clerestoryref2_Digits_r kr n_
theorem clerestoryref2_Digits_r_ok (k : Nat) : clerestoryref2_Digits_Rec (clerestoryref2_Digits_r k) := by
  induction k with
  | zero => intro n_ r h; cases h
  | succ k hrec =>
  intro n_ r h
  refine acalls_of_sv hmix c118 (R := clerestoryref2_Digits_post r) ?_
  rw [clerestoryref2_Digits_r] at h
  refine Sv.seq ?_
  refine Sv.region ?_
  refine un (a1 rfl ?_)
  refine dnil ?_
  refine Sv.seq ?_
  refine Sv.region ?_
  refine un (a1 rfl ?_)
  refine un (a1 (v := (I (n_.tmod 10))) rfl ?_)
  refine un (a1 (v := (I (wi (48 + (n_.tmod 10))))) rfl ?_)
  refine un (a1 (v := (.c (.val (.int .u8 (wr .u8 (wi (48 + (n_.tmod 10)))))))) rfl ?_)
  refine un (a2v (v := (lstV false 0 1 [(wr .u8 (wi (48 + (n_.tmod 10))))].length)) (h' := upd _ 0 (lstB false 1 ([(wr .u8 (wi (48 + (n_.tmod 10))))].map (eK .u8)))) (n' := 1) rfl rfl (fun h => by cases h) ?_)
  refine un (a1 (v := (S (byts [(wr .u8 (wi (48 + (n_.tmod 10))))]))) (s_ofBytes (xs := [(wr .u8 (wi (48 + (n_.tmod 10))))]) rfl (slc_lst rfl (List.length_map _).symm (map_nil_of (fun h => by cases h)))) ?_)
  refine un (a1 rfl ?_)
  refine dnil ?_
  refine Sv.seq ?_
  refine Sv.seq ?_
  refine Sv.region ?_
  refine un (a1 rfl ?_)
  refine un (a1 (v := (B (decide (9 < n_)))) rfl ?_)
  refine dnil ?_
  refine Sv.cond (b := decide (9 < n_)) rfl (fun hc1 => ?_) (fun hc1 => ?_)
  · replace h := ifT hc1 h
    refine Sv.region ?_
    refine un (a1 rfl ?_)
    refine un (a1 (v := (I (wi (n_.tdiv 10)))) rfl ?_)
    obtain ⟨r_, hr1, h⟩ := bnd h
    refine un (ac_pure (hrec (wi (n_.tdiv 10)) _ hr1) rfl rfl rfl ?_)
    refine un (a1 rfl ?_)
    obtain ⟨r_1, hx1, h⟩ := bnd h
    refine un (a1 (v := (S r_1)) (s_cat rfl rfl hx1) ?_)
    refine un (a1 rfl ?_)
    refine dnil ?_
    exact Sv.weak (weak_canon [] rfl (by decide) (by decide) (fun b h => absurd h (Nat.not_lt_zero _)) (.cons rfl (avAs_free rfl) .nil) .nil) (clerestoryref2_Digits_j1_ok h)
  · replace h := ifF hc1 h
    refine Sv.skip ?_
    exact Sv.weak (weak_canon [] rfl (by decide) (by decide) (fun b h => absurd h (Nat.not_lt_zero _)) (.cons rfl (avAs_free rfl) .nil) .nil) (clerestoryref2_Digits_j1_ok h)
theorem clerestoryref2_Digits_ok {n_ : Int} {r : (List UInt8)} (h : clerestoryref2_Digits n_ = some r) : CPure Tryd.prog GG 118 [(I n_)] (S r) := by
  unfold clerestoryref2_Digits at h
  obtain ⟨k, h⟩ := lim_some h
  exact clerestoryref2_Digits_r_ok k n_  r h
def a78 : AFunc := ⟨1, [(.tmp 2)], (.seq (.region [⟨(some 2), (.mov (.const (.c (.str [])))), none⟩])
 (.seq (.seq (.region [⟨(some 3), (.mov (.tmp 0)), none⟩, ⟨(some 4), (.bin .leq (.tmp 3) (.const (.c (.val (.int .i64 (-10)))))), none⟩])
 (.cond (.tmp 4) (.seq (.region [⟨(some 5), (.mov (.tmp 0)), none⟩, ⟨(some 6), (.bin .quo (.tmp 5) (.const (.c (.val (.int .i64 10))))), none⟩, ⟨(some 7), (.call 78 [(.tmp 6)]), none⟩, ⟨(some 8), (.mov (.tmp 0)), none⟩, ⟨(some 9), (.bin .rem (.tmp 8) (.const (.c (.val (.int .i64 10))))), none⟩, ⟨(some 10), (.un .neg (.tmp 9)), none⟩, ⟨(some 11), (.call 118 [(.tmp 10)]), none⟩, ⟨(some 12), (.bin .add (.tmp 7) (.tmp 11)), none⟩, ⟨(some 2), (.mov (.tmp 12)), none⟩])
 .ret) .skip))
 (.seq (.seq (.region [⟨(some 13), (.mov (.tmp 0)), none⟩, ⟨(some 14), (.bin .lss (.tmp 13) (.const (.c (.val (.int .i64 0))))), none⟩])
 (.cond (.tmp 14) (.seq (.region [⟨(some 15), (.mov (.tmp 0)), none⟩, ⟨(some 16), (.bin .sub (.const (.c (.val (.int .i64 0)))) (.tmp 15)), none⟩, ⟨(some 17), (.call 118 [(.tmp 16)]), none⟩, ⟨(some 18), (.bin .add (.const (.c (.str [45]))) (.tmp 17)), none⟩, ⟨(some 2), (.mov (.tmp 18)), none⟩])
 .ret) .skip))
 (.seq (.region [⟨(some 19), (.mov (.tmp 0)), none⟩, ⟨(some 20), (.call 118 [(.tmp 19)]), none⟩, ⟨(some 2), (.mov (.tmp 20)), none⟩])
 .ret))))⟩
set_option maxRecDepth 100000 in
theorem c78 : compFunc Tryd.prog 78 = some a78 := by kernel_rfl
def clerestoryref2_Signed_post (r : (List UInt8)) : AV → Heap → Nat → Prop := fun v h' n' => v = (S r) ∧ (h' = (fun _ => none)) ∧ n' = 0
def clerestoryref2_Signed_Rec (recf : Int → Option (List UInt8)) : Prop := ∀ (n_ : Int) (r : (List UInt8)), recf n_ = some r → CPure Tryd.prog GG 78 [(I n_)] (S r)
/-- clerestory/clerestoryref2.Signed -/
noncomputable def clerestoryref2_Signed_r : Nat → Int → Option (List UInt8)
  | 0, _ => none
  | k + 1, n_ =>
    if decide (n_ ≤ (-10)) then
      ((clerestoryref2_Signed_r k) (wi (n_.tdiv 10))).bind fun r_ =>
      (clerestoryref2_Digits (wi (0 - (n_.tmod 10)))).bind fun r_1 =>
      (cat? r_ r_1).bind fun r_2 =>
      some r_2
    else
      if decide (n_ < 0) then
        (clerestoryref2_Digits (wi (0 - n_))).bind fun r_3 =>
        (cat? [45] r_3).bind fun r_4 =>
        some r_4
      else
        (clerestoryref2_Digits n_).bind fun r_5 =>
        some r_5
noncomputable def clerestoryref2_Signed (n_ : Int) : Option (List UInt8) :=
  lim fun kr => clerestoryref2_Signed_r kr n_
theorem clerestoryref2_Signed_r_ok (k : Nat) : clerestoryref2_Signed_Rec (clerestoryref2_Signed_r k) := by
  induction k with
  | zero => intro n_ r h; cases h
  | succ k hrec =>
  intro n_ r h
  refine acalls_of_sv hmix c78 (R := clerestoryref2_Signed_post r) ?_
  rw [clerestoryref2_Signed_r] at h
  refine Sv.seq ?_
  refine Sv.region ?_
  refine un (a1 rfl ?_)
  refine dnil ?_
  refine Sv.seq ?_
  refine Sv.seq ?_
  refine Sv.region ?_
  refine un (a1 rfl ?_)
  refine un (a1 (v := (B (decide (n_ ≤ (-10))))) rfl ?_)
  refine dnil ?_
  refine Sv.cond (b := decide (n_ ≤ (-10))) rfl (fun hc1 => ?_) (fun hc1 => ?_)
  · replace h := ifT hc1 h
    refine Sv.seq ?_
    refine Sv.region ?_
    refine un (a1 rfl ?_)
    refine un (a1 (v := (I (wi (n_.tdiv 10)))) rfl ?_)
    obtain ⟨r_, hr1, h⟩ := bnd h
    refine un (ac_pure (hrec (wi (n_.tdiv 10)) _ hr1) rfl rfl rfl ?_)
    refine un (a1 rfl ?_)
    refine un (a1 (v := (I (n_.tmod 10))) rfl ?_)
    refine un (a1 (v := (I (wi (0 - (n_.tmod 10))))) rfl ?_)
    obtain ⟨r_1, hr2, h⟩ := bnd h
    refine un (ac_pure (clerestoryref2_Digits_ok hr2) rfl rfl rfl ?_)
    obtain ⟨r_2, hx1, h⟩ := bnd h
    refine un (a1 (v := (S r_2)) (s_cat rfl rfl hx1) ?_)
    refine un (a1 rfl ?_)
    refine dnil ?_
    refine Sv.ret ?_
    replace h := Option.some.inj h
    subst h
    exact ⟨_, .refl _, _, rfl, ⟨upd (fun _ => none) 0 (some (S r_2)), (fun _ => none), 0⟩, (S r_2), weak_canon [] rfl List.nodup_nil (Nat.le_refl _) (fun b h => absurd h (Nat.not_lt_zero _)) (.cons rfl (avAs_free rfl) .nil) .nil, rfl, rfl, rfl, rfl⟩
  · replace h := ifF hc1 h
    refine Sv.skip ?_
    refine Sv.seq ?_
    refine Sv.seq ?_
    refine Sv.region ?_
    refine un (a1 rfl ?_)
    refine un (a1 (v := (B (decide (n_ < 0)))) rfl ?_)
    refine dnil ?_
    refine Sv.cond (b := decide (n_ < 0)) rfl (fun hc2 => ?_) (fun hc2 => ?_)
    · replace h := ifT hc2 h
      refine Sv.seq ?_
      refine Sv.region ?_
      refine un (a1 rfl ?_)
      refine un (a1 (v := (I (wi (0 - n_)))) rfl ?_)
      obtain ⟨r_3, hr3, h⟩ := bnd h
      refine un (ac_pure (clerestoryref2_Digits_ok hr3) rfl rfl rfl ?_)
      obtain ⟨r_4, hx2, h⟩ := bnd h
      refine un (a1 (v := (S r_4)) (s_cat rfl rfl hx2) ?_)
      refine un (a1 rfl ?_)
      refine dnil ?_
      refine Sv.ret ?_
      replace h := Option.some.inj h
      subst h
      exact ⟨_, .refl _, _, rfl, ⟨upd (fun _ => none) 0 (some (S r_4)), (fun _ => none), 0⟩, (S r_4), weak_canon [] rfl List.nodup_nil (Nat.le_refl _) (fun b h => absurd h (Nat.not_lt_zero _)) (.cons rfl (avAs_free rfl) .nil) .nil, rfl, rfl, rfl, rfl⟩
    · replace h := ifF hc2 h
      refine Sv.skip ?_
      refine Sv.seq ?_
      refine Sv.region ?_
      refine un (a1 rfl ?_)
      obtain ⟨r_5, hr4, h⟩ := bnd h
      refine un (ac_pure (clerestoryref2_Digits_ok hr4) rfl rfl rfl ?_)
      refine un (a1 rfl ?_)
      refine dnil ?_
      refine Sv.ret ?_
      replace h := Option.some.inj h
      subst h
      exact ⟨_, .refl _, _, rfl, ⟨upd (fun _ => none) 0 (some (S r_5)), (fun _ => none), 0⟩, (S r_5), weak_canon [] rfl List.nodup_nil (Nat.le_refl _) (fun b h => absurd h (Nat.not_lt_zero _)) (.cons rfl (avAs_free rfl) .nil) .nil, rfl, rfl, rfl, rfl⟩
theorem clerestoryref2_Signed_ok {n_ : Int} {r : (List UInt8)} (h : clerestoryref2_Signed n_ = some r) : CPure Tryd.prog GG 78 [(I n_)] (S r) := by
  unfold clerestoryref2_Signed at h
  obtain ⟨k, h⟩ := lim_some h
  exact clerestoryref2_Signed_r_ok k n_  r h
def a33 : AFunc := ⟨2, [(.tmp 4)], (.seq (.region [⟨(some 4), (.mov (.const (.c (.str [])))), none⟩])
 (.seq (.seq (.region [⟨(some 5), (.mov (.tmp 0)), none⟩, ⟨(some 6), (.bin .eql (.tmp 5) (.const (.c (.val (.int .i64 0))))), none⟩])
 (.cond (.tmp 6) (.seq (.region [⟨(some 4), (.mov (.const (.c (.str [])))), none⟩])
 .ret) .skip))
 (.seq (.seq (.region [⟨(some 7), (.mov (.tmp 0)), none⟩, ⟨(some 8), (.bin .eql (.tmp 7) (.const (.c (.val (.int .i64 1))))), none⟩])
 (.cond (.tmp 8) (.seq (.region [⟨(some 9), (.bslice 1 [(.val (.int .u8 0))] 3 [(0, (.const (.c (.val (.int .u8 226))))), (1, (.const (.c (.val (.int .u8 128))))), (2, (.const (.c (.val (.int .u8 162)))))]), none⟩, ⟨(some 10), (.ofBytes (.tmp 9)), none⟩, ⟨(some 4), (.mov (.tmp 10)), none⟩])
 .ret) .skip))
 (.seq (.seq (.region [⟨(some 11), (.mov (.tmp 0)), none⟩, ⟨(some 12), (.bin .eql (.tmp 11) (.const (.c (.val (.int .i64 3))))), none⟩, ⟨(some 13), (.mov (.tmp 12)), none⟩, ⟨(some 14), (.mov (.tmp 1)), (some (13, true))⟩, ⟨(some 15), (.bin .gtr (.tmp 14) (.const (.c (.val (.int .i64 0))))), (some (13, true))⟩, ⟨(some 16), (.pick (.tmp 13) (.tmp 15) (.const (.c (.val (.bool false))))), none⟩])
 (.cond (.tmp 16) (.seq (.region [⟨(some 17), (.mov (.tmp 1)), none⟩, ⟨(some 18), (.call 75 [(.tmp 17)]), none⟩, ⟨(some 4), (.mov (.tmp 18)), none⟩])
 .ret) .skip))
 (.seq (.seq (.region [⟨(some 19), (.mov (.tmp 0)), none⟩, ⟨(some 20), (.bin .eql (.tmp 19) (.const (.c (.val (.int .i64 4))))), none⟩, ⟨(some 21), (.mov (.tmp 20)), none⟩, ⟨(some 22), (.mov (.tmp 1)), (some (21, true))⟩, ⟨(some 23), (.bin .gtr (.tmp 22) (.const (.c (.val (.int .i64 0))))), (some (21, true))⟩, ⟨(some 24), (.pick (.tmp 21) (.tmp 23) (.const (.c (.val (.bool false))))), none⟩])
 (.cond (.tmp 24) (.seq (.region [⟨(some 25), (.mov (.tmp 1)), none⟩, ⟨(some 26), (.call 75 [(.tmp 25)]), none⟩, ⟨(some 27), (.call 76 [(.tmp 26)]), none⟩, ⟨(some 4), (.mov (.tmp 27)), none⟩])
 .ret) .skip))
 (.seq (.seq (.region [⟨(some 28), (.mov (.tmp 0)), none⟩, ⟨(some 29), (.bin .eql (.tmp 28) (.const (.c (.val (.int .i64 5))))), none⟩, ⟨(some 30), (.mov (.tmp 29)), none⟩, ⟨(some 31), (.mov (.tmp 1)), (some (30, true))⟩, ⟨(some 32), (.bin .gtr (.tmp 31) (.const (.c (.val (.int .i64 0))))), (some (30, true))⟩, ⟨(some 33), (.pick (.tmp 30) (.tmp 32) (.const (.c (.val (.bool false))))), none⟩, ⟨(some 34), (.mov (.tmp 33)), none⟩, ⟨(some 35), (.mov (.tmp 1)), (some (34, true))⟩, ⟨(some 36), (.bin .lss (.tmp 35) (.const (.c (.val (.int .i64 4000))))), (some (34, true))⟩, ⟨(some 37), (.pick (.tmp 34) (.tmp 36) (.const (.c (.val (.bool false))))), none⟩])
 (.cond (.tmp 37) (.seq (.region [⟨(some 38), (.mov (.tmp 1)), none⟩, ⟨(some 39), (.call 77 [(.tmp 38)]), none⟩, ⟨(some 4), (.mov (.tmp 39)), none⟩])
 .ret) .skip))
 (.seq (.seq (.region [⟨(some 40), (.mov (.tmp 0)), none⟩, ⟨(some 41), (.bin .eql (.tmp 40) (.const (.c (.val (.int .i64 6))))), none⟩, ⟨(some 42), (.mov (.tmp 41)), none⟩, ⟨(some 43), (.mov (.tmp 1)), (some (42, true))⟩, ⟨(some 44), (.bin .gtr (.tmp 43) (.const (.c (.val (.int .i64 0))))), (some (42, true))⟩, ⟨(some 45), (.pick (.tmp 42) (.tmp 44) (.const (.c (.val (.bool false))))), none⟩, ⟨(some 46), (.mov (.tmp 45)), none⟩, ⟨(some 47), (.mov (.tmp 1)), (some (46, true))⟩, ⟨(some 48), (.bin .lss (.tmp 47) (.const (.c (.val (.int .i64 4000))))), (some (46, true))⟩, ⟨(some 49), (.pick (.tmp 46) (.tmp 48) (.const (.c (.val (.bool false))))), none⟩])
 (.cond (.tmp 49) (.seq (.region [⟨(some 50), (.mov (.tmp 1)), none⟩, ⟨(some 51), (.call 77 [(.tmp 50)]), none⟩, ⟨(some 52), (.call 76 [(.tmp 51)]), none⟩, ⟨(some 4), (.mov (.tmp 52)), none⟩])
 .ret) .skip))
 (.seq (.region [⟨(some 53), (.mov (.tmp 1)), none⟩, ⟨(some 54), (.call 78 [(.tmp 53)]), none⟩, ⟨(some 4), (.mov (.tmp 54)), none⟩])
 .ret))))))))⟩
set_option maxRecDepth 100000 in
theorem c33 : compFunc Tryd.prog 33 = some a33 := by kernel_rfl
def clerestoryref2_MarkOf_post (r : (List UInt8)) : AV → Heap → Nat → Prop := fun v h' n' => v = (S r) ∧ (h' = (fun _ => none)) ∧ n' = 0
/-- clerestory/clerestoryref2.MarkOf -/
noncomputable def clerestoryref2_MarkOf (kind : Int) (n_ : Int) : Option (List UInt8) :=
  if decide (kind = 0) then
    some []
  else
    if decide (kind = 1) then
      some (byts ([226, 128, 162] : List Int))
    else
      if ((decide (kind = 3)) && (decide (0 < n_))) then
        (clerestoryref2_LettersOf n_).bind fun r_ =>
        some r_
      else
        if ((decide (kind = 4)) && (decide (0 < n_))) then
          (clerestoryref2_LettersOf n_).bind fun r_1 =>
          (clerestoryref2_upper r_1).bind fun r_2 =>
          some r_2
        else
          if (((decide (kind = 5)) && (decide (0 < n_))) && (decide (n_ < 4000))) then
            (clerestoryref2_RomanOf n_).bind fun r_3 =>
            some r_3
          else
            if (((decide (kind = 6)) && (decide (0 < n_))) && (decide (n_ < 4000))) then
              (clerestoryref2_RomanOf n_).bind fun r_4 =>
              (clerestoryref2_upper r_4).bind fun r_5 =>
              some r_5
            else
              (clerestoryref2_Signed n_).bind fun r_6 =>
              some r_6
theorem clerestoryref2_MarkOf_ok {kind : Int} {n_ : Int} {r : (List UInt8)} (h : clerestoryref2_MarkOf kind n_ = some r) : CPure Tryd.prog GG 33 [(I kind), (I n_)] (S r) := by
  refine acalls_of_sv hmix c33 (R := clerestoryref2_MarkOf_post r) ?_
  unfold clerestoryref2_MarkOf at h
  refine Sv.seq ?_
  refine Sv.region ?_
  refine un (a1 rfl ?_)
  refine dnil ?_
  refine Sv.seq ?_
  refine Sv.seq ?_
  refine Sv.region ?_
  refine un (a1 rfl ?_)
  refine un (a1 (v := (B (decide (kind = 0)))) rfl ?_)
  refine dnil ?_
  refine Sv.cond (b := decide (kind = 0)) rfl (fun hc1 => ?_) (fun hc1 => ?_)
  · replace h := ifT hc1 h
    refine Sv.seq ?_
    refine Sv.region ?_
    refine un (a1 rfl ?_)
    refine dnil ?_
    refine Sv.ret ?_
    replace h := Option.some.inj h
    subst h
    exact ⟨_, .refl _, _, rfl, ⟨upd (fun _ => none) 0 (some (S [])), (fun _ => none), 0⟩, (S []), weak_canon [] rfl List.nodup_nil (Nat.le_refl _) (fun b h => absurd h (Nat.not_lt_zero _)) (.cons rfl (avAs_free rfl) .nil) .nil, rfl, rfl, rfl, rfl⟩
  · replace h := ifF hc1 h
    refine Sv.skip ?_
    refine Sv.seq ?_
    refine Sv.seq ?_
    refine Sv.region ?_
    refine un (a1 rfl ?_)
    refine un (a1 (v := (B (decide (kind = 1)))) rfl ?_)
    refine dnil ?_
    refine Sv.cond (b := decide (kind = 1)) rfl (fun hc2 => ?_) (fun hc2 => ?_)
    · replace h := ifT hc2 h
      refine Sv.seq ?_
      refine Sv.region ?_
      refine un (a2v (v := (lstV false 0 1 ([226, 128, 162] : List Int).length)) (h' := upd _ 0 (lstB false 1 (([226, 128, 162] : List Int).map (eK .u8)))) (n' := 1) rfl rfl (fun h => by cases h) ?_)
      refine un (a1 (v := (S (byts ([226, 128, 162] : List Int)))) (s_ofBytes (xs := ([226, 128, 162] : List Int)) rfl (slc_lst rfl (List.length_map _).symm (map_nil_of (fun h => by cases h)))) ?_)
      refine un (a1 rfl ?_)
      refine dnil ?_
      refine Sv.ret ?_
      replace h := Option.some.inj h
      subst h
      exact ⟨_, .refl _, _, rfl, ⟨upd (fun _ => none) 0 (some (S (byts ([226, 128, 162] : List Int)))), (fun _ => none), 0⟩, (S (byts ([226, 128, 162] : List Int))), weak_canon [] rfl List.nodup_nil (Nat.le_refl _) (fun b h => absurd h (Nat.not_lt_zero _)) (.cons rfl (avAs_free rfl) .nil) .nil, rfl, rfl, rfl, rfl⟩
    · replace h := ifF hc2 h
      refine Sv.skip ?_
      refine Sv.seq ?_
      refine Sv.seq ?_
      refine Sv.region ?_
      refine un (a1 rfl ?_)
      refine un (a1 (v := (B (decide (kind = 3)))) rfl ?_)
      refine un (a1 rfl ?_)
      refine gjoin 3 (d := 16) (v := (B ((decide (kind = 3)) && (decide (0 < n_))))) (fun X hX => ?_) ?_
      · refine split2 (fun hc3 => ?_) (fun hc3 => ?_)
        · refine gt rfl (a1 rfl ?_)
          refine gt rfl (a1 (v := (B (decide (0 < n_)))) rfl ?_)
          refine un (a1 (v := (B (decide (0 < n_)))) rfl ?_)
          refine dnil ?_
          exact hX _ (.putEq (by rw [hc3]; rfl) (.skip _ _ (.skip _ _ (.putEq (by rw [hc3]) (.refl _)) rfl) rfl))
        · refine gs rfl rfl ?_
          refine gs rfl rfl ?_
          refine un (a1 (v := (B false)) rfl ?_)
          refine dnil ?_
          exact hX _ (.putEq (by rw [hc3]; rfl) (.skip _ _ (.skip _ _ (.putEq (by rw [hc3]) (.refl _)) rfl) rfl))
      refine dnil ?_
      refine Sv.cond (b := ((decide (kind = 3)) && (decide (0 < n_)))) rfl (fun hc4 => ?_) (fun hc4 => ?_)
      · replace h := ifT hc4 h
        refine Sv.seq ?_
        refine Sv.region ?_
        refine un (a1 rfl ?_)
        obtain ⟨r_, hr1, h⟩ := bnd h
        refine un (ac_pure (clerestoryref2_LettersOf_ok hr1) rfl rfl rfl ?_)
        refine un (a1 rfl ?_)
        refine dnil ?_
        refine Sv.ret ?_
        replace h := Option.some.inj h
        subst h
        exact ⟨_, .refl _, _, rfl, ⟨upd (fun _ => none) 0 (some (S r_)), (fun _ => none), 0⟩, (S r_), weak_canon [] rfl List.nodup_nil (Nat.le_refl _) (fun b h => absurd h (Nat.not_lt_zero _)) (.cons rfl (avAs_free rfl) .nil) .nil, rfl, rfl, rfl, rfl⟩
      · replace h := ifF hc4 h
        refine Sv.skip ?_
        refine Sv.seq ?_
        refine Sv.seq ?_
        refine Sv.region ?_
        refine un (a1 rfl ?_)
        refine un (a1 (v := (B (decide (kind = 4)))) rfl ?_)
        refine un (a1 rfl ?_)
        refine gjoin 3 (d := 24) (v := (B ((decide (kind = 4)) && (decide (0 < n_))))) (fun X hX => ?_) ?_
        · refine split2 (fun hc5 => ?_) (fun hc5 => ?_)
          · refine gt rfl (a1 rfl ?_)
            refine gt rfl (a1 (v := (B (decide (0 < n_)))) rfl ?_)
            refine un (a1 (v := (B (decide (0 < n_)))) rfl ?_)
            refine dnil ?_
            exact hX _ (.putEq (by rw [hc5]; rfl) (.skip _ _ (.skip _ _ (.putEq (by rw [hc5]) (.refl _)) rfl) rfl))
          · refine gs rfl rfl ?_
            refine gs rfl rfl ?_
            refine un (a1 (v := (B false)) rfl ?_)
            refine dnil ?_
            exact hX _ (.putEq (by rw [hc5]; rfl) (.skip _ _ (.skip _ _ (.putEq (by rw [hc5]) (.refl _)) rfl) rfl))
        refine dnil ?_
        refine Sv.cond (b := ((decide (kind = 4)) && (decide (0 < n_)))) rfl (fun hc6 => ?_) (fun hc6 => ?_)
        · replace h := ifT hc6 h
          refine Sv.seq ?_
          refine Sv.region ?_
          refine un (a1 rfl ?_)
          obtain ⟨r_1, hr2, h⟩ := bnd h
          refine un (ac_pure (clerestoryref2_LettersOf_ok hr2) rfl rfl rfl ?_)
          obtain ⟨r_2, hr3, h⟩ := bnd h
          refine un (ac_pure (clerestoryref2_upper_ok hr3) rfl rfl rfl ?_)
          refine un (a1 rfl ?_)
          refine dnil ?_
          refine Sv.ret ?_
          replace h := Option.some.inj h
          subst h
          exact ⟨_, .refl _, _, rfl, ⟨upd (fun _ => none) 0 (some (S r_2)), (fun _ => none), 0⟩, (S r_2), weak_canon [] rfl List.nodup_nil (Nat.le_refl _) (fun b h => absurd h (Nat.not_lt_zero _)) (.cons rfl (avAs_free rfl) .nil) .nil, rfl, rfl, rfl, rfl⟩
        · replace h := ifF hc6 h
          refine Sv.skip ?_
          refine Sv.seq ?_
          refine Sv.seq ?_
          refine Sv.region ?_
          refine un (a1 rfl ?_)
          refine un (a1 (v := (B (decide (kind = 5)))) rfl ?_)
          refine un (a1 rfl ?_)
          refine gjoin 3 (d := 33) (v := (B ((decide (kind = 5)) && (decide (0 < n_))))) (fun X hX => ?_) ?_
          · refine split2 (fun hc7 => ?_) (fun hc7 => ?_)
            · refine gt rfl (a1 rfl ?_)
              refine gt rfl (a1 (v := (B (decide (0 < n_)))) rfl ?_)
              refine un (a1 (v := (B (decide (0 < n_)))) rfl ?_)
              refine dnil ?_
              exact hX _ (.putEq (by rw [hc7]; rfl) (.skip _ _ (.skip _ _ (.putEq (by rw [hc7]) (.refl _)) rfl) rfl))
            · refine gs rfl rfl ?_
              refine gs rfl rfl ?_
              refine un (a1 (v := (B false)) rfl ?_)
              refine dnil ?_
              exact hX _ (.putEq (by rw [hc7]; rfl) (.skip _ _ (.skip _ _ (.putEq (by rw [hc7]) (.refl _)) rfl) rfl))
          refine un (a1 rfl ?_)
          refine gjoin 3 (d := 37) (v := (B (((decide (kind = 5)) && (decide (0 < n_))) && (decide (n_ < 4000))))) (fun X hX => ?_) ?_
          · refine split2 (fun hc8 => ?_) (fun hc8 => ?_)
            · refine gt rfl (a1 rfl ?_)
              refine gt rfl (a1 (v := (B (decide (n_ < 4000)))) rfl ?_)
              refine un (a1 (v := (B (decide (n_ < 4000)))) rfl ?_)
              refine dnil ?_
              exact hX _ (.putEq (by rw [hc8]; rfl) (.skip _ _ (.skip _ _ (.putEq (by rw [hc8]) (.refl _)) rfl) rfl))
            · refine gs rfl rfl ?_
              refine gs rfl rfl ?_
              refine un (a1 (v := (B false)) rfl ?_)
              refine dnil ?_
              exact hX _ (.putEq (by rw [hc8]; rfl) (.skip _ _ (.skip _ _ (.putEq (by rw [hc8]) (.refl _)) rfl) rfl))
          refine dnil ?_
          refine Sv.cond (b := (((decide (kind = 5)) && (decide (0 < n_))) && (decide (n_ < 4000)))) rfl (fun hc9 => ?_) (fun hc9 => ?_)
          · replace h := ifT hc9 h
            refine Sv.seq ?_
            refine Sv.region ?_
            refine un (a1 rfl ?_)
            obtain ⟨r_3, hr4, h⟩ := bnd h
            refine un (ac_pure (clerestoryref2_RomanOf_ok hr4) rfl rfl rfl ?_)
            refine un (a1 rfl ?_)
            refine dnil ?_
            refine Sv.ret ?_
            replace h := Option.some.inj h
            subst h
            exact ⟨_, .refl _, _, rfl, ⟨upd (fun _ => none) 0 (some (S r_3)), (fun _ => none), 0⟩, (S r_3), weak_canon [] rfl List.nodup_nil (Nat.le_refl _) (fun b h => absurd h (Nat.not_lt_zero _)) (.cons rfl (avAs_free rfl) .nil) .nil, rfl, rfl, rfl, rfl⟩
          · replace h := ifF hc9 h
            refine Sv.skip ?_
            refine Sv.seq ?_
            refine Sv.seq ?_
            refine Sv.region ?_
            refine un (a1 rfl ?_)
            refine un (a1 (v := (B (decide (kind = 6)))) rfl ?_)
            refine un (a1 rfl ?_)
            refine gjoin 3 (d := 45) (v := (B ((decide (kind = 6)) && (decide (0 < n_))))) (fun X hX => ?_) ?_
            · refine split2 (fun hc10 => ?_) (fun hc10 => ?_)
              · refine gt rfl (a1 rfl ?_)
                refine gt rfl (a1 (v := (B (decide (0 < n_)))) rfl ?_)
                refine un (a1 (v := (B (decide (0 < n_)))) rfl ?_)
                refine dnil ?_
                exact hX _ (.putEq (by rw [hc10]; rfl) (.skip _ _ (.skip _ _ (.putEq (by rw [hc10]) (.refl _)) rfl) rfl))
              · refine gs rfl rfl ?_
                refine gs rfl rfl ?_
                refine un (a1 (v := (B false)) rfl ?_)
                refine dnil ?_
                exact hX _ (.putEq (by rw [hc10]; rfl) (.skip _ _ (.skip _ _ (.putEq (by rw [hc10]) (.refl _)) rfl) rfl))
            refine un (a1 rfl ?_)
            refine gjoin 3 (d := 49) (v := (B (((decide (kind = 6)) && (decide (0 < n_))) && (decide (n_ < 4000))))) (fun X hX => ?_) ?_
            · refine split2 (fun hc11 => ?_) (fun hc11 => ?_)
              · refine gt rfl (a1 rfl ?_)
                refine gt rfl (a1 (v := (B (decide (n_ < 4000)))) rfl ?_)
                refine un (a1 (v := (B (decide (n_ < 4000)))) rfl ?_)
                refine dnil ?_
                exact hX _ (.putEq (by rw [hc11]; rfl) (.skip _ _ (.skip _ _ (.putEq (by rw [hc11]) (.refl _)) rfl) rfl))
              · refine gs rfl rfl ?_
                refine gs rfl rfl ?_
                refine un (a1 (v := (B false)) rfl ?_)
                refine dnil ?_
                exact hX _ (.putEq (by rw [hc11]; rfl) (.skip _ _ (.skip _ _ (.putEq (by rw [hc11]) (.refl _)) rfl) rfl))
            refine dnil ?_
            refine Sv.cond (b := (((decide (kind = 6)) && (decide (0 < n_))) && (decide (n_ < 4000)))) rfl (fun hc12 => ?_) (fun hc12 => ?_)
            · replace h := ifT hc12 h
              refine Sv.seq ?_
              refine Sv.region ?_
              refine un (a1 rfl ?_)
              obtain ⟨r_4, hr5, h⟩ := bnd h
              refine un (ac_pure (clerestoryref2_RomanOf_ok hr5) rfl rfl rfl ?_)
              obtain ⟨r_5, hr6, h⟩ := bnd h
              refine un (ac_pure (clerestoryref2_upper_ok hr6) rfl rfl rfl ?_)
              refine un (a1 rfl ?_)
              refine dnil ?_
              refine Sv.ret ?_
              replace h := Option.some.inj h
              subst h
              exact ⟨_, .refl _, _, rfl, ⟨upd (fun _ => none) 0 (some (S r_5)), (fun _ => none), 0⟩, (S r_5), weak_canon [] rfl List.nodup_nil (Nat.le_refl _) (fun b h => absurd h (Nat.not_lt_zero _)) (.cons rfl (avAs_free rfl) .nil) .nil, rfl, rfl, rfl, rfl⟩
            · replace h := ifF hc12 h
              refine Sv.skip ?_
              refine Sv.seq ?_
              refine Sv.region ?_
              refine un (a1 rfl ?_)
              obtain ⟨r_6, hr7, h⟩ := bnd h
              refine un (ac_pure (clerestoryref2_Signed_ok hr7) rfl rfl rfl ?_)
              refine un (a1 rfl ?_)
              refine dnil ?_
              refine Sv.ret ?_
              replace h := Option.some.inj h
              subst h
              exact ⟨_, .refl _, _, rfl, ⟨upd (fun _ => none) 0 (some (S r_6)), (fun _ => none), 0⟩, (S r_6), weak_canon [] rfl List.nodup_nil (Nat.le_refl _) (fun b h => absurd h (Nat.not_lt_zero _)) (.cons rfl (avAs_free rfl) .nil) .nil, rfl, rfl, rfl, rfl⟩
def a8_c0 : ACode := .ret
def a8 : AFunc := ⟨2, [(.tmp 4)], (.seq (.region [⟨(some 4), (.mov (.const (.c (.val (.bool false))))), none⟩])
 (.seq (.region [⟨(some 8), (.call 31 []), none⟩, ⟨(some 5), (.mov (.tmp 8)), none⟩])
 (.seq (.region [⟨(some 10), (.mov (.tmp 0)), none⟩, ⟨(some 11), (.mov (.tmp 1)), none⟩, ⟨(some 12), (.call 32 [(.tmp 10), (.tmp 11)]), none⟩, ⟨(some 9), (.mov (.tmp 12)), none⟩, ⟨(some 13), (.ext (.tmp 9) 0), none⟩, ⟨(some 14), (.ext (.tmp 9) 1), none⟩, ⟨(some 6), (.mov (.tmp 13)), none⟩, ⟨(some 7), (.mov (.tmp 14)), none⟩])
 (.seq (.seq (.region [⟨(some 15), (.mov (.tmp 0)), none⟩, ⟨(some 16), (.bin .lss (.tmp 15) (.const (.c (.val (.int .i64 0))))), none⟩, ⟨(some 17), (.mov (.tmp 16)), none⟩, ⟨(some 18), (.mov (.tmp 0)), (some (17, false))⟩, ⟨(some 19), (.bin .gtr (.tmp 18) (.const (.c (.val (.int .i64 6))))), (some (17, false))⟩, ⟨(some 20), (.pick (.tmp 17) (.const (.c (.val (.bool true)))) (.tmp 19)), none⟩])
 (.cond (.tmp 20) (.seq (.region [⟨(some 21), (.mov (.tmp 5)), none⟩, ⟨(some 22), (.mov (.tmp 21)), none⟩, ⟨(some 23), (.mov (.tmp 6)), (some (22, true))⟩, ⟨(some 24), (.bin .eql (.tmp 23) (.const (.c (.str [])))), (some (22, true))⟩, ⟨(some 25), (.pick (.tmp 22) (.tmp 24) (.const (.c (.val (.bool false))))), none⟩, ⟨(some 26), (.mov (.tmp 25)), none⟩, ⟨(some 27), (.mov (.tmp 7)), (some (26, true))⟩, ⟨(some 28), (.bin .eql (.tmp 27) (.const (.c (.val (.int .i64 7))))), (some (26, true))⟩, ⟨(some 29), (.pick (.tmp 26) (.tmp 28) (.const (.c (.val (.bool false))))), none⟩, ⟨(some 4), (.mov (.tmp 29)), none⟩])
 .ret) .skip))
 (.seq (.seq (.region [⟨(some 30), (.mov (.tmp 1)), none⟩, ⟨(some 31), (.bin .lss (.tmp 30) (.const (.c (.val (.int .i64 (-1000000)))))), none⟩, ⟨(some 32), (.mov (.tmp 31)), none⟩, ⟨(some 33), (.mov (.tmp 1)), (some (32, false))⟩, ⟨(some 34), (.bin .gtr (.tmp 33) (.const (.c (.val (.int .i64 1000000))))), (some (32, false))⟩, ⟨(some 35), (.pick (.tmp 32) (.const (.c (.val (.bool true)))) (.tmp 34)), none⟩])
 (.cond (.tmp 35) (.seq (.region [⟨(some 36), (.mov (.tmp 5)), none⟩, ⟨(some 37), (.mov (.tmp 36)), none⟩, ⟨(some 38), (.mov (.tmp 6)), (some (37, true))⟩, ⟨(some 39), (.bin .eql (.tmp 38) (.const (.c (.str [])))), (some (37, true))⟩, ⟨(some 40), (.pick (.tmp 37) (.tmp 39) (.const (.c (.val (.bool false))))), none⟩, ⟨(some 41), (.mov (.tmp 40)), none⟩, ⟨(some 42), (.mov (.tmp 7)), (some (41, true))⟩, ⟨(some 43), (.bin .eql (.tmp 42) (.const (.c (.val (.int .i64 1))))), (some (41, true))⟩, ⟨(some 44), (.pick (.tmp 41) (.tmp 43) (.const (.c (.val (.bool false))))), none⟩, ⟨(some 4), (.mov (.tmp 44)), none⟩])
 .ret) .skip))
 (.seq (.region [⟨(some 45), (.mov (.tmp 5)), none⟩, ⟨(some 46), (.mov (.tmp 45)), none⟩, ⟨(some 47), (.mov (.tmp 7)), (some (46, true))⟩, ⟨(some 48), (.bin .eql (.tmp 47) (.const (.c (.val (.int .i64 0))))), (some (46, true))⟩, ⟨(some 49), (.pick (.tmp 46) (.tmp 48) (.const (.c (.val (.bool false))))), none⟩, ⟨(some 50), (.mov (.tmp 49)), none⟩, ⟨(some 51), (.mov (.tmp 6)), (some (50, true))⟩, ⟨(some 52), (.mov (.tmp 0)), (some (50, true))⟩, ⟨(some 53), (.mov (.tmp 1)), (some (50, true))⟩, ⟨(some 54), (.call 33 [(.tmp 52), (.tmp 53)]), (some (50, true))⟩, ⟨(some 55), (.bin .eql (.tmp 51) (.tmp 54)), (some (50, true))⟩, ⟨(some 56), (.pick (.tmp 50) (.tmp 55) (.const (.c (.val (.bool false))))), none⟩, ⟨(some 4), (.mov (.tmp 56)), none⟩])
 a8_c0))))))⟩
set_option maxRecDepth 100000 in
theorem c8 : compFunc Tryd.prog 8 = some a8 := by kernel_rfl
def clerestorylaw2_CountMarks_post (r : Bool) : AV → Heap → Nat → Prop := fun v h' n' => v = (B r) ∧ (h' = (fun _ => none)) ∧ n' = 0
noncomputable def clerestorylaw2_CountMarks_j1 (v4 : Bool) : Option Bool :=
  some v4
theorem clerestorylaw2_CountMarks_j1_ok {v4 : Bool} {o : Bool} (h : clerestorylaw2_CountMarks_j1 v4 = some o) :
    Sv Tryd.prog GG 0 a8_c0 (Ends a8.results 0 (clerestorylaw2_CountMarks_post o)) ⟨(upd (fun _ => none) 4 (some (B v4))), (fun _ => none), 0⟩ := by
  unfold clerestorylaw2_CountMarks_j1 at h
  refine Sv.ret ?_
  replace h := Option.some.inj h
  subst h
  exact ⟨_, .refl _, _, rfl, ⟨upd (fun _ => none) 0 (some (B v4)), (fun _ => none), 0⟩, (B v4), weak_canon [] rfl List.nodup_nil (Nat.le_refl _) (fun b h => absurd h (Nat.not_lt_zero _)) (.cons rfl (avAs_free rfl) .nil) .nil, rfl, rfl, rfl, rfl⟩
/-- clerestory/clerestorylaw2.CountMarks -/
noncomputable def clerestorylaw2_CountMarks (kind : Int) (n_ : Int) : Option Bool :=
  (clerestorylaw2_fourth).bind fun r_ =>
  (count_Mark kind n_).bind fun r_1 =>
  if ((decide (kind < 0)) || (decide (6 < kind))) then
    some ((r_ && (decide (r_1.1 = []))) && (decide (r_1.2 = 7)))
  else
    if ((decide (n_ < (-1000000))) || (decide (1000000 < n_))) then
      some ((r_ && (decide (r_1.1 = []))) && (decide (r_1.2 = 1)))
    else
      if (r_ && (decide (r_1.2 = 0))) then
        (clerestoryref2_MarkOf kind n_).bind fun r_2 =>
        clerestorylaw2_CountMarks_j1 (decide (r_1.1 = r_2))
      else
        clerestorylaw2_CountMarks_j1 false
theorem clerestorylaw2_CountMarks_ok {kind : Int} {n_ : Int} {r : Bool} (h : clerestorylaw2_CountMarks kind n_ = some r) : CPure Tryd.prog GG 8 [(I kind), (I n_)] (B r) := by
  refine acalls_of_sv hmix c8 (R := clerestorylaw2_CountMarks_post r) ?_
  unfold clerestorylaw2_CountMarks at h
  refine Sv.seq ?_
  refine Sv.region ?_
  refine un (a1 rfl ?_)
  refine dnil ?_
  refine Sv.seq ?_
  refine Sv.region ?_
  obtain ⟨r_, hr1, h⟩ := bnd h
  refine un (ac_pure (clerestorylaw2_fourth_ok hr1) rfl rfl rfl ?_)
  refine un (a1 rfl ?_)
  refine dnil ?_
  refine Sv.seq ?_
  refine Sv.region ?_
  refine un (a1 rfl ?_)
  refine un (a1 rfl ?_)
  obtain ⟨r_1, hr2, h⟩ := bnd h
  refine un (ac_pure (count_Mark_ok hr2) rfl rfl rfl ?_)
  refine un (a1 rfl ?_)
  refine un (a1 (v := (S r_1.1)) rfl ?_)
  refine un (a1 (v := (I r_1.2)) rfl ?_)
  refine un (a1 rfl ?_)
  refine un (a1 rfl ?_)
  refine dnil ?_
  refine Sv.seq ?_
  refine Sv.seq ?_
  refine Sv.region ?_
  refine un (a1 rfl ?_)
  refine un (a1 (v := (B (decide (kind < 0)))) rfl ?_)
  refine un (a1 rfl ?_)
  refine gjoin 3 (d := 20) (v := (B ((decide (kind < 0)) || (decide (6 < kind))))) (fun X hX => ?_) ?_
  · refine split2 (fun hc1 => ?_) (fun hc1 => ?_)
    · refine gs rfl rfl ?_
      refine gs rfl rfl ?_
      refine un (a1 (v := (B true)) rfl ?_)
      refine dnil ?_
      exact hX _ (.putEq (by rw [hc1]; rfl) (.skip _ _ (.skip _ _ (.putEq (by rw [hc1]) (.refl _)) rfl) rfl))
    · refine gt rfl (a1 rfl ?_)
      refine gt rfl (a1 (v := (B (decide (6 < kind)))) rfl ?_)
      refine un (a1 (v := (B (decide (6 < kind)))) rfl ?_)
      refine dnil ?_
      exact hX _ (.putEq (by rw [hc1]; rfl) (.skip _ _ (.skip _ _ (.putEq (by rw [hc1]) (.refl _)) rfl) rfl))
  refine dnil ?_
  refine Sv.cond (b := ((decide (kind < 0)) || (decide (6 < kind)))) rfl (fun hc2 => ?_) (fun hc2 => ?_)
  · replace h := ifT hc2 h
    refine Sv.seq ?_
    refine Sv.region ?_
    refine un (a1 rfl ?_)
    refine un (a1 rfl ?_)
    refine gjoin 3 (d := 25) (v := (B (r_ && (decide (r_1.1 = []))))) (fun X hX => ?_) ?_
    · refine split2 (fun hc3 => ?_) (fun hc3 => ?_)
      · refine gt rfl (a1 rfl ?_)
        refine gt rfl (a1 (v := (B (decide (r_1.1 = [])))) rfl ?_)
        refine un (a1 (v := (B (decide (r_1.1 = [])))) rfl ?_)
        refine dnil ?_
        exact hX _ (.putEq (by rw [hc3]; rfl) (.skip _ _ (.skip _ _ (.putEq (by rw [hc3]) (.refl _)) rfl) rfl))
      · refine gs rfl rfl ?_
        refine gs rfl rfl ?_
        refine un (a1 (v := (B false)) rfl ?_)
        refine dnil ?_
        exact hX _ (.putEq (by rw [hc3]; rfl) (.skip _ _ (.skip _ _ (.putEq (by rw [hc3]) (.refl _)) rfl) rfl))
    refine un (a1 rfl ?_)
    refine gjoin 3 (d := 29) (v := (B ((r_ && (decide (r_1.1 = []))) && (decide (r_1.2 = 7))))) (fun X hX => ?_) ?_
    · refine split2 (fun hc4 => ?_) (fun hc4 => ?_)
      · refine gt rfl (a1 rfl ?_)
        refine gt rfl (a1 (v := (B (decide (r_1.2 = 7)))) rfl ?_)
        refine un (a1 (v := (B (decide (r_1.2 = 7)))) rfl ?_)
        refine dnil ?_
        exact hX _ (.putEq (by rw [hc4]; rfl) (.skip _ _ (.skip _ _ (.putEq (by rw [hc4]) (.refl _)) rfl) rfl))
      · refine gs rfl rfl ?_
        refine gs rfl rfl ?_
        refine un (a1 (v := (B false)) rfl ?_)
        refine dnil ?_
        exact hX _ (.putEq (by rw [hc4]; rfl) (.skip _ _ (.skip _ _ (.putEq (by rw [hc4]) (.refl _)) rfl) rfl))
    refine un (a1 rfl ?_)
    refine dnil ?_
    refine Sv.ret ?_
    replace h := Option.some.inj h
    subst h
    exact ⟨_, .refl _, _, rfl, ⟨upd (fun _ => none) 0 (some (B ((r_ && (decide (r_1.1 = []))) && (decide (r_1.2 = 7))))), (fun _ => none), 0⟩, (B ((r_ && (decide (r_1.1 = []))) && (decide (r_1.2 = 7)))), weak_canon [] rfl List.nodup_nil (Nat.le_refl _) (fun b h => absurd h (Nat.not_lt_zero _)) (.cons rfl (avAs_free rfl) .nil) .nil, rfl, rfl, rfl, rfl⟩
  · replace h := ifF hc2 h
    refine Sv.skip ?_
    refine Sv.seq ?_
    refine Sv.seq ?_
    refine Sv.region ?_
    refine un (a1 rfl ?_)
    refine un (a1 (v := (B (decide (n_ < (-1000000))))) rfl ?_)
    refine un (a1 rfl ?_)
    refine gjoin 3 (d := 35) (v := (B ((decide (n_ < (-1000000))) || (decide (1000000 < n_))))) (fun X hX => ?_) ?_
    · refine split2 (fun hc5 => ?_) (fun hc5 => ?_)
      · refine gs rfl rfl ?_
        refine gs rfl rfl ?_
        refine un (a1 (v := (B true)) rfl ?_)
        refine dnil ?_
        exact hX _ (.putEq (by rw [hc5]; rfl) (.skip _ _ (.skip _ _ (.putEq (by rw [hc5]) (.refl _)) rfl) rfl))
      · refine gt rfl (a1 rfl ?_)
        refine gt rfl (a1 (v := (B (decide (1000000 < n_)))) rfl ?_)
        refine un (a1 (v := (B (decide (1000000 < n_)))) rfl ?_)
        refine dnil ?_
        exact hX _ (.putEq (by rw [hc5]; rfl) (.skip _ _ (.skip _ _ (.putEq (by rw [hc5]) (.refl _)) rfl) rfl))
    refine dnil ?_
    refine Sv.cond (b := ((decide (n_ < (-1000000))) || (decide (1000000 < n_)))) rfl (fun hc6 => ?_) (fun hc6 => ?_)
    · replace h := ifT hc6 h
      refine Sv.seq ?_
      refine Sv.region ?_
      refine un (a1 rfl ?_)
      refine un (a1 rfl ?_)
      refine gjoin 3 (d := 40) (v := (B (r_ && (decide (r_1.1 = []))))) (fun X hX => ?_) ?_
      · refine split2 (fun hc7 => ?_) (fun hc7 => ?_)
        · refine gt rfl (a1 rfl ?_)
          refine gt rfl (a1 (v := (B (decide (r_1.1 = [])))) rfl ?_)
          refine un (a1 (v := (B (decide (r_1.1 = [])))) rfl ?_)
          refine dnil ?_
          exact hX _ (.putEq (by rw [hc7]; rfl) (.skip _ _ (.skip _ _ (.putEq (by rw [hc7]) (.refl _)) rfl) rfl))
        · refine gs rfl rfl ?_
          refine gs rfl rfl ?_
          refine un (a1 (v := (B false)) rfl ?_)
          refine dnil ?_
          exact hX _ (.putEq (by rw [hc7]; rfl) (.skip _ _ (.skip _ _ (.putEq (by rw [hc7]) (.refl _)) rfl) rfl))
      refine un (a1 rfl ?_)
      refine gjoin 3 (d := 44) (v := (B ((r_ && (decide (r_1.1 = []))) && (decide (r_1.2 = 1))))) (fun X hX => ?_) ?_
      · refine split2 (fun hc8 => ?_) (fun hc8 => ?_)
        · refine gt rfl (a1 rfl ?_)
          refine gt rfl (a1 (v := (B (decide (r_1.2 = 1)))) rfl ?_)
          refine un (a1 (v := (B (decide (r_1.2 = 1)))) rfl ?_)
          refine dnil ?_
          exact hX _ (.putEq (by rw [hc8]; rfl) (.skip _ _ (.skip _ _ (.putEq (by rw [hc8]) (.refl _)) rfl) rfl))
        · refine gs rfl rfl ?_
          refine gs rfl rfl ?_
          refine un (a1 (v := (B false)) rfl ?_)
          refine dnil ?_
          exact hX _ (.putEq (by rw [hc8]; rfl) (.skip _ _ (.skip _ _ (.putEq (by rw [hc8]) (.refl _)) rfl) rfl))
      refine un (a1 rfl ?_)
      refine dnil ?_
      refine Sv.ret ?_
      replace h := Option.some.inj h
      subst h
      exact ⟨_, .refl _, _, rfl, ⟨upd (fun _ => none) 0 (some (B ((r_ && (decide (r_1.1 = []))) && (decide (r_1.2 = 1))))), (fun _ => none), 0⟩, (B ((r_ && (decide (r_1.1 = []))) && (decide (r_1.2 = 1)))), weak_canon [] rfl List.nodup_nil (Nat.le_refl _) (fun b h => absurd h (Nat.not_lt_zero _)) (.cons rfl (avAs_free rfl) .nil) .nil, rfl, rfl, rfl, rfl⟩
    · replace h := ifF hc6 h
      refine Sv.skip ?_
      refine Sv.seq ?_
      refine Sv.region ?_
      refine un (a1 rfl ?_)
      refine un (a1 rfl ?_)
      refine gjoin 3 (d := 49) (v := (B (r_ && (decide (r_1.2 = 0))))) (fun X hX => ?_) ?_
      · refine split2 (fun hc9 => ?_) (fun hc9 => ?_)
        · refine gt rfl (a1 rfl ?_)
          refine gt rfl (a1 (v := (B (decide (r_1.2 = 0)))) rfl ?_)
          refine un (a1 (v := (B (decide (r_1.2 = 0)))) rfl ?_)
          refine dnil ?_
          exact hX _ (.putEq (by rw [hc9]; rfl) (.skip _ _ (.skip _ _ (.putEq (by rw [hc9]) (.refl _)) rfl) rfl))
        · refine gs rfl rfl ?_
          refine gs rfl rfl ?_
          refine un (a1 (v := (B false)) rfl ?_)
          refine dnil ?_
          exact hX _ (.putEq (by rw [hc9]; rfl) (.skip _ _ (.skip _ _ (.putEq (by rw [hc9]) (.refl _)) rfl) rfl))
      refine un (a1 rfl ?_)
      refine split2 (fun hc10 => ?_) (fun hc10 => ?_)
      · replace h := ifT hc10 h
        refine gt rfl (a1 rfl ?_)
        refine gt rfl (a1 rfl ?_)
        refine gt rfl (a1 rfl ?_)
        obtain ⟨r_2, hr3, h⟩ := bnd h
        refine gt rfl (ac_pure (clerestoryref2_MarkOf_ok hr3) rfl rfl rfl ?_)
        refine gt rfl (a1 (v := (B (decide (r_1.1 = r_2)))) rfl ?_)
        refine un (a1 (v := (B (decide (r_1.1 = r_2)))) rfl ?_)
        refine un (a1 rfl ?_)
        refine dnil ?_
        exact Sv.weak (weak_canon [] rfl (by decide) (by decide) (fun b h => absurd h (Nat.not_lt_zero _)) (.cons rfl (avAs_free rfl) .nil) .nil) (clerestorylaw2_CountMarks_j1_ok h)
      · replace h := ifF hc10 h
        refine gs rfl rfl ?_
        refine gs rfl rfl ?_
        refine gs rfl rfl ?_
        refine gs rfl rfl ?_
        refine gs rfl rfl ?_
        refine un (a1 (v := (B false)) rfl ?_)
        refine un (a1 rfl ?_)
        refine dnil ?_
        exact Sv.weak (weak_canon [] rfl (by decide) (by decide) (fun b h => absurd h (Nat.not_lt_zero _)) (.cons rfl (avAs_free rfl) .nil) .nil) (clerestorylaw2_CountMarks_j1_ok h)
end Go.Proofs.YtagfmlkihindaaaDoorBv
