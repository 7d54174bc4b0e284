/- Printed by a program of mine (bgen.py): plain functions, and the walks that show that the code comes to what they answer. -/
import Derived.Test.YtdmmjgjmfpalhaaDoorGTokenNumbers0
namespace Go.Proofs.YtdmmjgjmfpalhaaDoorBv
open Go
set_option linter.unusedVariables false
set_option maxRecDepth 100000
def a24_c0 : ACode := (.cond (.tmp 16) (.region [⟨(some 4), (.mov (.const (.c (.val (.int .i64 1))))), none⟩]) .skip)
def a24_c2 : ACode := (.cond (.tmp 27) .skip (.exit 0))
def a24_c3 : ACode := (.block 1 (.seq (.region [⟨(some 28), (.mov (.tmp 6)), none⟩, ⟨(some 29), (.bin .mul (.const (.c (.val (.int .i64 10)))) (.tmp 28)), none⟩, ⟨(some 30), (.mov (.tmp 0)), none⟩, ⟨(some 31), (.mov (.tmp 4)), none⟩, ⟨(some 32), (.idxS (.tmp 30) (.tmp 31)), none⟩, ⟨(some 33), (.bin .sub (.tmp 32) (.const (.c (.val (.int .u8 48))))), none⟩, ⟨(some 34), (.conv .i64 (.tmp 33)), none⟩, ⟨(some 35), (.bin .add (.tmp 29) (.tmp 34)), none⟩, ⟨(some 36), (.mm false [(.tmp 35), (.const (.c (.val (.int .i64 1000000000))))]), none⟩, ⟨(some 6), (.mov (.tmp 36)), none⟩])
 (.region [⟨(some 37), (.mov (.tmp 4)), none⟩, ⟨(some 38), (.bin .add (.tmp 37) (.const (.c (.val (.int .i64 1))))), none⟩, ⟨(some 4), (.mov (.tmp 38)), none⟩])))
def a24_c4 : ACode := (.seq (.seq (.region [⟨(some 18), (.mov (.tmp 4)), none⟩, ⟨(some 19), (.mov (.tmp 0)), none⟩, ⟨(some 20), (.lenS (.tmp 19)), none⟩, ⟨(some 21), (.bin .lss (.tmp 18) (.tmp 20)), none⟩, ⟨(some 22), (.mov (.tmp 21)), none⟩, ⟨(some 23), (.mov (.tmp 0)), (some (22, true))⟩, ⟨(some 24), (.mov (.tmp 4)), (some (22, true))⟩, ⟨(some 25), (.idxS (.tmp 23) (.tmp 24)), (some (22, true))⟩, ⟨(some 26), (.call 69 [(.tmp 25)]), (some (22, true))⟩, ⟨(some 27), (.pick (.tmp 22) (.tmp 26) (.const (.c (.val (.bool false))))), none⟩])
 a24_c2)
 a24_c3)
def a24_c6 : ACode := (.cond (.tmp 74) .skip (.exit 2))
def a24_c7 : ACode := (.block 3 (.seq (.region [⟨(some 75), (.mov (.tmp 6)), none⟩, ⟨(some 76), (.mov (.tmp 8)), none⟩, ⟨(some 77), (.mov (.tmp 0)), none⟩, ⟨(some 78), (.mov (.tmp 4)), none⟩, ⟨(some 79), (.idxS (.tmp 77) (.tmp 78)), none⟩, ⟨(some 80), (.bin .sub (.tmp 79) (.const (.c (.val (.int .u8 48))))), none⟩, ⟨(some 81), (.conv .i64 (.tmp 80)), none⟩, ⟨(some 82), (.bin .mul (.tmp 76) (.tmp 81)), none⟩, ⟨(some 83), (.bin .add (.tmp 75) (.tmp 82)), none⟩, ⟨(some 84), (.mm false [(.tmp 83), (.const (.c (.val (.int .i64 1000000000))))]), none⟩, ⟨(some 6), (.mov (.tmp 84)), none⟩])
 (.seq (.region [⟨(some 85), (.mov (.tmp 8)), none⟩, ⟨(some 86), (.bin .quo (.tmp 85) (.const (.c (.val (.int .i64 10))))), none⟩, ⟨(some 8), (.mov (.tmp 86)), none⟩])
 (.seq (.region [⟨(some 87), (.mov (.tmp 7)), none⟩, ⟨(some 88), (.bin .add (.tmp 87) (.const (.c (.val (.int .i64 1))))), none⟩, ⟨(some 7), (.mov (.tmp 88)), none⟩])
 (.region [⟨(some 89), (.mov (.tmp 4)), none⟩, ⟨(some 90), (.bin .add (.tmp 89) (.const (.c (.val (.int .i64 1))))), none⟩, ⟨(some 4), (.mov (.tmp 90)), none⟩])))))
def a24_c8 : ACode := (.seq (.seq (.region [⟨(some 65), (.mov (.tmp 4)), none⟩, ⟨(some 66), (.mov (.tmp 0)), none⟩, ⟨(some 67), (.lenS (.tmp 66)), none⟩, ⟨(some 68), (.bin .lss (.tmp 65) (.tmp 67)), none⟩, ⟨(some 69), (.mov (.tmp 68)), none⟩, ⟨(some 70), (.mov (.tmp 0)), (some (69, true))⟩, ⟨(some 71), (.mov (.tmp 4)), (some (69, true))⟩, ⟨(some 72), (.idxS (.tmp 70) (.tmp 71)), (some (69, true))⟩, ⟨(some 73), (.call 69 [(.tmp 72)]), (some (69, true))⟩, ⟨(some 74), (.pick (.tmp 69) (.tmp 73) (.const (.c (.val (.bool false))))), none⟩])
 a24_c6)
 a24_c7)
def a24_c5 : ACode := (.cond (.tmp 62) (.seq (.region [⟨(some 63), (.mov (.tmp 4)), none⟩, ⟨(some 64), (.bin .add (.tmp 63) (.const (.c (.val (.int .i64 1))))), none⟩, ⟨(some 4), (.mov (.tmp 64)), none⟩])
 (.seq (.region [⟨(some 8), (.mov (.const (.c (.val (.int .i64 100))))), none⟩])
 (.block 2 (.loop a24_c8)))) .skip)
def a24_c10 : ACode := (.seq (.region [⟨(some 98), (.mov (.tmp 6)), none⟩, ⟨(some 99), (.mov (.tmp 4)), none⟩, ⟨(some 2), (.mov (.tmp 98)), none⟩, ⟨(some 3), (.mov (.tmp 99)), none⟩])
 .ret)
def a24_c9 : ACode := (.seq (.seq (.region [⟨(some 91), (.mov (.tmp 7)), none⟩, ⟨(some 92), (.bin .eql (.tmp 91) (.const (.c (.val (.int .i64 0))))), none⟩])
 (.cond (.tmp 92) (.seq (.region [⟨(some 2), (.mov (.const (.c (.val (.int .i64 0))))), none⟩, ⟨(some 3), (.mov (.const (.c (.val (.int .i64 0))))), none⟩])
 .ret) .skip))
 (.seq (.seq (.region [⟨(some 93), (.mov (.tmp 0)), none⟩, ⟨(some 94), (.idxS (.tmp 93) (.const (.c (.val (.int .i64 0))))), none⟩, ⟨(some 95), (.bin .eql (.tmp 94) (.const (.c (.val (.int .u8 45))))), none⟩])
 (.cond (.tmp 95) (.region [⟨(some 96), (.mov (.tmp 6)), none⟩, ⟨(some 97), (.bin .sub (.const (.c (.val (.int .i64 0)))) (.tmp 96)), none⟩, ⟨(some 6), (.mov (.tmp 97)), none⟩]) .skip))
 a24_c10))
def a24_c1 : ACode := (.seq (.region [⟨(some 17), (.mov (.tmp 4)), none⟩, ⟨(some 5), (.mov (.tmp 17)), none⟩])
 (.seq (.region [⟨(some 6), (.mov (.const (.c (.val (.int .i64 0))))), none⟩])
 (.seq (.block 0 (.loop a24_c4))
 (.seq (.region [⟨(some 39), (.mov (.tmp 4)), none⟩, ⟨(some 40), (.mov (.tmp 5)), none⟩, ⟨(some 41), (.bin .sub (.tmp 39) (.tmp 40)), none⟩, ⟨(some 7), (.mov (.tmp 41)), none⟩])
 (.seq (.region [⟨(some 42), (.mov (.tmp 6)), none⟩, ⟨(some 43), (.bin .mul (.const (.c (.val (.int .i64 1000)))) (.tmp 42)), none⟩, ⟨(some 44), (.mm false [(.tmp 43), (.const (.c (.val (.int .i64 1000000000))))]), none⟩, ⟨(some 6), (.mov (.tmp 44)), none⟩])
 (.seq (.seq (.region [⟨(some 45), (.mov (.tmp 0)), none⟩, ⟨(some 46), (.mov (.tmp 4)), none⟩, ⟨(some 47), (.call 68 [(.tmp 45), (.tmp 46)]), none⟩, ⟨(some 48), (.bin .eql (.tmp 47) (.const (.c (.val (.int .u8 46))))), none⟩, ⟨(some 49), (.mov (.tmp 48)), none⟩, ⟨(some 50), (.mov (.tmp 4)), (some (49, true))⟩, ⟨(some 51), (.bin .add (.tmp 50) (.const (.c (.val (.int .i64 1))))), (some (49, true))⟩, ⟨(some 52), (.mov (.tmp 0)), (some (49, true))⟩, ⟨(some 53), (.lenS (.tmp 52)), (some (49, true))⟩, ⟨(some 54), (.bin .lss (.tmp 51) (.tmp 53)), (some (49, true))⟩, ⟨(some 55), (.pick (.tmp 49) (.tmp 54) (.const (.c (.val (.bool false))))), none⟩, ⟨(some 56), (.mov (.tmp 55)), none⟩, ⟨(some 57), (.mov (.tmp 0)), (some (56, true))⟩, ⟨(some 58), (.mov (.tmp 4)), (some (56, true))⟩, ⟨(some 59), (.bin .add (.tmp 58) (.const (.c (.val (.int .i64 1))))), (some (56, true))⟩, ⟨(some 60), (.idxS (.tmp 57) (.tmp 59)), (some (56, true))⟩, ⟨(some 61), (.call 69 [(.tmp 60)]), (some (56, true))⟩, ⟨(some 62), (.pick (.tmp 56) (.tmp 61) (.const (.c (.val (.bool false))))), none⟩])
 a24_c5)
 a24_c9))))))
def a24 : AFunc := ⟨1, [(.tmp 2), (.tmp 3)], (.seq (.region [⟨(some 2), (.mov (.const (.c (.val (.int .i64 0))))), none⟩, ⟨(some 3), (.mov (.const (.c (.val (.int .i64 0))))), none⟩])
 (.seq (.region [⟨(some 4), (.mov (.const (.c (.val (.int .i64 0))))), none⟩])
 (.seq (.seq (.region [⟨(some 9), (.mov (.tmp 0)), none⟩, ⟨(some 10), (.call 68 [(.tmp 9), (.const (.c (.val (.int .i64 0))))]), none⟩, ⟨(some 11), (.bin .eql (.tmp 10) (.const (.c (.val (.int .u8 43))))), none⟩, ⟨(some 12), (.mov (.tmp 11)), none⟩, ⟨(some 13), (.mov (.tmp 0)), (some (12, false))⟩, ⟨(some 14), (.call 68 [(.tmp 13), (.const (.c (.val (.int .i64 0))))]), (some (12, false))⟩, ⟨(some 15), (.bin .eql (.tmp 14) (.const (.c (.val (.int .u8 45))))), (some (12, false))⟩, ⟨(some 16), (.pick (.tmp 12) (.const (.c (.val (.bool true)))) (.tmp 15)), none⟩])
 a24_c0)
 a24_c1)))⟩
set_option maxRecDepth 100000 in
theorem c24 : compFunc Tryd.prog 24 = some a24 := by kernel_rfl
def clerestoryref2_NumberAt_post (r : (Int × Int)) : AV → Heap → Nat → Prop := fun v h' n' => v = (.tup [(I r.1), (I r.2)]) ∧ (h' = (fun _ => none)) ∧ n' = 0
abbrev clerestoryref2_NumberAt_q0 (mL : Int) (Q : AExit → St → Prop) : AExit → St → Prop := AThen (Sv Tryd.prog (GG mL) 0 a24_c3 Q) Q
noncomputable def clerestoryref2_NumberAt_j6 (s_ : (List UInt8)) (i_1 : Int) (n_ : Int) (i_ : Int) (self : Int → Int → Option (Int × Int)) (K0_ : Int → Int → Option (Int × Int)) (v27 : Bool) : Option (Int × Int) :=
  if v27 then
    (at? s_ i_1).bind fun c_ =>
    self (wi (i_1 + 1)) (mn (wi ((wi (10 * n_)) + (wr .i64 (wr .u8 ((c_.toNat : Int) - 48))))) 1000000000)
  else
    K0_ i_1 n_
theorem clerestoryref2_NumberAt_j6_ok {mL : Int} {Q : AExit → St → Prop} {s_ : (List UInt8)} {i_1 : Int} {n_ : Int} {i_ : Int} {self : Int → Int → Option (Int × Int)} {K0_ : Int → Int → Option (Int × Int)} {v27 : Bool} {o : (Int × Int)} (h : clerestoryref2_NumberAt_j6 s_ i_1 n_ i_ self K0_ v27 = some o)
    (hself : ∀ (i_1 : Int) (n_ : Int), self i_1 n_ = some o → ∀ s, Weak 0 s ⟨(upd (upd (upd (upd (fun _ => none) 0 (some (S s_))) 4 (some (I i_1))) 5 (some (I i_))) 6 (some (I n_))), (fun _ => none), 0⟩ → (Q) .normal s)
    (hK0 : ∀ (i_2 : Int) (n_1 : Int), K0_ i_2 n_1 = some o → ∀ s, Weak 0 s ⟨(upd (upd (upd (upd (fun _ => none) 0 (some (S s_))) 4 (some (I i_2))) 5 (some (I i_))) 6 (some (I n_1))), (fun _ => none), 0⟩ → Q (.exit 0) s)
    (hr : ∀ s, Ends a24.results 0 (clerestoryref2_NumberAt_post o) .ret s → Q .ret s) :
    Sv Tryd.prog (GG mL) 0 a24_c2 (clerestoryref2_NumberAt_q0 mL Q) ⟨(upd (upd (upd (upd (upd (fun _ => none) 0 (some (S s_))) 4 (some (I i_1))) 5 (some (I i_))) 6 (some (I n_))) 27 (some (B v27))), (fun _ => none), 0⟩ := by
  unfold clerestoryref2_NumberAt_j6 at h
  refine Sv.cond (b := v27) rfl (fun hc1 => ?_) (fun hc1 => ?_)
  · replace h := ifT hc1 h
    refine Sv.skip ?_
    refine Sv.block ?_
    refine Sv.seq ?_
    refine Sv.region ?_
    refine un (a1 rfl ?_)
    refine un (a1 (v := (I (wi (10 * n_)))) rfl ?_)
    refine un (a1 rfl ?_)
    refine un (a1 rfl ?_)
    obtain ⟨c_, hx1, h⟩ := bnd h
    refine un (a1 (v := (.c (.val (.int .u8 (c_.toNat : Int))))) (s_idxS rfl rfl hx1) ?_)
    refine un (a1 (v := (.c (.val (.int .u8 (wr .u8 ((c_.toNat : Int) - 48)))))) rfl ?_)
    refine un (a1 (v := (I (wr .i64 (wr .u8 ((c_.toNat : Int) - 48))))) rfl ?_)
    refine un (a1 (v := (I (wi ((wi (10 * n_)) + (wr .i64 (wr .u8 ((c_.toNat : Int) - 48))))))) rfl ?_)
    refine un (a1 (v := (I (mn (wi ((wi (10 * n_)) + (wr .i64 (wr .u8 ((c_.toNat : Int) - 48))))) 1000000000))) (s_mn rfl rfl) ?_)
    refine un (a1 rfl ?_)
    refine dnil ?_
    refine Sv.region ?_
    refine un (a1 rfl ?_)
    refine un (a1 (v := (I (wi (i_1 + 1)))) rfl ?_)
    refine un (a1 rfl ?_)
    refine dnil ?_
    exact hself (wi (i_1 + 1)) (mn (wi ((wi (10 * n_)) + (wr .i64 (wr .u8 ((c_.toNat : Int) - 48))))) 1000000000) h _ (weak_canon [] rfl (by decide) (by decide) (fun b h => absurd h (Nat.not_lt_zero _)) (.cons rfl (avAs_free rfl) (.cons rfl (avAs_free rfl) (.cons rfl (avAs_free rfl) (.cons rfl (avAs_free rfl) .nil)))) .nil)
  · replace h := ifF hc1 h
    refine Sv.exit ?_
    exact hK0 i_1 n_ h _ (weak_canon [] rfl (by decide) (by decide) (fun b h => absurd h (Nat.not_lt_zero _)) (.cons rfl (avAs_free rfl) (.cons rfl (avAs_free rfl) (.cons rfl (avAs_free rfl) (.cons rfl (avAs_free rfl) .nil)))) .nil)
noncomputable def clerestoryref2_NumberAt_l0 (s_ : (List UInt8)) (i_ : Int) (K0_ : Int → Int → Option (Int × Int)) : Nat → Int → Int → Option (Int × Int)
  | 0, _, _ => none
  | k + 1, i_1, n_ =>
    if decide (i_1 < (s_.length : Int)) then
      (at? s_ i_1).bind fun c_1 =>
      clerestoryref2_NumberAt_j6 s_ i_1 n_ i_ (clerestoryref2_NumberAt_l0 s_ i_ K0_ k) K0_ (clerestoryref2_digit (c_1.toNat : Int))
    else
      clerestoryref2_NumberAt_j6 s_ i_1 n_ i_ (clerestoryref2_NumberAt_l0 s_ i_ K0_ k) K0_ false
theorem clerestoryref2_NumberAt_l0_ok {mL : Int} {Q : AExit → St → Prop} {s_ : (List UInt8)} {i_ : Int} {K0_ : Int → Int → Option (Int × Int)} {k : Nat} {i_1 : Int} {n_ : Int} {o : (Int × Int)} (h : clerestoryref2_NumberAt_l0 s_ i_ K0_ k i_1 n_ = some o)
    (hK0 : ∀ (i_2 : Int) (n_1 : Int), K0_ i_2 n_1 = some o → ∀ s, Weak 0 s ⟨(upd (upd (upd (upd (fun _ => none) 0 (some (S s_))) 4 (some (I i_2))) 5 (some (I i_))) 6 (some (I n_1))), (fun _ => none), 0⟩ → Q (.exit 0) s)
    (hr : ∀ s, Ends a24.results 0 (clerestoryref2_NumberAt_post o) .ret s → Q .ret s) :
    Sv Tryd.prog (GG mL) 0 (.loop a24_c4) Q ⟨(upd (upd (upd (upd (fun _ => none) 0 (some (S s_))) 4 (some (I i_1))) 5 (some (I i_))) 6 (some (I n_))), (fun _ => none), 0⟩ := by
  refine Sv.loop (I := fun k s => ∃ (i_1 : Int), ∃ (n_ : Int), clerestoryref2_NumberAt_l0 s_ i_ K0_ k i_1 n_ = some o ∧ s = ⟨(upd (upd (upd (upd (fun _ => none) 0 (some (S s_))) 4 (some (I i_1))) 5 (some (I i_))) 6 (some (I n_))), (fun _ => none), 0⟩) (fun k s hI => ?_) ⟨i_1, n_, h, rfl⟩
  clear h
  clear n_ i_1
  obtain ⟨i_1, n_, h, rfl⟩ := hI
  cases k with
  | zero => cases h
  | succ k =>
  rw [clerestoryref2_NumberAt_l0] at h
  have hself : ∀ (i_1 : Int) (n_ : Int), (clerestoryref2_NumberAt_l0 s_ i_ K0_ k) i_1 n_ = some o → ∀ s, Weak 0 s ⟨(upd (upd (upd (upd (fun _ => none) 0 (some (S s_))) 4 (some (I i_1))) 5 (some (I i_))) 6 (some (I n_))), (fun _ => none), 0⟩ → (AThen (fun s' => ∃ s'' k', Weak 0 s' s'' ∧ k' < k + 1 ∧ (fun k s => ∃ (i_1 : Int), ∃ (n_ : Int), clerestoryref2_NumberAt_l0 s_ i_ K0_ k i_1 n_ = some o ∧ s = ⟨(upd (upd (upd (upd (fun _ => none) 0 (some (S s_))) 4 (some (I i_1))) 5 (some (I i_))) 6 (some (I n_))), (fun _ => none), 0⟩) k' s'') Q) .normal s := fun i_1 n_ h s hw => ⟨_, k, hw, Nat.lt_succ_self k, i_1, n_, h, rfl⟩
  refine Sv.seq ?_
  refine Sv.seq ?_
  refine Sv.region ?_
  refine un (a1 rfl ?_)
  refine un (a1 rfl ?_)
  refine un (a1 (v := (I (s_.length : Int))) rfl ?_)
  refine un (a1 (v := (B (decide (i_1 < (s_.length : Int))))) rfl ?_)
  refine un (a1 rfl ?_)
  refine split2 (fun hc2 => ?_) (fun hc2 => ?_)
  · replace h := ifT hc2 h
    refine gt rfl (a1 rfl ?_)
    refine gt rfl (a1 rfl ?_)
    obtain ⟨c_1, hx2, h⟩ := bnd h
    refine gt rfl (a1 (v := (.c (.val (.int .u8 (c_1.toNat : Int))))) (s_idxS rfl rfl hx2) ?_)
    refine gt rfl (ac_pure (clerestoryref2_digit_ok (mL := mL) (c_1.toNat : Int)) rfl rfl rfl ?_)
    refine un (a1 (v := (B (clerestoryref2_digit (c_1.toNat : Int)))) rfl ?_)
    refine dnil ?_
    exact Sv.weak (weak_canon [] rfl (by decide) (by decide) (fun b h => absurd h (Nat.not_lt_zero _)) (.cons rfl (avAs_free rfl) (.cons rfl (avAs_free rfl) (.cons rfl (avAs_free rfl) (.cons rfl (avAs_free rfl) (.cons rfl (avAs_free rfl) .nil))))) .nil) (clerestoryref2_NumberAt_j6_ok h hself hK0 hr)
  · replace h := ifF hc2 h
    refine gs rfl rfl ?_
    refine gs rfl rfl ?_
    refine gs rfl rfl ?_
    refine gs rfl rfl ?_
    refine un (a1 (v := (B false)) rfl ?_)
    refine dnil ?_
    exact Sv.weak (weak_canon [] rfl (by decide) (by decide) (fun b h => absurd h (Nat.not_lt_zero _)) (.cons rfl (avAs_free rfl) (.cons rfl (avAs_free rfl) (.cons rfl (avAs_free rfl) (.cons rfl (avAs_free rfl) (.cons rfl (avAs_free rfl) .nil))))) .nil) (clerestoryref2_NumberAt_j6_ok h hself hK0 hr)
noncomputable def clerestoryref2_NumberAt_j16 (i_3 : Int) (n_3 : Int) : Option (Int × Int) :=
  some (n_3, i_3)
theorem clerestoryref2_NumberAt_j16_ok {mL : Int} {i_3 : Int} {n_3 : Int} {o : (Int × Int)} (h : clerestoryref2_NumberAt_j16 i_3 n_3 = some o) :
    Sv Tryd.prog (GG mL) 0 a24_c10 (Ends a24.results 0 (clerestoryref2_NumberAt_post o)) ⟨(upd (upd (fun _ => none) 4 (some (I i_3))) 6 (some (I n_3))), (fun _ => none), 0⟩ := by
  unfold clerestoryref2_NumberAt_j16 at h
  refine Sv.seq ?_
  refine Sv.region ?_
  refine un (a1 rfl ?_)
  refine un (a1 rfl ?_)
  refine un (a1 rfl ?_)
  refine un (a1 rfl ?_)
  refine dnil ?_
  refine Sv.ret ?_
  replace h := Option.some.inj h
  subst h
  exact ⟨_, .refl _, _, rfl, ⟨upd (fun _ => none) 0 (some (.tup [(I n_3), (I i_3)])), (fun _ => none), 0⟩, (.tup [(I n_3), (I i_3)]), weak_canon [] rfl List.nodup_nil (Nat.le_refl _) (fun b h => absurd h (Nat.not_lt_zero _)) (.cons rfl (avAs_tup (.cons (avAs_free rfl) (.cons (avAs_free rfl) .nil))) .nil) .nil, rfl, rfl, rfl, rfl⟩
noncomputable def clerestoryref2_NumberAt_j15 (s_ : (List UInt8)) (i_3 : Int) (n_2 : Int) (many : Int) : Option (Int × Int) :=
  if decide (many = 0) then
    some (0, 0)
  else
    (at? s_ 0).bind fun c_2 =>
    if decide ((c_2.toNat : Int) = 45) then
      clerestoryref2_NumberAt_j16 i_3 (wi (0 - n_2))
    else
      clerestoryref2_NumberAt_j16 i_3 n_2
theorem clerestoryref2_NumberAt_j15_ok {mL : Int} {s_ : (List UInt8)} {i_3 : Int} {n_2 : Int} {many : Int} {o : (Int × Int)} (h : clerestoryref2_NumberAt_j15 s_ i_3 n_2 many = some o) :
    Sv Tryd.prog (GG mL) 0 a24_c9 (Ends a24.results 0 (clerestoryref2_NumberAt_post o)) ⟨(upd (upd (upd (upd (fun _ => none) 0 (some (S s_))) 4 (some (I i_3))) 6 (some (I n_2))) 7 (some (I many))), (fun _ => none), 0⟩ := by
  unfold clerestoryref2_NumberAt_j15 at h
  refine Sv.seq ?_
  refine Sv.seq ?_
  refine Sv.region ?_
  refine un (a1 rfl ?_)
  refine un (a1 (v := (B (decide (many = 0)))) rfl ?_)
  refine dnil ?_
  refine Sv.cond (b := decide (many = 0)) rfl (fun hc3 => ?_) (fun hc3 => ?_)
  · replace h := ifT hc3 h
    refine Sv.seq ?_
    refine Sv.region ?_
    refine un (a1 rfl ?_)
    refine un (a1 rfl ?_)
    refine dnil ?_
    refine Sv.ret ?_
    replace h := Option.some.inj h
    subst h
    exact ⟨_, .refl _, _, rfl, ⟨upd (fun _ => none) 0 (some (.tup [(I 0), (I 0)])), (fun _ => none), 0⟩, (.tup [(I 0), (I 0)]), weak_canon [] rfl List.nodup_nil (Nat.le_refl _) (fun b h => absurd h (Nat.not_lt_zero _)) (.cons rfl (avAs_tup (.cons (avAs_free rfl) (.cons (avAs_free rfl) .nil))) .nil) .nil, rfl, rfl, rfl, rfl⟩
  · replace h := ifF hc3 h
    refine Sv.skip ?_
    refine Sv.seq ?_
    refine Sv.seq ?_
    refine Sv.region ?_
    refine un (a1 rfl ?_)
    obtain ⟨c_2, hx3, h⟩ := bnd h
    refine un (a1 (v := (.c (.val (.int .u8 (c_2.toNat : Int))))) (s_idxS rfl rfl hx3) ?_)
    refine un (a1 (v := (B (decide ((c_2.toNat : Int) = 45)))) rfl ?_)
    refine dnil ?_
    refine Sv.cond (b := decide ((c_2.toNat : Int) = 45)) rfl (fun hc4 => ?_) (fun hc4 => ?_)
    · replace h := ifT hc4 h
      refine Sv.region ?_
      refine un (a1 rfl ?_)
      refine un (a1 (v := (I (wi (0 - n_2)))) rfl ?_)
      refine un (a1 rfl ?_)
      refine dnil ?_
      exact Sv.weak (weak_canon [] rfl (by decide) (by decide) (fun b h => absurd h (Nat.not_lt_zero _)) (.cons rfl (avAs_free rfl) (.cons rfl (avAs_free rfl) .nil)) .nil) (clerestoryref2_NumberAt_j16_ok h)
    · replace h := ifF hc4 h
      refine Sv.skip ?_
      exact Sv.weak (weak_canon [] rfl (by decide) (by decide) (fun b h => absurd h (Nat.not_lt_zero _)) (.cons rfl (avAs_free rfl) (.cons rfl (avAs_free rfl) .nil)) .nil) (clerestoryref2_NumberAt_j16_ok h)
abbrev clerestoryref2_NumberAt_q1 (mL : Int) (Q : AExit → St → Prop) : AExit → St → Prop := AThen (Sv Tryd.prog (GG mL) 0 a24_c7 Q) Q
noncomputable def clerestoryref2_NumberAt_j20 (s_ : (List UInt8)) (i_4 : Int) (n_4 : Int) (unit : Int) (many1 : Int) (self : Int → Int → Int → Int → Option (Int × Int)) (K2_ : Int → Int → Int → Option (Int × Int)) (v74 : Bool) : Option (Int × Int) :=
  if v74 then
    (at? s_ i_4).bind fun c_3 =>
    self (wi (i_4 + 1)) (mn (wi (n_4 + (wi (unit * (wr .i64 (wr .u8 ((c_3.toNat : Int) - 48))))))) 1000000000) (wi (many1 + 1)) (wi (unit.tdiv 10))
  else
    K2_ i_4 n_4 many1
theorem clerestoryref2_NumberAt_j20_ok {mL : Int} {Q : AExit → St → Prop} {s_ : (List UInt8)} {i_4 : Int} {n_4 : Int} {unit : Int} {many1 : Int} {self : Int → Int → Int → Int → Option (Int × Int)} {K2_ : Int → Int → Int → Option (Int × Int)} {v74 : Bool} {o : (Int × Int)} (h : clerestoryref2_NumberAt_j20 s_ i_4 n_4 unit many1 self K2_ v74 = some o)
    (hself : ∀ (i_4 : Int) (n_4 : Int) (many1 : Int) (unit : Int), self i_4 n_4 many1 unit = some o → ∀ s, Weak 0 s ⟨(upd (upd (upd (upd (upd (fun _ => none) 0 (some (S s_))) 4 (some (I i_4))) 6 (some (I n_4))) 7 (some (I many1))) 8 (some (I unit))), (fun _ => none), 0⟩ → (Q) .normal s)
    (hK2 : ∀ (i_5 : Int) (n_5 : Int) (many2 : Int), K2_ i_5 n_5 many2 = some o → ∀ s, Weak 0 s ⟨(upd (upd (upd (upd (fun _ => none) 0 (some (S s_))) 4 (some (I i_5))) 6 (some (I n_5))) 7 (some (I many2))), (fun _ => none), 0⟩ → Q (.exit 2) s)
    (hr : ∀ s, Ends a24.results 0 (clerestoryref2_NumberAt_post o) .ret s → Q .ret s) :
    Sv Tryd.prog (GG mL) 0 a24_c6 (clerestoryref2_NumberAt_q1 mL Q) ⟨(upd (upd (upd (upd (upd (upd (fun _ => none) 0 (some (S s_))) 4 (some (I i_4))) 6 (some (I n_4))) 7 (some (I many1))) 8 (some (I unit))) 74 (some (B v74))), (fun _ => none), 0⟩ := by
  unfold clerestoryref2_NumberAt_j20 at h
  refine Sv.cond (b := v74) rfl (fun hc6 => ?_) (fun hc6 => ?_)
  · replace h := ifT hc6 h
    refine Sv.skip ?_
    refine Sv.block ?_
    refine Sv.seq ?_
    refine Sv.region ?_
    refine un (a1 rfl ?_)
    refine un (a1 rfl ?_)
    refine un (a1 rfl ?_)
    refine un (a1 rfl ?_)
    obtain ⟨c_3, hx4, h⟩ := bnd h
    refine un (a1 (v := (.c (.val (.int .u8 (c_3.toNat : Int))))) (s_idxS rfl rfl hx4) ?_)
    refine un (a1 (v := (.c (.val (.int .u8 (wr .u8 ((c_3.toNat : Int) - 48)))))) rfl ?_)
    refine un (a1 (v := (I (wr .i64 (wr .u8 ((c_3.toNat : Int) - 48))))) rfl ?_)
    refine un (a1 (v := (I (wi (unit * (wr .i64 (wr .u8 ((c_3.toNat : Int) - 48))))))) rfl ?_)
    refine un (a1 (v := (I (wi (n_4 + (wi (unit * (wr .i64 (wr .u8 ((c_3.toNat : Int) - 48))))))))) rfl ?_)
    refine un (a1 (v := (I (mn (wi (n_4 + (wi (unit * (wr .i64 (wr .u8 ((c_3.toNat : Int) - 48))))))) 1000000000))) (s_mn rfl rfl) ?_)
    refine un (a1 rfl ?_)
    refine dnil ?_
    refine Sv.seq ?_
    refine Sv.region ?_
    refine un (a1 rfl ?_)
    refine un (a1 (v := (I (wi (unit.tdiv 10)))) rfl ?_)
    refine un (a1 rfl ?_)
    refine dnil ?_
    refine Sv.seq ?_
    refine Sv.region ?_
    refine un (a1 rfl ?_)
    refine un (a1 (v := (I (wi (many1 + 1)))) rfl ?_)
    refine un (a1 rfl ?_)
    refine dnil ?_
    refine Sv.region ?_
    refine un (a1 rfl ?_)
    refine un (a1 (v := (I (wi (i_4 + 1)))) rfl ?_)
    refine un (a1 rfl ?_)
    refine dnil ?_
    exact hself (wi (i_4 + 1)) (mn (wi (n_4 + (wi (unit * (wr .i64 (wr .u8 ((c_3.toNat : Int) - 48))))))) 1000000000) (wi (many1 + 1)) (wi (unit.tdiv 10)) h _ (weak_canon [] rfl (by decide) (by decide) (fun b h => absurd h (Nat.not_lt_zero _)) (.cons rfl (avAs_free rfl) (.cons rfl (avAs_free rfl) (.cons rfl (avAs_free rfl) (.cons rfl (avAs_free rfl) (.cons rfl (avAs_free rfl) .nil))))) .nil)
  · replace h := ifF hc6 h
    refine Sv.exit ?_
    exact hK2 i_4 n_4 many1 h _ (weak_canon [] rfl (by decide) (by decide) (fun b h => absurd h (Nat.not_lt_zero _)) (.cons rfl (avAs_free rfl) (.cons rfl (avAs_free rfl) (.cons rfl (avAs_free rfl) (.cons rfl (avAs_free rfl) .nil)))) .nil)
noncomputable def clerestoryref2_NumberAt_l3 (s_ : (List UInt8)) (K2_ : Int → Int → Int → Option (Int × Int)) : Nat → Int → Int → Int → Int → Option (Int × Int)
  | 0, _, _, _, _ => none
  | k + 1, i_4, n_4, many1, unit =>
    if decide (i_4 < (s_.length : Int)) then
      (at? s_ i_4).bind fun c_4 =>
      clerestoryref2_NumberAt_j20 s_ i_4 n_4 unit many1 (clerestoryref2_NumberAt_l3 s_ K2_ k) K2_ (clerestoryref2_digit (c_4.toNat : Int))
    else
      clerestoryref2_NumberAt_j20 s_ i_4 n_4 unit many1 (clerestoryref2_NumberAt_l3 s_ K2_ k) K2_ false
theorem clerestoryref2_NumberAt_l3_ok {mL : Int} {Q : AExit → St → Prop} {s_ : (List UInt8)} {K2_ : Int → Int → Int → Option (Int × Int)} {k : Nat} {i_4 : Int} {n_4 : Int} {many1 : Int} {unit : Int} {o : (Int × Int)} (h : clerestoryref2_NumberAt_l3 s_ K2_ k i_4 n_4 many1 unit = some o)
    (hK2 : ∀ (i_5 : Int) (n_5 : Int) (many2 : Int), K2_ i_5 n_5 many2 = some o → ∀ s, Weak 0 s ⟨(upd (upd (upd (upd (fun _ => none) 0 (some (S s_))) 4 (some (I i_5))) 6 (some (I n_5))) 7 (some (I many2))), (fun _ => none), 0⟩ → Q (.exit 2) s)
    (hr : ∀ s, Ends a24.results 0 (clerestoryref2_NumberAt_post o) .ret s → Q .ret s) :
    Sv Tryd.prog (GG mL) 0 (.loop a24_c8) Q ⟨(upd (upd (upd (upd (upd (fun _ => none) 0 (some (S s_))) 4 (some (I i_4))) 6 (some (I n_4))) 7 (some (I many1))) 8 (some (I unit))), (fun _ => none), 0⟩ := by
  refine Sv.loop (I := fun k s => ∃ (i_4 : Int), ∃ (n_4 : Int), ∃ (many1 : Int), ∃ (unit : Int), clerestoryref2_NumberAt_l3 s_ K2_ k i_4 n_4 many1 unit = some o ∧ s = ⟨(upd (upd (upd (upd (upd (fun _ => none) 0 (some (S s_))) 4 (some (I i_4))) 6 (some (I n_4))) 7 (some (I many1))) 8 (some (I unit))), (fun _ => none), 0⟩) (fun k s hI => ?_) ⟨i_4, n_4, many1, unit, h, rfl⟩
  clear h
  clear unit many1 n_4 i_4
  obtain ⟨i_4, n_4, many1, unit, h, rfl⟩ := hI
  cases k with
  | zero => cases h
  | succ k =>
  rw [clerestoryref2_NumberAt_l3] at h
  have hself : ∀ (i_4 : Int) (n_4 : Int) (many1 : Int) (unit : Int), (clerestoryref2_NumberAt_l3 s_ K2_ k) i_4 n_4 many1 unit = some o → ∀ s, Weak 0 s ⟨(upd (upd (upd (upd (upd (fun _ => none) 0 (some (S s_))) 4 (some (I i_4))) 6 (some (I n_4))) 7 (some (I many1))) 8 (some (I unit))), (fun _ => none), 0⟩ → (AThen (fun s' => ∃ s'' k', Weak 0 s' s'' ∧ k' < k + 1 ∧ (fun k s => ∃ (i_4 : Int), ∃ (n_4 : Int), ∃ (many1 : Int), ∃ (unit : Int), clerestoryref2_NumberAt_l3 s_ K2_ k i_4 n_4 many1 unit = some o ∧ s = ⟨(upd (upd (upd (upd (upd (fun _ => none) 0 (some (S s_))) 4 (some (I i_4))) 6 (some (I n_4))) 7 (some (I many1))) 8 (some (I unit))), (fun _ => none), 0⟩) k' s'') Q) .normal s := fun i_4 n_4 many1 unit h s hw => ⟨_, k, hw, Nat.lt_succ_self k, i_4, n_4, many1, unit, h, rfl⟩
  refine Sv.seq ?_
  refine Sv.seq ?_
  refine Sv.region ?_
  refine un (a1 rfl ?_)
  refine un (a1 rfl ?_)
  refine un (a1 (v := (I (s_.length : Int))) rfl ?_)
  refine un (a1 (v := (B (decide (i_4 < (s_.length : Int))))) rfl ?_)
  refine un (a1 rfl ?_)
  refine split2 (fun hc7 => ?_) (fun hc7 => ?_)
  · replace h := ifT hc7 h
    refine gt rfl (a1 rfl ?_)
    refine gt rfl (a1 rfl ?_)
    obtain ⟨c_4, hx5, h⟩ := bnd h
    refine gt rfl (a1 (v := (.c (.val (.int .u8 (c_4.toNat : Int))))) (s_idxS rfl rfl hx5) ?_)
    refine gt rfl (ac_pure (clerestoryref2_digit_ok (mL := mL) (c_4.toNat : Int)) rfl rfl rfl ?_)
    refine un (a1 (v := (B (clerestoryref2_digit (c_4.toNat : Int)))) rfl ?_)
    refine dnil ?_
    exact Sv.weak (weak_canon [] rfl (by decide) (by decide) (fun b h => absurd h (Nat.not_lt_zero _)) (.cons rfl (avAs_free rfl) (.cons rfl (avAs_free rfl) (.cons rfl (avAs_free rfl) (.cons rfl (avAs_free rfl) (.cons rfl (avAs_free rfl) (.cons rfl (avAs_free rfl) .nil)))))) .nil) (clerestoryref2_NumberAt_j20_ok h hself hK2 hr)
  · replace h := ifF hc7 h
    refine gs rfl rfl ?_
    refine gs rfl rfl ?_
    refine gs rfl rfl ?_
    refine gs rfl rfl ?_
    refine un (a1 (v := (B false)) rfl ?_)
    refine dnil ?_
    exact Sv.weak (weak_canon [] rfl (by decide) (by decide) (fun b h => absurd h (Nat.not_lt_zero _)) (.cons rfl (avAs_free rfl) (.cons rfl (avAs_free rfl) (.cons rfl (avAs_free rfl) (.cons rfl (avAs_free rfl) (.cons rfl (avAs_free rfl) (.cons rfl (avAs_free rfl) .nil)))))) .nil) (clerestoryref2_NumberAt_j20_ok h hself hK2 hr)
abbrev clerestoryref2_NumberAt_q2 (mL : Int) (o : (Int × Int)) : AExit → St → Prop := AThen (Sv Tryd.prog (GG mL) 0 a24_c9 (Ends a24.results 0 (clerestoryref2_NumberAt_post o))) (Ends a24.results 0 (clerestoryref2_NumberAt_post o))
noncomputable def clerestoryref2_NumberAt_j17 (s_ : (List UInt8)) (i_2 : Int) (n_1 : Int) (i_ : Int) (v62 : Bool) : Option (Int × Int) :=
  if v62 then
    lim fun kk => clerestoryref2_NumberAt_l3 s_ (fun (i_5 : Int) (n_5 : Int) (many2 : Int) => 
        clerestoryref2_NumberAt_j15 s_ i_5 n_5 many2) kk (wi (i_2 + 1)) (mn (wi (1000 * n_1)) 1000000000) (wi (i_2 - i_)) 100
  else
    clerestoryref2_NumberAt_j15 s_ i_2 (mn (wi (1000 * n_1)) 1000000000) (wi (i_2 - i_))
theorem clerestoryref2_NumberAt_j17_ok {mL : Int} {s_ : (List UInt8)} {i_2 : Int} {n_1 : Int} {i_ : Int} {v62 : Bool} {o : (Int × Int)} (h : clerestoryref2_NumberAt_j17 s_ i_2 n_1 i_ v62 = some o) :
    Sv Tryd.prog (GG mL) 0 a24_c5 (clerestoryref2_NumberAt_q2 mL o) ⟨(upd (upd (upd (upd (upd (fun _ => none) 0 (some (S s_))) 4 (some (I i_2))) 6 (some (I (mn (wi (1000 * n_1)) 1000000000)))) 7 (some (I (wi (i_2 - i_))))) 62 (some (B v62))), (fun _ => none), 0⟩ := by
  unfold clerestoryref2_NumberAt_j17 at h
  refine Sv.cond (b := v62) rfl (fun hc5 => ?_) (fun hc5 => ?_)
  · replace h := ifT hc5 h
    refine Sv.seq ?_
    refine Sv.region ?_
    refine un (a1 rfl ?_)
    refine un (a1 (v := (I (wi (i_2 + 1)))) rfl ?_)
    refine un (a1 rfl ?_)
    refine dnil ?_
    refine Sv.seq ?_
    refine Sv.region ?_
    refine un (a1 rfl ?_)
    refine dnil ?_
    refine Sv.block ?_
    obtain ⟨kk, h⟩ := lim_some h
    refine Sv.weak (weak_canon [] rfl (by decide) (by decide) (fun b h => absurd h (Nat.not_lt_zero _)) (.cons rfl (avAs_free rfl) (.cons rfl (avAs_free rfl) (.cons rfl (avAs_free rfl) (.cons rfl (avAs_free rfl) (.cons rfl (avAs_free rfl) .nil))))) .nil) (clerestoryref2_NumberAt_l3_ok h ?_ (fun s hs => hs))
    · intro i_5 n_5 many2 h _ hw2
      exact Sv.weak (hw2.trans (weak_canon [] rfl (by decide) (by decide) (fun b h => absurd h (Nat.not_lt_zero _)) (.cons rfl (avAs_free rfl) (.cons rfl (avAs_free rfl) (.cons rfl (avAs_free rfl) (.cons rfl (avAs_free rfl) .nil)))) .nil)) (clerestoryref2_NumberAt_j15_ok h)
  · replace h := ifF hc5 h
    refine Sv.skip ?_
    exact Sv.weak (weak_canon [] rfl (by decide) (by decide) (fun b h => absurd h (Nat.not_lt_zero _)) (.cons rfl (avAs_free rfl) (.cons rfl (avAs_free rfl) (.cons rfl (avAs_free rfl) (.cons rfl (avAs_free rfl) .nil)))) .nil) (clerestoryref2_NumberAt_j15_ok h)
noncomputable def clerestoryref2_NumberAt_j3 (s_ : (List UInt8)) (i_ : Int) : Option (Int × Int) :=
  lim fun kk1 => clerestoryref2_NumberAt_l0 s_ i_ (fun (i_2 : Int) (n_1 : Int) => 
      (clerestoryref2_at s_ i_2).bind fun r_ =>
      if ((decide (r_ = 46)) && (decide ((wi (i_2 + 1)) < (s_.length : Int)))) then
        (at? s_ (wi (i_2 + 1))).bind fun c_5 =>
        clerestoryref2_NumberAt_j17 s_ i_2 n_1 i_ (clerestoryref2_digit (c_5.toNat : Int))
      else
        clerestoryref2_NumberAt_j17 s_ i_2 n_1 i_ false) kk1 i_ 0
theorem clerestoryref2_NumberAt_j3_ok {mL : Int} {s_ : (List UInt8)} {i_ : Int} {o : (Int × Int)} (h : clerestoryref2_NumberAt_j3 s_ i_ = some o) :
    Sv Tryd.prog (GG mL) 0 a24_c1 (Ends a24.results 0 (clerestoryref2_NumberAt_post o)) ⟨(upd (upd (fun _ => none) 0 (some (S s_))) 4 (some (I i_))), (fun _ => none), 0⟩ := by
  unfold clerestoryref2_NumberAt_j3 at h
  refine Sv.seq ?_
  refine Sv.region ?_
  refine un (a1 rfl ?_)
  refine un (a1 rfl ?_)
  refine dnil ?_
  refine Sv.seq ?_
  refine Sv.region ?_
  refine un (a1 rfl ?_)
  refine dnil ?_
  refine Sv.seq ?_
  refine Sv.block ?_
  obtain ⟨kk1, h⟩ := lim_some h
  refine Sv.weak (weak_canon [] rfl (by decide) (by decide) (fun b h => absurd h (Nat.not_lt_zero _)) (.cons rfl (avAs_free rfl) (.cons rfl (avAs_free rfl) (.cons rfl (avAs_free rfl) (.cons rfl (avAs_free rfl) .nil)))) .nil) (clerestoryref2_NumberAt_l0_ok h ?_ (fun s hs => hs))
  · intro i_2 n_1 h _ hw1
    refine Sv.weak hw1 ?_
    refine Sv.seq ?_
    refine Sv.region ?_
    refine un (a1 rfl ?_)
    refine un (a1 rfl ?_)
    refine un (a1 (v := (I (wi (i_2 - i_)))) rfl ?_)
    refine un (a1 rfl ?_)
    refine dnil ?_
    refine Sv.seq ?_
    refine Sv.region ?_
    refine un (a1 rfl ?_)
    refine un (a1 (v := (I (wi (1000 * n_1)))) rfl ?_)
    refine un (a1 (v := (I (mn (wi (1000 * n_1)) 1000000000))) (s_mn rfl rfl) ?_)
    refine un (a1 rfl ?_)
    refine dnil ?_
    refine Sv.seq ?_
    refine Sv.seq ?_
    refine Sv.region ?_
    refine un (a1 rfl ?_)
    refine un (a1 rfl ?_)
    obtain ⟨r_, hr1, h⟩ := bnd h
    refine un (ac_pure (clerestoryref2_at_ok hr1) rfl rfl rfl ?_)
    refine un (a1 (v := (B (decide (r_ = 46)))) rfl ?_)
    refine un (a1 rfl ?_)
    refine gjoin 6 (d := 55) (v := (B ((decide (r_ = 46)) && (decide ((wi (i_2 + 1)) < (s_.length : Int)))))) (fun X hX => ?_) ?_
    · refine split2 (fun hc8 => ?_) (fun hc8 => ?_)
      · refine gt rfl (a1 rfl ?_)
        refine gt rfl (a1 (v := (I (wi (i_2 + 1)))) rfl ?_)
        refine gt rfl (a1 rfl ?_)
        refine gt rfl (a1 (v := (I (s_.length : Int))) rfl ?_)
        refine gt rfl (a1 (v := (B (decide ((wi (i_2 + 1)) < (s_.length : Int))))) rfl ?_)
        refine un (a1 (v := (B (decide ((wi (i_2 + 1)) < (s_.length : Int))))) rfl ?_)
        refine dnil ?_
        exact hX _ (.putEq (by rw [hc8]; rfl) (.skip _ _ (.skip _ _ (.skip _ _ (.skip _ _ (.skip _ _ (.putEq (by rw [hc8]) (.refl _)) rfl) rfl) rfl) rfl) rfl))
      · refine gs rfl rfl ?_
        refine gs rfl rfl ?_
        refine gs rfl rfl ?_
        refine gs rfl rfl ?_
        refine gs rfl rfl ?_
        refine un (a1 (v := (B false)) rfl ?_)
        refine dnil ?_
        exact hX _ (.putEq (by rw [hc8]; rfl) (.skip _ _ (.skip _ _ (.skip _ _ (.skip _ _ (.skip _ _ (.putEq (by rw [hc8]) (.refl _)) rfl) rfl) rfl) rfl) rfl))
    refine un (a1 rfl ?_)
    refine split2 (fun hc9 => ?_) (fun hc9 => ?_)
    · replace h := ifT hc9 h
      refine gt rfl (a1 rfl ?_)
      refine gt rfl (a1 rfl ?_)
      refine gt rfl (a1 (v := (I (wi (i_2 + 1)))) rfl ?_)
      obtain ⟨c_5, hx6, h⟩ := bnd h
      refine gt rfl (a1 (v := (.c (.val (.int .u8 (c_5.toNat : Int))))) (s_idxS rfl rfl hx6) ?_)
      refine gt rfl (ac_pure (clerestoryref2_digit_ok (mL := mL) (c_5.toNat : Int)) rfl rfl rfl ?_)
      refine un (a1 (v := (B (clerestoryref2_digit (c_5.toNat : Int)))) rfl ?_)
      refine dnil ?_
      exact Sv.weak (weak_canon [] rfl (by decide) (by decide) (fun b h => absurd h (Nat.not_lt_zero _)) (.cons rfl (avAs_free rfl) (.cons rfl (avAs_free rfl) (.cons rfl (avAs_free rfl) (.cons rfl (avAs_free rfl) (.cons rfl (avAs_free rfl) .nil))))) .nil) (clerestoryref2_NumberAt_j17_ok h)
    · replace h := ifF hc9 h
      refine gs rfl rfl ?_
      refine gs rfl rfl ?_
      refine gs rfl rfl ?_
      refine gs rfl rfl ?_
      refine gs rfl rfl ?_
      refine un (a1 (v := (B false)) rfl ?_)
      refine dnil ?_
      exact Sv.weak (weak_canon [] rfl (by decide) (by decide) (fun b h => absurd h (Nat.not_lt_zero _)) (.cons rfl (avAs_free rfl) (.cons rfl (avAs_free rfl) (.cons rfl (avAs_free rfl) (.cons rfl (avAs_free rfl) (.cons rfl (avAs_free rfl) .nil))))) .nil) (clerestoryref2_NumberAt_j17_ok h)
abbrev clerestoryref2_NumberAt_q3 (mL : Int) (o : (Int × Int)) : AExit → St → Prop := AThen (Sv Tryd.prog (GG mL) 0 a24_c1 (Ends a24.results 0 (clerestoryref2_NumberAt_post o))) (Ends a24.results 0 (clerestoryref2_NumberAt_post o))
noncomputable def clerestoryref2_NumberAt_j21 (s_ : (List UInt8)) (v16 : Bool) : Option (Int × Int) :=
  if v16 then
    clerestoryref2_NumberAt_j3 s_ 1
  else
    clerestoryref2_NumberAt_j3 s_ 0
theorem clerestoryref2_NumberAt_j21_ok {mL : Int} {s_ : (List UInt8)} {v16 : Bool} {o : (Int × Int)} (h : clerestoryref2_NumberAt_j21 s_ v16 = some o) :
    Sv Tryd.prog (GG mL) 0 a24_c0 (clerestoryref2_NumberAt_q3 mL o) ⟨(upd (upd (upd (fun _ => none) 0 (some (S s_))) 4 (some (I 0))) 16 (some (B v16))), (fun _ => none), 0⟩ := by
  unfold clerestoryref2_NumberAt_j21 at h
  refine Sv.cond (b := v16) rfl (fun hc10 => ?_) (fun hc10 => ?_)
  · replace h := ifT hc10 h
    refine Sv.region ?_
    refine un (a1 rfl ?_)
    refine dnil ?_
    exact Sv.weak (weak_canon [] rfl (by decide) (by decide) (fun b h => absurd h (Nat.not_lt_zero _)) (.cons rfl (avAs_free rfl) (.cons rfl (avAs_free rfl) .nil)) .nil) (clerestoryref2_NumberAt_j3_ok h)
  · replace h := ifF hc10 h
    refine Sv.skip ?_
    exact Sv.weak (weak_canon [] rfl (by decide) (by decide) (fun b h => absurd h (Nat.not_lt_zero _)) (.cons rfl (avAs_free rfl) (.cons rfl (avAs_free rfl) .nil)) .nil) (clerestoryref2_NumberAt_j3_ok h)
/-- clerestory/clerestoryref2.NumberAt -/
noncomputable def clerestoryref2_NumberAt (s_ : (List UInt8)) : Option (Int × Int) :=
  (clerestoryref2_at s_ 0).bind fun r_1 =>
  if decide (r_1 = 43) then
    clerestoryref2_NumberAt_j21 s_ true
  else
    (clerestoryref2_at s_ 0).bind fun r_2 =>
    clerestoryref2_NumberAt_j21 s_ (decide (r_2 = 45))
theorem clerestoryref2_NumberAt_ok {mL : Int} {s_ : (List UInt8)} {r : (Int × Int)} (h : clerestoryref2_NumberAt s_ = some r) : CPure Tryd.prog (GG mL) 24 [(S s_)] (.tup [(I r.1), (I r.2)]) := by
  refine acalls_of_sv hmix c24 (R := clerestoryref2_NumberAt_post r) ?_
  unfold clerestoryref2_NumberAt at h
  refine Sv.seq ?_
  refine Sv.region ?_
  refine un (a1 rfl ?_)
  refine un (a1 rfl ?_)
  refine dnil ?_
  refine Sv.seq ?_
  refine Sv.region ?_
  refine un (a1 rfl ?_)
  refine dnil ?_
  refine Sv.seq ?_
  refine Sv.seq ?_
  refine Sv.region ?_
  refine un (a1 rfl ?_)
  obtain ⟨r_1, hr2, h⟩ := bnd h
  refine un (ac_pure (clerestoryref2_at_ok hr2) rfl rfl rfl ?_)
  refine un (a1 (v := (B (decide (r_1 = 43)))) rfl ?_)
  refine un (a1 rfl ?_)
  refine split2 (fun hc11 => ?_) (fun hc11 => ?_)
  · replace h := ifT hc11 h
    refine gs rfl rfl ?_
    refine gs rfl rfl ?_
    refine gs rfl rfl ?_
    refine un (a1 (v := (B true)) rfl ?_)
    refine dnil ?_
    exact Sv.weak (weak_canon [] rfl (by decide) (by decide) (fun b h => absurd h (Nat.not_lt_zero _)) (.cons rfl (avAs_free rfl) (.cons rfl (avAs_free rfl) (.cons rfl (avAs_free rfl) .nil))) .nil) (clerestoryref2_NumberAt_j21_ok h)
  · replace h := ifF hc11 h
    refine gt rfl (a1 rfl ?_)
    obtain ⟨r_2, hr3, h⟩ := bnd h
    refine gt rfl (ac_pure (clerestoryref2_at_ok hr3) rfl rfl rfl ?_)
    refine gt rfl (a1 (v := (B (decide (r_2 = 45)))) rfl ?_)
    refine un (a1 (v := (B (decide (r_2 = 45)))) rfl ?_)
    refine dnil ?_
    exact Sv.weak (weak_canon [] rfl (by decide) (by decide) (fun b h => absurd h (Nat.not_lt_zero _)) (.cons rfl (avAs_free rfl) (.cons rfl (avAs_free rfl) (.cons rfl (avAs_free rfl) .nil))) .nil) (clerestoryref2_NumberAt_j21_ok h)
def a6 : AFunc := ⟨1, [(.tmp 2)], (.seq (.region [⟨(some 2), (.mov (.const (.c (.val (.bool false))))), none⟩])
 (.seq (.region [⟨(some 8), (.call 22 []), none⟩, ⟨(some 3), (.mov (.tmp 8)), none⟩])
 (.seq (.region [⟨(some 10), (.mov (.tmp 0)), none⟩, ⟨(some 11), (.call 23 [(.tmp 10)]), none⟩, ⟨(some 9), (.mov (.tmp 11)), none⟩, ⟨(some 12), (.ext (.tmp 9) 0), none⟩, ⟨(some 13), (.ext (.tmp 9) 1), none⟩, ⟨(some 4), (.mov (.tmp 12)), none⟩, ⟨(some 5), (.mov (.tmp 13)), none⟩])
 (.seq (.region [⟨(some 15), (.mov (.tmp 0)), none⟩, ⟨(some 16), (.call 24 [(.tmp 15)]), none⟩, ⟨(some 14), (.mov (.tmp 16)), none⟩, ⟨(some 17), (.ext (.tmp 14) 0), none⟩, ⟨(some 18), (.ext (.tmp 14) 1), none⟩, ⟨(some 6), (.mov (.tmp 17)), none⟩, ⟨(some 7), (.mov (.tmp 18)), none⟩])
 (.seq (.region [⟨(some 19), (.mov (.tmp 3)), none⟩, ⟨(some 20), (.mov (.tmp 19)), none⟩, ⟨(some 21), (.mov (.tmp 4)), (some (20, true))⟩, ⟨(some 22), (.mov (.tmp 6)), (some (20, true))⟩, ⟨(some 23), (.bin .eql (.tmp 21) (.tmp 22)), (some (20, true))⟩, ⟨(some 24), (.pick (.tmp 20) (.tmp 23) (.const (.c (.val (.bool false))))), none⟩, ⟨(some 25), (.mov (.tmp 24)), none⟩, ⟨(some 26), (.mov (.tmp 5)), (some (25, true))⟩, ⟨(some 27), (.mov (.tmp 7)), (some (25, true))⟩, ⟨(some 28), (.bin .eql (.tmp 26) (.tmp 27)), (some (25, true))⟩, ⟨(some 29), (.pick (.tmp 25) (.tmp 28) (.const (.c (.val (.bool false))))), none⟩, ⟨(some 2), (.mov (.tmp 29)), none⟩])
 .ret)))))⟩
set_option maxRecDepth 100000 in
theorem c6 : compFunc Tryd.prog 6 = some a6 := by kernel_rfl
def clerestorylaw2_TokenNumbers_post (r : Bool) : AV → Heap → Nat → Prop := fun v h' n' => v = (B r) ∧ (h' = (fun _ => none)) ∧ n' = 0
/-- clerestory/clerestorylaw2.TokenNumbers -/
noncomputable def clerestorylaw2_TokenNumbers (s_ : (List UInt8)) : Option Bool :=
  (clerestorylaw2_cutFact).bind fun r_ =>
  (csstok_Number s_).bind fun r_1 =>
  (clerestoryref2_NumberAt s_).bind fun r_2 =>
  some ((r_ && (decide (r_1.1 = r_2.1))) && (decide (r_1.2 = r_2.2)))
theorem clerestorylaw2_TokenNumbers_ok {mL : Int} {s_ : (List UInt8)} {r : Bool} (h : clerestorylaw2_TokenNumbers s_ = some r) : CPure Tryd.prog (GG mL) 6 [(S s_)] (B r) := by
  refine acalls_of_sv hmix c6 (R := clerestorylaw2_TokenNumbers_post r) ?_
  unfold clerestorylaw2_TokenNumbers at h
  refine Sv.seq ?_
  refine Sv.region ?_
  refine un (a1 rfl ?_)
  refine dnil ?_
  refine Sv.seq ?_
  refine Sv.region ?_
  obtain ⟨r_, hr1, h⟩ := bnd h
  refine un (ac_pure (clerestorylaw2_cutFact_ok hr1) rfl rfl rfl ?_)
  refine un (a1 rfl ?_)
  refine dnil ?_
  refine Sv.seq ?_
  refine Sv.region ?_
  refine un (a1 rfl ?_)
  obtain ⟨r_1, hr2, h⟩ := bnd h
  refine un (ac_pure (csstok_Number_ok hr2) rfl rfl rfl ?_)
  refine un (a1 rfl ?_)
  refine un (a1 (v := (I r_1.1)) rfl ?_)
  refine un (a1 (v := (I r_1.2)) rfl ?_)
  refine un (a1 rfl ?_)
  refine un (a1 rfl ?_)
  refine dnil ?_
  refine Sv.seq ?_
  refine Sv.region ?_
  refine un (a1 rfl ?_)
  obtain ⟨r_2, hr3, h⟩ := bnd h
  refine un (ac_pure (clerestoryref2_NumberAt_ok hr3) rfl rfl rfl ?_)
  refine un (a1 rfl ?_)
  refine un (a1 (v := (I r_2.1)) rfl ?_)
  refine un (a1 (v := (I r_2.2)) rfl ?_)
  refine un (a1 rfl ?_)
  refine un (a1 rfl ?_)
  refine dnil ?_
  refine Sv.seq ?_
  refine Sv.region ?_
  refine un (a1 rfl ?_)
  refine un (a1 rfl ?_)
  refine gjoin 4 (d := 24) (v := (B (r_ && (decide (r_1.1 = r_2.1))))) (fun X hX => ?_) ?_
  · refine split2 (fun hc1 => ?_) (fun hc1 => ?_)
    · refine gt rfl (a1 rfl ?_)
      refine gt rfl (a1 rfl ?_)
      refine gt rfl (a1 (v := (B (decide (r_1.1 = r_2.1)))) rfl ?_)
      refine un (a1 (v := (B (decide (r_1.1 = r_2.1)))) rfl ?_)
      refine dnil ?_
      exact hX _ (.putEq (by rw [hc1]; rfl) (.skip _ _ (.skip _ _ (.skip _ _ (.putEq (by rw [hc1]) (.refl _)) rfl) rfl) rfl))
    · refine gs rfl rfl ?_
      refine gs rfl rfl ?_
      refine gs rfl rfl ?_
      refine un (a1 (v := (B false)) rfl ?_)
      refine dnil ?_
      exact hX _ (.putEq (by rw [hc1]; rfl) (.skip _ _ (.skip _ _ (.skip _ _ (.putEq (by rw [hc1]) (.refl _)) rfl) rfl) rfl))
  refine un (a1 rfl ?_)
  refine gjoin 4 (d := 29) (v := (B ((r_ && (decide (r_1.1 = r_2.1))) && (decide (r_1.2 = r_2.2))))) (fun X hX => ?_) ?_
  · refine split2 (fun hc2 => ?_) (fun hc2 => ?_)
    · refine gt rfl (a1 rfl ?_)
      refine gt rfl (a1 rfl ?_)
      refine gt rfl (a1 (v := (B (decide (r_1.2 = r_2.2)))) rfl ?_)
      refine un (a1 (v := (B (decide (r_1.2 = r_2.2)))) rfl ?_)
      refine dnil ?_
      exact hX _ (.putEq (by rw [hc2]; rfl) (.skip _ _ (.skip _ _ (.skip _ _ (.putEq (by rw [hc2]) (.refl _)) rfl) rfl) rfl))
    · refine gs rfl rfl ?_
      refine gs rfl rfl ?_
      refine gs rfl rfl ?_
      refine un (a1 (v := (B false)) rfl ?_)
      refine dnil ?_
      exact hX _ (.putEq (by rw [hc2]; rfl) (.skip _ _ (.skip _ _ (.skip _ _ (.putEq (by rw [hc2]) (.refl _)) rfl) rfl) rfl))
  refine un (a1 rfl ?_)
  refine dnil ?_
  refine Sv.ret ?_
  replace h := Option.some.inj h
  subst h
  exact ⟨_, .refl _, _, rfl, ⟨upd (fun _ => none) 0 (some (B ((r_ && (decide (r_1.1 = r_2.1))) && (decide (r_1.2 = r_2.2))))), (fun _ => none), 0⟩, (B ((r_ && (decide (r_1.1 = r_2.1))) && (decide (r_1.2 = r_2.2)))), weak_canon [] rfl List.nodup_nil (Nat.le_refl _) (fun b h => absurd h (Nat.not_lt_zero _)) (.cons rfl (avAs_free rfl) .nil) .nil, rfl, rfl, rfl, rfl⟩
end Go.Proofs.YtdmmjgjmfpalhaaDoorBv
