/- Printed by a program of mine (bgen.py): plain functions, and the walks that show that the code comes to what they answer. -/
import Derived.Test.YtdmmjgjmfpalhaaDoorGDimReads1
namespace Go.Proofs.YtdmmjgjmfpalhaaDoorBv
open Go
set_option linter.unusedVariables false
set_option maxRecDepth 100000
def a71_c0 : ACode := (.cond (.tmp 27) .skip (.exit 0))
def a71_c1 : ACode := (.block 1 (.region [⟨(some 28), (.mov (.tmp 4)), none⟩, ⟨(some 29), (.bin .add (.tmp 28) (.const (.c (.val (.int .i64 1))))), none⟩, ⟨(some 4), (.mov (.tmp 29)), none⟩]))
def a71_c2 : ACode := (.seq (.seq (.region [⟨(some 18), (.mov (.tmp 4)), none⟩, ⟨(some 19), (.mov (.tmp 0)), none⟩, ⟨(some 20), (.lenS (.tmp 19)), none⟩, ⟨(some 21), (.bin .lss (.tmp 18) (.tmp 20)), none⟩, ⟨(some 22), (.mov (.tmp 21)), none⟩, ⟨(some 23), (.mov (.tmp 0)), (some (22, true))⟩, ⟨(some 24), (.mov (.tmp 4)), (some (22, true))⟩, ⟨(some 25), (.idxS (.tmp 23) (.tmp 24)), (some (22, true))⟩, ⟨(some 26), (.call 117 [(.tmp 25)]), (some (22, true))⟩, ⟨(some 27), (.pick (.tmp 22) (.tmp 26) (.const (.c (.val (.bool false))))), none⟩])
 a71_c0)
 a71_c1)
def a71_c3 : ACode := (.cond (.tmp 40) (.seq (.region [⟨(some 41), (.mov (.tmp 0)), none⟩, ⟨(some 42), (.call 118 [(.tmp 41)]), none⟩, ⟨none, (.store 4 (.tmp 2) (.tmp 42)), none⟩])
 .ret) .skip)
def a71_c4 : ACode := (.cond (.tmp 77) (.seq (.region [⟨(some 79), (.mov (.tmp 0)), none⟩, ⟨(some 80), (.call 123 [(.tmp 79), (.const (.c (.val (.int .i64 1))))]), none⟩, ⟨(some 78), (.mov (.tmp 80)), none⟩, ⟨(some 81), (.ext (.tmp 78) 0), none⟩, ⟨(some 82), (.ext (.tmp 78) 1), none⟩, ⟨(some 7), (.mov (.tmp 81)), none⟩, ⟨(some 8), (.mov (.tmp 82)), none⟩])
 (.seq (.region [⟨(some 83), (.mov (.tmp 0)), none⟩, ⟨(some 84), (.mov (.tmp 8)), none⟩, ⟨(some 85), (.slStr (.tmp 83) none (some (.tmp 84))), none⟩, ⟨(some 86), (.mov (.tmp 7)), none⟩, ⟨(some 87), (.build [(.val (.int .i64 0)), (.str []), (.str []), (.val (.int .i64 0))] [(0, (1, (.const (.c (.val (.int .i64 4)))))), (1, (1, (.tmp 85))), (2, (1, (.tmp 86)))]), none⟩, ⟨none, (.store 4 (.tmp 2) (.tmp 87)), none⟩])
 .ret)) .skip)
def a71_c5 : ACode := (.cond (.tmp 93) (.seq (.region [⟨(some 95), (.mov (.tmp 0)), none⟩, ⟨(some 96), (.call 123 [(.tmp 95), (.const (.c (.val (.int .i64 1))))]), none⟩, ⟨(some 94), (.mov (.tmp 96)), none⟩, ⟨(some 97), (.ext (.tmp 94) 0), none⟩, ⟨(some 98), (.ext (.tmp 94) 1), none⟩, ⟨(some 9), (.mov (.tmp 97)), none⟩, ⟨(some 10), (.mov (.tmp 98)), none⟩])
 (.seq (.region [⟨(some 99), (.mov (.tmp 0)), none⟩, ⟨(some 100), (.mov (.tmp 10)), none⟩, ⟨(some 101), (.slStr (.tmp 99) none (some (.tmp 100))), none⟩, ⟨(some 102), (.mov (.tmp 9)), none⟩, ⟨(some 103), (.build [(.val (.int .i64 0)), (.str []), (.str []), (.val (.int .i64 0))] [(0, (1, (.const (.c (.val (.int .i64 3)))))), (1, (1, (.tmp 101))), (2, (1, (.tmp 102)))]), none⟩, ⟨none, (.store 4 (.tmp 2) (.tmp 103)), none⟩])
 .ret)) .skip)
def a71_c8 : ACode := (.seq (.region [⟨(some 148), (.mov (.tmp 13)), none⟩, ⟨(some 149), (.mov (.tmp 0)), none⟩, ⟨(some 150), (.slStr (.tmp 149) none (some (.const (.c (.val (.int .i64 1)))))), none⟩, ⟨(some 151), (.build [(.val (.int .i64 0)), (.str []), (.str []), (.val (.int .i64 0))] [(0, (1, (.tmp 148))), (1, (1, (.tmp 150)))]), none⟩, ⟨none, (.store 4 (.tmp 2) (.tmp 151)), none⟩])
 .ret)
def a71_c7 : ACode := (.seq (.seq (.region [⟨(some 146), (.mov (.tmp 3)), none⟩, ⟨(some 147), (.bin .eql (.tmp 146) (.const (.c (.val (.int .u8 92))))), none⟩])
 (.cond (.tmp 147) (.region [⟨(some 13), (.mov (.const (.c (.val (.int .i64 6))))), none⟩]) .skip))
 a71_c8)
def a71_c6 : ACode := (.seq (.seq (.region [⟨(some 136), (.mov (.tmp 3)), none⟩, ⟨(some 137), (.bin .eql (.tmp 136) (.const (.c (.val (.int .u8 41))))), none⟩, ⟨(some 138), (.mov (.tmp 137)), none⟩, ⟨(some 139), (.mov (.tmp 3)), (some (138, false))⟩, ⟨(some 140), (.bin .eql (.tmp 139) (.const (.c (.val (.int .u8 93))))), (some (138, false))⟩, ⟨(some 141), (.pick (.tmp 138) (.const (.c (.val (.bool true)))) (.tmp 140)), none⟩, ⟨(some 142), (.mov (.tmp 141)), none⟩, ⟨(some 143), (.mov (.tmp 3)), (some (142, false))⟩, ⟨(some 144), (.bin .eql (.tmp 143) (.const (.c (.val (.int .u8 125))))), (some (142, false))⟩, ⟨(some 145), (.pick (.tmp 142) (.const (.c (.val (.bool true)))) (.tmp 144)), none⟩])
 (.cond (.tmp 145) (.region [⟨(some 13), (.mov (.const (.c (.val (.int .i64 11))))), none⟩]) .skip))
 a71_c7)
def a71_c9 : ACode := (.seq (.seq (.region [⟨(some 104), (.mov (.tmp 0)), none⟩, ⟨(some 105), (.call 124 [(.tmp 104), (.const (.c (.val (.int .i64 0))))]), none⟩])
 (.cond (.tmp 105) (.seq (.region [⟨(some 107), (.mov (.tmp 0)), none⟩, ⟨(some 108), (.call 123 [(.tmp 107), (.const (.c (.val (.int .i64 0))))]), none⟩, ⟨(some 106), (.mov (.tmp 108)), none⟩, ⟨(some 109), (.ext (.tmp 106) 0), none⟩, ⟨(some 110), (.ext (.tmp 106) 1), none⟩, ⟨(some 11), (.mov (.tmp 109)), none⟩, ⟨(some 12), (.mov (.tmp 110)), none⟩])
 (.seq (.seq (.region [⟨(some 111), (.mov (.tmp 0)), none⟩, ⟨(some 112), (.mov (.tmp 12)), none⟩, ⟨(some 113), (.call 68 [(.tmp 111), (.tmp 112)]), none⟩, ⟨(some 114), (.bin .eql (.tmp 113) (.const (.c (.val (.int .u8 40))))), none⟩])
 (.cond (.tmp 114) (.seq (.region [⟨(some 115), (.mov (.tmp 0)), none⟩, ⟨(some 116), (.mov (.tmp 12)), none⟩, ⟨(some 117), (.bin .add (.tmp 116) (.const (.c (.val (.int .i64 1))))), none⟩, ⟨(some 118), (.slStr (.tmp 115) none (some (.tmp 117))), none⟩, ⟨(some 119), (.mov (.tmp 11)), none⟩, ⟨(some 120), (.build [(.val (.int .i64 0)), (.str []), (.str []), (.val (.int .i64 0))] [(0, (1, (.const (.c (.val (.int .i64 2)))))), (1, (1, (.tmp 118))), (2, (1, (.tmp 119)))]), none⟩, ⟨none, (.store 4 (.tmp 2) (.tmp 120)), none⟩])
 .ret) .skip))
 (.seq (.region [⟨(some 121), (.mov (.tmp 0)), none⟩, ⟨(some 122), (.mov (.tmp 12)), none⟩, ⟨(some 123), (.slStr (.tmp 121) none (some (.tmp 122))), none⟩, ⟨(some 124), (.mov (.tmp 11)), none⟩, ⟨(some 125), (.build [(.val (.int .i64 0)), (.str []), (.str []), (.val (.int .i64 0))] [(0, (1, (.const (.c (.val (.int .i64 1)))))), (1, (1, (.tmp 123))), (2, (1, (.tmp 124)))]), none⟩, ⟨none, (.store 4 (.tmp 2) (.tmp 125)), none⟩])
 .ret))) .skip))
 (.seq (.region [⟨(some 13), (.mov (.const (.c (.val (.int .i64 12))))), none⟩])
 (.seq (.seq (.region [⟨(some 126), (.mov (.tmp 3)), none⟩, ⟨(some 127), (.bin .eql (.tmp 126) (.const (.c (.val (.int .u8 40))))), none⟩, ⟨(some 128), (.mov (.tmp 127)), none⟩, ⟨(some 129), (.mov (.tmp 3)), (some (128, false))⟩, ⟨(some 130), (.bin .eql (.tmp 129) (.const (.c (.val (.int .u8 91))))), (some (128, false))⟩, ⟨(some 131), (.pick (.tmp 128) (.const (.c (.val (.bool true)))) (.tmp 130)), none⟩, ⟨(some 132), (.mov (.tmp 131)), none⟩, ⟨(some 133), (.mov (.tmp 3)), (some (132, false))⟩, ⟨(some 134), (.bin .eql (.tmp 133) (.const (.c (.val (.int .u8 123))))), (some (132, false))⟩, ⟨(some 135), (.pick (.tmp 132) (.const (.c (.val (.bool true)))) (.tmp 134)), none⟩])
 (.cond (.tmp 135) (.region [⟨(some 13), (.mov (.const (.c (.val (.int .i64 10))))), none⟩]) .skip))
 a71_c6)))
def a71_c10 : ACode := (.seq (.seq (.region [⟨(some 88), (.mov (.tmp 3)), none⟩, ⟨(some 89), (.bin .eql (.tmp 88) (.const (.c (.val (.int .u8 64))))), none⟩, ⟨(some 90), (.mov (.tmp 89)), none⟩, ⟨(some 91), (.mov (.tmp 0)), (some (90, true))⟩, ⟨(some 92), (.call 124 [(.tmp 91), (.const (.c (.val (.int .i64 1))))]), (some (90, true))⟩, ⟨(some 93), (.pick (.tmp 90) (.tmp 92) (.const (.c (.val (.bool false))))), none⟩])
 a71_c5)
 a71_c9)
def a71_c11 : ACode := (.seq (.seq (.region [⟨(some 43), (.mov (.tmp 3)), none⟩, ⟨(some 44), (.bin .eql (.tmp 43) (.const (.c (.val (.int .u8 39))))), none⟩, ⟨(some 45), (.mov (.tmp 44)), none⟩, ⟨(some 46), (.mov (.tmp 3)), (some (45, false))⟩, ⟨(some 47), (.bin .eql (.tmp 46) (.const (.c (.val (.int .u8 34))))), (some (45, false))⟩, ⟨(some 48), (.pick (.tmp 45) (.const (.c (.val (.bool true)))) (.tmp 47)), none⟩])
 (.cond (.tmp 48) (.seq (.region [⟨(some 49), (.mov (.tmp 0)), none⟩, ⟨(some 50), (.call 119 [(.tmp 49)]), none⟩, ⟨none, (.store 4 (.tmp 2) (.tmp 50)), none⟩])
 .ret) .skip))
 (.seq (.region [⟨(some 52), (.mov (.tmp 0)), none⟩, ⟨(some 53), (.call 24 [(.tmp 52)]), none⟩, ⟨(some 51), (.mov (.tmp 53)), none⟩, ⟨(some 54), (.ext (.tmp 51) 0), none⟩, ⟨(some 55), (.ext (.tmp 51) 1), none⟩, ⟨(some 5), (.mov (.tmp 54)), none⟩, ⟨(some 6), (.mov (.tmp 55)), none⟩])
 (.seq (.seq (.region [⟨(some 56), (.mov (.tmp 6)), none⟩, ⟨(some 57), (.bin .gtr (.tmp 56) (.const (.c (.val (.int .i64 0))))), none⟩])
 (.cond (.tmp 57) (.seq (.region [⟨(some 58), (.mov (.tmp 0)), none⟩, ⟨(some 59), (.mov (.tmp 5)), none⟩, ⟨(some 60), (.mov (.tmp 6)), none⟩, ⟨(some 61), (.call 120 [(.tmp 58), (.tmp 59), (.tmp 60)]), none⟩, ⟨none, (.store 4 (.tmp 2) (.tmp 61)), none⟩])
 .ret) .skip))
 (.seq (.seq (.region [⟨(some 62), (.mov (.tmp 3)), none⟩, ⟨(some 63), (.bin .eql (.tmp 62) (.const (.c (.val (.int .u8 35))))), none⟩, ⟨(some 64), (.mov (.tmp 63)), none⟩, ⟨(some 65), (.mov (.tmp 0)), (some (64, true))⟩, ⟨(some 66), (.call 68 [(.tmp 65), (.const (.c (.val (.int .i64 1))))]), (some (64, true))⟩, ⟨(some 67), (.call 121 [(.tmp 66)]), (some (64, true))⟩, ⟨(some 68), (.mov (.tmp 67)), (some (64, true))⟩, ⟨(some 69), (.mov (.tmp 0)), (some (68, true))⟩, ⟨(some 70), (.lenS (.tmp 69)), (some (68, true))⟩, ⟨(some 71), (.bin .gtr (.tmp 70) (.const (.c (.val (.int .i64 1))))), (some (68, true))⟩, ⟨(some 72), (.pick (.tmp 68) (.tmp 71) (.const (.c (.val (.bool false))))), (some (64, true))⟩, ⟨(some 73), (.mov (.tmp 72)), (some (64, true))⟩, ⟨(some 74), (.mov (.tmp 0)), (some (73, false))⟩, ⟨(some 75), (.call 122 [(.tmp 74), (.const (.c (.val (.int .i64 1))))]), (some (73, false))⟩, ⟨(some 76), (.pick (.tmp 73) (.const (.c (.val (.bool true)))) (.tmp 75)), (some (64, true))⟩, ⟨(some 77), (.pick (.tmp 64) (.tmp 76) (.const (.c (.val (.bool false))))), none⟩])
 a71_c4)
 a71_c10))))
def a71 : AFunc := ⟨1, [(.cell true 4 2)], (.seq (.region [⟨(some 2), (.box (.const (.agg [(.val (.int .i64 0)), (.str []), (.str []), (.val (.int .i64 0))]))), none⟩])
 (.seq (.region [⟨(some 14), (.mov (.tmp 0)), none⟩, ⟨(some 15), (.idxS (.tmp 14) (.const (.c (.val (.int .i64 0))))), none⟩, ⟨(some 3), (.mov (.tmp 15)), none⟩])
 (.seq (.seq (.region [⟨(some 16), (.mov (.tmp 3)), none⟩, ⟨(some 17), (.call 117 [(.tmp 16)]), none⟩])
 (.cond (.tmp 17) (.seq (.region [⟨(some 4), (.mov (.const (.c (.val (.int .i64 0))))), none⟩])
 (.seq (.block 0 (.loop a71_c2))
 (.seq (.region [⟨(some 30), (.mov (.tmp 0)), none⟩, ⟨(some 31), (.mov (.tmp 4)), none⟩, ⟨(some 32), (.slStr (.tmp 30) none (some (.tmp 31))), none⟩, ⟨(some 33), (.build [(.val (.int .i64 0)), (.str []), (.str []), (.val (.int .i64 0))] [(0, (1, (.const (.c (.val (.int .i64 8)))))), (1, (1, (.tmp 32)))]), none⟩, ⟨none, (.store 4 (.tmp 2) (.tmp 33)), none⟩])
 .ret))) .skip))
 (.seq (.seq (.region [⟨(some 34), (.mov (.tmp 3)), none⟩, ⟨(some 35), (.bin .eql (.tmp 34) (.const (.c (.val (.int .u8 47))))), none⟩, ⟨(some 36), (.mov (.tmp 35)), none⟩, ⟨(some 37), (.mov (.tmp 0)), (some (36, true))⟩, ⟨(some 38), (.call 68 [(.tmp 37), (.const (.c (.val (.int .i64 1))))]), (some (36, true))⟩, ⟨(some 39), (.bin .eql (.tmp 38) (.const (.c (.val (.int .u8 42))))), (some (36, true))⟩, ⟨(some 40), (.pick (.tmp 36) (.tmp 39) (.const (.c (.val (.bool false))))), none⟩])
 a71_c3)
 a71_c11))))⟩
set_option maxRecDepth 100000 in
theorem c71 : compFunc Tryd.prog 71 = some a71 := by kernel_rfl
def clerestoryref2_TokenAt_post (r : TSToken) : AV → Heap → Nat → Prop := fun v h' n' => v = (.agg [cI r.Kind, .str r.Raw, .str r.Value, cI r.Num]) ∧ (h' = (fun _ => none)) ∧ n' = 0
abbrev clerestoryref2_TokenAt_q0 (mL : Int) (Q : AExit → St → Prop) : AExit → St → Prop := AThen (Sv Tryd.prog (GG mL) 0 a71_c1 Q) Q
noncomputable def clerestoryref2_TokenAt_j3 (i_ : Int) (s_ : (List UInt8)) (self : Int → Option TSToken) (K0_ : Int → Option TSToken) (v27 : Bool) : Option TSToken :=
  if v27 then
    self (wi (i_ + 1))
  else
    K0_ i_
theorem clerestoryref2_TokenAt_j3_ok {mL : Int} {Q : AExit → St → Prop} {i_ : Int} {s_ : (List UInt8)} {self : Int → Option TSToken} {K0_ : Int → Option TSToken} {v27 : Bool} {o : TSToken} (h : clerestoryref2_TokenAt_j3 i_ s_ self K0_ v27 = some o)
    (hself : ∀ (i_ : Int), self i_ = some o → ∀ s, Weak 0 s ⟨(upd (upd (upd (fun _ => none) 0 (some (S s_))) 2 (some (.c (.ref 0 4 0 0)))) 4 (some (I i_))), (upd (fun _ => none) 0 (some (.cells 4 [[cI 0, .str [], .str [], cI 0]]))), 1⟩ → (Q) .normal s)
    (hK0 : ∀ (i_1 : Int), K0_ i_1 = some o → ∀ s, Weak 0 s ⟨(upd (upd (upd (fun _ => none) 0 (some (S s_))) 2 (some (.c (.ref 0 4 0 0)))) 4 (some (I i_1))), (upd (fun _ => none) 0 (some (.cells 4 [[cI 0, .str [], .str [], cI 0]]))), 1⟩ → Q (.exit 0) s)
    (hr : ∀ s, Ends a71.results 0 (clerestoryref2_TokenAt_post o) .ret s → Q .ret s) :
    Sv Tryd.prog (GG mL) 0 a71_c0 (clerestoryref2_TokenAt_q0 mL Q) ⟨(upd (upd (upd (upd (fun _ => none) 0 (some (S s_))) 2 (some (.c (.ref 0 4 0 0)))) 4 (some (I i_))) 27 (some (B v27))), (upd (fun _ => none) 0 (some (.cells 4 [[cI 0, .str [], .str [], cI 0]]))), 1⟩ := by
  unfold clerestoryref2_TokenAt_j3 at h
  refine Sv.cond (b := v27) rfl (fun hc2 => ?_) (fun hc2 => ?_)
  · replace h := ifT hc2 h
    refine Sv.skip ?_
    refine Sv.block ?_
    refine Sv.region ?_
    refine un (a1 rfl ?_)
    refine un (a1 (v := (I (wi (i_ + 1)))) rfl ?_)
    refine un (a1 rfl ?_)
    refine dnil ?_
    exact hself (wi (i_ + 1)) h _ (weak_canon [0] rfl (by decide) (by decide) (fun b h => absurd h (Nat.not_lt_zero _)) (.cons rfl (avAs_free rfl) (.cons rfl (.c (.ref rfl (by decide))) (.cons rfl (avAs_free rfl) .nil))) (.box (by decide) rfl (blkAs_cells (.cons (.same rfl) (.cons (.same rfl) (.cons (.same rfl) (.cons (.same rfl) .nil))))) .nil))
  · replace h := ifF hc2 h
    refine Sv.exit ?_
    exact hK0 i_ h _ (weak_canon [0] rfl (by decide) (by decide) (fun b h => absurd h (Nat.not_lt_zero _)) (.cons rfl (avAs_free rfl) (.cons rfl (.c (.ref rfl (by decide))) (.cons rfl (avAs_free rfl) .nil))) (.box (by decide) rfl (blkAs_cells (.cons (.same rfl) (.cons (.same rfl) (.cons (.same rfl) (.cons (.same rfl) .nil))))) .nil))
noncomputable def clerestoryref2_TokenAt_l0 (s_ : (List UInt8)) (K0_ : Int → Option TSToken) : Nat → Int → Option TSToken
  | 0, _ => none
  | k + 1, i_ =>
    if decide (i_ < (s_.length : Int)) then
      (at? s_ i_).bind fun c_1 =>
      clerestoryref2_TokenAt_j3 i_ s_ (clerestoryref2_TokenAt_l0 s_ K0_ k) K0_ (clerestoryref2_Blank (c_1.toNat : Int))
    else
      clerestoryref2_TokenAt_j3 i_ s_ (clerestoryref2_TokenAt_l0 s_ K0_ k) K0_ false
theorem clerestoryref2_TokenAt_l0_ok {mL : Int} {Q : AExit → St → Prop} {s_ : (List UInt8)} {K0_ : Int → Option TSToken} {k : Nat} {i_ : Int} {o : TSToken} (h : clerestoryref2_TokenAt_l0 s_ K0_ k i_ = some o)
    (hK0 : ∀ (i_1 : Int), K0_ i_1 = some o → ∀ s, Weak 0 s ⟨(upd (upd (upd (fun _ => none) 0 (some (S s_))) 2 (some (.c (.ref 0 4 0 0)))) 4 (some (I i_1))), (upd (fun _ => none) 0 (some (.cells 4 [[cI 0, .str [], .str [], cI 0]]))), 1⟩ → Q (.exit 0) s)
    (hr : ∀ s, Ends a71.results 0 (clerestoryref2_TokenAt_post o) .ret s → Q .ret s) :
    Sv Tryd.prog (GG mL) 0 (.loop a71_c2) Q ⟨(upd (upd (upd (fun _ => none) 0 (some (S s_))) 2 (some (.c (.ref 0 4 0 0)))) 4 (some (I i_))), (upd (fun _ => none) 0 (some (.cells 4 [[cI 0, .str [], .str [], cI 0]]))), 1⟩ := by
  refine Sv.loop (I := fun k s => ∃ (i_ : Int), clerestoryref2_TokenAt_l0 s_ K0_ k i_ = some o ∧ s = ⟨(upd (upd (upd (fun _ => none) 0 (some (S s_))) 2 (some (.c (.ref 0 4 0 0)))) 4 (some (I i_))), (upd (fun _ => none) 0 (some (.cells 4 [[cI 0, .str [], .str [], cI 0]]))), 1⟩) (fun k s hI => ?_) ⟨i_, h, rfl⟩
  clear h
  clear i_
  obtain ⟨i_, h, rfl⟩ := hI
  cases k with
  | zero => cases h
  | succ k =>
  rw [clerestoryref2_TokenAt_l0] at h
  have hself : ∀ (i_ : Int), (clerestoryref2_TokenAt_l0 s_ K0_ k) i_ = some o → ∀ s, Weak 0 s ⟨(upd (upd (upd (fun _ => none) 0 (some (S s_))) 2 (some (.c (.ref 0 4 0 0)))) 4 (some (I i_))), (upd (fun _ => none) 0 (some (.cells 4 [[cI 0, .str [], .str [], cI 0]]))), 1⟩ → (AThen (fun s' => ∃ s'' k', Weak 0 s' s'' ∧ k' < k + 1 ∧ (fun k s => ∃ (i_ : Int), clerestoryref2_TokenAt_l0 s_ K0_ k i_ = some o ∧ s = ⟨(upd (upd (upd (fun _ => none) 0 (some (S s_))) 2 (some (.c (.ref 0 4 0 0)))) 4 (some (I i_))), (upd (fun _ => none) 0 (some (.cells 4 [[cI 0, .str [], .str [], cI 0]]))), 1⟩) k' s'') Q) .normal s := fun i_ h s hw => ⟨_, k, hw, Nat.lt_succ_self k, i_, h, rfl⟩
  refine Sv.seq ?_
  refine Sv.seq ?_
  refine Sv.region ?_
  refine un (a1 rfl ?_)
  refine un (a1 rfl ?_)
  refine un (a1 (v := (I (s_.length : Int))) rfl ?_)
  refine un (a1 (v := (B (decide (i_ < (s_.length : Int))))) rfl ?_)
  refine un (a1 rfl ?_)
  refine split2 (fun hc3 => ?_) (fun hc3 => ?_)
  · replace h := ifT hc3 h
    refine gt rfl (a1 rfl ?_)
    refine gt rfl (a1 rfl ?_)
    obtain ⟨c_1, hx2, h⟩ := bnd h
    refine gt rfl (a1 (v := (.c (.val (.int .u8 (c_1.toNat : Int))))) (s_idxS rfl rfl hx2) ?_)
    refine gt rfl (ac_pure (clerestoryref2_Blank_ok (mL := mL) (c_1.toNat : Int)) rfl rfl rfl ?_)
    refine un (a1 (v := (B (clerestoryref2_Blank (c_1.toNat : Int)))) rfl ?_)
    refine dnil ?_
    exact Sv.weak (weak_canon [0] rfl (by decide) (by decide) (fun b h => absurd h (Nat.not_lt_zero _)) (.cons rfl (avAs_free rfl) (.cons rfl (avAs_free rfl) (.cons rfl (.c (.ref rfl (by decide))) (.cons rfl (avAs_free rfl) .nil)))) (.box (by decide) rfl (blkAs_cells (.cons (.same rfl) (.cons (.same rfl) (.cons (.same rfl) (.cons (.same rfl) .nil))))) .nil)) (clerestoryref2_TokenAt_j3_ok h hself hK0 hr)
  · replace h := ifF hc3 h
    refine gs rfl rfl ?_
    refine gs rfl rfl ?_
    refine gs rfl rfl ?_
    refine gs rfl rfl ?_
    refine un (a1 (v := (B false)) rfl ?_)
    refine dnil ?_
    exact Sv.weak (weak_canon [0] rfl (by decide) (by decide) (fun b h => absurd h (Nat.not_lt_zero _)) (.cons rfl (avAs_free rfl) (.cons rfl (avAs_free rfl) (.cons rfl (.c (.ref rfl (by decide))) (.cons rfl (avAs_free rfl) .nil)))) (.box (by decide) rfl (blkAs_cells (.cons (.same rfl) (.cons (.same rfl) (.cons (.same rfl) (.cons (.same rfl) .nil))))) .nil)) (clerestoryref2_TokenAt_j3_ok h hself hK0 hr)
noncomputable def clerestoryref2_TokenAt_j9 (s_ : (List UInt8)) (kind2 : Int) : Option TSToken :=
  (sub? s_ 0 1).bind fun r_14 =>
  some (⟨kind2, r_14, [], 0⟩ : TSToken)
theorem clerestoryref2_TokenAt_j9_ok {mL : Int} {s_ : (List UInt8)} {kind2 : Int} {o : TSToken} (h : clerestoryref2_TokenAt_j9 s_ kind2 = some o) :
    Sv Tryd.prog (GG mL) 0 a71_c8 (Ends a71.results 0 (clerestoryref2_TokenAt_post o)) ⟨(upd (upd (upd (fun _ => none) 0 (some (S s_))) 2 (some (.c (.ref 0 4 0 0)))) 13 (some (I kind2))), (upd (fun _ => none) 0 (some (.cells 4 [[cI 0, .str [], .str [], cI 0]]))), 1⟩ := by
  unfold clerestoryref2_TokenAt_j9 at h
  refine Sv.seq ?_
  refine Sv.region ?_
  refine un (a1 rfl ?_)
  refine un (a1 rfl ?_)
  obtain ⟨r_14, hx8, h⟩ := bnd h
  refine un (a1 (v := (S r_14)) (s_slStr rfl rfl rfl hx8) ?_)
  refine un (a1 (v := (.agg [cI kind2, .str r_14, .str [], cI 0])) rfl ?_)
  refine un (a2n (h' := upd _ 0 (some (.cells 4 [[cI kind2, .str r_14, .str [], cI 0]]))) (n' := 1) rfl rfl (fun h => by cases h) ?_)
  refine dnil ?_
  refine Sv.ret ?_
  replace h := Option.some.inj h
  subst h
  exact ⟨_, .refl _, _, rfl, ⟨upd (fun _ => none) 0 (some (.agg [cI kind2, .str r_14, .str [], cI 0])), (fun _ => none), 0⟩, (.agg [cI kind2, .str r_14, .str [], cI 0]), weak_canon [] rfl List.nodup_nil (Nat.le_refl _) (fun b h => absurd h (Nat.not_lt_zero _)) (.cons rfl (avAs_free rfl) .nil) .nil, rfl, rfl, rfl, rfl⟩
noncomputable def clerestoryref2_TokenAt_j8 (c_ : UInt8) (s_ : (List UInt8)) (kind1 : Int) : Option TSToken :=
  if decide ((c_.toNat : Int) = 92) then
    clerestoryref2_TokenAt_j9 s_ 6
  else
    clerestoryref2_TokenAt_j9 s_ kind1
theorem clerestoryref2_TokenAt_j8_ok {mL : Int} {c_ : UInt8} {s_ : (List UInt8)} {kind1 : Int} {o : TSToken} (h : clerestoryref2_TokenAt_j8 c_ s_ kind1 = some o) :
    Sv Tryd.prog (GG mL) 0 a71_c7 (Ends a71.results 0 (clerestoryref2_TokenAt_post o)) ⟨(upd (upd (upd (upd (fun _ => none) 0 (some (S s_))) 2 (some (.c (.ref 0 4 0 0)))) 3 (some (.c (.val (.int .u8 (c_.toNat : Int)))))) 13 (some (I kind1))), (upd (fun _ => none) 0 (some (.cells 4 [[cI 0, .str [], .str [], cI 0]]))), 1⟩ := by
  unfold clerestoryref2_TokenAt_j8 at h
  refine Sv.seq ?_
  refine Sv.seq ?_
  refine Sv.region ?_
  refine un (a1 rfl ?_)
  refine un (a1 (v := (B (decide ((c_.toNat : Int) = 92)))) rfl ?_)
  refine dnil ?_
  refine Sv.cond (b := decide ((c_.toNat : Int) = 92)) rfl (fun hc12 => ?_) (fun hc12 => ?_)
  · replace h := ifT hc12 h
    refine Sv.region ?_
    refine un (a1 rfl ?_)
    refine dnil ?_
    exact Sv.weak (weak_canon [0] rfl (by decide) (by decide) (fun b h => absurd h (Nat.not_lt_zero _)) (.cons rfl (avAs_free rfl) (.cons rfl (.c (.ref rfl (by decide))) (.cons rfl (avAs_free rfl) .nil))) (.box (by decide) rfl (blkAs_cells (.cons (.same rfl) (.cons (.same rfl) (.cons (.same rfl) (.cons (.same rfl) .nil))))) .nil)) (clerestoryref2_TokenAt_j9_ok h)
  · replace h := ifF hc12 h
    refine Sv.skip ?_
    exact Sv.weak (weak_canon [0] rfl (by decide) (by decide) (fun b h => absurd h (Nat.not_lt_zero _)) (.cons rfl (avAs_free rfl) (.cons rfl (.c (.ref rfl (by decide))) (.cons rfl (avAs_free rfl) .nil))) (.box (by decide) rfl (blkAs_cells (.cons (.same rfl) (.cons (.same rfl) (.cons (.same rfl) (.cons (.same rfl) .nil))))) .nil)) (clerestoryref2_TokenAt_j9_ok h)
noncomputable def clerestoryref2_TokenAt_j7 (c_ : UInt8) (s_ : (List UInt8)) (kind : Int) : Option TSToken :=
  if (((decide ((c_.toNat : Int) = 41)) || (decide ((c_.toNat : Int) = 93))) || (decide ((c_.toNat : Int) = 125))) then
    clerestoryref2_TokenAt_j8 c_ s_ 11
  else
    clerestoryref2_TokenAt_j8 c_ s_ kind
theorem clerestoryref2_TokenAt_j7_ok {mL : Int} {c_ : UInt8} {s_ : (List UInt8)} {kind : Int} {o : TSToken} (h : clerestoryref2_TokenAt_j7 c_ s_ kind = some o) :
    Sv Tryd.prog (GG mL) 0 a71_c6 (Ends a71.results 0 (clerestoryref2_TokenAt_post o)) ⟨(upd (upd (upd (upd (fun _ => none) 0 (some (S s_))) 2 (some (.c (.ref 0 4 0 0)))) 3 (some (.c (.val (.int .u8 (c_.toNat : Int)))))) 13 (some (I kind))), (upd (fun _ => none) 0 (some (.cells 4 [[cI 0, .str [], .str [], cI 0]]))), 1⟩ := by
  unfold clerestoryref2_TokenAt_j7 at h
  refine Sv.seq ?_
  refine Sv.seq ?_
  refine Sv.region ?_
  refine un (a1 rfl ?_)
  refine un (a1 (v := (B (decide ((c_.toNat : Int) = 41)))) rfl ?_)
  refine un (a1 rfl ?_)
  refine gjoin 3 (d := 141) (v := (B ((decide ((c_.toNat : Int) = 41)) || (decide ((c_.toNat : Int) = 93))))) (fun X hX => ?_) ?_
  · refine split2 (fun hc13 => ?_) (fun hc13 => ?_)
    · refine gs rfl rfl ?_
      refine gs rfl rfl ?_
      refine un (a1 (v := (B true)) rfl ?_)
      refine dnil ?_
      exact hX _ (.putEq (by rw [hc13]; rfl) (.skip _ _ (.skip _ _ (.putEq (by rw [hc13]) (.refl _)) rfl) rfl))
    · refine gt rfl (a1 rfl ?_)
      refine gt rfl (a1 (v := (B (decide ((c_.toNat : Int) = 93)))) rfl ?_)
      refine un (a1 (v := (B (decide ((c_.toNat : Int) = 93)))) rfl ?_)
      refine dnil ?_
      exact hX _ (.putEq (by rw [hc13]; rfl) (.skip _ _ (.skip _ _ (.putEq (by rw [hc13]) (.refl _)) rfl) rfl))
  refine un (a1 rfl ?_)
  refine gjoin 3 (d := 145) (v := (B (((decide ((c_.toNat : Int) = 41)) || (decide ((c_.toNat : Int) = 93))) || (decide ((c_.toNat : Int) = 125))))) (fun X hX => ?_) ?_
  · refine split2 (fun hc14 => ?_) (fun hc14 => ?_)
    · refine gs rfl rfl ?_
      refine gs rfl rfl ?_
      refine un (a1 (v := (B true)) rfl ?_)
      refine dnil ?_
      exact hX _ (.putEq (by rw [hc14]; rfl) (.skip _ _ (.skip _ _ (.putEq (by rw [hc14]) (.refl _)) rfl) rfl))
    · refine gt rfl (a1 rfl ?_)
      refine gt rfl (a1 (v := (B (decide ((c_.toNat : Int) = 125)))) rfl ?_)
      refine un (a1 (v := (B (decide ((c_.toNat : Int) = 125)))) rfl ?_)
      refine dnil ?_
      exact hX _ (.putEq (by rw [hc14]; rfl) (.skip _ _ (.skip _ _ (.putEq (by rw [hc14]) (.refl _)) rfl) rfl))
  refine dnil ?_
  refine Sv.cond (b := (((decide ((c_.toNat : Int) = 41)) || (decide ((c_.toNat : Int) = 93))) || (decide ((c_.toNat : Int) = 125)))) rfl (fun hc15 => ?_) (fun hc15 => ?_)
  · replace h := ifT hc15 h
    refine Sv.region ?_
    refine un (a1 rfl ?_)
    refine dnil ?_
    exact Sv.weak (weak_canon [0] rfl (by decide) (by decide) (fun b h => absurd h (Nat.not_lt_zero _)) (.cons rfl (avAs_free rfl) (.cons rfl (avAs_free rfl) (.cons rfl (.c (.ref rfl (by decide))) (.cons rfl (avAs_free rfl) .nil)))) (.box (by decide) rfl (blkAs_cells (.cons (.same rfl) (.cons (.same rfl) (.cons (.same rfl) (.cons (.same rfl) .nil))))) .nil)) (clerestoryref2_TokenAt_j8_ok h)
  · replace h := ifF hc15 h
    refine Sv.skip ?_
    exact Sv.weak (weak_canon [0] rfl (by decide) (by decide) (fun b h => absurd h (Nat.not_lt_zero _)) (.cons rfl (avAs_free rfl) (.cons rfl (avAs_free rfl) (.cons rfl (.c (.ref rfl (by decide))) (.cons rfl (avAs_free rfl) .nil)))) (.box (by decide) rfl (blkAs_cells (.cons (.same rfl) (.cons (.same rfl) (.cons (.same rfl) (.cons (.same rfl) .nil))))) .nil)) (clerestoryref2_TokenAt_j8_ok h)
abbrev clerestoryref2_TokenAt_q1 (mL : Int) (o : TSToken) : AExit → St → Prop := AThen (Sv Tryd.prog (GG mL) 0 a71_c9 (Ends a71.results 0 (clerestoryref2_TokenAt_post o))) (Ends a71.results 0 (clerestoryref2_TokenAt_post o))
noncomputable def clerestoryref2_TokenAt_j6 (s_ : (List UInt8)) (c_ : UInt8) (v93 : Bool) : Option TSToken :=
  if v93 then
    (clerestoryref2_said s_ 1).bind fun r_7 =>
    (sub? s_ 0 r_7.2).bind fun r_8 =>
    some (⟨3, r_8, r_7.1, 0⟩ : TSToken)
  else
    (clerestoryref2_begins s_ 0).bind fun r_9 =>
    if r_9 then
      (clerestoryref2_said s_ 0).bind fun r_10 =>
      (clerestoryref2_at s_ r_10.2).bind fun r_11 =>
      if decide (r_11 = 40) then
        (sub? s_ 0 (wi (r_10.2 + 1))).bind fun r_12 =>
        some (⟨2, r_12, r_10.1, 0⟩ : TSToken)
      else
        (sub? s_ 0 r_10.2).bind fun r_13 =>
        some (⟨1, r_13, r_10.1, 0⟩ : TSToken)
    else
      if (((decide ((c_.toNat : Int) = 40)) || (decide ((c_.toNat : Int) = 91))) || (decide ((c_.toNat : Int) = 123))) then
        clerestoryref2_TokenAt_j7 c_ s_ 10
      else
        clerestoryref2_TokenAt_j7 c_ s_ 12
theorem clerestoryref2_TokenAt_j6_ok {mL : Int} {s_ : (List UInt8)} {c_ : UInt8} {v93 : Bool} {o : TSToken} (h : clerestoryref2_TokenAt_j6 s_ c_ v93 = some o) :
    Sv Tryd.prog (GG mL) 0 a71_c5 (clerestoryref2_TokenAt_q1 mL o) ⟨(upd (upd (upd (upd (fun _ => none) 0 (some (S s_))) 2 (some (.c (.ref 0 4 0 0)))) 3 (some (.c (.val (.int .u8 (c_.toNat : Int)))))) 93 (some (B v93))), (upd (fun _ => none) 0 (some (.cells 4 [[cI 0, .str [], .str [], cI 0]]))), 1⟩ := by
  unfold clerestoryref2_TokenAt_j6 at h
  refine Sv.cond (b := v93) rfl (fun hc9 => ?_) (fun hc9 => ?_)
  · replace h := ifT hc9 h
    refine Sv.seq ?_
    refine Sv.region ?_
    refine un (a1 rfl ?_)
    obtain ⟨r_7, hr6, h⟩ := bnd h
    refine un (ac_pure (clerestoryref2_said_ok hr6) rfl rfl rfl ?_)
    refine un (a1 rfl ?_)
    refine un (a1 (v := (S r_7.1)) rfl ?_)
    refine un (a1 (v := (I r_7.2)) rfl ?_)
    refine un (a1 rfl ?_)
    refine un (a1 rfl ?_)
    refine dnil ?_
    refine Sv.seq ?_
    refine Sv.region ?_
    refine un (a1 rfl ?_)
    refine un (a1 rfl ?_)
    obtain ⟨r_8, hx5, h⟩ := bnd h
    refine un (a1 (v := (S r_8)) (s_slStr rfl rfl rfl hx5) ?_)
    refine un (a1 rfl ?_)
    refine un (a1 (v := (.agg [cI 3, .str r_8, .str r_7.1, cI 0])) rfl ?_)
    refine un (a2n (h' := upd _ 0 (some (.cells 4 [[cI 3, .str r_8, .str r_7.1, cI 0]]))) (n' := 1) rfl rfl (fun h => by cases h) ?_)
    refine dnil ?_
    refine Sv.ret ?_
    replace h := Option.some.inj h
    subst h
    exact ⟨_, .refl _, _, rfl, ⟨upd (fun _ => none) 0 (some (.agg [cI 3, .str r_8, .str r_7.1, cI 0])), (fun _ => none), 0⟩, (.agg [cI 3, .str r_8, .str r_7.1, cI 0]), weak_canon [] rfl List.nodup_nil (Nat.le_refl _) (fun b h => absurd h (Nat.not_lt_zero _)) (.cons rfl (avAs_free rfl) .nil) .nil, rfl, rfl, rfl, rfl⟩
  · replace h := ifF hc9 h
    refine Sv.skip ?_
    refine Sv.seq ?_
    refine Sv.seq ?_
    refine Sv.region ?_
    refine un (a1 rfl ?_)
    obtain ⟨r_9, hr7, h⟩ := bnd h
    refine un (ac_pure (clerestoryref2_begins_ok hr7) rfl rfl rfl ?_)
    refine dnil ?_
    refine Sv.cond (b := r_9) rfl (fun hc10 => ?_) (fun hc10 => ?_)
    · replace h := ifT hc10 h
      refine Sv.seq ?_
      refine Sv.region ?_
      refine un (a1 rfl ?_)
      obtain ⟨r_10, hr8, h⟩ := bnd h
      refine un (ac_pure (clerestoryref2_said_ok hr8) rfl rfl rfl ?_)
      refine un (a1 rfl ?_)
      refine un (a1 (v := (S r_10.1)) rfl ?_)
      refine un (a1 (v := (I r_10.2)) rfl ?_)
      refine un (a1 rfl ?_)
      refine un (a1 rfl ?_)
      refine dnil ?_
      refine Sv.seq ?_
      refine Sv.seq ?_
      refine Sv.region ?_
      refine un (a1 rfl ?_)
      refine un (a1 rfl ?_)
      obtain ⟨r_11, hr9, h⟩ := bnd h
      refine un (ac_pure (clerestoryref2_at_ok hr9) rfl rfl rfl ?_)
      refine un (a1 (v := (B (decide (r_11 = 40)))) rfl ?_)
      refine dnil ?_
      refine Sv.cond (b := decide (r_11 = 40)) rfl (fun hc11 => ?_) (fun hc11 => ?_)
      · replace h := ifT hc11 h
        refine Sv.seq ?_
        refine Sv.region ?_
        refine un (a1 rfl ?_)
        refine un (a1 rfl ?_)
        refine un (a1 (v := (I (wi (r_10.2 + 1)))) rfl ?_)
        obtain ⟨r_12, hx6, h⟩ := bnd h
        refine un (a1 (v := (S r_12)) (s_slStr rfl rfl rfl hx6) ?_)
        refine un (a1 rfl ?_)
        refine un (a1 (v := (.agg [cI 2, .str r_12, .str r_10.1, cI 0])) rfl ?_)
        refine un (a2n (h' := upd _ 0 (some (.cells 4 [[cI 2, .str r_12, .str r_10.1, cI 0]]))) (n' := 1) rfl rfl (fun h => by cases h) ?_)
        refine dnil ?_
        refine Sv.ret ?_
        replace h := Option.some.inj h
        subst h
        exact ⟨_, .refl _, _, rfl, ⟨upd (fun _ => none) 0 (some (.agg [cI 2, .str r_12, .str r_10.1, cI 0])), (fun _ => none), 0⟩, (.agg [cI 2, .str r_12, .str r_10.1, cI 0]), weak_canon [] rfl List.nodup_nil (Nat.le_refl _) (fun b h => absurd h (Nat.not_lt_zero _)) (.cons rfl (avAs_free rfl) .nil) .nil, rfl, rfl, rfl, rfl⟩
      · replace h := ifF hc11 h
        refine Sv.skip ?_
        refine Sv.seq ?_
        refine Sv.region ?_
        refine un (a1 rfl ?_)
        refine un (a1 rfl ?_)
        obtain ⟨r_13, hx7, h⟩ := bnd h
        refine un (a1 (v := (S r_13)) (s_slStr rfl rfl rfl hx7) ?_)
        refine un (a1 rfl ?_)
        refine un (a1 (v := (.agg [cI 1, .str r_13, .str r_10.1, cI 0])) rfl ?_)
        refine un (a2n (h' := upd _ 0 (some (.cells 4 [[cI 1, .str r_13, .str r_10.1, cI 0]]))) (n' := 1) rfl rfl (fun h => by cases h) ?_)
        refine dnil ?_
        refine Sv.ret ?_
        replace h := Option.some.inj h
        subst h
        exact ⟨_, .refl _, _, rfl, ⟨upd (fun _ => none) 0 (some (.agg [cI 1, .str r_13, .str r_10.1, cI 0])), (fun _ => none), 0⟩, (.agg [cI 1, .str r_13, .str r_10.1, cI 0]), weak_canon [] rfl List.nodup_nil (Nat.le_refl _) (fun b h => absurd h (Nat.not_lt_zero _)) (.cons rfl (avAs_free rfl) .nil) .nil, rfl, rfl, rfl, rfl⟩
    · replace h := ifF hc10 h
      refine Sv.skip ?_
      refine Sv.seq ?_
      refine Sv.region ?_
      refine un (a1 rfl ?_)
      refine dnil ?_
      refine Sv.seq ?_
      refine Sv.seq ?_
      refine Sv.region ?_
      refine un (a1 rfl ?_)
      refine un (a1 (v := (B (decide ((c_.toNat : Int) = 40)))) rfl ?_)
      refine un (a1 rfl ?_)
      refine gjoin 3 (d := 131) (v := (B ((decide ((c_.toNat : Int) = 40)) || (decide ((c_.toNat : Int) = 91))))) (fun X hX => ?_) ?_
      · refine split2 (fun hc16 => ?_) (fun hc16 => ?_)
        · refine gs rfl rfl ?_
          refine gs rfl rfl ?_
          refine un (a1 (v := (B true)) rfl ?_)
          refine dnil ?_
          exact hX _ (.putEq (by rw [hc16]; rfl) (.skip _ _ (.skip _ _ (.putEq (by rw [hc16]) (.refl _)) rfl) rfl))
        · refine gt rfl (a1 rfl ?_)
          refine gt rfl (a1 (v := (B (decide ((c_.toNat : Int) = 91)))) rfl ?_)
          refine un (a1 (v := (B (decide ((c_.toNat : Int) = 91)))) rfl ?_)
          refine dnil ?_
          exact hX _ (.putEq (by rw [hc16]; rfl) (.skip _ _ (.skip _ _ (.putEq (by rw [hc16]) (.refl _)) rfl) rfl))
      refine un (a1 rfl ?_)
      refine gjoin 3 (d := 135) (v := (B (((decide ((c_.toNat : Int) = 40)) || (decide ((c_.toNat : Int) = 91))) || (decide ((c_.toNat : Int) = 123))))) (fun X hX => ?_) ?_
      · refine split2 (fun hc17 => ?_) (fun hc17 => ?_)
        · refine gs rfl rfl ?_
          refine gs rfl rfl ?_
          refine un (a1 (v := (B true)) rfl ?_)
          refine dnil ?_
          exact hX _ (.putEq (by rw [hc17]; rfl) (.skip _ _ (.skip _ _ (.putEq (by rw [hc17]) (.refl _)) rfl) rfl))
        · refine gt rfl (a1 rfl ?_)
          refine gt rfl (a1 (v := (B (decide ((c_.toNat : Int) = 123)))) rfl ?_)
          refine un (a1 (v := (B (decide ((c_.toNat : Int) = 123)))) rfl ?_)
          refine dnil ?_
          exact hX _ (.putEq (by rw [hc17]; rfl) (.skip _ _ (.skip _ _ (.putEq (by rw [hc17]) (.refl _)) rfl) rfl))
      refine dnil ?_
      refine Sv.cond (b := (((decide ((c_.toNat : Int) = 40)) || (decide ((c_.toNat : Int) = 91))) || (decide ((c_.toNat : Int) = 123)))) rfl (fun hc18 => ?_) (fun hc18 => ?_)
      · replace h := ifT hc18 h
        refine Sv.region ?_
        refine un (a1 rfl ?_)
        refine dnil ?_
        exact Sv.weak (weak_canon [0] rfl (by decide) (by decide) (fun b h => absurd h (Nat.not_lt_zero _)) (.cons rfl (avAs_free rfl) (.cons rfl (avAs_free rfl) (.cons rfl (.c (.ref rfl (by decide))) (.cons rfl (avAs_free rfl) .nil)))) (.box (by decide) rfl (blkAs_cells (.cons (.same rfl) (.cons (.same rfl) (.cons (.same rfl) (.cons (.same rfl) .nil))))) .nil)) (clerestoryref2_TokenAt_j7_ok h)
      · replace h := ifF hc18 h
        refine Sv.skip ?_
        exact Sv.weak (weak_canon [0] rfl (by decide) (by decide) (fun b h => absurd h (Nat.not_lt_zero _)) (.cons rfl (avAs_free rfl) (.cons rfl (avAs_free rfl) (.cons rfl (.c (.ref rfl (by decide))) (.cons rfl (avAs_free rfl) .nil)))) (.box (by decide) rfl (blkAs_cells (.cons (.same rfl) (.cons (.same rfl) (.cons (.same rfl) (.cons (.same rfl) .nil))))) .nil)) (clerestoryref2_TokenAt_j7_ok h)
abbrev clerestoryref2_TokenAt_q2 (mL : Int) (o : TSToken) : AExit → St → Prop := AThen (Sv Tryd.prog (GG mL) 0 a71_c10 (Ends a71.results 0 (clerestoryref2_TokenAt_post o))) (Ends a71.results 0 (clerestoryref2_TokenAt_post o))
noncomputable def clerestoryref2_TokenAt_j5 (s_ : (List UInt8)) (c_ : UInt8) (v77 : Bool) : Option TSToken :=
  if v77 then
    (clerestoryref2_said s_ 1).bind fun r_5 =>
    (sub? s_ 0 r_5.2).bind fun r_6 =>
    some (⟨4, r_6, r_5.1, 0⟩ : TSToken)
  else
    if decide ((c_.toNat : Int) = 64) then
      (clerestoryref2_begins s_ 1).bind fun r_15 =>
      clerestoryref2_TokenAt_j6 s_ c_ r_15
    else
      clerestoryref2_TokenAt_j6 s_ c_ false
theorem clerestoryref2_TokenAt_j5_ok {mL : Int} {s_ : (List UInt8)} {c_ : UInt8} {v77 : Bool} {o : TSToken} (h : clerestoryref2_TokenAt_j5 s_ c_ v77 = some o) :
    Sv Tryd.prog (GG mL) 0 a71_c4 (clerestoryref2_TokenAt_q2 mL o) ⟨(upd (upd (upd (upd (fun _ => none) 0 (some (S s_))) 2 (some (.c (.ref 0 4 0 0)))) 3 (some (.c (.val (.int .u8 (c_.toNat : Int)))))) 77 (some (B v77))), (upd (fun _ => none) 0 (some (.cells 4 [[cI 0, .str [], .str [], cI 0]]))), 1⟩ := by
  unfold clerestoryref2_TokenAt_j5 at h
  refine Sv.cond (b := v77) rfl (fun hc8 => ?_) (fun hc8 => ?_)
  · replace h := ifT hc8 h
    refine Sv.seq ?_
    refine Sv.region ?_
    refine un (a1 rfl ?_)
    obtain ⟨r_5, hr5, h⟩ := bnd h
    refine un (ac_pure (clerestoryref2_said_ok hr5) rfl rfl rfl ?_)
    refine un (a1 rfl ?_)
    refine un (a1 (v := (S r_5.1)) rfl ?_)
    refine un (a1 (v := (I r_5.2)) rfl ?_)
    refine un (a1 rfl ?_)
    refine un (a1 rfl ?_)
    refine dnil ?_
    refine Sv.seq ?_
    refine Sv.region ?_
    refine un (a1 rfl ?_)
    refine un (a1 rfl ?_)
    obtain ⟨r_6, hx4, h⟩ := bnd h
    refine un (a1 (v := (S r_6)) (s_slStr rfl rfl rfl hx4) ?_)
    refine un (a1 rfl ?_)
    refine un (a1 (v := (.agg [cI 4, .str r_6, .str r_5.1, cI 0])) rfl ?_)
    refine un (a2n (h' := upd _ 0 (some (.cells 4 [[cI 4, .str r_6, .str r_5.1, cI 0]]))) (n' := 1) rfl rfl (fun h => by cases h) ?_)
    refine dnil ?_
    refine Sv.ret ?_
    replace h := Option.some.inj h
    subst h
    exact ⟨_, .refl _, _, rfl, ⟨upd (fun _ => none) 0 (some (.agg [cI 4, .str r_6, .str r_5.1, cI 0])), (fun _ => none), 0⟩, (.agg [cI 4, .str r_6, .str r_5.1, cI 0]), weak_canon [] rfl List.nodup_nil (Nat.le_refl _) (fun b h => absurd h (Nat.not_lt_zero _)) (.cons rfl (avAs_free rfl) .nil) .nil, rfl, rfl, rfl, rfl⟩
  · replace h := ifF hc8 h
    refine Sv.skip ?_
    refine Sv.seq ?_
    refine Sv.seq ?_
    refine Sv.region ?_
    refine un (a1 rfl ?_)
    refine un (a1 (v := (B (decide ((c_.toNat : Int) = 64)))) rfl ?_)
    refine un (a1 rfl ?_)
    refine split2 (fun hc19 => ?_) (fun hc19 => ?_)
    · replace h := ifT hc19 h
      refine gt rfl (a1 rfl ?_)
      obtain ⟨r_15, hr10, h⟩ := bnd h
      refine gt rfl (ac_pure (clerestoryref2_begins_ok hr10) rfl rfl rfl ?_)
      refine un (a1 (v := (B r_15)) rfl ?_)
      refine dnil ?_
      exact Sv.weak (weak_canon [0] rfl (by decide) (by decide) (fun b h => absurd h (Nat.not_lt_zero _)) (.cons rfl (avAs_free rfl) (.cons rfl (avAs_free rfl) (.cons rfl (.c (.ref rfl (by decide))) (.cons rfl (avAs_free rfl) .nil)))) (.box (by decide) rfl (blkAs_cells (.cons (.same rfl) (.cons (.same rfl) (.cons (.same rfl) (.cons (.same rfl) .nil))))) .nil)) (clerestoryref2_TokenAt_j6_ok h)
    · replace h := ifF hc19 h
      refine gs rfl rfl ?_
      refine gs rfl rfl ?_
      refine un (a1 (v := (B false)) rfl ?_)
      refine dnil ?_
      exact Sv.weak (weak_canon [0] rfl (by decide) (by decide) (fun b h => absurd h (Nat.not_lt_zero _)) (.cons rfl (avAs_free rfl) (.cons rfl (avAs_free rfl) (.cons rfl (.c (.ref rfl (by decide))) (.cons rfl (avAs_free rfl) .nil)))) (.box (by decide) rfl (blkAs_cells (.cons (.same rfl) (.cons (.same rfl) (.cons (.same rfl) (.cons (.same rfl) .nil))))) .nil)) (clerestoryref2_TokenAt_j6_ok h)
abbrev clerestoryref2_TokenAt_q3 (mL : Int) (o : TSToken) : AExit → St → Prop := AThen (Sv Tryd.prog (GG mL) 0 a71_c11 (Ends a71.results 0 (clerestoryref2_TokenAt_post o))) (Ends a71.results 0 (clerestoryref2_TokenAt_post o))
noncomputable def clerestoryref2_TokenAt_j4 (s_ : (List UInt8)) (c_ : UInt8) (v40 : Bool) : Option TSToken :=
  if v40 then
    (clerestoryref2_noteAt s_).bind fun r_1 =>
    some r_1
  else
    if ((decide ((c_.toNat : Int) = 39)) || (decide ((c_.toNat : Int) = 34))) then
      (clerestoryref2_textAt s_).bind fun r_2 =>
      some r_2
    else
      (clerestoryref2_NumberAt s_).bind fun r_3 =>
      if decide (0 < r_3.2) then
        (clerestoryref2_numAt s_ r_3.1 r_3.2).bind fun r_4 =>
        some r_4
      else
        if decide ((c_.toNat : Int) = 35) then
          (clerestoryref2_at s_ 1).bind fun r_16 =>
          if ((clerestoryref2_named r_16) && (decide (1 < (s_.length : Int)))) then
            clerestoryref2_TokenAt_j5 s_ c_ true
          else
            (clerestoryref2_escape s_ 1).bind fun r_17 =>
            clerestoryref2_TokenAt_j5 s_ c_ r_17
        else
          clerestoryref2_TokenAt_j5 s_ c_ false
theorem clerestoryref2_TokenAt_j4_ok {mL : Int} {s_ : (List UInt8)} {c_ : UInt8} {v40 : Bool} {o : TSToken} (h : clerestoryref2_TokenAt_j4 s_ c_ v40 = some o) :
    Sv Tryd.prog (GG mL) 0 a71_c3 (clerestoryref2_TokenAt_q3 mL o) ⟨(upd (upd (upd (upd (fun _ => none) 0 (some (S s_))) 2 (some (.c (.ref 0 4 0 0)))) 3 (some (.c (.val (.int .u8 (c_.toNat : Int)))))) 40 (some (B v40))), (upd (fun _ => none) 0 (some (.cells 4 [[cI 0, .str [], .str [], cI 0]]))), 1⟩ := by
  unfold clerestoryref2_TokenAt_j4 at h
  refine Sv.cond (b := v40) rfl (fun hc4 => ?_) (fun hc4 => ?_)
  · replace h := ifT hc4 h
    refine Sv.seq ?_
    refine Sv.region ?_
    refine un (a1 rfl ?_)
    obtain ⟨r_1, hr1, h⟩ := bnd h
    refine un (ac_pure (clerestoryref2_noteAt_ok hr1) rfl rfl rfl ?_)
    refine un (a2n (h' := upd _ 0 (some (.cells 4 [[cI r_1.Kind, .str r_1.Raw, .str r_1.Value, cI r_1.Num]]))) (n' := 1) rfl rfl (fun h => by cases h) ?_)
    refine dnil ?_
    refine Sv.ret ?_
    replace h := Option.some.inj h
    subst h
    exact ⟨_, .refl _, _, rfl, ⟨upd (fun _ => none) 0 (some (.agg [cI r_1.Kind, .str r_1.Raw, .str r_1.Value, cI r_1.Num])), (fun _ => none), 0⟩, (.agg [cI r_1.Kind, .str r_1.Raw, .str r_1.Value, cI r_1.Num]), weak_canon [] rfl List.nodup_nil (Nat.le_refl _) (fun b h => absurd h (Nat.not_lt_zero _)) (.cons rfl (avAs_free rfl) .nil) .nil, rfl, rfl, rfl, rfl⟩
  · replace h := ifF hc4 h
    refine Sv.skip ?_
    refine Sv.seq ?_
    refine Sv.seq ?_
    refine Sv.region ?_
    refine un (a1 rfl ?_)
    refine un (a1 (v := (B (decide ((c_.toNat : Int) = 39)))) rfl ?_)
    refine un (a1 rfl ?_)
    refine gjoin 3 (d := 48) (v := (B ((decide ((c_.toNat : Int) = 39)) || (decide ((c_.toNat : Int) = 34))))) (fun X hX => ?_) ?_
    · refine split2 (fun hc5 => ?_) (fun hc5 => ?_)
      · refine gs rfl rfl ?_
        refine gs rfl rfl ?_
        refine un (a1 (v := (B true)) rfl ?_)
        refine dnil ?_
        exact hX _ (.putEq (by rw [hc5]; rfl) (.skip _ _ (.skip _ _ (.putEq (by rw [hc5]) (.refl _)) rfl) rfl))
      · refine gt rfl (a1 rfl ?_)
        refine gt rfl (a1 (v := (B (decide ((c_.toNat : Int) = 34)))) rfl ?_)
        refine un (a1 (v := (B (decide ((c_.toNat : Int) = 34)))) rfl ?_)
        refine dnil ?_
        exact hX _ (.putEq (by rw [hc5]; rfl) (.skip _ _ (.skip _ _ (.putEq (by rw [hc5]) (.refl _)) rfl) rfl))
    refine dnil ?_
    refine Sv.cond (b := ((decide ((c_.toNat : Int) = 39)) || (decide ((c_.toNat : Int) = 34)))) rfl (fun hc6 => ?_) (fun hc6 => ?_)
    · replace h := ifT hc6 h
      refine Sv.seq ?_
      refine Sv.region ?_
      refine un (a1 rfl ?_)
      obtain ⟨r_2, hr2, h⟩ := bnd h
      refine un (ac_pure (clerestoryref2_textAt_ok hr2) rfl rfl rfl ?_)
      refine un (a2n (h' := upd _ 0 (some (.cells 4 [[cI r_2.Kind, .str r_2.Raw, .str r_2.Value, cI r_2.Num]]))) (n' := 1) rfl rfl (fun h => by cases h) ?_)
      refine dnil ?_
      refine Sv.ret ?_
      replace h := Option.some.inj h
      subst h
      exact ⟨_, .refl _, _, rfl, ⟨upd (fun _ => none) 0 (some (.agg [cI r_2.Kind, .str r_2.Raw, .str r_2.Value, cI r_2.Num])), (fun _ => none), 0⟩, (.agg [cI r_2.Kind, .str r_2.Raw, .str r_2.Value, cI r_2.Num]), weak_canon [] rfl List.nodup_nil (Nat.le_refl _) (fun b h => absurd h (Nat.not_lt_zero _)) (.cons rfl (avAs_free rfl) .nil) .nil, rfl, rfl, rfl, rfl⟩
    · replace h := ifF hc6 h
      refine Sv.skip ?_
      refine Sv.seq ?_
      refine Sv.region ?_
      refine un (a1 rfl ?_)
      obtain ⟨r_3, hr3, h⟩ := bnd h
      refine un (ac_pure (clerestoryref2_NumberAt_ok hr3) rfl rfl rfl ?_)
      refine un (a1 rfl ?_)
      refine un (a1 (v := (I r_3.1)) rfl ?_)
      refine un (a1 (v := (I r_3.2)) rfl ?_)
      refine un (a1 rfl ?_)
      refine un (a1 rfl ?_)
      refine dnil ?_
      refine Sv.seq ?_
      refine Sv.seq ?_
      refine Sv.region ?_
      refine un (a1 rfl ?_)
      refine un (a1 (v := (B (decide (0 < r_3.2)))) rfl ?_)
      refine dnil ?_
      refine Sv.cond (b := decide (0 < r_3.2)) rfl (fun hc7 => ?_) (fun hc7 => ?_)
      · replace h := ifT hc7 h
        refine Sv.seq ?_
        refine Sv.region ?_
        refine un (a1 rfl ?_)
        refine un (a1 rfl ?_)
        refine un (a1 rfl ?_)
        obtain ⟨r_4, hr4, h⟩ := bnd h
        refine un (ac_pure (clerestoryref2_numAt_ok hr4) rfl rfl rfl ?_)
        refine un (a2n (h' := upd _ 0 (some (.cells 4 [[cI r_4.Kind, .str r_4.Raw, .str r_4.Value, cI r_4.Num]]))) (n' := 1) rfl rfl (fun h => by cases h) ?_)
        refine dnil ?_
        refine Sv.ret ?_
        replace h := Option.some.inj h
        subst h
        exact ⟨_, .refl _, _, rfl, ⟨upd (fun _ => none) 0 (some (.agg [cI r_4.Kind, .str r_4.Raw, .str r_4.Value, cI r_4.Num])), (fun _ => none), 0⟩, (.agg [cI r_4.Kind, .str r_4.Raw, .str r_4.Value, cI r_4.Num]), weak_canon [] rfl List.nodup_nil (Nat.le_refl _) (fun b h => absurd h (Nat.not_lt_zero _)) (.cons rfl (avAs_free rfl) .nil) .nil, rfl, rfl, rfl, rfl⟩
      · replace h := ifF hc7 h
        refine Sv.skip ?_
        refine Sv.seq ?_
        refine Sv.seq ?_
        refine Sv.region ?_
        refine un (a1 rfl ?_)
        refine un (a1 (v := (B (decide ((c_.toNat : Int) = 35)))) rfl ?_)
        refine un (a1 rfl ?_)
        refine split2 (fun hc20 => ?_) (fun hc20 => ?_)
        · replace h := ifT hc20 h
          refine gt rfl (a1 rfl ?_)
          obtain ⟨r_16, hr11, h⟩ := bnd h
          refine gt rfl (ac_pure (clerestoryref2_at_ok hr11) rfl rfl rfl ?_)
          refine gt rfl (ac_pure (clerestoryref2_named_ok (mL := mL) r_16) rfl rfl rfl ?_)
          refine gt rfl (a1 rfl ?_)
          refine gjoin 4 (d := 72) (v := (B ((clerestoryref2_named r_16) && (decide (1 < (s_.length : Int)))))) (fun X hX => ?_) ?_
          · refine split2 (fun hc21 => ?_) (fun hc21 => ?_)
            · refine gt rfl (a1 rfl ?_)
              refine gt rfl (a1 (v := (I (s_.length : Int))) rfl ?_)
              refine gt rfl (a1 (v := (B (decide (1 < (s_.length : Int))))) rfl ?_)
              refine gt rfl (a1 (v := (B (decide (1 < (s_.length : Int))))) rfl ?_)
              refine dnil ?_
              exact hX _ (.putEq (by rw [hc21]; rfl) (.skip _ _ (.skip _ _ (.skip _ _ (.putEq (by rw [hc21]) (.refl _)) rfl) rfl) rfl))
            · refine gs rfl rfl ?_
              refine gs rfl rfl ?_
              refine gs rfl rfl ?_
              refine gt rfl (a1 (v := (B false)) rfl ?_)
              refine dnil ?_
              exact hX _ (.putEq (by rw [hc21]; rfl) (.skip _ _ (.skip _ _ (.skip _ _ (.putEq (by rw [hc21]) (.refl _)) rfl) rfl) rfl))
          refine gt rfl (a1 rfl ?_)
          refine split2 (fun hc22 => ?_) (fun hc22 => ?_)
          · replace h := ifT hc22 h
            refine gs rfl rfl ?_
            refine gs rfl rfl ?_
            refine gt rfl (a1 (v := (B true)) rfl ?_)
            refine un (a1 (v := (B true)) rfl ?_)
            refine dnil ?_
            exact Sv.weak (weak_canon [0] rfl (by decide) (by decide) (fun b h => absurd h (Nat.not_lt_zero _)) (.cons rfl (avAs_free rfl) (.cons rfl (avAs_free rfl) (.cons rfl (.c (.ref rfl (by decide))) (.cons rfl (avAs_free rfl) .nil)))) (.box (by decide) rfl (blkAs_cells (.cons (.same rfl) (.cons (.same rfl) (.cons (.same rfl) (.cons (.same rfl) .nil))))) .nil)) (clerestoryref2_TokenAt_j5_ok h)
          · replace h := ifF hc22 h
            refine gt rfl (a1 rfl ?_)
            obtain ⟨r_17, hr12, h⟩ := bnd h
            refine gt rfl (ac_pure (clerestoryref2_escape_ok hr12) rfl rfl rfl ?_)
            refine gt rfl (a1 (v := (B r_17)) rfl ?_)
            refine un (a1 (v := (B r_17)) rfl ?_)
            refine dnil ?_
            exact Sv.weak (weak_canon [0] rfl (by decide) (by decide) (fun b h => absurd h (Nat.not_lt_zero _)) (.cons rfl (avAs_free rfl) (.cons rfl (avAs_free rfl) (.cons rfl (.c (.ref rfl (by decide))) (.cons rfl (avAs_free rfl) .nil)))) (.box (by decide) rfl (blkAs_cells (.cons (.same rfl) (.cons (.same rfl) (.cons (.same rfl) (.cons (.same rfl) .nil))))) .nil)) (clerestoryref2_TokenAt_j5_ok h)
        · replace h := ifF hc20 h
          refine gs rfl rfl ?_
          refine gs rfl rfl ?_
          refine gs rfl rfl ?_
          refine gs rfl rfl ?_
          refine gu rfl ?_
          refine gu rfl ?_
          refine gu rfl ?_
          refine gs rfl rfl ?_
          refine gs rfl rfl ?_
          refine gu rfl ?_
          refine gu rfl ?_
          refine gs rfl rfl ?_
          refine un (a1 (v := (B false)) rfl ?_)
          refine dnil ?_
          exact Sv.weak (weak_canon [0] rfl (by decide) (by decide) (fun b h => absurd h (Nat.not_lt_zero _)) (.cons rfl (avAs_free rfl) (.cons rfl (avAs_free rfl) (.cons rfl (.c (.ref rfl (by decide))) (.cons rfl (avAs_free rfl) .nil)))) (.box (by decide) rfl (blkAs_cells (.cons (.same rfl) (.cons (.same rfl) (.cons (.same rfl) (.cons (.same rfl) .nil))))) .nil)) (clerestoryref2_TokenAt_j5_ok h)
/-- clerestory/clerestoryref2.TokenAt -/
noncomputable def clerestoryref2_TokenAt (s_ : (List UInt8)) : Option TSToken :=
  (at? s_ 0).bind fun c_ =>
  if (clerestoryref2_Blank (c_.toNat : Int)) then
    lim fun kk => clerestoryref2_TokenAt_l0 s_ (fun (i_1 : Int) => 
        (sub? s_ 0 i_1).bind fun r_ =>
        some (⟨8, r_, [], 0⟩ : TSToken)) kk 0
  else
    if decide ((c_.toNat : Int) = 47) then
      (clerestoryref2_at s_ 1).bind fun r_18 =>
      clerestoryref2_TokenAt_j4 s_ c_ (decide (r_18 = 42))
    else
      clerestoryref2_TokenAt_j4 s_ c_ false
theorem clerestoryref2_TokenAt_ok {mL : Int} {s_ : (List UInt8)} {r : TSToken} (h : clerestoryref2_TokenAt s_ = some r) : CPure Tryd.prog (GG mL) 71 [(S s_)] (.agg [cI r.Kind, .str r.Raw, .str r.Value, cI r.Num]) := by
  refine acalls_of_sv hmix c71 (R := clerestoryref2_TokenAt_post r) ?_
  unfold clerestoryref2_TokenAt at h
  refine Sv.seq ?_
  refine Sv.region ?_
  refine un (a2v (v := (.c (.ref 0 4 0 0))) (h' := upd _ 0 (some (.cells 4 [[cI 0, .str [], .str [], cI 0]]))) (n' := 1) rfl rfl (fun h => by cases h) ?_)
  refine dnil ?_
  refine Sv.seq ?_
  refine Sv.region ?_
  refine un (a1 rfl ?_)
  obtain ⟨c_, hx1, h⟩ := bnd h
  refine un (a1 (v := (.c (.val (.int .u8 (c_.toNat : Int))))) (s_idxS rfl rfl hx1) ?_)
  refine un (a1 rfl ?_)
  refine dnil ?_
  refine Sv.seq ?_
  refine Sv.seq ?_
  refine Sv.region ?_
  refine un (a1 rfl ?_)
  refine un (ac_pure (clerestoryref2_Blank_ok (mL := mL) (c_.toNat : Int)) rfl rfl rfl ?_)
  refine dnil ?_
  refine Sv.cond (b := (clerestoryref2_Blank (c_.toNat : Int))) rfl (fun hc1 => ?_) (fun hc1 => ?_)
  · replace h := ifT hc1 h
    refine Sv.seq ?_
    refine Sv.region ?_
    refine un (a1 rfl ?_)
    refine dnil ?_
    refine Sv.seq ?_
    refine Sv.block ?_
    obtain ⟨kk, h⟩ := lim_some h
    refine Sv.weak (weak_canon [0] rfl (by decide) (by decide) (fun b h => absurd h (Nat.not_lt_zero _)) (.cons rfl (avAs_free rfl) (.cons rfl (.c (.ref rfl (by decide))) (.cons rfl (avAs_free rfl) .nil))) (.box (by decide) rfl (blkAs_cells (.cons (.same rfl) (.cons (.same rfl) (.cons (.same rfl) (.cons (.same rfl) .nil))))) .nil)) (clerestoryref2_TokenAt_l0_ok h ?_ (fun s hs => hs))
    · intro i_1 h _ hw1
      refine Sv.weak hw1 ?_
      refine Sv.seq ?_
      refine Sv.region ?_
      refine un (a1 rfl ?_)
      refine un (a1 rfl ?_)
      obtain ⟨r_, hx3, h⟩ := bnd h
      refine un (a1 (v := (S r_)) (s_slStr rfl rfl rfl hx3) ?_)
      refine un (a1 (v := (.agg [cI 8, .str r_, .str [], cI 0])) rfl ?_)
      refine un (a2n (h' := upd _ 0 (some (.cells 4 [[cI 8, .str r_, .str [], cI 0]]))) (n' := 1) rfl rfl (fun h => by cases h) ?_)
      refine dnil ?_
      refine Sv.ret ?_
      replace h := Option.some.inj h
      subst h
      exact ⟨_, .refl _, _, rfl, ⟨upd (fun _ => none) 0 (some (.agg [cI 8, .str r_, .str [], cI 0])), (fun _ => none), 0⟩, (.agg [cI 8, .str r_, .str [], cI 0]), weak_canon [] rfl List.nodup_nil (Nat.le_refl _) (fun b h => absurd h (Nat.not_lt_zero _)) (.cons rfl (avAs_free rfl) .nil) .nil, rfl, rfl, rfl, rfl⟩
  · replace h := ifF hc1 h
    refine Sv.skip ?_
    refine Sv.seq ?_
    refine Sv.seq ?_
    refine Sv.region ?_
    refine un (a1 rfl ?_)
    refine un (a1 (v := (B (decide ((c_.toNat : Int) = 47)))) rfl ?_)
    refine un (a1 rfl ?_)
    refine split2 (fun hc23 => ?_) (fun hc23 => ?_)
    · replace h := ifT hc23 h
      refine gt rfl (a1 rfl ?_)
      obtain ⟨r_18, hr13, h⟩ := bnd h
      refine gt rfl (ac_pure (clerestoryref2_at_ok hr13) rfl rfl rfl ?_)
      refine gt rfl (a1 (v := (B (decide (r_18 = 42)))) rfl ?_)
      refine un (a1 (v := (B (decide (r_18 = 42)))) rfl ?_)
      refine dnil ?_
      exact Sv.weak (weak_canon [0] rfl (by decide) (by decide) (fun b h => absurd h (Nat.not_lt_zero _)) (.cons rfl (avAs_free rfl) (.cons rfl (avAs_free rfl) (.cons rfl (.c (.ref rfl (by decide))) (.cons rfl (avAs_free rfl) .nil)))) (.box (by decide) rfl (blkAs_cells (.cons (.same rfl) (.cons (.same rfl) (.cons (.same rfl) (.cons (.same rfl) .nil))))) .nil)) (clerestoryref2_TokenAt_j4_ok h)
    · replace h := ifF hc23 h
      refine gs rfl rfl ?_
      refine gs rfl rfl ?_
      refine gs rfl rfl ?_
      refine un (a1 (v := (B false)) rfl ?_)
      refine dnil ?_
      exact Sv.weak (weak_canon [0] rfl (by decide) (by decide) (fun b h => absurd h (Nat.not_lt_zero _)) (.cons rfl (avAs_free rfl) (.cons rfl (avAs_free rfl) (.cons rfl (.c (.ref rfl (by decide))) (.cons rfl (avAs_free rfl) .nil)))) (.box (by decide) rfl (blkAs_cells (.cons (.same rfl) (.cons (.same rfl) (.cons (.same rfl) (.cons (.same rfl) .nil))))) .nil)) (clerestoryref2_TokenAt_j4_ok h)
def a28_c0 : ACode := (.seq (.seq (.region [⟨(some 5), (.mov (.tmp 0)), none⟩, ⟨(some 6), (.lenS (.tmp 5)), none⟩, ⟨(some 7), (.bin .gtr (.tmp 6) (.const (.c (.val (.int .i64 0))))), none⟩])
 (.cond (.tmp 7) .skip (.exit 0)))
 (.block 1 (.seq (.region [⟨(some 8), (.mov (.tmp 0)), none⟩, ⟨(some 9), (.call 71 [(.tmp 8)]), none⟩, ⟨(some 4), (.box (.const (.agg [(.val (.int .i64 0)), (.str []), (.str []), (.val (.int .i64 0))]))), none⟩, ⟨none, (.store 4 (.tmp 4) (.tmp 9)), none⟩])
 (.seq (.region [⟨(some 10), (.mov (.tmp 3)), none⟩, ⟨(some 11), (.load true 4 (.tmp 4)), none⟩, ⟨(some 12), (.bslice 4 [(.val (.int .i64 0)), (.str []), (.str []), (.val (.int .i64 0))] 1 [(0, (.tmp 11))]), none⟩, ⟨(some 13), (.app 4 48 (.tmp 10) (.tmp 12)), none⟩, ⟨(some 3), (.mov (.tmp 13)), none⟩])
 (.region [⟨(some 14), (.mov (.tmp 0)), none⟩, ⟨(some 15), (.faddr 1 (.tmp 4)), none⟩, ⟨(some 16), (.load false 1 (.tmp 15)), none⟩, ⟨(some 17), (.lenS (.tmp 16)), none⟩, ⟨(some 18), (.slStr (.tmp 14) (some (.tmp 17)) none), none⟩, ⟨(some 0), (.mov (.tmp 18)), none⟩])))))
def a28 : AFunc := ⟨1, [(.tmp 2)], (.seq (.region [⟨(some 2), (.mov (.const (.c (.ro true 4 [])))), none⟩])
 (.seq (.region [⟨(some 3), (.mov (.const (.c (.ro true 4 [])))), none⟩])
 (.seq (.block 0 (.loop a28_c0))
 (.seq (.region [⟨(some 19), (.mov (.tmp 3)), none⟩, ⟨(some 2), (.mov (.tmp 19)), none⟩])
 .ret))))⟩
set_option maxRecDepth 100000 in
theorem c28 : compFunc Tryd.prog 28 = some a28 := by kernel_rfl
def clerestoryref2_Tokens_post (r : (List TSToken)) : AV → Heap → Nat → Prop := fun v h' n' => ∃ z0 : Bool, (z0 = true → r = []) ∧ v = (lstV z0 0 4 r.length) ∧ (h' = (upd (fun _ => none) 0 (lstB z0 4 (r.map e_TSToken)))) ∧ n' = 1
noncomputable def clerestoryref2_Tokens_l0 (K0_ : (List TSToken) → Option (List TSToken)) : Nat → (List UInt8) → (List TSToken) → Option (List TSToken)
  | 0, _, _ => none
  | k + 1, s_1, out =>
    if decide (0 < (s_1.length : Int)) then
      (clerestoryref2_TokenAt s_1).bind fun r_ =>
      (app? 48 out [r_]).bind fun r_1 =>
      (sub? s_1 (r_.Raw.length : Int) (s_1.length : Int)).bind fun r_2 =>
      (clerestoryref2_Tokens_l0 K0_ k) r_2 r_1
    else
      K0_ out
theorem clerestoryref2_Tokens_l0_ok {mL : Int} {Q : AExit → St → Prop} {K0_ : (List TSToken) → Option (List TSToken)} {k : Nat} {s_1 : (List UInt8)} {out : (List TSToken)} {zout : Bool} (hzout : zout = true → out = []) {o : (List TSToken)} (h : clerestoryref2_Tokens_l0 K0_ k s_1 out = some o)
    (hK0 : ∀ (out1 : (List TSToken)) (zout1 : Bool) (_ : zout1 = true → out1 = []), K0_ out1 = some o → ∀ s, Weak 0 s ⟨(upd (fun _ => none) 3 (some (lstV zout1 0 4 out1.length))), (upd (fun _ => none) 0 (lstB zout1 4 (out1.map e_TSToken))), 1⟩ → Q (.exit 0) s)
    (hr : ∀ s, Ends a28.results 0 (clerestoryref2_Tokens_post o) .ret s → Q .ret s) :
    Sv Tryd.prog (GG mL) 0 (.loop a28_c0) Q ⟨(upd (upd (fun _ => none) 0 (some (S s_1))) 3 (some (lstV zout 0 4 out.length))), (upd (fun _ => none) 0 (lstB zout 4 (out.map e_TSToken))), 1⟩ := by
  refine Sv.loop (I := fun k s => ∃ (s_1 : (List UInt8)), ∃ (out : (List TSToken)), ∃ (zout : Bool), (zout = true → out = []) ∧ clerestoryref2_Tokens_l0 K0_ k s_1 out = some o ∧ s = ⟨(upd (upd (fun _ => none) 0 (some (S s_1))) 3 (some (lstV zout 0 4 out.length))), (upd (fun _ => none) 0 (lstB zout 4 (out.map e_TSToken))), 1⟩) (fun k s hI => ?_) ⟨s_1, out, zout, hzout, h, rfl⟩
  clear h
  clear hzout zout out s_1
  obtain ⟨s_1, out, zout, hzout, h, rfl⟩ := hI
  cases k with
  | zero => cases h
  | succ k =>
  rw [clerestoryref2_Tokens_l0] at h
  have hself : ∀ (s_1 : (List UInt8)) (out : (List TSToken)) (zout : Bool) (_ : zout = true → out = []), (clerestoryref2_Tokens_l0 K0_ k) s_1 out = some o → ∀ s, Weak 0 s ⟨(upd (upd (fun _ => none) 0 (some (S s_1))) 3 (some (lstV zout 0 4 out.length))), (upd (fun _ => none) 0 (lstB zout 4 (out.map e_TSToken))), 1⟩ → (AThen (fun s' => ∃ s'' k', Weak 0 s' s'' ∧ k' < k + 1 ∧ (fun k s => ∃ (s_1 : (List UInt8)), ∃ (out : (List TSToken)), ∃ (zout : Bool), (zout = true → out = []) ∧ clerestoryref2_Tokens_l0 K0_ k s_1 out = some o ∧ s = ⟨(upd (upd (fun _ => none) 0 (some (S s_1))) 3 (some (lstV zout 0 4 out.length))), (upd (fun _ => none) 0 (lstB zout 4 (out.map e_TSToken))), 1⟩) k' s'') Q) .normal s := fun s_1 out zout hzout h s hw => ⟨_, k, hw, Nat.lt_succ_self k, s_1, out, zout, hzout, h, rfl⟩
  refine Sv.seq ?_
  refine Sv.seq ?_
  refine Sv.region ?_
  refine un (a1 rfl ?_)
  refine un (a1 (v := (I (s_1.length : Int))) rfl ?_)
  refine un (a1 (v := (B (decide (0 < (s_1.length : Int))))) rfl ?_)
  refine dnil ?_
  refine Sv.cond (b := decide (0 < (s_1.length : Int))) rfl (fun hc1 => ?_) (fun hc1 => ?_)
  · replace h := ifT hc1 h
    refine Sv.skip ?_
    refine Sv.block ?_
    refine Sv.seq ?_
    refine Sv.region ?_
    refine un (a1 rfl ?_)
    obtain ⟨r_, hr1, h⟩ := bnd h
    refine un (ac_pure (clerestoryref2_TokenAt_ok hr1) rfl rfl rfl ?_)
    refine un (a2v (v := (.c (.ref 1 4 0 0))) (h' := upd _ 1 (some (.cells 4 [[cI 0, .str [], .str [], cI 0]]))) (n' := 2) rfl rfl (fun h => by cases h) ?_)
    refine un (a2n (h' := upd _ 1 (some (.cells 4 [[cI r_.Kind, .str r_.Raw, .str r_.Value, cI r_.Num]]))) (n' := 2) rfl rfl (fun h => by cases h) ?_)
    refine dnil ?_
    refine Sv.seq ?_
    refine Sv.region ?_
    refine un (a1 rfl ?_)
    refine un (a1 (v := (.agg [cI r_.Kind, .str r_.Raw, .str r_.Value, cI r_.Num])) rfl ?_)
    refine un (a2v (v := (lstV false 2 4 [r_].length)) (h' := upd _ 2 (lstB false 4 ([r_].map e_TSToken))) (n' := 3) rfl rfl (fun h => by cases h) ?_)
    obtain ⟨r_1, hr2, h⟩ := bnd h
    have hz1 : (zout && [r_].isEmpty) = true → r_1 = [] := app_nil (z := zout) (ys := [r_]) hzout hr2
    refine un (a2v rfl (s_app (xs := out) (ys := [r_]) (e := e_TSToken) (z := zout) (b := 0) rfl rfl hzout rfl rfl (slc_lst rfl (List.length_map _).symm (map_nil_of (fun h => by cases h))) hr2) (fun h => by cases h) ?_)
    refine un (a1 rfl ?_)
    refine dnil ?_
    refine Sv.region ?_
    refine un (a1 rfl ?_)
    refine un (a1 (v := (.c (.ref 1 4 0 1))) rfl ?_)
    refine un (a1 (v := (S r_.Raw)) rfl ?_)
    refine un (a1 (v := (I (r_.Raw.length : Int))) rfl ?_)
    obtain ⟨r_2, hx1, h⟩ := bnd h
    refine un (a1 (v := (S r_2)) (s_slStr rfl rfl rfl hx1) ?_)
    refine un (a1 rfl ?_)
    refine dnil ?_
    exact hself r_2 r_1 (zout && [r_].isEmpty) hz1 h _ (weak_canon [3] rfl (by decide) (by decide) (fun b h => absurd h (Nat.not_lt_zero _)) (.cons rfl (.c (lstC_ren rfl (by decide))) (.cons rfl (avAs_free rfl) .nil)) (.row (by decide) rfl (fr_map fun _ => rfl) .nil))
  · replace h := ifF hc1 h
    refine Sv.exit ?_
    exact hK0 out zout hzout h _ (weak_canon [0] rfl (by decide) (by decide) (fun b h => absurd h (Nat.not_lt_zero _)) (.cons rfl (.c (lstC_ren rfl (by decide))) .nil) (.row (by decide) rfl (fr_map fun _ => rfl) .nil))
/-- clerestory/clerestoryref2.Tokens -/
noncomputable def clerestoryref2_Tokens (s_ : (List UInt8)) : Option (List TSToken) :=
  lim fun kk => clerestoryref2_Tokens_l0 (fun (out1 : (List TSToken)) => 
      some out1) kk s_ ([] : List TSToken)
theorem clerestoryref2_Tokens_ok {mL : Int} {s_ : (List UInt8)} {r : (List TSToken)} (h : clerestoryref2_Tokens s_ = some r) : ACalls Tryd.prog (GG mL) 28 [(S s_)] (fun _ => none) 0 (clerestoryref2_Tokens_post r) := by
  refine acalls_of_sv hmix c28 (R := clerestoryref2_Tokens_post r) ?_
  unfold clerestoryref2_Tokens at h
  refine Sv.seq ?_
  refine Sv.region ?_
  refine un (a1 rfl ?_)
  refine dnil ?_
  refine Sv.seq ?_
  refine Sv.region ?_
  refine un (a1 rfl ?_)
  refine dnil ?_
  refine Sv.seq ?_
  refine Sv.block ?_
  obtain ⟨kk, h⟩ := lim_some h
  refine Sv.weak (weak_canon [1000] rfl (by decide) (by decide) (fun b h => absurd h (Nat.not_lt_zero _)) (.cons rfl (.c (.same rfl)) (.cons rfl (avAs_free rfl) .nil)) (.non (by decide) .nil)) (clerestoryref2_Tokens_l0_ok (fun _ => rfl) h ?_ (fun s hs => hs))
  · intro out1 zout1 hzout1 h _ hw1
    refine Sv.weak hw1 ?_
    refine Sv.seq ?_
    refine Sv.region ?_
    refine un (a1 rfl ?_)
    refine un (a1 rfl ?_)
    refine dnil ?_
    refine Sv.ret ?_
    replace h := Option.some.inj h
    subst h
    exact ⟨_, .refl _, _, rfl, ⟨upd (fun _ => none) 0 (some (lstV zout1 0 4 out1.length)), (upd (fun _ => none) 0 (lstB zout1 4 (out1.map e_TSToken))), 1⟩, (lstV zout1 0 4 out1.length), weak_canon2 [0] [0] (by decide) (by decide) (fun b h => absurd h (Nat.not_lt_zero _)) (.cons (by decide) .nil) (.cons rfl (.c (lstC_ren rfl (by decide))) .nil) (.row (by decide) rfl (fr_map fun _ => rfl) .nil), rfl, zout1, hzout1, rfl, rfl, rfl⟩
def a81 : AFunc := ⟨0, [(.tmp 0)], (.seq (.region [⟨(some 0), (.mov (.const (.c (.ro true 1 [])))), none⟩])
 (.seq (.region [⟨(some 1), (.bslice 1 [(.str [])] 7 [(0, (.const (.c (.str [])))), (1, (.const (.c (.str [112, 120])))), (2, (.const (.c (.str [101, 109])))), (3, (.const (.c (.str [114, 101, 109])))), (4, (.const (.c (.str [118, 119])))), (5, (.const (.c (.str [118, 104])))), (6, (.const (.c (.str [37]))))]), none⟩, ⟨(some 0), (.mov (.tmp 1)), none⟩])
 .ret))⟩
set_option maxRecDepth 100000 in
theorem c81 : compFunc Tryd.prog 81 = some a81 := by kernel_rfl
def clerestoryref2_Units_post (r : (List (List UInt8))) : AV → Heap → Nat → Prop := fun v h' n' => ∃ z0 : Bool, (z0 = true → r = []) ∧ v = (lstV z0 0 1 r.length) ∧ (h' = (upd (fun _ => none) 0 (lstB z0 1 (r.map eStr)))) ∧ n' = 1
def clerestoryref2_Units_t0 : List (List UInt8) := [[], [112, 120], [101, 109], [114, 101, 109], [118, 119], [118, 104], [37]]
/-- clerestory/clerestoryref2.Units -/
noncomputable def clerestoryref2_Units : Option (List (List UInt8)) :=
  some clerestoryref2_Units_t0
theorem clerestoryref2_Units_ok {mL : Int} {r : (List (List UInt8))} (h : clerestoryref2_Units = some r) : ACalls Tryd.prog (GG mL) 81 [] (fun _ => none) 0 (clerestoryref2_Units_post r) := by
  refine acalls_of_sv hmix c81 (R := clerestoryref2_Units_post r) ?_
  unfold clerestoryref2_Units at h
  refine Sv.seq ?_
  refine Sv.region ?_
  refine un (a1 rfl ?_)
  refine dnil ?_
  refine Sv.seq ?_
  refine Sv.region ?_
  refine un (a2v (v := (lstV false 0 1 clerestoryref2_Units_t0.length)) (h' := upd _ 0 (lstB false 1 (clerestoryref2_Units_t0.map eStr))) (n' := 1) rfl rfl (fun h => by cases h) ?_)
  refine un (a1 rfl ?_)
  refine dnil ?_
  refine Sv.ret ?_
  replace h := Option.some.inj h
  subst h
  exact ⟨_, .refl _, _, rfl, ⟨upd (fun _ => none) 0 (some (lstV false 0 1 clerestoryref2_Units_t0.length)), (upd (fun _ => none) 0 (lstB false 1 (clerestoryref2_Units_t0.map eStr))), 1⟩, (lstV false 0 1 clerestoryref2_Units_t0.length), weak_canon2 [0] [0] (by decide) (by decide) (fun b h => absurd h (Nat.not_lt_zero _)) (.cons (by decide) .nil) (.cons rfl (.c (lstC_ren rfl (by decide))) .nil) (.row (by decide) rfl (fr_map fun _ => rfl) .nil), rfl, false, (fun h => by cases h), rfl, rfl, rfl⟩
def a80_c0 : ACode := (.seq (.seq (.region [⟨(some 6), (.mov (.tmp 5)), none⟩, ⟨(some 7), (.mov (.tmp 0)), none⟩, ⟨(some 8), (.len (.tmp 7)), none⟩, ⟨(some 9), (.bin .lss (.tmp 6) (.tmp 8)), none⟩])
 (.cond (.tmp 9) .skip (.exit 0)))
 (.seq (.block 1 (.seq (.region [⟨(some 12), (.mov (.tmp 0)), none⟩, ⟨(some 13), (.mov (.tmp 5)), none⟩, ⟨(some 14), (.iaddr 1 (.tmp 12) (.tmp 13)), none⟩, ⟨(some 15), (.load false 1 (.tmp 14)), none⟩, ⟨(some 16), (.mov (.tmp 1)), none⟩, ⟨(some 17), (.bin .eql (.tmp 15) (.tmp 16)), none⟩])
 (.cond (.tmp 17) (.seq (.region [⟨(some 4), (.mov (.const (.c (.val (.bool true))))), none⟩])
 .ret) .skip)))
 (.region [⟨(some 10), (.mov (.tmp 5)), none⟩, ⟨(some 11), (.bin .add (.tmp 10) (.const (.c (.val (.int .i64 1))))), none⟩, ⟨(some 5), (.mov (.tmp 11)), none⟩])))
def a80 : AFunc := ⟨2, [(.tmp 4)], (.seq (.region [⟨(some 4), (.mov (.const (.c (.val (.bool false))))), none⟩])
 (.seq (.seq (.region [⟨(some 5), (.mov (.const (.c (.val (.int .i64 0))))), none⟩])
 (.block 0 (.loop a80_c0)))
 (.seq (.region [⟨(some 4), (.mov (.const (.c (.val (.bool false))))), none⟩])
 .ret)))⟩
set_option maxRecDepth 100000 in
theorem c80 : compFunc Tryd.prog 80 = some a80 := by kernel_rfl
def clerestoryref2_In_post (r : Bool) : AV → Heap → Nat → Prop := fun v h' n' => v = (B r) ∧ (h' = (fun _ => none)) ∧ n' = 0
noncomputable def clerestoryref2_In_l0 (l_ : (List (List UInt8))) (s_ : (List UInt8)) (K0_ : Unit → Option Bool) : Nat → Int → Option Bool
  | 0, _ => none
  | k + 1, i_ =>
    if decide (i_ < (l_.length : Int)) then
      (at? l_ i_).bind fun x_ =>
      if decide (x_ = s_) then
        some true
      else
        (clerestoryref2_In_l0 l_ s_ K0_ k) (wi (i_ + 1))
    else
      K0_ ()
theorem clerestoryref2_In_l0_ok {mL : Int} {Q : AExit → St → Prop} {l_ : (List (List UInt8))} {s_ : (List UInt8)} {K0_ : Unit → Option Bool} {k : Nat} {i_ : Int} {o : Bool} (h : clerestoryref2_In_l0 l_ s_ K0_ k i_ = some o)
    (hK0 : ∀ (_ : Unit), K0_ () = some o → ∀ s, Weak 0 s ⟨(fun _ => none), (fun _ => none), 0⟩ → Q (.exit 0) s)
    (hr : ∀ s, Ends a80.results 0 (clerestoryref2_In_post o) .ret s → Q .ret s) :
    Sv Tryd.prog (GG mL) 0 (.loop a80_c0) Q ⟨(upd (upd (upd (fun _ => none) 0 (some (.c (.ro false 1 (l_.map eStr))))) 1 (some (S s_))) 5 (some (I i_))), (fun _ => none), 0⟩ := by
  refine Sv.loop (I := fun k s => ∃ (i_ : Int), clerestoryref2_In_l0 l_ s_ K0_ k i_ = some o ∧ s = ⟨(upd (upd (upd (fun _ => none) 0 (some (.c (.ro false 1 (l_.map eStr))))) 1 (some (S s_))) 5 (some (I i_))), (fun _ => none), 0⟩) (fun k s hI => ?_) ⟨i_, h, rfl⟩
  clear h
  clear i_
  obtain ⟨i_, h, rfl⟩ := hI
  cases k with
  | zero => cases h
  | succ k =>
  rw [clerestoryref2_In_l0] at h
  have hself : ∀ (i_ : Int), (clerestoryref2_In_l0 l_ s_ K0_ k) i_ = some o → ∀ s, Weak 0 s ⟨(upd (upd (upd (fun _ => none) 0 (some (.c (.ro false 1 (l_.map eStr))))) 1 (some (S s_))) 5 (some (I i_))), (fun _ => none), 0⟩ → (AThen (fun s' => ∃ s'' k', Weak 0 s' s'' ∧ k' < k + 1 ∧ (fun k s => ∃ (i_ : Int), clerestoryref2_In_l0 l_ s_ K0_ k i_ = some o ∧ s = ⟨(upd (upd (upd (fun _ => none) 0 (some (.c (.ro false 1 (l_.map eStr))))) 1 (some (S s_))) 5 (some (I i_))), (fun _ => none), 0⟩) k' s'') Q) .normal s := fun i_ h s hw => ⟨_, k, hw, Nat.lt_succ_self k, i_, h, rfl⟩
  refine Sv.seq ?_
  refine Sv.seq ?_
  refine Sv.region ?_
  refine un (a1 rfl ?_)
  refine un (a1 rfl ?_)
  refine un (a1 (v := (I (l_.length : Int))) (s_len (e := eStr) (xs := l_) rfl) ?_)
  refine un (a1 (v := (B (decide (i_ < (l_.length : Int))))) rfl ?_)
  refine dnil ?_
  refine Sv.cond (b := decide (i_ < (l_.length : Int))) rfl (fun hc1 => ?_) (fun hc1 => ?_)
  · replace h := ifT hc1 h
    refine Sv.skip ?_
    refine Sv.seq ?_
    refine Sv.block ?_
    refine Sv.seq ?_
    refine Sv.region ?_
    refine un (a1 rfl ?_)
    refine un (a1 rfl ?_)
    obtain ⟨x_, hx1, h⟩ := bnd h
    refine un (a1 (v := (.c (.rop [.str x_]))) (s_iaddr (e := eStr) (xs := l_) rfl rfl hx1) ?_)
    refine un (a1 (v := (S x_)) rfl ?_)
    refine un (a1 rfl ?_)
    refine un (a1 (v := (B (decide (x_ = s_)))) rfl ?_)
    refine dnil ?_
    refine Sv.cond (b := decide (x_ = s_)) rfl (fun hc2 => ?_) (fun hc2 => ?_)
    · replace h := ifT hc2 h
      refine Sv.seq ?_
      refine Sv.region ?_
      refine un (a1 rfl ?_)
      refine dnil ?_
      refine Sv.ret ?_
      replace h := Option.some.inj h
      subst h
      exact hr _ ⟨_, .refl _, _, rfl, ⟨upd (fun _ => none) 0 (some (B true)), (fun _ => none), 0⟩, (B true), weak_canon [] rfl List.nodup_nil (Nat.le_refl _) (fun b h => absurd h (Nat.not_lt_zero _)) (.cons rfl (avAs_free rfl) .nil) .nil, rfl, rfl, rfl, rfl⟩
    · replace h := ifF hc2 h
      refine Sv.skip ?_
      refine Sv.region ?_
      refine un (a1 rfl ?_)
      refine un (a1 (v := (I (wi (i_ + 1)))) rfl ?_)
      refine un (a1 rfl ?_)
      refine dnil ?_
      exact hself (wi (i_ + 1)) h _ (weak_canon [] rfl (by decide) (by decide) (fun b h => absurd h (Nat.not_lt_zero _)) (.cons rfl (avAs_free rfl) (.cons rfl (avAs_free rfl) (.cons rfl (avAs_free rfl) .nil))) .nil)
  · replace h := ifF hc1 h
    refine Sv.exit ?_
    exact hK0 () h _ (weak_canon [] rfl (by decide) (by decide) (fun b h => absurd h (Nat.not_lt_zero _)) .nil .nil)
/-- clerestory/clerestoryref2.In -/
noncomputable def clerestoryref2_In (l_ : (List (List UInt8))) (s_ : (List UInt8)) : Option Bool :=
  lim fun kk => clerestoryref2_In_l0 l_ s_ (fun (_ : Unit) => 
      some false) kk 0
theorem clerestoryref2_In_ok {mL : Int} {l_ : (List (List UInt8))} {s_ : (List UInt8)} {r : Bool} (h : clerestoryref2_In l_ s_ = some r) : CPure Tryd.prog (GG mL) 80 [(.c (.ro false 1 (l_.map eStr))), (S s_)] (B r) := by
  refine acalls_of_sv hmix c80 (R := clerestoryref2_In_post r) ?_
  unfold clerestoryref2_In at h
  refine Sv.seq ?_
  refine Sv.region ?_
  refine un (a1 rfl ?_)
  refine dnil ?_
  refine Sv.seq ?_
  refine Sv.seq ?_
  refine Sv.region ?_
  refine un (a1 rfl ?_)
  refine dnil ?_
  refine Sv.block ?_
  obtain ⟨kk, h⟩ := lim_some h
  refine Sv.weak (weak_canon [] rfl (by decide) (by decide) (fun b h => absurd h (Nat.not_lt_zero _)) (.cons rfl (avAs_free rfl) (.cons rfl (avAs_free rfl) (.cons rfl (avAs_free rfl) .nil))) .nil) (clerestoryref2_In_l0_ok h ?_ (fun s hs => hs))
  · intro _ h _ hw1
    refine Sv.weak hw1 ?_
    refine Sv.seq ?_
    refine Sv.region ?_
    refine un (a1 rfl ?_)
    refine dnil ?_
    refine Sv.ret ?_
    replace h := Option.some.inj h
    subst h
    exact ⟨_, .refl _, _, rfl, ⟨upd (fun _ => none) 0 (some (B false)), (fun _ => none), 0⟩, (B false), weak_canon [] rfl List.nodup_nil (Nat.le_refl _) (fun b h => absurd h (Nat.not_lt_zero _)) (.cons rfl (avAs_free rfl) .nil) .nil, rfl, rfl, rfl, rfl⟩
def a37_c0 : ACode := (.cond (.tmp 25) (.seq (.region [⟨(some 26), (.build [(.val (.int .i64 0)), (.str [])] []), none⟩, ⟨none, (.store 2 (.tmp 2) (.tmp 26)), none⟩, ⟨(some 3), (.mov (.const (.c (.val (.bool false))))), none⟩])
 .ret) .skip)
def a37_c1 : ACode := (.seq (.drawn (.fin [(⟨(some 27), (.mov (.tmp 4)), none⟩, (0, 0)), (⟨(some 28), (.iaddr 4 (.tmp 27) (.const (.c (.val (.int .i64 0))))), none⟩, (0, 1)), (⟨(some 29), (.faddr 3 (.tmp 28)), none⟩, (0, 2)), (⟨(some 30), (.load false 1 (.tmp 29)), none⟩, (0, 3)), (⟨(some 31), (.mov (.tmp 4)), none⟩, (0, 4)), (⟨(some 32), (.iaddr 4 (.tmp 31) (.const (.c (.val (.int .i64 0))))), none⟩, (0, 5)), (⟨(some 33), (.faddr 2 (.tmp 32)), none⟩, (0, 6)), (⟨(some 34), (.load false 1 (.tmp 33)), none⟩, (0, 7)), (⟨(some 35), (.build [(.val (.int .i64 0)), (.str [])] [(0, (1, (.tmp 30))), (1, (1, (.tmp 34)))]), none⟩, (0, 8)), (⟨none, (.store 2 (.tmp 2) (.tmp 35)), none⟩, (2, 9)), (⟨(some 3), (.mov (.const (.c (.val (.bool true))))), none⟩, (0, 10))]))
 .ret)
def a37 : AFunc := ⟨1, [(.cell true 2 2), (.tmp 3)], (.seq (.region [⟨(some 2), (.box (.const (.agg [(.val (.int .i64 0)), (.str [])]))), none⟩, ⟨(some 3), (.mov (.const (.c (.val (.bool false))))), none⟩])
 (.seq (.region [⟨(some 5), (.mov (.tmp 0)), none⟩, ⟨(some 6), (.call 28 [(.tmp 5)]), none⟩, ⟨(some 4), (.mov (.tmp 6)), none⟩])
 (.seq (.seq (.drawn (.fin [(⟨(some 7), (.mov (.tmp 4)), none⟩, (0, 0)), (⟨(some 8), (.len (.tmp 7)), none⟩, (0, 1)), (⟨(some 9), (.bin .neq (.tmp 8) (.const (.c (.val (.int .i64 1))))), none⟩, (0, 2)), (⟨(some 10), (.mov (.tmp 9)), none⟩, (0, 3)), (⟨(some 11), (.mov (.tmp 4)), (some (10, false))⟩, (0, 4)), (⟨(some 12), (.iaddr 4 (.tmp 11) (.const (.c (.val (.int .i64 0))))), (some (10, false))⟩, (0, 5)), (⟨(some 13), (.faddr 0 (.tmp 12)), (some (10, false))⟩, (0, 6)), (⟨(some 14), (.load false 1 (.tmp 13)), (some (10, false))⟩, (0, 7)), (⟨(some 15), (.bin .neq (.tmp 14) (.const (.c (.val (.int .i64 7))))), (some (10, false))⟩, (0, 8)), (⟨(some 16), (.pick (.tmp 10) (.const (.c (.val (.bool true)))) (.tmp 15)), none⟩, (0, 9)), (⟨(some 17), (.mov (.tmp 16)), none⟩, (0, 10)), (⟨(some 19), (.mov (.tmp 4)), (some (17, false))⟩, (0, 12)), (⟨(some 20), (.iaddr 4 (.tmp 19) (.const (.c (.val (.int .i64 0))))), (some (17, false))⟩, (0, 13)), (⟨(some 21), (.faddr 2 (.tmp 20)), (some (17, false))⟩, (0, 14)), (⟨(some 22), (.load false 1 (.tmp 21)), (some (17, false))⟩, (0, 15)), (⟨(some 18), (.call 81 []), (some (17, false))⟩, (1, 11)), (⟨(some 23), (.call 80 [(.tmp 18), (.tmp 22)]), (some (17, false))⟩, (2, 16)), (⟨(some 24), (.un .not (.tmp 23)), (some (17, false))⟩, (0, 17)), (⟨(some 25), (.pick (.tmp 17) (.const (.c (.val (.bool true)))) (.tmp 24)), none⟩, (0, 18))]))
 a37_c0)
 a37_c1)))⟩
set_option maxRecDepth 100000 in
theorem c37 : compFunc Tryd.prog 37 = some a37 := by kernel_rfl
def clerestoryref2_DimOf_post (r : (TSDim × Bool)) : AV → Heap → Nat → Prop := fun v h' n' => v = (.tup [(.agg [cI r.1.Num, .str r.1.Unit]), (B r.2)]) ∧ (h' = (fun _ => none)) ∧ n' = 0
abbrev clerestoryref2_DimOf_q0 (mL : Int) (o : (TSDim × Bool)) : AExit → St → Prop := AThen (Sv Tryd.prog (GG mL) 0 a37_c1 (Ends a37.results 0 (clerestoryref2_DimOf_post o))) (Ends a37.results 0 (clerestoryref2_DimOf_post o))
noncomputable def clerestoryref2_DimOf_j1 (l_ : (List TSToken)) (v25 : Bool) : Option (TSDim × Bool) :=
  if v25 then
    some ((⟨0, []⟩ : TSDim), false)
  else
    (at? l_ 0).bind fun x_ =>
    (at? l_ 0).bind fun x_1 =>
    some ((⟨x_.Num, x_1.Value⟩ : TSDim), true)
theorem clerestoryref2_DimOf_j1_ok {mL : Int} {l_ : (List TSToken)} {v25 : Bool} {zl : Bool} (hzl : zl = true → l_ = []) {o : (TSDim × Bool)} (h : clerestoryref2_DimOf_j1 l_ v25 = some o) :
    Sv Tryd.prog (GG mL) 0 a37_c0 (clerestoryref2_DimOf_q0 mL o) ⟨(upd (upd (upd (fun _ => none) 2 (some (.c (.ref 0 2 0 0)))) 4 (some (lstV zl 1 4 l_.length))) 25 (some (B v25))), (upd (upd (fun _ => none) 0 (some (.cells 2 [[cI 0, .str []]]))) 1 (lstB zl 4 (l_.map e_TSToken))), 2⟩ := by
  unfold clerestoryref2_DimOf_j1 at h
  refine Sv.cond (b := v25) rfl (fun hc1 => ?_) (fun hc1 => ?_)
  · replace h := ifT hc1 h
    refine Sv.seq ?_
    refine Sv.region ?_
    refine un (a1 (v := (.agg [cI 0, .str []])) rfl ?_)
    refine un (a2n (h' := upd _ 0 (some (.cells 2 [[cI 0, .str []]]))) (n' := 2) rfl rfl (fun h => by cases h) ?_)
    refine un (a1 rfl ?_)
    refine dnil ?_
    refine Sv.ret ?_
    replace h := Option.some.inj h
    subst h
    exact ⟨_, .refl _, _, rfl, ⟨upd (fun _ => none) 0 (some (.tup [(.agg [cI 0, .str []]), (B false)])), (fun _ => none), 0⟩, (.tup [(.agg [cI 0, .str []]), (B false)]), weak_canon [] rfl List.nodup_nil (Nat.le_refl _) (fun b h => absurd h (Nat.not_lt_zero _)) (.cons rfl (avAs_tup (.cons (avAs_free rfl) (.cons (avAs_free rfl) .nil))) .nil) .nil, rfl, rfl, rfl, rfl⟩
  · replace h := ifF hc1 h
    refine Sv.skip ?_
    refine Sv.seq ?_
    refine Sv.drawn ?_
    refine un (a1 rfl ?_)
    obtain ⟨x_, hx1, h⟩ := bnd h
    refine un (a1 (v := (.c (.ref 1 4 (0 : Int).toNat 0))) (s_iaddrL rfl rfl hzl hx1) ?_)
    refine un (a1 (v := (.c (.ref 1 4 (0 : Int).toNat 3))) rfl ?_)
    refine un (a1 (v := (I x_.Num)) (s_loadL (z := zl) (e := e_TSToken) rfl rfl hzl hx1 rfl rfl) ?_)
    refine un (a1 rfl ?_)
    obtain ⟨x_1, hx2, h⟩ := bnd h
    refine un (a1 (v := (.c (.ref 1 4 (0 : Int).toNat 0))) (s_iaddrL rfl rfl hzl hx2) ?_)
    refine un (a1 (v := (.c (.ref 1 4 (0 : Int).toNat 2))) rfl ?_)
    refine un (a1 (v := (S x_1.Value)) (s_loadL (z := zl) (e := e_TSToken) rfl rfl hzl hx2 rfl rfl) ?_)
    refine un (a1 (v := (.agg [cI x_.Num, .str x_1.Value])) rfl ?_)
    refine un (a2n (h' := upd _ 0 (some (.cells 2 [[cI x_.Num, .str x_1.Value]]))) (n' := 2) rfl rfl (fun h => by cases h) ?_)
    refine un (a1 rfl ?_)
    refine dnil ?_
    refine Sv.ret ?_
    replace h := Option.some.inj h
    subst h
    exact ⟨_, .refl _, _, rfl, ⟨upd (fun _ => none) 0 (some (.tup [(.agg [cI x_.Num, .str x_1.Value]), (B true)])), (fun _ => none), 0⟩, (.tup [(.agg [cI x_.Num, .str x_1.Value]), (B true)]), weak_canon [] rfl List.nodup_nil (Nat.le_refl _) (fun b h => absurd h (Nat.not_lt_zero _)) (.cons rfl (avAs_tup (.cons (avAs_free rfl) (.cons (avAs_free rfl) .nil))) .nil) .nil, rfl, rfl, rfl, rfl⟩
/-- clerestory/clerestoryref2.DimOf -/
noncomputable def clerestoryref2_DimOf (s_ : (List UInt8)) : Option (TSDim × Bool) :=
  (clerestoryref2_Tokens s_).bind fun r_ =>
  if (!decide ((r_.length : Int) = 1)) then
    clerestoryref2_DimOf_j1 r_ true
  else
    (at? r_ 0).bind fun x_2 =>
    if (!decide (x_2.Kind = 7)) then
      clerestoryref2_DimOf_j1 r_ true
    else
      (at? r_ 0).bind fun x_3 =>
      (clerestoryref2_Units).bind fun r_1 =>
      (clerestoryref2_In r_1 x_3.Value).bind fun r_2 =>
      clerestoryref2_DimOf_j1 r_ (!r_2)
theorem clerestoryref2_DimOf_ok {mL : Int} {s_ : (List UInt8)} {r : (TSDim × Bool)} (h : clerestoryref2_DimOf s_ = some r) : CPure Tryd.prog (GG mL) 37 [(S s_)] (.tup [(.agg [cI r.1.Num, .str r.1.Unit]), (B r.2)]) := by
  refine acalls_of_sv hmix c37 (R := clerestoryref2_DimOf_post r) ?_
  unfold clerestoryref2_DimOf at h
  refine Sv.seq ?_
  refine Sv.region ?_
  refine un (a2v (v := (.c (.ref 0 2 0 0))) (h' := upd _ 0 (some (.cells 2 [[cI 0, .str []]]))) (n' := 1) rfl rfl (fun h => by cases h) ?_)
  refine un (a1 rfl ?_)
  refine dnil ?_
  refine Sv.seq ?_
  refine Sv.region ?_
  refine un (a1 rfl ?_)
  obtain ⟨r_, hr1, h⟩ := bnd h
  refine un (ac_gen (bs := []) («as» := [(S s_)]) (h2 := _) (h1 := (fun _ => none)) (clerestoryref2_Tokens_ok hr1) rfl (.cons (avAs_free rfl) .nil) (hsub_refl _) (.nil _) (fun _ => rfl) (by decide) (by decide) (.cons (avAs_free rfl) .nil) .nil ?_)
  rintro _ _ _ hn ⟨z_, hz_, rfl, rfl, rfl⟩
  refine ⟨.inl rfl, (upd (rem [] _) 1 (lstB z_ 4 (r_.map e_TSToken))), fun hbd => (m3_cons (m3_row rfl (fr_map fun _ => rfl)) (m3_rem (in_nil _) (.cons (by decide) .nil) hbd)), (lstV z_ 1 4 r_.length), 2, (by cases z_ <;> rfl), rfl, ?_⟩
  refine un (a1 rfl ?_)
  refine dnil ?_
  refine Sv.seq ?_
  refine Sv.seq ?_
  refine Sv.drawn ?_
  refine un (a1 rfl ?_)
  refine un (a1 (v := (I (r_.length : Int))) (s_lenL rfl (len_nil_of hz_)) ?_)
  refine un (a1 (v := (B (!decide ((r_.length : Int) = 1)))) rfl ?_)
  refine un (a1 rfl ?_)
  refine split2 (fun hc2 => ?_) (fun hc2 => ?_)
  · replace h := ifT hc2 h
    refine gs rfl rfl ?_
    refine gs rfl rfl ?_
    refine gs rfl rfl ?_
    refine gs rfl rfl ?_
    refine gs rfl rfl ?_
    refine un (a1 (v := (B true)) rfl ?_)
    refine un (a1 rfl ?_)
    refine gs rfl rfl ?_
    refine gs rfl rfl ?_
    refine gs rfl rfl ?_
    refine gs rfl rfl ?_
    refine gs rfl rfl ?_
    refine gs rfl rfl ?_
    refine gs rfl rfl ?_
    refine un (a1 (v := (B true)) rfl ?_)
    refine dnil ?_
    exact Sv.weak (weak_canon [0, 1] rfl (by decide) (by decide) (fun b h => absurd h (Nat.not_lt_zero _)) (.cons rfl (avAs_free rfl) (.cons rfl (.c (lstC_ren rfl (by decide))) (.cons rfl (.c (.ref rfl (by decide))) .nil))) (.row (by decide) rfl (fr_map fun _ => rfl) (.box (by decide) rfl (blkAs_cells (.cons (.same rfl) (.cons (.same rfl) .nil))) .nil))) (clerestoryref2_DimOf_j1_ok hz_ h)
  · replace h := ifF hc2 h
    refine gt rfl (a1 rfl ?_)
    obtain ⟨x_2, hx3, h⟩ := bnd h
    refine gt rfl (a1 (v := (.c (.ref 1 4 (0 : Int).toNat 0))) (s_iaddrL rfl rfl hz_ hx3) ?_)
    refine gt rfl (a1 (v := (.c (.ref 1 4 (0 : Int).toNat 0))) rfl ?_)
    refine gt rfl (a1 (v := (I x_2.Kind)) (s_loadL (z := z_) (e := e_TSToken) rfl rfl hz_ hx3 rfl rfl) ?_)
    refine gt rfl (a1 (v := (B (!decide (x_2.Kind = 7)))) rfl ?_)
    refine un (a1 (v := (B (!decide (x_2.Kind = 7)))) rfl ?_)
    refine un (a1 rfl ?_)
    refine split2 (fun hc3 => ?_) (fun hc3 => ?_)
    · replace h := ifT hc3 h
      refine gs rfl rfl ?_
      refine gs rfl rfl ?_
      refine gs rfl rfl ?_
      refine gs rfl rfl ?_
      refine gs rfl rfl ?_
      refine gs rfl rfl ?_
      refine gs rfl rfl ?_
      refine un (a1 (v := (B true)) rfl ?_)
      refine dnil ?_
      exact Sv.weak (weak_canon [0, 1] rfl (by decide) (by decide) (fun b h => absurd h (Nat.not_lt_zero _)) (.cons rfl (avAs_free rfl) (.cons rfl (.c (lstC_ren rfl (by decide))) (.cons rfl (.c (.ref rfl (by decide))) .nil))) (.row (by decide) rfl (fr_map fun _ => rfl) (.box (by decide) rfl (blkAs_cells (.cons (.same rfl) (.cons (.same rfl) .nil))) .nil))) (clerestoryref2_DimOf_j1_ok hz_ h)
    · replace h := ifF hc3 h
      refine gt rfl (a1 rfl ?_)
      obtain ⟨x_3, hx4, h⟩ := bnd h
      refine gt rfl (a1 (v := (.c (.ref 1 4 (0 : Int).toNat 0))) (s_iaddrL rfl rfl hz_ hx4) ?_)
      refine gt rfl (a1 (v := (.c (.ref 1 4 (0 : Int).toNat 2))) rfl ?_)
      refine gt rfl (a1 (v := (S x_3.Value)) (s_loadL (z := z_) (e := e_TSToken) rfl rfl hz_ hx4 rfl rfl) ?_)
      obtain ⟨r_1, hr2, h⟩ := bnd h
      refine gt rfl (ac_gen (bs := []) («as» := []) (h2 := _) (h1 := (fun _ => none)) (clerestoryref2_Units_ok hr2) rfl .nil (hsub_refl _) (.nil _) (fun _ => rfl) (by decide) (by decide) .nil .nil ?_)
      rintro _ _ _ hn ⟨z_1, hz_1, rfl, rfl, rfl⟩
      refine ⟨.inl rfl, (upd (rem [] _) 2 (lstB z_1 1 (r_1.map eStr))), fun hbd => (m3_cons (m3_row rfl (fr_map fun _ => rfl)) (m3_rem (in_nil _) (.cons (by decide) .nil) hbd)), (lstV z_1 2 1 r_1.length), 3, (by cases z_1 <;> rfl), rfl, ?_⟩
      obtain ⟨r_2, hr3, h⟩ := bnd h
      refine gt rfl (ac_lend (h2 := (upd _ 2 none)) (clerestoryref2_In_ok hr3) rfl (.cons (.c (lstC_ro (es := List.map eStr r_1) rfl (List.length_map eStr).symm (map_nil_of hz_1) (gone rfl) (fr_map fun _ => rfl))) (.cons (avAs_free rfl) .nil)) (hsub_none (hsub_refl _)) rfl rfl (.inr rfl) ?_)
      refine gt rfl (a1 (v := (B (!r_2))) rfl ?_)
      refine un (a1 (v := (B (!r_2))) rfl ?_)
      refine dnil ?_
      exact Sv.weak (weak_canon [0, 1] rfl (by decide) (by decide) (fun b h => absurd h (Nat.not_lt_zero _)) (.cons rfl (avAs_free rfl) (.cons rfl (.c (lstC_ren rfl (by decide))) (.cons rfl (.c (.ref rfl (by decide))) .nil))) (.row (by decide) rfl (fr_map fun _ => rfl) (.box (by decide) rfl (blkAs_cells (.cons (.same rfl) (.cons (.same rfl) .nil))) .nil))) (clerestoryref2_DimOf_j1_ok hz_ h)
def a10 : AFunc := ⟨1, [(.tmp 2)], (.seq (.region [⟨(some 2), (.mov (.const (.c (.val (.bool false))))), none⟩])
 (.seq (.region [⟨(some 8), (.call 35 []), none⟩, ⟨(some 3), (.mov (.tmp 8)), none⟩])
 (.seq (.region [⟨(some 10), (.mov (.tmp 0)), none⟩, ⟨(some 11), (.call 36 [(.tmp 10)]), none⟩, ⟨(some 9), (.mov (.tmp 11)), none⟩, ⟨(some 12), (.ext (.tmp 9) 0), none⟩, ⟨(some 13), (.ext (.tmp 9) 1), none⟩, ⟨(some 4), (.box (.const (.agg [(.val (.int .i64 0)), (.str [])]))), none⟩, ⟨none, (.store 2 (.tmp 4) (.tmp 12)), none⟩, ⟨(some 5), (.mov (.tmp 13)), none⟩])
 (.seq (.region [⟨(some 15), (.mov (.tmp 0)), none⟩, ⟨(some 16), (.call 25 [(.tmp 15), (.const (.c (.val (.int .i64 400))))]), none⟩, ⟨(some 17), (.call 37 [(.tmp 16)]), none⟩, ⟨(some 14), (.mov (.tmp 17)), none⟩, ⟨(some 18), (.ext (.tmp 14) 0), none⟩, ⟨(some 19), (.ext (.tmp 14) 1), none⟩, ⟨(some 6), (.box (.const (.agg [(.val (.int .i64 0)), (.str [])]))), none⟩, ⟨none, (.store 2 (.tmp 6) (.tmp 18)), none⟩, ⟨(some 7), (.mov (.tmp 19)), none⟩])
 (.seq (.seq (.region [⟨(some 20), (.mov (.tmp 0)), none⟩, ⟨(some 21), (.lenS (.tmp 20)), none⟩, ⟨(some 22), (.bin .gtr (.tmp 21) (.const (.c (.val (.int .i64 400))))), none⟩])
 (.cond (.tmp 22) (.seq (.region [⟨(some 23), (.mov (.tmp 3)), none⟩, ⟨(some 2), (.mov (.tmp 23)), none⟩])
 .ret) .skip))
 (.seq (.region [⟨(some 24), (.mov (.tmp 3)), none⟩, ⟨(some 25), (.mov (.tmp 24)), none⟩, ⟨(some 26), (.load true 2 (.tmp 4)), (some (25, true))⟩, ⟨(some 27), (.load true 2 (.tmp 6)), (some (25, true))⟩, ⟨(some 28), (.eqs false true [.i, .s] (.tmp 26) (.tmp 27)), (some (25, true))⟩, ⟨(some 29), (.pick (.tmp 25) (.tmp 28) (.const (.c (.val (.bool false))))), none⟩, ⟨(some 30), (.mov (.tmp 29)), none⟩, ⟨(some 31), (.mov (.tmp 5)), (some (30, true))⟩, ⟨(some 32), (.bin .eql (.tmp 31) (.const (.c (.val (.int .i64 0))))), (some (30, true))⟩, ⟨(some 33), (.mov (.tmp 7)), (some (30, true))⟩, ⟨(some 34), (.eqs false false [.b] (.tmp 32) (.tmp 33)), (some (30, true))⟩, ⟨(some 35), (.pick (.tmp 30) (.tmp 34) (.const (.c (.val (.bool false))))), none⟩, ⟨(some 36), (.mov (.tmp 35)), none⟩, ⟨(some 37), (.mov (.tmp 7)), (some (36, true))⟩, ⟨(some 38), (.mov (.tmp 37)), (some (36, true))⟩, ⟨(some 39), (.mov (.tmp 5)), (some (38, false))⟩, ⟨(some 40), (.bin .eql (.tmp 39) (.const (.c (.val (.int .i64 4))))), (some (38, false))⟩, ⟨(some 41), (.pick (.tmp 38) (.const (.c (.val (.bool true)))) (.tmp 40)), (some (36, true))⟩, ⟨(some 42), (.pick (.tmp 36) (.tmp 41) (.const (.c (.val (.bool false))))), none⟩, ⟨(some 2), (.mov (.tmp 42)), none⟩])
 .ret))))))⟩
set_option maxRecDepth 100000 in
theorem c10 : compFunc Tryd.prog 10 = some a10 := by kernel_rfl
def clerestorylaw2_DimReads_post (r : Bool) : AV → Heap → Nat → Prop := fun v h' n' => v = (B r) ∧ (h' = (fun _ => none)) ∧ n' = 0
/-- clerestory/clerestorylaw2.DimReads -/
noncomputable def clerestorylaw2_DimReads (s_ : (List UInt8)) : Option Bool :=
  (clerestorylaw2_half).bind fun r_ =>
  (dim_Read s_).bind fun r_1 =>
  (clerestorylaw2_short s_ 400).bind fun r_2 =>
  (clerestoryref2_DimOf r_2).bind fun r_3 =>
  if decide (400 < (s_.length : Int)) then
    some r_
  else
    some (((r_ && (decide (r_1.1.Num = r_3.1.Num) && (decide (r_1.1.Unit = r_3.1.Unit) && true))) && ((decide (r_1.2 = 0) == r_3.2) && true)) && (r_3.2 || (decide (r_1.2 = 4))))
theorem clerestorylaw2_DimReads_ok {mL : Int} {s_ : (List UInt8)} {r : Bool} (h : clerestorylaw2_DimReads s_ = some r) : CPure Tryd.prog (GG mL) 10 [(S s_)] (B r) := by
  refine acalls_of_sv hmix c10 (R := clerestorylaw2_DimReads_post r) ?_
  unfold clerestorylaw2_DimReads at h
  refine Sv.seq ?_
  refine Sv.region ?_
  refine un (a1 rfl ?_)
  refine dnil ?_
  refine Sv.seq ?_
  refine Sv.region ?_
  obtain ⟨r_, hr1, h⟩ := bnd h
  refine un (ac_pure (clerestorylaw2_half_ok hr1) rfl rfl rfl ?_)
  refine un (a1 rfl ?_)
  refine dnil ?_
  refine Sv.seq ?_
  refine Sv.region ?_
  refine un (a1 rfl ?_)
  obtain ⟨r_1, hr2, h⟩ := bnd h
  refine un (ac_pure (dim_Read_ok hr2) rfl rfl rfl ?_)
  refine un (a1 rfl ?_)
  refine un (a1 (v := (.agg [cI r_1.1.Num, .str r_1.1.Unit])) rfl ?_)
  refine un (a1 (v := (I r_1.2)) rfl ?_)
  refine un (a2v (v := (.c (.ref 0 2 0 0))) (h' := upd _ 0 (some (.cells 2 [[cI 0, .str []]]))) (n' := 1) rfl rfl (fun h => by cases h) ?_)
  refine un (a2n (h' := upd _ 0 (some (.cells 2 [[cI r_1.1.Num, .str r_1.1.Unit]]))) (n' := 1) rfl rfl (fun h => by cases h) ?_)
  refine un (a1 rfl ?_)
  refine dnil ?_
  refine Sv.seq ?_
  refine Sv.region ?_
  refine un (a1 rfl ?_)
  obtain ⟨r_2, hr3, h⟩ := bnd h
  refine un (ac_pure (clerestorylaw2_short_ok hr3) rfl rfl rfl ?_)
  obtain ⟨r_3, hr4, h⟩ := bnd h
  refine un (ac_pure (clerestoryref2_DimOf_ok hr4) rfl rfl rfl ?_)
  refine un (a1 rfl ?_)
  refine un (a1 (v := (.agg [cI r_3.1.Num, .str r_3.1.Unit])) rfl ?_)
  refine un (a1 (v := (B r_3.2)) rfl ?_)
  refine un (a2v (v := (.c (.ref 1 2 0 0))) (h' := upd _ 1 (some (.cells 2 [[cI 0, .str []]]))) (n' := 2) rfl rfl (fun h => by cases h) ?_)
  refine un (a2n (h' := upd _ 1 (some (.cells 2 [[cI r_3.1.Num, .str r_3.1.Unit]]))) (n' := 2) rfl rfl (fun h => by cases h) ?_)
  refine un (a1 rfl ?_)
  refine dnil ?_
  refine Sv.seq ?_
  refine Sv.seq ?_
  refine Sv.region ?_
  refine un (a1 rfl ?_)
  refine un (a1 (v := (I (s_.length : Int))) rfl ?_)
  refine un (a1 (v := (B (decide (400 < (s_.length : Int))))) rfl ?_)
  refine dnil ?_
  refine Sv.cond (b := decide (400 < (s_.length : Int))) rfl (fun hc1 => ?_) (fun hc1 => ?_)
  · replace h := ifT hc1 h
    refine Sv.seq ?_
    refine Sv.region ?_
    refine un (a1 rfl ?_)
    refine un (a1 rfl ?_)
    refine dnil ?_
    refine Sv.ret ?_
    replace h := Option.some.inj h
    subst h
    exact ⟨_, .refl _, _, rfl, ⟨upd (fun _ => none) 0 (some (B r_)), (fun _ => none), 0⟩, (B r_), weak_canon [] rfl List.nodup_nil (Nat.le_refl _) (fun b h => absurd h (Nat.not_lt_zero _)) (.cons rfl (avAs_free rfl) .nil) .nil, rfl, rfl, rfl, rfl⟩
  · replace h := ifF hc1 h
    refine Sv.skip ?_
    refine Sv.seq ?_
    refine Sv.region ?_
    refine un (a1 rfl ?_)
    refine un (a1 rfl ?_)
    refine gjoin 4 (d := 29) (v := (B (r_ && (decide (r_1.1.Num = r_3.1.Num) && (decide (r_1.1.Unit = r_3.1.Unit) && true))))) (fun X hX => ?_) ?_
    · refine split2 (fun hc2 => ?_) (fun hc2 => ?_)
      · refine gt rfl (a1 (v := (.agg [cI r_1.1.Num, .str r_1.1.Unit])) rfl ?_)
        refine gt rfl (a1 (v := (.agg [cI r_3.1.Num, .str r_3.1.Unit])) rfl ?_)
        refine gt rfl (a1 (v := (B (decide (r_1.1.Num = r_3.1.Num) && (decide (r_1.1.Unit = r_3.1.Unit) && true)))) rfl ?_)
        refine un (a1 (v := (B (decide (r_1.1.Num = r_3.1.Num) && (decide (r_1.1.Unit = r_3.1.Unit) && true)))) rfl ?_)
        refine dnil ?_
        exact hX _ (.putEq (by rw [hc2]; rfl) (.skip _ _ (.skip _ _ (.skip _ _ (.putEq (by rw [hc2]) (.refl _)) rfl) rfl) rfl))
      · refine gs rfl rfl ?_
        refine gs rfl rfl ?_
        refine gs rfl rfl ?_
        refine un (a1 (v := (B false)) rfl ?_)
        refine dnil ?_
        exact hX _ (.putEq (by rw [hc2]; rfl) (.skip _ _ (.skip _ _ (.skip _ _ (.putEq (by rw [hc2]) (.refl _)) rfl) rfl) rfl))
    refine un (a1 rfl ?_)
    refine gjoin 5 (d := 35) (v := (B ((r_ && (decide (r_1.1.Num = r_3.1.Num) && (decide (r_1.1.Unit = r_3.1.Unit) && true))) && ((decide (r_1.2 = 0) == r_3.2) && true)))) (fun X hX => ?_) ?_
    · refine split2 (fun hc3 => ?_) (fun hc3 => ?_)
      · refine gt rfl (a1 rfl ?_)
        refine gt rfl (a1 (v := (B (decide (r_1.2 = 0)))) rfl ?_)
        refine gt rfl (a1 rfl ?_)
        refine gt rfl (a1 (v := (B ((decide (r_1.2 = 0) == r_3.2) && true))) rfl ?_)
        refine un (a1 (v := (B ((decide (r_1.2 = 0) == r_3.2) && true))) rfl ?_)
        refine dnil ?_
        exact hX _ (.putEq (by rw [hc3]; rfl) (.skip _ _ (.skip _ _ (.skip _ _ (.skip _ _ (.putEq (by rw [hc3]) (.refl _)) rfl) rfl) rfl) rfl))
      · refine gs rfl rfl ?_
        refine gs rfl rfl ?_
        refine gs rfl rfl ?_
        refine gs rfl rfl ?_
        refine un (a1 (v := (B false)) rfl ?_)
        refine dnil ?_
        exact hX _ (.putEq (by rw [hc3]; rfl) (.skip _ _ (.skip _ _ (.skip _ _ (.skip _ _ (.putEq (by rw [hc3]) (.refl _)) rfl) rfl) rfl) rfl))
    refine un (a1 rfl ?_)
    refine gjoin 6 (d := 42) (v := (B (((r_ && (decide (r_1.1.Num = r_3.1.Num) && (decide (r_1.1.Unit = r_3.1.Unit) && true))) && ((decide (r_1.2 = 0) == r_3.2) && true)) && (r_3.2 || (decide (r_1.2 = 4)))))) (fun X hX => ?_) ?_
    · refine split2 (fun hc5 => ?_) (fun hc5 => ?_)
      · refine gt rfl (a1 rfl ?_)
        refine gt rfl (a1 rfl ?_)
        refine gjoin 3 (d := 41) (v := (B (r_3.2 || (decide (r_1.2 = 4))))) (fun X hX => ?_) ?_
        · refine split2 (fun hc4 => ?_) (fun hc4 => ?_)
          · refine gs rfl rfl ?_
            refine gs rfl rfl ?_
            refine gt rfl (a1 (v := (B true)) rfl ?_)
            refine dnil ?_
            exact hX _ (.putEq (by rw [hc4]; rfl) (.skip _ _ (.skip _ _ (.putEq (by rw [hc4]) (.refl _)) rfl) rfl))
          · refine gt rfl (a1 rfl ?_)
            refine gt rfl (a1 (v := (B (decide (r_1.2 = 4)))) rfl ?_)
            refine gt rfl (a1 (v := (B (decide (r_1.2 = 4)))) rfl ?_)
            refine dnil ?_
            exact hX _ (.putEq (by rw [hc4]; rfl) (.skip _ _ (.skip _ _ (.putEq (by rw [hc4]) (.refl _)) rfl) rfl))
        refine un (a1 (v := (B (r_3.2 || (decide (r_1.2 = 4))))) rfl ?_)
        refine dnil ?_
        exact hX _ (.putEq (by rw [hc5]; rfl) (.skip _ _ (.skip _ _ (.skip _ _ (.putEq (by rw [hc5]) (.refl _)) rfl) rfl) rfl))
      · refine gs rfl rfl ?_
        refine gs rfl rfl ?_
        refine gu rfl ?_
        refine gu rfl ?_
        refine gs rfl rfl ?_
        refine un (a1 (v := (B false)) rfl ?_)
        refine dnil ?_
        exact hX _ (.putEq (by rw [hc5]; rfl) (.skip _ _ (.skip _ _ (.skip _ _ (.skip _ _ (.skip _ _ (.putEq (by rw [hc5]) (.refl _)) rfl) rfl) rfl) rfl) rfl))
    refine un (a1 rfl ?_)
    refine dnil ?_
    refine Sv.ret ?_
    replace h := Option.some.inj h
    subst h
    exact ⟨_, .refl _, _, rfl, ⟨upd (fun _ => none) 0 (some (B (((r_ && (decide (r_1.1.Num = r_3.1.Num) && (decide (r_1.1.Unit = r_3.1.Unit) && true))) && ((decide (r_1.2 = 0) == r_3.2) && true)) && (r_3.2 || (decide (r_1.2 = 4)))))), (fun _ => none), 0⟩, (B (((r_ && (decide (r_1.1.Num = r_3.1.Num) && (decide (r_1.1.Unit = r_3.1.Unit) && true))) && ((decide (r_1.2 = 0) == r_3.2) && true)) && (r_3.2 || (decide (r_1.2 = 4))))), weak_canon [] rfl List.nodup_nil (Nat.le_refl _) (fun b h => absurd h (Nat.not_lt_zero _)) (.cons rfl (avAs_free rfl) .nil) .nil, rfl, rfl, rfl, rfl⟩
end Go.Proofs.YtdmmjgjmfpalhaaDoorBv
