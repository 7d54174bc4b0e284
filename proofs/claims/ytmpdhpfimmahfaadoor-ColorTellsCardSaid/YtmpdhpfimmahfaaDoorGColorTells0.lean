/- Printed by a program of mine (bgen.py): plain functions, and the walks that show that the code comes to what they answer. -/
import Derived.Test.YtmpdhpfimmahfaaDoorRows
import Derived.Test.YtmpdhpfimmahfaaDoorBv40
import Derived.Test.YtmpdhpfimmahfaaDoorBv45
import Derived.Test.YtmpdhpfimmahfaaDoorBv30
import Derived.Test.YtmpdhpfimmahfaaDoorShelf
import Derived.Test.YtmpdhpfimmahfaaDoorBld
import Derived.Test.YtmpdhpfimmahfaaDoorBv36
import Derived.Test.YtmpdhpfimmahfaaDoorBv43
import Derived.Test.YtmpdhpfimmahfaaDoorBv42
namespace Go.Proofs.YtmpdhpfimmahfaaDoorBv
open Go
set_option linter.unusedVariables false
set_option linter.unusedSimpArgs false
set_option maxRecDepth 100000
theorem hmix : Tryd.prog.follows .mixedOrders = true := by kernel_rfl

def g1_c : List Cel := [.val (.int .u64 1), .val (.int .u64 10), .val (.int .u64 100), .val (.int .u64 1000), .val (.int .u64 10000), .val (.int .u64 100000), .val (.int .u64 1000000), .val (.int .u64 10000000), .val (.int .u64 100000000), .val (.int .u64 1000000000), .val (.int .u64 10000000000), .val (.int .u64 100000000000), .val (.int .u64 1000000000000), .val (.int .u64 10000000000000), .val (.int .u64 100000000000000), .val (.int .u64 1000000000000000), .val (.int .u64 10000000000000000), .val (.int .u64 100000000000000000), .val (.int .u64 1000000000000000000), .val (.int .u64 10000000000000000000)]
def g2_c : List Cel := [.opq]
def g3_c : List Cel := [.opq]
def g4_c : List Cel := [.val (.int .u8 240), .val (.int .u8 240), .val (.int .u8 240), .val (.int .u8 240), .val (.int .u8 240), .val (.int .u8 240), .val (.int .u8 240), .val (.int .u8 240), .val (.int .u8 240), .val (.int .u8 240), .val (.int .u8 240), .val (.int .u8 240), .val (.int .u8 240), .val (.int .u8 240), .val (.int .u8 240), .val (.int .u8 240), .val (.int .u8 240), .val (.int .u8 240), .val (.int .u8 240), .val (.int .u8 240), .val (.int .u8 240), .val (.int .u8 240), .val (.int .u8 240), .val (.int .u8 240), .val (.int .u8 240), .val (.int .u8 240), .val (.int .u8 240), .val (.int .u8 240), .val (.int .u8 240), .val (.int .u8 240), .val (.int .u8 240), .val (.int .u8 240), .val (.int .u8 240), .val (.int .u8 240), .val (.int .u8 240), .val (.int .u8 240), .val (.int .u8 240), .val (.int .u8 240), .val (.int .u8 240), .val (.int .u8 240), .val (.int .u8 240), .val (.int .u8 240), .val (.int .u8 240), .val (.int .u8 240), .val (.int .u8 240), .val (.int .u8 240), .val (.int .u8 240), .val (.int .u8 240), .val (.int .u8 240), .val (.int .u8 240), .val (.int .u8 240), .val (.int .u8 240), .val (.int .u8 240), .val (.int .u8 240), .val (.int .u8 240), .val (.int .u8 240), .val (.int .u8 240), .val (.int .u8 240), .val (.int .u8 240), .val (.int .u8 240), .val (.int .u8 240), .val (.int .u8 240), .val (.int .u8 240), .val (.int .u8 240), .val (.int .u8 240), .val (.int .u8 240), .val (.int .u8 240), .val (.int .u8 240), .val (.int .u8 240), .val (.int .u8 240), .val (.int .u8 240), .val (.int .u8 240), .val (.int .u8 240), .val (.int .u8 240), .val (.int .u8 240), .val (.int .u8 240), .val (.int .u8 240), .val (.int .u8 240), .val (.int .u8 240), .val (.int .u8 240), .val (.int .u8 240), .val (.int .u8 240), .val (.int .u8 240), .val (.int .u8 240), .val (.int .u8 240), .val (.int .u8 240), .val (.int .u8 240), .val (.int .u8 240), .val (.int .u8 240), .val (.int .u8 240), .val (.int .u8 240), .val (.int .u8 240), .val (.int .u8 240), .val (.int .u8 240), .val (.int .u8 240), .val (.int .u8 240), .val (.int .u8 240), .val (.int .u8 240), .val (.int .u8 240), .val (.int .u8 240), .val (.int .u8 240), .val (.int .u8 240), .val (.int .u8 240), .val (.int .u8 240), .val (.int .u8 240), .val (.int .u8 240), .val (.int .u8 240), .val (.int .u8 240), .val (.int .u8 240), .val (.int .u8 240), .val (.int .u8 240), .val (.int .u8 240), .val (.int .u8 240), .val (.int .u8 240), .val (.int .u8 240), .val (.int .u8 240), .val (.int .u8 240), .val (.int .u8 240), .val (.int .u8 240), .val (.int .u8 240), .val (.int .u8 240), .val (.int .u8 240), .val (.int .u8 240), .val (.int .u8 240), .val (.int .u8 240), .val (.int .u8 240), .val (.int .u8 240), .val (.int .u8 240), .val (.int .u8 241), .val (.int .u8 241), .val (.int .u8 241), .val (.int .u8 241), .val (.int .u8 241), .val (.int .u8 241), .val (.int .u8 241), .val (.int .u8 241), .val (.int .u8 241), .val (.int .u8 241), .val (.int .u8 241), .val (.int .u8 241), .val (.int .u8 241), .val (.int .u8 241), .val (.int .u8 241), .val (.int .u8 241), .val (.int .u8 241), .val (.int .u8 241), .val (.int .u8 241), .val (.int .u8 241), .val (.int .u8 241), .val (.int .u8 241), .val (.int .u8 241), .val (.int .u8 241), .val (.int .u8 241), .val (.int .u8 241), .val (.int .u8 241), .val (.int .u8 241), .val (.int .u8 241), .val (.int .u8 241), .val (.int .u8 241), .val (.int .u8 241), .val (.int .u8 241), .val (.int .u8 241), .val (.int .u8 241), .val (.int .u8 241), .val (.int .u8 241), .val (.int .u8 241), .val (.int .u8 241), .val (.int .u8 241), .val (.int .u8 241), .val (.int .u8 241), .val (.int .u8 241), .val (.int .u8 241), .val (.int .u8 241), .val (.int .u8 241), .val (.int .u8 241), .val (.int .u8 241), .val (.int .u8 241), .val (.int .u8 241), .val (.int .u8 241), .val (.int .u8 241), .val (.int .u8 241), .val (.int .u8 241), .val (.int .u8 241), .val (.int .u8 241), .val (.int .u8 241), .val (.int .u8 241), .val (.int .u8 241), .val (.int .u8 241), .val (.int .u8 241), .val (.int .u8 241), .val (.int .u8 241), .val (.int .u8 241), .val (.int .u8 241), .val (.int .u8 241), .val (.int .u8 2), .val (.int .u8 2), .val (.int .u8 2), .val (.int .u8 2), .val (.int .u8 2), .val (.int .u8 2), .val (.int .u8 2), .val (.int .u8 2), .val (.int .u8 2), .val (.int .u8 2), .val (.int .u8 2), .val (.int .u8 2), .val (.int .u8 2), .val (.int .u8 2), .val (.int .u8 2), .val (.int .u8 2), .val (.int .u8 2), .val (.int .u8 2), .val (.int .u8 2), .val (.int .u8 2), .val (.int .u8 2), .val (.int .u8 2), .val (.int .u8 2), .val (.int .u8 2), .val (.int .u8 2), .val (.int .u8 2), .val (.int .u8 2), .val (.int .u8 2), .val (.int .u8 2), .val (.int .u8 2), .val (.int .u8 19), .val (.int .u8 3), .val (.int .u8 3), .val (.int .u8 3), .val (.int .u8 3), .val (.int .u8 3), .val (.int .u8 3), .val (.int .u8 3), .val (.int .u8 3), .val (.int .u8 3), .val (.int .u8 3), .val (.int .u8 3), .val (.int .u8 3), .val (.int .u8 35), .val (.int .u8 3), .val (.int .u8 3), .val (.int .u8 52), .val (.int .u8 4), .val (.int .u8 4), .val (.int .u8 4), .val (.int .u8 68), .val (.int .u8 241), .val (.int .u8 241), .val (.int .u8 241), .val (.int .u8 241), .val (.int .u8 241), .val (.int .u8 241), .val (.int .u8 241), .val (.int .u8 241), .val (.int .u8 241), .val (.int .u8 241), .val (.int .u8 241)]
def g5_c : List Cel := [.val (.int .u8 128), .val (.int .u8 191), .val (.int .u8 160), .val (.int .u8 191), .val (.int .u8 128), .val (.int .u8 159), .val (.int .u8 144), .val (.int .u8 191), .val (.int .u8 128), .val (.int .u8 143), .val (.int .u8 0), .val (.int .u8 0), .val (.int .u8 0), .val (.int .u8 0), .val (.int .u8 0), .val (.int .u8 0), .val (.int .u8 0), .val (.int .u8 0), .val (.int .u8 0), .val (.int .u8 0), .val (.int .u8 0), .val (.int .u8 0), .val (.int .u8 0), .val (.int .u8 0), .val (.int .u8 0), .val (.int .u8 0), .val (.int .u8 0), .val (.int .u8 0), .val (.int .u8 0), .val (.int .u8 0), .val (.int .u8 0), .val (.int .u8 0)]
def g6_c : List Cel := [.val (.int .u8 0), .val (.int .u8 1), .val (.int .u8 28), .val (.int .u8 2), .val (.int .u8 29), .val (.int .u8 14), .val (.int .u8 24), .val (.int .u8 3), .val (.int .u8 30), .val (.int .u8 22), .val (.int .u8 20), .val (.int .u8 15), .val (.int .u8 25), .val (.int .u8 17), .val (.int .u8 4), .val (.int .u8 8), .val (.int .u8 31), .val (.int .u8 27), .val (.int .u8 13), .val (.int .u8 23), .val (.int .u8 21), .val (.int .u8 19), .val (.int .u8 16), .val (.int .u8 7), .val (.int .u8 26), .val (.int .u8 12), .val (.int .u8 18), .val (.int .u8 6), .val (.int .u8 11), .val (.int .u8 5), .val (.int .u8 10), .val (.int .u8 9)]
def g7_c : List Cel := [.val (.int .u8 0), .val (.int .u8 1), .val (.int .u8 56), .val (.int .u8 2), .val (.int .u8 57), .val (.int .u8 49), .val (.int .u8 28), .val (.int .u8 3), .val (.int .u8 61), .val (.int .u8 58), .val (.int .u8 42), .val (.int .u8 50), .val (.int .u8 38), .val (.int .u8 29), .val (.int .u8 17), .val (.int .u8 4), .val (.int .u8 62), .val (.int .u8 47), .val (.int .u8 59), .val (.int .u8 36), .val (.int .u8 45), .val (.int .u8 43), .val (.int .u8 51), .val (.int .u8 22), .val (.int .u8 53), .val (.int .u8 39), .val (.int .u8 33), .val (.int .u8 30), .val (.int .u8 24), .val (.int .u8 18), .val (.int .u8 12), .val (.int .u8 5), .val (.int .u8 63), .val (.int .u8 55), .val (.int .u8 48), .val (.int .u8 27), .val (.int .u8 60), .val (.int .u8 41), .val (.int .u8 37), .val (.int .u8 16), .val (.int .u8 46), .val (.int .u8 35), .val (.int .u8 44), .val (.int .u8 21), .val (.int .u8 52), .val (.int .u8 32), .val (.int .u8 23), .val (.int .u8 11), .val (.int .u8 54), .val (.int .u8 26), .val (.int .u8 40), .val (.int .u8 15), .val (.int .u8 34), .val (.int .u8 20), .val (.int .u8 31), .val (.int .u8 10), .val (.int .u8 25), .val (.int .u8 14), .val (.int .u8 19), .val (.int .u8 9), .val (.int .u8 13), .val (.int .u8 8), .val (.int .u8 7), .val (.int .u8 6)]
/-- what the listed package variables hold -/
def GG (mL : Int) : Glob := fun g => if g = 0 then [.val (.int .i64 mL)] else if g = 1 then g1_c else if g = 2 then g2_c else if g = 3 then g3_c else if g = 4 then g4_c else if g = 5 then g5_c else if g = 6 then g6_c else if g = 7 then g7_c else []
def a34_c0 : ACode := (.region [⟨(some 26), (.bin .add (.tmp 10) (.const (.c (.val (.int .i64 1))))), none⟩, ⟨(some 10), (.mov (.tmp 26)), none⟩])
def a34_c1 : ACode := (.seq (.region [⟨(some 11), (.bin .lss (.tmp 10) (.tmp 9)), none⟩])
 (.seq (.cond (.tmp 11) .skip (.exit 0))
 (.seq (.block 1 (.seq (.region [⟨(some 12), (.mov (.tmp 10)), none⟩, ⟨(some 13), (.iaddr 1 (.tmp 8) (.tmp 10)), none⟩, ⟨(some 14), (.load false 1 (.tmp 13)), none⟩, ⟨(some 4), (.mov (.tmp 12)), none⟩, ⟨(some 5), (.mov (.tmp 14)), none⟩])
 (.seq (.region [⟨(some 15), (.mov (.tmp 5)), none⟩, ⟨(some 16), (.bin .geq (.tmp 15) (.const (.c (.val (.int .u8 65))))), none⟩, ⟨(some 17), (.mov (.tmp 16)), none⟩, ⟨(some 18), (.mov (.tmp 5)), (some (17, true))⟩, ⟨(some 19), (.bin .leq (.tmp 18) (.const (.c (.val (.int .u8 90))))), (some (17, true))⟩, ⟨(some 20), (.pick (.tmp 17) (.tmp 19) (.const (.c (.val (.bool false))))), none⟩])
 (.cond (.tmp 20) (.region [⟨(some 21), (.mov (.tmp 3)), none⟩, ⟨(some 22), (.mov (.tmp 4)), none⟩, ⟨(some 23), (.mov (.tmp 5)), none⟩, ⟨(some 24), (.bin .add (.tmp 23) (.const (.c (.val (.int .u8 32))))), none⟩, ⟨(some 25), (.iaddr 1 (.tmp 21) (.tmp 22)), none⟩, ⟨none, (.store 1 (.tmp 25) (.tmp 24)), none⟩]) .skip))))
 a34_c0)))
def a34 : AFunc := ⟨1, [(.tmp 2)], (.seq (.region [⟨(some 2), (.mov (.const (.c (.str [])))), none⟩])
 (.seq (.region [⟨(some 6), (.mov (.tmp 0)), none⟩, ⟨(some 7), (.toBytes (.tmp 6)), none⟩, ⟨(some 3), (.mov (.tmp 7)), none⟩])
 (.seq (.seq (.region [⟨(some 8), (.mov (.tmp 3)), none⟩, ⟨(some 9), (.len (.tmp 8)), none⟩, ⟨(some 10), (.mov (.const (.c (.val (.int .i64 0))))), none⟩])
 (.block 0 (.loop a34_c1)))
 (.seq (.region [⟨(some 27), (.mov (.tmp 3)), none⟩, ⟨(some 28), (.ofBytes (.tmp 27)), none⟩, ⟨(some 2), (.mov (.tmp 28)), none⟩])
 .ret))))⟩
set_option maxRecDepth 100000 in
theorem c34 : compFunc Tryd.prog 34 = some a34 := by kernel_rfl
def color_lower_post (r : (List UInt8)) : AV → Heap → Nat → Prop := fun v h' n' => v = (S r) ∧ (h' = (fun _ => none)) ∧ n' = 0
noncomputable def color_lower_j3 (v9 : Int) (v10 : Int) (self : (List Int) → Int → Int → Option (List UInt8)) (K0_ : (List Int) → Option (List UInt8)) (b_2 : (List Int)) : Option (List UInt8) :=
  self b_2 v9 (wi (v10 + 1))
theorem color_lower_j3_ok {mL : Int} {Q : AExit → St → Prop} {v9 : Int} {v10 : Int} {self : (List Int) → Int → Int → Option (List UInt8)} {K0_ : (List Int) → Option (List UInt8)} {b_2 : (List Int)} {zb_2 : Bool} (hzb_2 : zb_2 = true → b_2 = []) {o : (List UInt8)} (h : color_lower_j3 v9 v10 self K0_ b_2 = some o)
    (hself : ∀ (b_ : (List Int)) (v9 : Int) (v10 : Int) (zb : Bool) (_ : zb = true → b_ = []), self b_ v9 v10 = some o → ∀ s, Weak 0 s ⟨(upd (upd (upd (upd (fun _ => none) 3 (some (lstV zb 0 1 b_.length))) 8 (some (lstV zb 0 1 b_.length))) 9 (some (I v9))) 10 (some (I v10))), (upd (fun _ => none) 0 (lstB zb 1 (b_.map (eK .u8)))), 1⟩ → (Q) .normal s)
    (hK0 : ∀ (b_1 : (List Int)) (zb_1 : Bool) (_ : zb_1 = true → b_1 = []), K0_ b_1 = some o → ∀ s, Weak 0 s ⟨(upd (fun _ => none) 3 (some (lstV zb_1 0 1 b_1.length))), (upd (fun _ => none) 0 (lstB zb_1 1 (b_1.map (eK .u8)))), 1⟩ → Q (.exit 0) s)
    (hr : ∀ s, Ends a34.results 0 (color_lower_post o) .ret s → Q .ret s) :
    Sv Tryd.prog (GG mL) 0 a34_c0 Q ⟨(upd (upd (upd (upd (fun _ => none) 3 (some (lstV zb_2 0 1 b_2.length))) 8 (some (lstV zb_2 0 1 b_2.length))) 9 (some (I v9))) 10 (some (I v10))), (upd (fun _ => none) 0 (lstB zb_2 1 (b_2.map (eK .u8)))), 1⟩ := by
  unfold color_lower_j3 at h
  refine Sv.region ?_
  refine un (a1 (v := (I (wi (v10 + 1)))) rfl ?_)
  refine un (a1 rfl ?_)
  refine dnil ?_
  exact hself b_2 v9 (wi (v10 + 1)) zb_2 hzb_2 h _ (weak_canon [0] rfl (by decide) (by decide) (fun b h => absurd h (Nat.not_lt_zero _)) (.cons rfl (avAs_free rfl) (.cons rfl (avAs_free rfl) (.cons rfl (.c (lstC_ren rfl (by decide))) (.cons rfl (.c (lstC_ren rfl (by decide))) .nil)))) (.row (by decide) rfl (fr_map fun _ => rfl) .nil))
noncomputable def color_lower_l0 (K0_ : (List Int) → Option (List UInt8)) : Nat → (List Int) → Int → Int → Option (List UInt8)
  | 0, _, _, _ => none
  | k + 1, b_, v9, v10 =>
    if decide (v10 < v9) then
      (at? b_ v10).bind fun x_ =>
      if ((decide (65 ≤ x_)) && (decide (x_ ≤ 90))) then
        (at? b_ v10).bind fun x_1 =>
        color_lower_j3 v9 v10 (color_lower_l0 K0_ k) K0_ (b_.set v10.toNat (wr .u8 (x_ + 32)))
      else
        color_lower_j3 v9 v10 (color_lower_l0 K0_ k) K0_ b_
    else
      K0_ b_
theorem color_lower_l0_ok {mL : Int} {Q : AExit → St → Prop} {K0_ : (List Int) → Option (List UInt8)} {k : Nat} {b_ : (List Int)} {v9 : Int} {v10 : Int} {zb : Bool} (hzb : zb = true → b_ = []) {o : (List UInt8)} (h : color_lower_l0 K0_ k b_ v9 v10 = some o)
    (hK0 : ∀ (b_1 : (List Int)) (zb_1 : Bool) (_ : zb_1 = true → b_1 = []), K0_ b_1 = some o → ∀ s, Weak 0 s ⟨(upd (fun _ => none) 3 (some (lstV zb_1 0 1 b_1.length))), (upd (fun _ => none) 0 (lstB zb_1 1 (b_1.map (eK .u8)))), 1⟩ → Q (.exit 0) s)
    (hr : ∀ s, Ends a34.results 0 (color_lower_post o) .ret s → Q .ret s) :
    Sv Tryd.prog (GG mL) 0 (.loop a34_c1) Q ⟨(upd (upd (upd (upd (fun _ => none) 3 (some (lstV zb 0 1 b_.length))) 8 (some (lstV zb 0 1 b_.length))) 9 (some (I v9))) 10 (some (I v10))), (upd (fun _ => none) 0 (lstB zb 1 (b_.map (eK .u8)))), 1⟩ := by
  refine Sv.loop (I := fun k s => ∃ (b_ : (List Int)), ∃ (v9 : Int), ∃ (v10 : Int), ∃ (zb : Bool), (zb = true → b_ = []) ∧ color_lower_l0 K0_ k b_ v9 v10 = some o ∧ s = ⟨(upd (upd (upd (upd (fun _ => none) 3 (some (lstV zb 0 1 b_.length))) 8 (some (lstV zb 0 1 b_.length))) 9 (some (I v9))) 10 (some (I v10))), (upd (fun _ => none) 0 (lstB zb 1 (b_.map (eK .u8)))), 1⟩) (fun k s hI => ?_) ⟨b_, v9, v10, zb, hzb, h, rfl⟩
  clear h
  clear hzb zb v10 v9 b_
  obtain ⟨b_, v9, v10, zb, hzb, h, rfl⟩ := hI
  cases k with
  | zero => cases h
  | succ k =>
  rw [color_lower_l0] at h
  have hself : ∀ (b_ : (List Int)) (v9 : Int) (v10 : Int) (zb : Bool) (_ : zb = true → b_ = []), (color_lower_l0 K0_ k) b_ v9 v10 = some o → ∀ s, Weak 0 s ⟨(upd (upd (upd (upd (fun _ => none) 3 (some (lstV zb 0 1 b_.length))) 8 (some (lstV zb 0 1 b_.length))) 9 (some (I v9))) 10 (some (I v10))), (upd (fun _ => none) 0 (lstB zb 1 (b_.map (eK .u8)))), 1⟩ → (AThen (fun s' => ∃ s'' k', Weak 0 s' s'' ∧ k' < k + 1 ∧ (fun k s => ∃ (b_ : (List Int)), ∃ (v9 : Int), ∃ (v10 : Int), ∃ (zb : Bool), (zb = true → b_ = []) ∧ color_lower_l0 K0_ k b_ v9 v10 = some o ∧ s = ⟨(upd (upd (upd (upd (fun _ => none) 3 (some (lstV zb 0 1 b_.length))) 8 (some (lstV zb 0 1 b_.length))) 9 (some (I v9))) 10 (some (I v10))), (upd (fun _ => none) 0 (lstB zb 1 (b_.map (eK .u8)))), 1⟩) k' s'') Q) .normal s := fun b_ v9 v10 zb hzb h s hw => ⟨_, k, hw, Nat.lt_succ_self k, b_, v9, v10, zb, hzb, h, rfl⟩
  refine Sv.seq ?_
  refine Sv.region ?_
  refine un (a1 (v := (B (decide (v10 < v9)))) rfl ?_)
  refine dnil ?_
  refine Sv.seq ?_
  refine Sv.cond (b := decide (v10 < v9)) rfl (fun hc1 => ?_) (fun hc1 => ?_)
  · replace h := ifT hc1 h
    refine Sv.skip ?_
    refine Sv.seq ?_
    refine Sv.block ?_
    refine Sv.seq ?_
    refine Sv.region ?_
    refine un (a1 rfl ?_)
    obtain ⟨x_, hx1, h⟩ := bnd h
    refine un (a1 (v := (.c (.ref 0 1 v10.toNat 0))) (s_iaddrL rfl rfl hzb hx1) ?_)
    refine un (a1 (v := (.c (.val (.int .u8 x_)))) (s_loadL (z := zb) (e := (eK .u8)) rfl rfl hzb hx1 rfl rfl) ?_)
    refine un (a1 rfl ?_)
    refine un (a1 rfl ?_)
    refine dnil ?_
    refine Sv.seq ?_
    refine Sv.region ?_
    refine un (a1 rfl ?_)
    refine un (a1 (v := (B (decide (65 ≤ x_)))) rfl ?_)
    refine un (a1 rfl ?_)
    refine gjoin 3 (d := 20) (v := (B ((decide (65 ≤ x_)) && (decide (x_ ≤ 90))))) (fun X hX => ?_) ?_
    · refine split2 (fun hc2 => ?_) (fun hc2 => ?_)
      · refine gt rfl (a1 rfl ?_)
        refine gt rfl (a1 (v := (B (decide (x_ ≤ 90)))) rfl ?_)
        refine un (a1 (v := (B (decide (x_ ≤ 90)))) rfl ?_)
        refine dnil ?_
        exact hX _ (.putEq (by rw [hc2]; rfl) (.skip _ _ (.skip _ _ (.putEq (by rw [hc2]) (.refl _)) rfl) rfl))
      · refine gs rfl rfl ?_
        refine gs rfl rfl ?_
        refine un (a1 (v := (B false)) rfl ?_)
        refine dnil ?_
        exact hX _ (.putEq (by rw [hc2]; rfl) (.skip _ _ (.skip _ _ (.putEq (by rw [hc2]) (.refl _)) rfl) rfl))
    refine dnil ?_
    refine Sv.cond (b := ((decide (65 ≤ x_)) && (decide (x_ ≤ 90)))) rfl (fun hc3 => ?_) (fun hc3 => ?_)
    · replace h := ifT hc3 h
      refine Sv.region ?_
      refine un (a1 rfl ?_)
      refine un (a1 rfl ?_)
      refine un (a1 rfl ?_)
      refine un (a1 (v := (.c (.val (.int .u8 (wr .u8 (x_ + 32)))))) rfl ?_)
      obtain ⟨x_1, hx2, h⟩ := bnd h
      refine un (a1 (v := (.c (.ref 0 1 v10.toNat 0))) (s_iaddrL rfl rfl hzb hx2) ?_)
      refine un (a2n (h' := upd _ 0 (lstB zb 1 ((b_.set v10.toNat (wr .u8 (x_ + 32))).map (eK .u8)))) (n' := 1) rfl (s_storeL (e := (eK .u8)) (q' := (wr .u8 (x_ + 32))) rfl rfl hzb hx2 rfl rfl rfl (Nat.le_of_ble_eq_true rfl) rfl) (fun h => by cases h) ?_)
      try rw [len_set b_ v10.toNat (wr .u8 (x_ + 32))]
      refine dnil ?_
      exact Sv.weak (weak_canon [0] rfl (by decide) (by decide) (fun b h => absurd h (Nat.not_lt_zero _)) (.cons rfl (avAs_free rfl) (.cons rfl (avAs_free rfl) (.cons rfl (.c (lstC_ren rfl (by decide))) (.cons rfl (.c (lstC_ren rfl (by decide))) .nil)))) (.row (by decide) rfl (fr_map fun _ => rfl) .nil)) (color_lower_j3_ok (hz_len hzb (len_set b_ v10.toNat (wr .u8 (x_ + 32)))) h hself hK0 hr)
    · replace h := ifF hc3 h
      refine Sv.skip ?_
      exact Sv.weak (weak_canon [0] rfl (by decide) (by decide) (fun b h => absurd h (Nat.not_lt_zero _)) (.cons rfl (avAs_free rfl) (.cons rfl (avAs_free rfl) (.cons rfl (.c (lstC_ren rfl (by decide))) (.cons rfl (.c (lstC_ren rfl (by decide))) .nil)))) (.row (by decide) rfl (fr_map fun _ => rfl) .nil)) (color_lower_j3_ok hzb h hself hK0 hr)
  · replace h := ifF hc1 h
    refine Sv.exit ?_
    exact hK0 b_ zb hzb h _ (weak_canon [0] rfl (by decide) (by decide) (fun b h => absurd h (Nat.not_lt_zero _)) (.cons rfl (.c (lstC_ren rfl (by decide))) .nil) (.row (by decide) rfl (fr_map fun _ => rfl) .nil))
/-- clerestory/color.lower -/
noncomputable def color_lower (s_ : (List UInt8)) : Option (List UInt8) :=
  lim fun kk => color_lower_l0 (fun (b_1 : (List Int)) => 
      some (byts b_1)) kk (ints s_) ((ints s_).length : Int) 0
theorem color_lower_ok {mL : Int} {s_ : (List UInt8)} {r : (List UInt8)} (h : color_lower s_ = some r) : CPure Tryd.prog (GG mL) 34 [(S s_)] (S r) := by
  refine acalls_of_sv hmix c34 (R := color_lower_post r) ?_
  unfold color_lower at h
  refine Sv.seq ?_
  refine Sv.region ?_
  refine un (a1 rfl ?_)
  refine dnil ?_
  refine Sv.seq ?_
  refine Sv.region ?_
  refine un (a1 rfl ?_)
  refine un (a2v (v := (lstV false 0 1 (ints s_).length)) (h' := upd _ 0 (lstB false 1 ((ints s_).map (eK .u8)))) (n' := 1) rfl (s_toBytes rfl) (fun h => by cases h) ?_)
  refine un (a1 rfl ?_)
  refine dnil ?_
  refine Sv.seq ?_
  refine Sv.seq ?_
  refine Sv.region ?_
  refine un (a1 rfl ?_)
  refine un (a1 (v := (I ((ints s_).length : Int))) (s_lenL rfl (len_nil_of (fun h => by cases h))) ?_)
  refine un (a1 rfl ?_)
  refine dnil ?_
  refine Sv.block ?_
  obtain ⟨kk, h⟩ := lim_some h
  refine Sv.weak (weak_canon [0] rfl (by decide) (by decide) (fun b h => absurd h (Nat.not_lt_zero _)) (.cons rfl (avAs_free rfl) (.cons rfl (avAs_free rfl) (.cons rfl (.c (lstC_ren rfl (by decide))) (.cons rfl (.c (lstC_ren rfl (by decide))) .nil)))) (.row (by decide) rfl (fr_map fun _ => rfl) .nil)) (color_lower_l0_ok (fun h => by cases h) h ?_ (fun s hs => hs))
  · intro b_1 zb_1 hzb_1 h _ hw1
    refine Sv.weak hw1 ?_
    refine Sv.seq ?_
    refine Sv.region ?_
    refine un (a1 rfl ?_)
    refine un (a1 (v := (S (byts b_1))) (s_ofBytes (xs := b_1) rfl (slc_lst rfl (List.length_map _).symm (map_nil_of hzb_1))) ?_)
    refine un (a1 rfl ?_)
    refine dnil ?_
    refine Sv.ret ?_
    replace h := Option.some.inj h
    subst h
    exact ⟨_, .refl _, _, rfl, ⟨upd (fun _ => none) 0 (some (S (byts b_1))), (fun _ => none), 0⟩, (S (byts b_1)), weak_canon [] rfl List.nodup_nil (Nat.le_refl _) (fun b h => absurd h (Nat.not_lt_zero _)) (.cons rfl (avAs_free rfl) .nil) .nil, rfl, rfl, rfl, rfl⟩
def a35 : AFunc := ⟨1, [(.tmp 2), (.tmp 3)], (.seq (.region [⟨(some 2), (.mov (.const (.c (.val (.int .i64 0))))), none⟩, ⟨(some 3), (.mov (.const (.c (.val (.bool false))))), none⟩])
 (.seq (.seq (.region [⟨(some 4), (.mov (.tmp 0)), none⟩])
 (.block 0 (.seq (.region [⟨(some 6), (.bin .eql (.tmp 4) (.const (.c (.str [98, 108, 97, 99, 107])))), none⟩, ⟨(some 5), (.mov (.tmp 6)), none⟩])
 (.cond (.tmp 5) (.seq (.region [⟨(some 2), (.mov (.const (.c (.val (.int .i64 0))))), none⟩, ⟨(some 3), (.mov (.const (.c (.val (.bool true))))), none⟩])
 .ret) (.seq (.region [⟨(some 8), (.bin .eql (.tmp 4) (.const (.c (.str [115, 105, 108, 118, 101, 114])))), none⟩, ⟨(some 7), (.mov (.tmp 8)), none⟩])
 (.cond (.tmp 7) (.seq (.region [⟨(some 2), (.mov (.const (.c (.val (.int .i64 12632256))))), none⟩, ⟨(some 3), (.mov (.const (.c (.val (.bool true))))), none⟩])
 .ret) (.seq (.region [⟨(some 10), (.bin .eql (.tmp 4) (.const (.c (.str [103, 114, 97, 121])))), none⟩, ⟨(some 9), (.mov (.tmp 10)), none⟩])
 (.cond (.tmp 9) (.seq (.region [⟨(some 2), (.mov (.const (.c (.val (.int .i64 8421504))))), none⟩, ⟨(some 3), (.mov (.const (.c (.val (.bool true))))), none⟩])
 .ret) (.seq (.region [⟨(some 12), (.bin .eql (.tmp 4) (.const (.c (.str [119, 104, 105, 116, 101])))), none⟩, ⟨(some 11), (.mov (.tmp 12)), none⟩])
 (.cond (.tmp 11) (.seq (.region [⟨(some 2), (.mov (.const (.c (.val (.int .i64 16777215))))), none⟩, ⟨(some 3), (.mov (.const (.c (.val (.bool true))))), none⟩])
 .ret) (.seq (.region [⟨(some 14), (.bin .eql (.tmp 4) (.const (.c (.str [109, 97, 114, 111, 111, 110])))), none⟩, ⟨(some 13), (.mov (.tmp 14)), none⟩])
 (.cond (.tmp 13) (.seq (.region [⟨(some 2), (.mov (.const (.c (.val (.int .i64 8388608))))), none⟩, ⟨(some 3), (.mov (.const (.c (.val (.bool true))))), none⟩])
 .ret) (.seq (.region [⟨(some 16), (.bin .eql (.tmp 4) (.const (.c (.str [114, 101, 100])))), none⟩, ⟨(some 15), (.mov (.tmp 16)), none⟩])
 (.cond (.tmp 15) (.seq (.region [⟨(some 2), (.mov (.const (.c (.val (.int .i64 16711680))))), none⟩, ⟨(some 3), (.mov (.const (.c (.val (.bool true))))), none⟩])
 .ret) (.seq (.region [⟨(some 18), (.bin .eql (.tmp 4) (.const (.c (.str [112, 117, 114, 112, 108, 101])))), none⟩, ⟨(some 17), (.mov (.tmp 18)), none⟩])
 (.cond (.tmp 17) (.seq (.region [⟨(some 2), (.mov (.const (.c (.val (.int .i64 8388736))))), none⟩, ⟨(some 3), (.mov (.const (.c (.val (.bool true))))), none⟩])
 .ret) (.seq (.region [⟨(some 20), (.bin .eql (.tmp 4) (.const (.c (.str [102, 117, 99, 104, 115, 105, 97])))), none⟩, ⟨(some 19), (.mov (.tmp 20)), none⟩])
 (.cond (.tmp 19) (.seq (.region [⟨(some 2), (.mov (.const (.c (.val (.int .i64 16711935))))), none⟩, ⟨(some 3), (.mov (.const (.c (.val (.bool true))))), none⟩])
 .ret) (.seq (.region [⟨(some 22), (.bin .eql (.tmp 4) (.const (.c (.str [103, 114, 101, 101, 110])))), none⟩, ⟨(some 21), (.mov (.tmp 22)), none⟩])
 (.cond (.tmp 21) (.seq (.region [⟨(some 2), (.mov (.const (.c (.val (.int .i64 32768))))), none⟩, ⟨(some 3), (.mov (.const (.c (.val (.bool true))))), none⟩])
 .ret) (.seq (.region [⟨(some 24), (.bin .eql (.tmp 4) (.const (.c (.str [108, 105, 109, 101])))), none⟩, ⟨(some 23), (.mov (.tmp 24)), none⟩])
 (.cond (.tmp 23) (.seq (.region [⟨(some 2), (.mov (.const (.c (.val (.int .i64 65280))))), none⟩, ⟨(some 3), (.mov (.const (.c (.val (.bool true))))), none⟩])
 .ret) (.seq (.region [⟨(some 26), (.bin .eql (.tmp 4) (.const (.c (.str [111, 108, 105, 118, 101])))), none⟩, ⟨(some 25), (.mov (.tmp 26)), none⟩])
 (.cond (.tmp 25) (.seq (.region [⟨(some 2), (.mov (.const (.c (.val (.int .i64 8421376))))), none⟩, ⟨(some 3), (.mov (.const (.c (.val (.bool true))))), none⟩])
 .ret) (.seq (.region [⟨(some 28), (.bin .eql (.tmp 4) (.const (.c (.str [121, 101, 108, 108, 111, 119])))), none⟩, ⟨(some 27), (.mov (.tmp 28)), none⟩])
 (.cond (.tmp 27) (.seq (.region [⟨(some 2), (.mov (.const (.c (.val (.int .i64 16776960))))), none⟩, ⟨(some 3), (.mov (.const (.c (.val (.bool true))))), none⟩])
 .ret) (.seq (.region [⟨(some 30), (.bin .eql (.tmp 4) (.const (.c (.str [110, 97, 118, 121])))), none⟩, ⟨(some 29), (.mov (.tmp 30)), none⟩])
 (.cond (.tmp 29) (.seq (.region [⟨(some 2), (.mov (.const (.c (.val (.int .i64 128))))), none⟩, ⟨(some 3), (.mov (.const (.c (.val (.bool true))))), none⟩])
 .ret) (.seq (.region [⟨(some 32), (.bin .eql (.tmp 4) (.const (.c (.str [98, 108, 117, 101])))), none⟩, ⟨(some 31), (.mov (.tmp 32)), none⟩])
 (.cond (.tmp 31) (.seq (.region [⟨(some 2), (.mov (.const (.c (.val (.int .i64 255))))), none⟩, ⟨(some 3), (.mov (.const (.c (.val (.bool true))))), none⟩])
 .ret) (.seq (.region [⟨(some 34), (.bin .eql (.tmp 4) (.const (.c (.str [116, 101, 97, 108])))), none⟩, ⟨(some 33), (.mov (.tmp 34)), none⟩])
 (.cond (.tmp 33) (.seq (.region [⟨(some 2), (.mov (.const (.c (.val (.int .i64 32896))))), none⟩, ⟨(some 3), (.mov (.const (.c (.val (.bool true))))), none⟩])
 .ret) (.seq (.region [⟨(some 36), (.bin .eql (.tmp 4) (.const (.c (.str [97, 113, 117, 97])))), none⟩, ⟨(some 35), (.mov (.tmp 36)), none⟩])
 (.cond (.tmp 35) (.seq (.region [⟨(some 2), (.mov (.const (.c (.val (.int .i64 65535))))), none⟩, ⟨(some 3), (.mov (.const (.c (.val (.bool true))))), none⟩])
 .ret) (.seq (.region [⟨(some 38), (.bin .eql (.tmp 4) (.const (.c (.str [111, 114, 97, 110, 103, 101])))), none⟩, ⟨(some 37), (.mov (.tmp 38)), none⟩])
 (.cond (.tmp 37) (.seq (.region [⟨(some 2), (.mov (.const (.c (.val (.int .i64 16753920))))), none⟩, ⟨(some 3), (.mov (.const (.c (.val (.bool true))))), none⟩])
 .ret) .skip))))))))))))))))))))))))))))))))))))
 (.seq (.region [⟨(some 2), (.mov (.const (.c (.val (.int .i64 0))))), none⟩, ⟨(some 3), (.mov (.const (.c (.val (.bool false))))), none⟩])
 .ret)))⟩
set_option maxRecDepth 100000 in
theorem c35 : compFunc Tryd.prog 35 = some a35 := by kernel_rfl
def color_named_post (r : (Int × Bool)) : AV → Heap → Nat → Prop := fun v h' n' => v = (.tup [(I r.1), (B r.2)]) ∧ (h' = (fun _ => none)) ∧ n' = 0
/-- clerestory/color.named -/
def color_named (s_ : (List UInt8)) : (Int × Bool) :=
  if decide (s_ = [98, 108, 97, 99, 107]) then
    (0, true)
  else
    if decide (s_ = [115, 105, 108, 118, 101, 114]) then
      (12632256, true)
    else
      if decide (s_ = [103, 114, 97, 121]) then
        (8421504, true)
      else
        if decide (s_ = [119, 104, 105, 116, 101]) then
          (16777215, true)
        else
          if decide (s_ = [109, 97, 114, 111, 111, 110]) then
            (8388608, true)
          else
            if decide (s_ = [114, 101, 100]) then
              (16711680, true)
            else
              if decide (s_ = [112, 117, 114, 112, 108, 101]) then
                (8388736, true)
              else
                if decide (s_ = [102, 117, 99, 104, 115, 105, 97]) then
                  (16711935, true)
                else
                  if decide (s_ = [103, 114, 101, 101, 110]) then
                    (32768, true)
                  else
                    if decide (s_ = [108, 105, 109, 101]) then
                      (65280, true)
                    else
                      if decide (s_ = [111, 108, 105, 118, 101]) then
                        (8421376, true)
                      else
                        if decide (s_ = [121, 101, 108, 108, 111, 119]) then
                          (16776960, true)
                        else
                          if decide (s_ = [110, 97, 118, 121]) then
                            (128, true)
                          else
                            if decide (s_ = [98, 108, 117, 101]) then
                              (255, true)
                            else
                              if decide (s_ = [116, 101, 97, 108]) then
                                (32896, true)
                              else
                                if decide (s_ = [97, 113, 117, 97]) then
                                  (65535, true)
                                else
                                  if decide (s_ = [111, 114, 97, 110, 103, 101]) then
                                    (16753920, true)
                                  else
                                    (0, false)
theorem color_named_ok {mL : Int} (s_ : (List UInt8)) : CPure Tryd.prog (GG mL) 35 [(S s_)] (.tup [(I ((color_named s_).1)), (B ((color_named s_).2))]) := by
  generalize h : color_named s_ = o
  refine acalls_of_sv hmix c35 (R := color_named_post o) ?_
  unfold color_named at h
  refine Sv.seq ?_
  refine Sv.region ?_
  refine un (a1 rfl ?_)
  refine un (a1 rfl ?_)
  refine dnil ?_
  refine Sv.seq ?_
  refine Sv.seq ?_
  refine Sv.region ?_
  refine un (a1 rfl ?_)
  refine dnil ?_
  refine Sv.block ?_
  refine Sv.seq ?_
  refine Sv.region ?_
  refine un (a1 (v := (B (decide (s_ = [98, 108, 97, 99, 107])))) rfl ?_)
  refine un (a1 rfl ?_)
  refine dnil ?_
  refine Sv.cond (b := decide (s_ = [98, 108, 97, 99, 107])) rfl (fun hc1 => ?_) (fun hc1 => ?_)
  · replace h := ifT hc1 h
    refine Sv.seq ?_
    refine Sv.region ?_
    refine un (a1 rfl ?_)
    refine un (a1 rfl ?_)
    refine dnil ?_
    refine Sv.ret ?_
    subst h
    exact ⟨_, .refl _, _, rfl, ⟨upd (fun _ => none) 0 (some (.tup [(I 0), (B true)])), (fun _ => none), 0⟩, (.tup [(I 0), (B true)]), weak_canon [] rfl List.nodup_nil (Nat.le_refl _) (fun b h => absurd h (Nat.not_lt_zero _)) (.cons rfl (avAs_tup (.cons (avAs_free rfl) (.cons (avAs_free rfl) .nil))) .nil) .nil, rfl, rfl, rfl, rfl⟩
  · replace h := ifF hc1 h
    refine Sv.seq ?_
    refine Sv.region ?_
    refine un (a1 (v := (B (decide (s_ = [115, 105, 108, 118, 101, 114])))) rfl ?_)
    refine un (a1 rfl ?_)
    refine dnil ?_
    refine Sv.cond (b := decide (s_ = [115, 105, 108, 118, 101, 114])) rfl (fun hc2 => ?_) (fun hc2 => ?_)
    · replace h := ifT hc2 h
      refine Sv.seq ?_
      refine Sv.region ?_
      refine un (a1 rfl ?_)
      refine un (a1 rfl ?_)
      refine dnil ?_
      refine Sv.ret ?_
      subst h
      exact ⟨_, .refl _, _, rfl, ⟨upd (fun _ => none) 0 (some (.tup [(I 12632256), (B true)])), (fun _ => none), 0⟩, (.tup [(I 12632256), (B true)]), weak_canon [] rfl List.nodup_nil (Nat.le_refl _) (fun b h => absurd h (Nat.not_lt_zero _)) (.cons rfl (avAs_tup (.cons (avAs_free rfl) (.cons (avAs_free rfl) .nil))) .nil) .nil, rfl, rfl, rfl, rfl⟩
    · replace h := ifF hc2 h
      refine Sv.seq ?_
      refine Sv.region ?_
      refine un (a1 (v := (B (decide (s_ = [103, 114, 97, 121])))) rfl ?_)
      refine un (a1 rfl ?_)
      refine dnil ?_
      refine Sv.cond (b := decide (s_ = [103, 114, 97, 121])) rfl (fun hc3 => ?_) (fun hc3 => ?_)
      · replace h := ifT hc3 h
        refine Sv.seq ?_
        refine Sv.region ?_
        refine un (a1 rfl ?_)
        refine un (a1 rfl ?_)
        refine dnil ?_
        refine Sv.ret ?_
        subst h
        exact ⟨_, .refl _, _, rfl, ⟨upd (fun _ => none) 0 (some (.tup [(I 8421504), (B true)])), (fun _ => none), 0⟩, (.tup [(I 8421504), (B true)]), weak_canon [] rfl List.nodup_nil (Nat.le_refl _) (fun b h => absurd h (Nat.not_lt_zero _)) (.cons rfl (avAs_tup (.cons (avAs_free rfl) (.cons (avAs_free rfl) .nil))) .nil) .nil, rfl, rfl, rfl, rfl⟩
      · replace h := ifF hc3 h
        refine Sv.seq ?_
        refine Sv.region ?_
        refine un (a1 (v := (B (decide (s_ = [119, 104, 105, 116, 101])))) rfl ?_)
        refine un (a1 rfl ?_)
        refine dnil ?_
        refine Sv.cond (b := decide (s_ = [119, 104, 105, 116, 101])) rfl (fun hc4 => ?_) (fun hc4 => ?_)
        · replace h := ifT hc4 h
          refine Sv.seq ?_
          refine Sv.region ?_
          refine un (a1 rfl ?_)
          refine un (a1 rfl ?_)
          refine dnil ?_
          refine Sv.ret ?_
          subst h
          exact ⟨_, .refl _, _, rfl, ⟨upd (fun _ => none) 0 (some (.tup [(I 16777215), (B true)])), (fun _ => none), 0⟩, (.tup [(I 16777215), (B true)]), weak_canon [] rfl List.nodup_nil (Nat.le_refl _) (fun b h => absurd h (Nat.not_lt_zero _)) (.cons rfl (avAs_tup (.cons (avAs_free rfl) (.cons (avAs_free rfl) .nil))) .nil) .nil, rfl, rfl, rfl, rfl⟩
        · replace h := ifF hc4 h
          refine Sv.seq ?_
          refine Sv.region ?_
          refine un (a1 (v := (B (decide (s_ = [109, 97, 114, 111, 111, 110])))) rfl ?_)
          refine un (a1 rfl ?_)
          refine dnil ?_
          refine Sv.cond (b := decide (s_ = [109, 97, 114, 111, 111, 110])) rfl (fun hc5 => ?_) (fun hc5 => ?_)
          · replace h := ifT hc5 h
            refine Sv.seq ?_
            refine Sv.region ?_
            refine un (a1 rfl ?_)
            refine un (a1 rfl ?_)
            refine dnil ?_
            refine Sv.ret ?_
            subst h
            exact ⟨_, .refl _, _, rfl, ⟨upd (fun _ => none) 0 (some (.tup [(I 8388608), (B true)])), (fun _ => none), 0⟩, (.tup [(I 8388608), (B true)]), weak_canon [] rfl List.nodup_nil (Nat.le_refl _) (fun b h => absurd h (Nat.not_lt_zero _)) (.cons rfl (avAs_tup (.cons (avAs_free rfl) (.cons (avAs_free rfl) .nil))) .nil) .nil, rfl, rfl, rfl, rfl⟩
          · replace h := ifF hc5 h
            refine Sv.seq ?_
            refine Sv.region ?_
            refine un (a1 (v := (B (decide (s_ = [114, 101, 100])))) rfl ?_)
            refine un (a1 rfl ?_)
            refine dnil ?_
            refine Sv.cond (b := decide (s_ = [114, 101, 100])) rfl (fun hc6 => ?_) (fun hc6 => ?_)
            · replace h := ifT hc6 h
              refine Sv.seq ?_
              refine Sv.region ?_
              refine un (a1 rfl ?_)
              refine un (a1 rfl ?_)
              refine dnil ?_
              refine Sv.ret ?_
              subst h
              exact ⟨_, .refl _, _, rfl, ⟨upd (fun _ => none) 0 (some (.tup [(I 16711680), (B true)])), (fun _ => none), 0⟩, (.tup [(I 16711680), (B true)]), weak_canon [] rfl List.nodup_nil (Nat.le_refl _) (fun b h => absurd h (Nat.not_lt_zero _)) (.cons rfl (avAs_tup (.cons (avAs_free rfl) (.cons (avAs_free rfl) .nil))) .nil) .nil, rfl, rfl, rfl, rfl⟩
            · replace h := ifF hc6 h
              refine Sv.seq ?_
              refine Sv.region ?_
              refine un (a1 (v := (B (decide (s_ = [112, 117, 114, 112, 108, 101])))) rfl ?_)
              refine un (a1 rfl ?_)
              refine dnil ?_
              refine Sv.cond (b := decide (s_ = [112, 117, 114, 112, 108, 101])) rfl (fun hc7 => ?_) (fun hc7 => ?_)
              · replace h := ifT hc7 h
                refine Sv.seq ?_
                refine Sv.region ?_
                refine un (a1 rfl ?_)
                refine un (a1 rfl ?_)
                refine dnil ?_
                refine Sv.ret ?_
                subst h
                exact ⟨_, .refl _, _, rfl, ⟨upd (fun _ => none) 0 (some (.tup [(I 8388736), (B true)])), (fun _ => none), 0⟩, (.tup [(I 8388736), (B true)]), weak_canon [] rfl List.nodup_nil (Nat.le_refl _) (fun b h => absurd h (Nat.not_lt_zero _)) (.cons rfl (avAs_tup (.cons (avAs_free rfl) (.cons (avAs_free rfl) .nil))) .nil) .nil, rfl, rfl, rfl, rfl⟩
              · replace h := ifF hc7 h
                refine Sv.seq ?_
                refine Sv.region ?_
                refine un (a1 (v := (B (decide (s_ = [102, 117, 99, 104, 115, 105, 97])))) rfl ?_)
                refine un (a1 rfl ?_)
                refine dnil ?_
                refine Sv.cond (b := decide (s_ = [102, 117, 99, 104, 115, 105, 97])) rfl (fun hc8 => ?_) (fun hc8 => ?_)
                · replace h := ifT hc8 h
                  refine Sv.seq ?_
                  refine Sv.region ?_
                  refine un (a1 rfl ?_)
                  refine un (a1 rfl ?_)
                  refine dnil ?_
                  refine Sv.ret ?_
                  subst h
                  exact ⟨_, .refl _, _, rfl, ⟨upd (fun _ => none) 0 (some (.tup [(I 16711935), (B true)])), (fun _ => none), 0⟩, (.tup [(I 16711935), (B true)]), weak_canon [] rfl List.nodup_nil (Nat.le_refl _) (fun b h => absurd h (Nat.not_lt_zero _)) (.cons rfl (avAs_tup (.cons (avAs_free rfl) (.cons (avAs_free rfl) .nil))) .nil) .nil, rfl, rfl, rfl, rfl⟩
                · replace h := ifF hc8 h
                  refine Sv.seq ?_
                  refine Sv.region ?_
                  refine un (a1 (v := (B (decide (s_ = [103, 114, 101, 101, 110])))) rfl ?_)
                  refine un (a1 rfl ?_)
                  refine dnil ?_
                  refine Sv.cond (b := decide (s_ = [103, 114, 101, 101, 110])) rfl (fun hc9 => ?_) (fun hc9 => ?_)
                  · replace h := ifT hc9 h
                    refine Sv.seq ?_
                    refine Sv.region ?_
                    refine un (a1 rfl ?_)
                    refine un (a1 rfl ?_)
                    refine dnil ?_
                    refine Sv.ret ?_
                    subst h
                    exact ⟨_, .refl _, _, rfl, ⟨upd (fun _ => none) 0 (some (.tup [(I 32768), (B true)])), (fun _ => none), 0⟩, (.tup [(I 32768), (B true)]), weak_canon [] rfl List.nodup_nil (Nat.le_refl _) (fun b h => absurd h (Nat.not_lt_zero _)) (.cons rfl (avAs_tup (.cons (avAs_free rfl) (.cons (avAs_free rfl) .nil))) .nil) .nil, rfl, rfl, rfl, rfl⟩
                  · replace h := ifF hc9 h
                    refine Sv.seq ?_
                    refine Sv.region ?_
                    refine un (a1 (v := (B (decide (s_ = [108, 105, 109, 101])))) rfl ?_)
                    refine un (a1 rfl ?_)
                    refine dnil ?_
                    refine Sv.cond (b := decide (s_ = [108, 105, 109, 101])) rfl (fun hc10 => ?_) (fun hc10 => ?_)
                    · replace h := ifT hc10 h
                      refine Sv.seq ?_
                      refine Sv.region ?_
                      refine un (a1 rfl ?_)
                      refine un (a1 rfl ?_)
                      refine dnil ?_
                      refine Sv.ret ?_
                      subst h
                      exact ⟨_, .refl _, _, rfl, ⟨upd (fun _ => none) 0 (some (.tup [(I 65280), (B true)])), (fun _ => none), 0⟩, (.tup [(I 65280), (B true)]), weak_canon [] rfl List.nodup_nil (Nat.le_refl _) (fun b h => absurd h (Nat.not_lt_zero _)) (.cons rfl (avAs_tup (.cons (avAs_free rfl) (.cons (avAs_free rfl) .nil))) .nil) .nil, rfl, rfl, rfl, rfl⟩
                    · replace h := ifF hc10 h
                      refine Sv.seq ?_
                      refine Sv.region ?_
                      refine un (a1 (v := (B (decide (s_ = [111, 108, 105, 118, 101])))) rfl ?_)
                      refine un (a1 rfl ?_)
                      refine dnil ?_
                      refine Sv.cond (b := decide (s_ = [111, 108, 105, 118, 101])) rfl (fun hc11 => ?_) (fun hc11 => ?_)
                      · replace h := ifT hc11 h
                        refine Sv.seq ?_
                        refine Sv.region ?_
                        refine un (a1 rfl ?_)
                        refine un (a1 rfl ?_)
                        refine dnil ?_
                        refine Sv.ret ?_
                        subst h
                        exact ⟨_, .refl _, _, rfl, ⟨upd (fun _ => none) 0 (some (.tup [(I 8421376), (B true)])), (fun _ => none), 0⟩, (.tup [(I 8421376), (B true)]), weak_canon [] rfl List.nodup_nil (Nat.le_refl _) (fun b h => absurd h (Nat.not_lt_zero _)) (.cons rfl (avAs_tup (.cons (avAs_free rfl) (.cons (avAs_free rfl) .nil))) .nil) .nil, rfl, rfl, rfl, rfl⟩
                      · replace h := ifF hc11 h
                        refine Sv.seq ?_
                        refine Sv.region ?_
                        refine un (a1 (v := (B (decide (s_ = [121, 101, 108, 108, 111, 119])))) rfl ?_)
                        refine un (a1 rfl ?_)
                        refine dnil ?_
                        refine Sv.cond (b := decide (s_ = [121, 101, 108, 108, 111, 119])) rfl (fun hc12 => ?_) (fun hc12 => ?_)
                        · replace h := ifT hc12 h
                          refine Sv.seq ?_
                          refine Sv.region ?_
                          refine un (a1 rfl ?_)
                          refine un (a1 rfl ?_)
                          refine dnil ?_
                          refine Sv.ret ?_
                          subst h
                          exact ⟨_, .refl _, _, rfl, ⟨upd (fun _ => none) 0 (some (.tup [(I 16776960), (B true)])), (fun _ => none), 0⟩, (.tup [(I 16776960), (B true)]), weak_canon [] rfl List.nodup_nil (Nat.le_refl _) (fun b h => absurd h (Nat.not_lt_zero _)) (.cons rfl (avAs_tup (.cons (avAs_free rfl) (.cons (avAs_free rfl) .nil))) .nil) .nil, rfl, rfl, rfl, rfl⟩
                        · replace h := ifF hc12 h
                          refine Sv.seq ?_
                          refine Sv.region ?_
                          refine un (a1 (v := (B (decide (s_ = [110, 97, 118, 121])))) rfl ?_)
                          refine un (a1 rfl ?_)
                          refine dnil ?_
                          refine Sv.cond (b := decide (s_ = [110, 97, 118, 121])) rfl (fun hc13 => ?_) (fun hc13 => ?_)
                          · replace h := ifT hc13 h
                            refine Sv.seq ?_
                            refine Sv.region ?_
                            refine un (a1 rfl ?_)
                            refine un (a1 rfl ?_)
                            refine dnil ?_
                            refine Sv.ret ?_
                            subst h
                            exact ⟨_, .refl _, _, rfl, ⟨upd (fun _ => none) 0 (some (.tup [(I 128), (B true)])), (fun _ => none), 0⟩, (.tup [(I 128), (B true)]), weak_canon [] rfl List.nodup_nil (Nat.le_refl _) (fun b h => absurd h (Nat.not_lt_zero _)) (.cons rfl (avAs_tup (.cons (avAs_free rfl) (.cons (avAs_free rfl) .nil))) .nil) .nil, rfl, rfl, rfl, rfl⟩
                          · replace h := ifF hc13 h
                            refine Sv.seq ?_
                            refine Sv.region ?_
                            refine un (a1 (v := (B (decide (s_ = [98, 108, 117, 101])))) rfl ?_)
                            refine un (a1 rfl ?_)
                            refine dnil ?_
                            refine Sv.cond (b := decide (s_ = [98, 108, 117, 101])) rfl (fun hc14 => ?_) (fun hc14 => ?_)
                            · replace h := ifT hc14 h
                              refine Sv.seq ?_
                              refine Sv.region ?_
                              refine un (a1 rfl ?_)
                              refine un (a1 rfl ?_)
                              refine dnil ?_
                              refine Sv.ret ?_
                              subst h
                              exact ⟨_, .refl _, _, rfl, ⟨upd (fun _ => none) 0 (some (.tup [(I 255), (B true)])), (fun _ => none), 0⟩, (.tup [(I 255), (B true)]), weak_canon [] rfl List.nodup_nil (Nat.le_refl _) (fun b h => absurd h (Nat.not_lt_zero _)) (.cons rfl (avAs_tup (.cons (avAs_free rfl) (.cons (avAs_free rfl) .nil))) .nil) .nil, rfl, rfl, rfl, rfl⟩
                            · replace h := ifF hc14 h
                              refine Sv.seq ?_
                              refine Sv.region ?_
                              refine un (a1 (v := (B (decide (s_ = [116, 101, 97, 108])))) rfl ?_)
                              refine un (a1 rfl ?_)
                              refine dnil ?_
                              refine Sv.cond (b := decide (s_ = [116, 101, 97, 108])) rfl (fun hc15 => ?_) (fun hc15 => ?_)
                              · replace h := ifT hc15 h
                                refine Sv.seq ?_
                                refine Sv.region ?_
                                refine un (a1 rfl ?_)
                                refine un (a1 rfl ?_)
                                refine dnil ?_
                                refine Sv.ret ?_
                                subst h
                                exact ⟨_, .refl _, _, rfl, ⟨upd (fun _ => none) 0 (some (.tup [(I 32896), (B true)])), (fun _ => none), 0⟩, (.tup [(I 32896), (B true)]), weak_canon [] rfl List.nodup_nil (Nat.le_refl _) (fun b h => absurd h (Nat.not_lt_zero _)) (.cons rfl (avAs_tup (.cons (avAs_free rfl) (.cons (avAs_free rfl) .nil))) .nil) .nil, rfl, rfl, rfl, rfl⟩
                              · replace h := ifF hc15 h
                                refine Sv.seq ?_
                                refine Sv.region ?_
                                refine un (a1 (v := (B (decide (s_ = [97, 113, 117, 97])))) rfl ?_)
                                refine un (a1 rfl ?_)
                                refine dnil ?_
                                refine Sv.cond (b := decide (s_ = [97, 113, 117, 97])) rfl (fun hc16 => ?_) (fun hc16 => ?_)
                                · replace h := ifT hc16 h
                                  refine Sv.seq ?_
                                  refine Sv.region ?_
                                  refine un (a1 rfl ?_)
                                  refine un (a1 rfl ?_)
                                  refine dnil ?_
                                  refine Sv.ret ?_
                                  subst h
                                  exact ⟨_, .refl _, _, rfl, ⟨upd (fun _ => none) 0 (some (.tup [(I 65535), (B true)])), (fun _ => none), 0⟩, (.tup [(I 65535), (B true)]), weak_canon [] rfl List.nodup_nil (Nat.le_refl _) (fun b h => absurd h (Nat.not_lt_zero _)) (.cons rfl (avAs_tup (.cons (avAs_free rfl) (.cons (avAs_free rfl) .nil))) .nil) .nil, rfl, rfl, rfl, rfl⟩
                                · replace h := ifF hc16 h
                                  refine Sv.seq ?_
                                  refine Sv.region ?_
                                  refine un (a1 (v := (B (decide (s_ = [111, 114, 97, 110, 103, 101])))) rfl ?_)
                                  refine un (a1 rfl ?_)
                                  refine dnil ?_
                                  refine Sv.cond (b := decide (s_ = [111, 114, 97, 110, 103, 101])) rfl (fun hc17 => ?_) (fun hc17 => ?_)
                                  · replace h := ifT hc17 h
                                    refine Sv.seq ?_
                                    refine Sv.region ?_
                                    refine un (a1 rfl ?_)
                                    refine un (a1 rfl ?_)
                                    refine dnil ?_
                                    refine Sv.ret ?_
                                    subst h
                                    exact ⟨_, .refl _, _, rfl, ⟨upd (fun _ => none) 0 (some (.tup [(I 16753920), (B true)])), (fun _ => none), 0⟩, (.tup [(I 16753920), (B true)]), weak_canon [] rfl List.nodup_nil (Nat.le_refl _) (fun b h => absurd h (Nat.not_lt_zero _)) (.cons rfl (avAs_tup (.cons (avAs_free rfl) (.cons (avAs_free rfl) .nil))) .nil) .nil, rfl, rfl, rfl, rfl⟩
                                  · replace h := ifF hc17 h
                                    refine Sv.skip ?_
                                    refine Sv.seq ?_
                                    refine Sv.region ?_
                                    refine un (a1 rfl ?_)
                                    refine un (a1 rfl ?_)
                                    refine dnil ?_
                                    refine Sv.ret ?_
                                    subst h
                                    exact ⟨_, .refl _, _, rfl, ⟨upd (fun _ => none) 0 (some (.tup [(I 0), (B false)])), (fun _ => none), 0⟩, (.tup [(I 0), (B false)]), weak_canon [] rfl List.nodup_nil (Nat.le_refl _) (fun b h => absurd h (Nat.not_lt_zero _)) (.cons rfl (avAs_tup (.cons (avAs_free rfl) (.cons (avAs_free rfl) .nil))) .nil) .nil, rfl, rfl, rfl, rfl⟩
def a74_c0 : ACode := .ret
def a74 : AFunc := ⟨2, [(.tmp 4)], (.seq (.region [⟨(some 4), (.mov (.const (.c (.val (.bool false))))), none⟩])
 (.seq (.region [⟨(some 5), (.mov (.tmp 0)), none⟩, ⟨(some 6), (.lenS (.tmp 5)), none⟩, ⟨(some 7), (.mov (.tmp 1)), none⟩, ⟨(some 8), (.lenS (.tmp 7)), none⟩, ⟨(some 9), (.bin .geq (.tmp 6) (.tmp 8)), none⟩, ⟨(some 10), (.mov (.tmp 9)), none⟩, ⟨(some 11), (.mov (.tmp 0)), (some (10, true))⟩, ⟨(some 12), (.mov (.tmp 1)), (some (10, true))⟩, ⟨(some 13), (.lenS (.tmp 12)), (some (10, true))⟩, ⟨(some 14), (.slStr (.tmp 11) none (some (.tmp 13))), (some (10, true))⟩, ⟨(some 15), (.mov (.tmp 1)), (some (10, true))⟩, ⟨(some 16), (.bin .eql (.tmp 14) (.tmp 15)), (some (10, true))⟩, ⟨(some 17), (.pick (.tmp 10) (.tmp 16) (.const (.c (.val (.bool false))))), none⟩, ⟨(some 4), (.mov (.tmp 17)), none⟩])
 a74_c0))⟩
set_option maxRecDepth 100000 in
theorem c74 : compFunc Tryd.prog 74 = some a74 := by kernel_rfl
def internal_stringslite_HasPrefix_post (r : Bool) : AV → Heap → Nat → Prop := fun v h' n' => v = (B r) ∧ (h' = (fun _ => none)) ∧ n' = 0
noncomputable def internal_stringslite_HasPrefix_j1 (v4 : Bool) : Option Bool :=
  some v4
theorem internal_stringslite_HasPrefix_j1_ok {mL : Int} {v4 : Bool} {o : Bool} (h : internal_stringslite_HasPrefix_j1 v4 = some o) :
    Sv Tryd.prog (GG mL) 0 a74_c0 (Ends a74.results 0 (internal_stringslite_HasPrefix_post o)) ⟨(upd (fun _ => none) 4 (some (B v4))), (fun _ => none), 0⟩ := by
  unfold internal_stringslite_HasPrefix_j1 at h
  refine Sv.ret ?_
  replace h := Option.some.inj h
  subst h
  exact ⟨_, .refl _, _, rfl, ⟨upd (fun _ => none) 0 (some (B v4)), (fun _ => none), 0⟩, (B v4), weak_canon [] rfl List.nodup_nil (Nat.le_refl _) (fun b h => absurd h (Nat.not_lt_zero _)) (.cons rfl (avAs_free rfl) .nil) .nil, rfl, rfl, rfl, rfl⟩
/-- internal/stringslite.HasPrefix -/
noncomputable def internal_stringslite_HasPrefix (s_ : (List UInt8)) (prefix_ : (List UInt8)) : Option Bool :=
  if decide ((prefix_.length : Int) ≤ (s_.length : Int)) then
    (sub? s_ 0 (prefix_.length : Int)).bind fun r_ =>
    internal_stringslite_HasPrefix_j1 (decide (r_ = prefix_))
  else
    internal_stringslite_HasPrefix_j1 false
theorem internal_stringslite_HasPrefix_ok {mL : Int} {s_ : (List UInt8)} {prefix_ : (List UInt8)} {r : Bool} (h : internal_stringslite_HasPrefix s_ prefix_ = some r) : CPure Tryd.prog (GG mL) 74 [(S s_), (S prefix_)] (B r) := by
  refine acalls_of_sv hmix c74 (R := internal_stringslite_HasPrefix_post r) ?_
  unfold internal_stringslite_HasPrefix at h
  refine Sv.seq ?_
  refine Sv.region ?_
  refine un (a1 rfl ?_)
  refine dnil ?_
  refine Sv.seq ?_
  refine Sv.region ?_
  refine un (a1 rfl ?_)
  refine un (a1 (v := (I (s_.length : Int))) rfl ?_)
  refine un (a1 rfl ?_)
  refine un (a1 (v := (I (prefix_.length : Int))) rfl ?_)
  refine un (a1 (v := (B (decide ((prefix_.length : Int) ≤ (s_.length : Int))))) rfl ?_)
  refine un (a1 rfl ?_)
  refine split2 (fun hc1 => ?_) (fun hc1 => ?_)
  · replace h := ifT hc1 h
    refine gt rfl (a1 rfl ?_)
    refine gt rfl (a1 rfl ?_)
    refine gt rfl (a1 (v := (I (prefix_.length : Int))) rfl ?_)
    obtain ⟨r_, hx1, h⟩ := bnd h
    refine gt rfl (a1 (v := (S r_)) (s_slStr rfl rfl rfl hx1) ?_)
    refine gt rfl (a1 rfl ?_)
    refine gt rfl (a1 (v := (B (decide (r_ = prefix_)))) rfl ?_)
    refine un (a1 (v := (B (decide (r_ = prefix_)))) rfl ?_)
    refine un (a1 rfl ?_)
    refine dnil ?_
    exact Sv.weak (weak_canon [] rfl (by decide) (by decide) (fun b h => absurd h (Nat.not_lt_zero _)) (.cons rfl (avAs_free rfl) .nil) .nil) (internal_stringslite_HasPrefix_j1_ok h)
  · replace h := ifF hc1 h
    refine gs rfl rfl ?_
    refine gs rfl rfl ?_
    refine gs rfl rfl ?_
    refine gs rfl rfl ?_
    refine gs rfl rfl ?_
    refine gs rfl rfl ?_
    refine un (a1 (v := (B false)) rfl ?_)
    refine un (a1 rfl ?_)
    refine dnil ?_
    exact Sv.weak (weak_canon [] rfl (by decide) (by decide) (fun b h => absurd h (Nat.not_lt_zero _)) (.cons rfl (avAs_free rfl) .nil) .nil) (internal_stringslite_HasPrefix_j1_ok h)
def a55 : AFunc := ⟨2, [(.tmp 4), (.tmp 5)], (.seq (.region [⟨(some 4), (.mov (.const (.c (.str [])))), none⟩, ⟨(some 5), (.mov (.const (.c (.val (.bool false))))), none⟩])
 (.seq (.seq (.region [⟨(some 6), (.mov (.tmp 0)), none⟩, ⟨(some 7), (.mov (.tmp 1)), none⟩, ⟨(some 8), (.call 74 [(.tmp 6), (.tmp 7)]), none⟩, ⟨(some 9), (.un .not (.tmp 8)), none⟩])
 (.cond (.tmp 9) (.seq (.region [⟨(some 10), (.mov (.tmp 0)), none⟩, ⟨(some 4), (.mov (.tmp 10)), none⟩, ⟨(some 5), (.mov (.const (.c (.val (.bool false))))), none⟩])
 .ret) .skip))
 (.seq (.region [⟨(some 11), (.mov (.tmp 0)), none⟩, ⟨(some 12), (.mov (.tmp 1)), none⟩, ⟨(some 13), (.lenS (.tmp 12)), none⟩, ⟨(some 14), (.slStr (.tmp 11) (some (.tmp 13)) none), none⟩, ⟨(some 4), (.mov (.tmp 14)), none⟩, ⟨(some 5), (.mov (.const (.c (.val (.bool true))))), none⟩])
 .ret)))⟩
set_option maxRecDepth 100000 in
theorem c55 : compFunc Tryd.prog 55 = some a55 := by kernel_rfl
def internal_stringslite_CutPrefix_post (r : ((List UInt8) × Bool)) : AV → Heap → Nat → Prop := fun v h' n' => v = (.tup [(S r.1), (B r.2)]) ∧ (h' = (fun _ => none)) ∧ n' = 0
/-- internal/stringslite.CutPrefix -/
noncomputable def internal_stringslite_CutPrefix (s_ : (List UInt8)) (prefix_ : (List UInt8)) : Option ((List UInt8) × Bool) :=
  (internal_stringslite_HasPrefix s_ prefix_).bind fun r_ =>
  if (!r_) then
    some (s_, false)
  else
    (sub? s_ (prefix_.length : Int) (s_.length : Int)).bind fun r_1 =>
    some (r_1, true)
theorem internal_stringslite_CutPrefix_ok {mL : Int} {s_ : (List UInt8)} {prefix_ : (List UInt8)} {r : ((List UInt8) × Bool)} (h : internal_stringslite_CutPrefix s_ prefix_ = some r) : CPure Tryd.prog (GG mL) 55 [(S s_), (S prefix_)] (.tup [(S r.1), (B r.2)]) := by
  refine acalls_of_sv hmix c55 (R := internal_stringslite_CutPrefix_post r) ?_
  unfold internal_stringslite_CutPrefix at h
  refine Sv.seq ?_
  refine Sv.region ?_
  refine un (a1 rfl ?_)
  refine un (a1 rfl ?_)
  refine dnil ?_
  refine Sv.seq ?_
  refine Sv.seq ?_
  refine Sv.region ?_
  refine un (a1 rfl ?_)
  refine un (a1 rfl ?_)
  obtain ⟨r_, hr1, h⟩ := bnd h
  refine un (ac_pure (internal_stringslite_HasPrefix_ok hr1) rfl rfl rfl ?_)
  refine un (a1 (v := (B (!r_))) rfl ?_)
  refine dnil ?_
  refine Sv.cond (b := (!r_)) rfl (fun hc1 => ?_) (fun hc1 => ?_)
  · replace h := ifT hc1 h
    refine Sv.seq ?_
    refine Sv.region ?_
    refine un (a1 rfl ?_)
    refine un (a1 rfl ?_)
    refine un (a1 rfl ?_)
    refine dnil ?_
    refine Sv.ret ?_
    replace h := Option.some.inj h
    subst h
    exact ⟨_, .refl _, _, rfl, ⟨upd (fun _ => none) 0 (some (.tup [(S s_), (B false)])), (fun _ => none), 0⟩, (.tup [(S s_), (B false)]), weak_canon [] rfl List.nodup_nil (Nat.le_refl _) (fun b h => absurd h (Nat.not_lt_zero _)) (.cons rfl (avAs_tup (.cons (avAs_free rfl) (.cons (avAs_free rfl) .nil))) .nil) .nil, rfl, rfl, rfl, rfl⟩
  · replace h := ifF hc1 h
    refine Sv.skip ?_
    refine Sv.seq ?_
    refine Sv.region ?_
    refine un (a1 rfl ?_)
    refine un (a1 rfl ?_)
    refine un (a1 (v := (I (prefix_.length : Int))) rfl ?_)
    obtain ⟨r_1, hx1, h⟩ := bnd h
    refine un (a1 (v := (S r_1)) (s_slStr rfl rfl rfl hx1) ?_)
    refine un (a1 rfl ?_)
    refine un (a1 rfl ?_)
    refine dnil ?_
    refine Sv.ret ?_
    replace h := Option.some.inj h
    subst h
    exact ⟨_, .refl _, _, rfl, ⟨upd (fun _ => none) 0 (some (.tup [(S r_1), (B true)])), (fun _ => none), 0⟩, (.tup [(S r_1), (B true)]), weak_canon [] rfl List.nodup_nil (Nat.le_refl _) (fun b h => absurd h (Nat.not_lt_zero _)) (.cons rfl (avAs_tup (.cons (avAs_free rfl) (.cons (avAs_free rfl) .nil))) .nil) .nil, rfl, rfl, rfl, rfl⟩
def a36 : AFunc := ⟨2, [(.tmp 4), (.tmp 5)], (.seq (.region [⟨(some 4), (.mov (.const (.c (.str [])))), none⟩, ⟨(some 5), (.mov (.const (.c (.val (.bool false))))), none⟩])
 (.seq (.region [⟨(some 6), (.mov (.tmp 0)), none⟩, ⟨(some 7), (.mov (.tmp 1)), none⟩, ⟨(some 8), (.call 55 [(.tmp 6), (.tmp 7)]), none⟩, ⟨(some 9), (.ext (.tmp 8) 0), none⟩, ⟨(some 10), (.ext (.tmp 8) 1), none⟩, ⟨(some 4), (.mov (.tmp 9)), none⟩, ⟨(some 5), (.mov (.tmp 10)), none⟩])
 .ret))⟩
set_option maxRecDepth 100000 in
theorem c36 : compFunc Tryd.prog 36 = some a36 := by kernel_rfl
def strings_CutPrefix_post (r : ((List UInt8) × Bool)) : AV → Heap → Nat → Prop := fun v h' n' => v = (.tup [(S r.1), (B r.2)]) ∧ (h' = (fun _ => none)) ∧ n' = 0
/-- strings.CutPrefix -/
noncomputable def strings_CutPrefix (s_ : (List UInt8)) (prefix_ : (List UInt8)) : Option ((List UInt8) × Bool) :=
  (internal_stringslite_CutPrefix s_ prefix_).bind fun r_ =>
  some (r_.1, r_.2)
theorem strings_CutPrefix_ok {mL : Int} {s_ : (List UInt8)} {prefix_ : (List UInt8)} {r : ((List UInt8) × Bool)} (h : strings_CutPrefix s_ prefix_ = some r) : CPure Tryd.prog (GG mL) 36 [(S s_), (S prefix_)] (.tup [(S r.1), (B r.2)]) := by
  refine acalls_of_sv hmix c36 (R := strings_CutPrefix_post r) ?_
  unfold strings_CutPrefix at h
  refine Sv.seq ?_
  refine Sv.region ?_
  refine un (a1 rfl ?_)
  refine un (a1 rfl ?_)
  refine dnil ?_
  refine Sv.seq ?_
  refine Sv.region ?_
  refine un (a1 rfl ?_)
  refine un (a1 rfl ?_)
  obtain ⟨r_, hr1, h⟩ := bnd h
  refine un (ac_pure (internal_stringslite_CutPrefix_ok hr1) rfl rfl rfl ?_)
  refine un (a1 (v := (S r_.1)) rfl ?_)
  refine un (a1 (v := (B r_.2)) rfl ?_)
  refine un (a1 rfl ?_)
  refine un (a1 rfl ?_)
  refine dnil ?_
  refine Sv.ret ?_
  replace h := Option.some.inj h
  subst h
  exact ⟨_, .refl _, _, rfl, ⟨upd (fun _ => none) 0 (some (.tup [(S r_.1), (B r_.2)])), (fun _ => none), 0⟩, (.tup [(S r_.1), (B r_.2)]), weak_canon [] rfl List.nodup_nil (Nat.le_refl _) (fun b h => absurd h (Nat.not_lt_zero _)) (.cons rfl (avAs_tup (.cons (avAs_free rfl) (.cons (avAs_free rfl) .nil))) .nil) .nil, rfl, rfl, rfl, rfl⟩
noncomputable abbrev strings_Trim (s_ : (List UInt8)) (cutset_ : (List UInt8)) : Option (List UInt8) := trim? s_ cutset_
/-- strings.Trim, by the contract of the shelf -/
theorem strings_Trim_ok {mL : Int} {s_ : (List UInt8)} {cutset_ : (List UInt8)} {r : (List UInt8)} (h : strings_Trim s_ cutset_ = some r) : CPure Tryd.prog (GG mL) 56 [(S s_), (S cutset_)] (S r) := trim_ok Tryd.lays160 (by kernel_rfl) h
noncomputable abbrev strings_Repeat (s_ : (List UInt8)) (count_ : Int) : Option (List UInt8) := repeat? s_ count_
/-- strings.Repeat, by the contract of the shelf -/
theorem strings_Repeat_ok {mL : Int} {s_ : (List UInt8)} {count_ : Int} {r : (List UInt8)} (h : strings_Repeat s_ count_ = some r) : CPure Tryd.prog (GG mL) 58 [(S s_), (I count_)] (S r) := repeat_ok Tryd.lays105 Tryd.Builder_Extra_105 h
noncomputable abbrev strings_Builder_WriteString (l : List UInt8) (x0 : (List UInt8)) : Option (List UInt8) := bWriteString? l x0
/-- (*strings.Builder).WriteString, by my own walk of it -/
theorem strings_Builder_WriteString_ok {mL : Int} {z : Bool} {l : List UInt8} {x0 : (List UInt8)} {r : List UInt8} (hz : z = true → l = []) (h : strings_Builder_WriteString l x0 = some r) : ACalls Tryd.prog (GG mL) 57 [.c (.ref 0 2 0 0), (S x0)] (bldH 68 5 z l) 2 (bPost 68 5 (.tup [.c (.val (.int .i64 (x0.length : Int))), .c (.val .nilIface)]) r) := bWriteString_ok blays b166 hz h
/-- (*strings.Builder).String, by my own walk of it -/
theorem strings_Builder_String_ok {mL : Int} {z : Bool} {l : List UInt8} (hz : z = true → l = []) : ACalls Tryd.prog (GG mL) 59 [.c (.ref 0 2 0 0)] (bldH 68 5 z l) 2 (fun v h' n' => v = .c (.str l) ∧ h' = (fun _ => none) ∧ n' = 2) := bString_ok bL bX hz
def a107 : AFunc := ⟨1, [(.tmp 2)], (.seq (.region [⟨(some 2), (.mov (.const (.c (.val (.int .u8 0))))), none⟩])
 (.seq (.region [⟨(some 3), (.mov (.tmp 0)), none⟩, ⟨(some 4), (.bin .or (.tmp 3) (.const (.c (.val (.int .u8 32))))), none⟩, ⟨(some 2), (.mov (.tmp 4)), none⟩])
 .ret))⟩
set_option maxRecDepth 100000 in
theorem c107 : compFunc Tryd.prog 107 = some a107 := by kernel_rfl
def internal_strconv_lower_post (r : Int) : AV → Heap → Nat → Prop := fun v h' n' => v = (.c (.val (.int .u8 r))) ∧ (h' = (fun _ => none)) ∧ n' = 0
/-- internal/strconv.lower -/
def internal_strconv_lower (c_ : Int) : Int :=
  (bitsV .or .u8 c_ 32)
theorem internal_strconv_lower_ok {mL : Int} (c_ : Int) : CPure Tryd.prog (GG mL) 107 [(.c (.val (.int .u8 c_)))] (.c (.val (.int .u8 (internal_strconv_lower c_)))) := by
  generalize h : internal_strconv_lower c_ = o
  refine acalls_of_sv hmix c107 (R := internal_strconv_lower_post o) ?_
  unfold internal_strconv_lower at h
  refine Sv.seq ?_
  refine Sv.region ?_
  refine un (a1 rfl ?_)
  refine dnil ?_
  refine Sv.seq ?_
  refine Sv.region ?_
  refine un (a1 rfl ?_)
  refine un (a1 (v := (.c (.val (.int .u8 (bitsV .or .u8 c_ 32))))) rfl ?_)
  refine un (a1 rfl ?_)
  refine dnil ?_
  refine Sv.ret ?_
  subst h
  exact ⟨_, .refl _, _, rfl, ⟨upd (fun _ => none) 0 (some (.c (.val (.int .u8 (bitsV .or .u8 c_ 32))))), (fun _ => none), 0⟩, (.c (.val (.int .u8 (bitsV .or .u8 c_ 32)))), weak_canon [] rfl List.nodup_nil (Nat.le_refl _) (fun b h => absurd h (Nat.not_lt_zero _)) (.cons rfl (avAs_free rfl) .nil) .nil, rfl, rfl, rfl, rfl⟩
def a108_c0 : ACode := (.cond (.tmp 18) (.region [⟨(some 19), (.mov (.tmp 0)), none⟩, ⟨(some 20), (.slStr (.tmp 19) (some (.const (.c (.val (.int .i64 1))))) none), none⟩, ⟨(some 0), (.mov (.tmp 20)), none⟩]) .skip)
def a108_c2 : ACode := (.cond (.tmp 46) (.seq (.region [⟨(some 4), (.mov (.const (.c (.val (.int .i64 2))))), none⟩])
 (.seq (.region [⟨(some 3), (.mov (.const (.c (.val (.int .i32 48))))), none⟩])
 (.region [⟨(some 47), (.mov (.tmp 0)), none⟩, ⟨(some 48), (.idxS (.tmp 47) (.const (.c (.val (.int .i64 1))))), none⟩, ⟨(some 49), (.call 107 [(.tmp 48)]), none⟩, ⟨(some 50), (.bin .eql (.tmp 49) (.const (.c (.val (.int .u8 120))))), none⟩, ⟨(some 5), (.mov (.tmp 50)), none⟩]))) .skip)
def a108_c4 : ACode := (.cond (.tmp 83) (.seq (.region [⟨(some 3), (.mov (.const (.c (.val (.int .i32 48))))), none⟩])
 (.exit 1)) .skip)
def a108_c6 : ACode := (.seq (.seq (.region [⟨(some 84), (.mov (.tmp 0)), none⟩, ⟨(some 85), (.mov (.tmp 4)), none⟩, ⟨(some 86), (.idxS (.tmp 84) (.tmp 85)), none⟩, ⟨(some 87), (.bin .eql (.tmp 86) (.const (.c (.val (.int .u8 95))))), none⟩])
 (.cond (.tmp 87) (.seq (.seq (.region [⟨(some 88), (.mov (.tmp 3)), none⟩, ⟨(some 89), (.bin .neq (.tmp 88) (.const (.c (.val (.int .i32 48))))), none⟩])
 (.cond (.tmp 89) (.seq (.region [⟨(some 2), (.mov (.const (.c (.val (.bool false))))), none⟩])
 .ret) .skip))
 (.seq (.region [⟨(some 3), (.mov (.const (.c (.val (.int .i32 95))))), none⟩])
 (.exit 1))) .skip))
 (.seq (.seq (.region [⟨(some 90), (.mov (.tmp 3)), none⟩, ⟨(some 91), (.bin .eql (.tmp 90) (.const (.c (.val (.int .i32 95))))), none⟩])
 (.cond (.tmp 91) (.seq (.region [⟨(some 2), (.mov (.const (.c (.val (.bool false))))), none⟩])
 .ret) .skip))
 (.region [⟨(some 3), (.mov (.const (.c (.val (.int .i32 33))))), none⟩])))
def a108_c5 : ACode := (.region [⟨(some 55), (.mov (.tmp 4)), none⟩, ⟨(some 56), (.bin .add (.tmp 55) (.const (.c (.val (.int .i64 1))))), none⟩, ⟨(some 4), (.mov (.tmp 56)), none⟩])
def a108_c7 : ACode := (.seq (.seq (.region [⟨(some 51), (.mov (.tmp 4)), none⟩, ⟨(some 52), (.mov (.tmp 0)), none⟩, ⟨(some 53), (.lenS (.tmp 52)), none⟩, ⟨(some 54), (.bin .lss (.tmp 51) (.tmp 53)), none⟩])
 (.cond (.tmp 54) .skip (.exit 0)))
 (.seq (.block 1 (.seq (.seq (.region [⟨(some 57), (.mov (.tmp 0)), none⟩, ⟨(some 58), (.mov (.tmp 4)), none⟩, ⟨(some 59), (.idxS (.tmp 57) (.tmp 58)), none⟩, ⟨(some 60), (.bin .leq (.const (.c (.val (.int .u8 48)))) (.tmp 59)), none⟩, ⟨(some 61), (.mov (.tmp 60)), none⟩, ⟨(some 62), (.mov (.tmp 0)), (some (61, true))⟩, ⟨(some 63), (.mov (.tmp 4)), (some (61, true))⟩, ⟨(some 64), (.idxS (.tmp 62) (.tmp 63)), (some (61, true))⟩, ⟨(some 65), (.bin .leq (.tmp 64) (.const (.c (.val (.int .u8 57))))), (some (61, true))⟩, ⟨(some 66), (.pick (.tmp 61) (.tmp 65) (.const (.c (.val (.bool false))))), none⟩, ⟨(some 67), (.mov (.tmp 66)), none⟩, ⟨(some 68), (.mov (.tmp 5)), (some (67, false))⟩, ⟨(some 69), (.mov (.tmp 68)), (some (67, false))⟩, ⟨(some 70), (.mov (.tmp 0)), (some (69, true))⟩, ⟨(some 71), (.mov (.tmp 4)), (some (69, true))⟩, ⟨(some 72), (.idxS (.tmp 70) (.tmp 71)), (some (69, true))⟩, ⟨(some 73), (.call 107 [(.tmp 72)]), (some (69, true))⟩, ⟨(some 74), (.bin .leq (.const (.c (.val (.int .u8 97)))) (.tmp 73)), (some (69, true))⟩, ⟨(some 75), (.pick (.tmp 69) (.tmp 74) (.const (.c (.val (.bool false))))), (some (67, false))⟩, ⟨(some 76), (.mov (.tmp 75)), (some (67, false))⟩, ⟨(some 77), (.mov (.tmp 0)), (some (76, true))⟩, ⟨(some 78), (.mov (.tmp 4)), (some (76, true))⟩, ⟨(some 79), (.idxS (.tmp 77) (.tmp 78)), (some (76, true))⟩, ⟨(some 80), (.call 107 [(.tmp 79)]), (some (76, true))⟩, ⟨(some 81), (.bin .leq (.tmp 80) (.const (.c (.val (.int .u8 102))))), (some (76, true))⟩, ⟨(some 82), (.pick (.tmp 76) (.tmp 81) (.const (.c (.val (.bool false))))), (some (67, false))⟩, ⟨(some 83), (.pick (.tmp 67) (.const (.c (.val (.bool true)))) (.tmp 82)), none⟩])
 a108_c4)
 a108_c6))
 a108_c5))
def a108_c3 : ACode := (.seq (.block 0 (.loop a108_c7))
 (.seq (.region [⟨(some 92), (.mov (.tmp 3)), none⟩, ⟨(some 93), (.bin .neq (.tmp 92) (.const (.c (.val (.int .i32 95))))), none⟩, ⟨(some 2), (.mov (.tmp 93)), none⟩])
 .ret))
def a108_c1 : ACode := (.seq (.region [⟨(some 5), (.mov (.const (.c (.val (.bool false))))), none⟩])
 (.seq (.seq (.region [⟨(some 21), (.mov (.tmp 0)), none⟩, ⟨(some 22), (.lenS (.tmp 21)), none⟩, ⟨(some 23), (.bin .geq (.tmp 22) (.const (.c (.val (.int .i64 2))))), none⟩, ⟨(some 24), (.mov (.tmp 23)), none⟩, ⟨(some 25), (.mov (.tmp 0)), (some (24, true))⟩, ⟨(some 26), (.idxS (.tmp 25) (.const (.c (.val (.int .i64 0))))), (some (24, true))⟩, ⟨(some 27), (.bin .eql (.tmp 26) (.const (.c (.val (.int .u8 48))))), (some (24, true))⟩, ⟨(some 28), (.pick (.tmp 24) (.tmp 27) (.const (.c (.val (.bool false))))), none⟩, ⟨(some 29), (.mov (.tmp 28)), none⟩, ⟨(some 30), (.mov (.tmp 0)), (some (29, true))⟩, ⟨(some 31), (.idxS (.tmp 30) (.const (.c (.val (.int .i64 1))))), (some (29, true))⟩, ⟨(some 32), (.call 107 [(.tmp 31)]), (some (29, true))⟩, ⟨(some 33), (.bin .eql (.tmp 32) (.const (.c (.val (.int .u8 98))))), (some (29, true))⟩, ⟨(some 34), (.mov (.tmp 33)), (some (29, true))⟩, ⟨(some 35), (.mov (.tmp 0)), (some (34, false))⟩, ⟨(some 36), (.idxS (.tmp 35) (.const (.c (.val (.int .i64 1))))), (some (34, false))⟩, ⟨(some 37), (.call 107 [(.tmp 36)]), (some (34, false))⟩, ⟨(some 38), (.bin .eql (.tmp 37) (.const (.c (.val (.int .u8 111))))), (some (34, false))⟩, ⟨(some 39), (.pick (.tmp 34) (.const (.c (.val (.bool true)))) (.tmp 38)), (some (29, true))⟩, ⟨(some 40), (.mov (.tmp 39)), (some (29, true))⟩, ⟨(some 41), (.mov (.tmp 0)), (some (40, false))⟩, ⟨(some 42), (.idxS (.tmp 41) (.const (.c (.val (.int .i64 1))))), (some (40, false))⟩, ⟨(some 43), (.call 107 [(.tmp 42)]), (some (40, false))⟩, ⟨(some 44), (.bin .eql (.tmp 43) (.const (.c (.val (.int .u8 120))))), (some (40, false))⟩, ⟨(some 45), (.pick (.tmp 40) (.const (.c (.val (.bool true)))) (.tmp 44)), (some (29, true))⟩, ⟨(some 46), (.pick (.tmp 29) (.tmp 45) (.const (.c (.val (.bool false))))), none⟩])
 a108_c2)
 a108_c3))
def a108 : AFunc := ⟨1, [(.tmp 2)], (.seq (.region [⟨(some 2), (.mov (.const (.c (.val (.bool false))))), none⟩])
 (.seq (.region [⟨(some 3), (.mov (.const (.c (.val (.int .i32 94))))), none⟩])
 (.seq (.region [⟨(some 4), (.mov (.const (.c (.val (.int .i64 0))))), none⟩])
 (.seq (.seq (.region [⟨(some 6), (.mov (.tmp 0)), none⟩, ⟨(some 7), (.lenS (.tmp 6)), none⟩, ⟨(some 8), (.bin .geq (.tmp 7) (.const (.c (.val (.int .i64 1))))), none⟩, ⟨(some 9), (.mov (.tmp 8)), none⟩, ⟨(some 10), (.mov (.tmp 0)), (some (9, true))⟩, ⟨(some 11), (.idxS (.tmp 10) (.const (.c (.val (.int .i64 0))))), (some (9, true))⟩, ⟨(some 12), (.bin .eql (.tmp 11) (.const (.c (.val (.int .u8 45))))), (some (9, true))⟩, ⟨(some 13), (.mov (.tmp 12)), (some (9, true))⟩, ⟨(some 14), (.mov (.tmp 0)), (some (13, false))⟩, ⟨(some 15), (.idxS (.tmp 14) (.const (.c (.val (.int .i64 0))))), (some (13, false))⟩, ⟨(some 16), (.bin .eql (.tmp 15) (.const (.c (.val (.int .u8 43))))), (some (13, false))⟩, ⟨(some 17), (.pick (.tmp 13) (.const (.c (.val (.bool true)))) (.tmp 16)), (some (9, true))⟩, ⟨(some 18), (.pick (.tmp 9) (.tmp 17) (.const (.c (.val (.bool false))))), none⟩])
 a108_c0)
 a108_c1))))⟩
set_option maxRecDepth 100000 in
theorem c108 : compFunc Tryd.prog 108 = some a108 := by kernel_rfl
def internal_strconv_underscoreOK_post (r : Bool) : AV → Heap → Nat → Prop := fun v h' n' => v = (B r) ∧ (h' = (fun _ => none)) ∧ n' = 0
noncomputable def internal_strconv_underscoreOK_j17 (i_1 : Int) (s_1 : (List UInt8)) (hex : Bool) (self : Int → Int → Option Bool) (K0_ : Int → Option Bool) (saw3 : Int) : Option Bool :=
  self saw3 (wi (i_1 + 1))
theorem internal_strconv_underscoreOK_j17_ok {mL : Int} {Q : AExit → St → Prop} {i_1 : Int} {s_1 : (List UInt8)} {hex : Bool} {self : Int → Int → Option Bool} {K0_ : Int → Option Bool} {saw3 : Int} {o : Bool} (h : internal_strconv_underscoreOK_j17 i_1 s_1 hex self K0_ saw3 = some o)
    (hself : ∀ (saw1 : Int) (i_1 : Int), self saw1 i_1 = some o → ∀ s, Weak 0 s ⟨(upd (upd (upd (upd (fun _ => none) 0 (some (S s_1))) 3 (some (.c (.val (.int .i32 saw1))))) 4 (some (I i_1))) 5 (some (B hex))), (fun _ => none), 0⟩ → (Q) .normal s)
    (hK0 : ∀ (saw2 : Int), K0_ saw2 = some o → ∀ s, Weak 0 s ⟨(upd (fun _ => none) 3 (some (.c (.val (.int .i32 saw2))))), (fun _ => none), 0⟩ → Q (.exit 0) s)
    (hr : ∀ s, Ends a108.results 0 (internal_strconv_underscoreOK_post o) .ret s → Q .ret s) :
    Sv Tryd.prog (GG mL) 0 a108_c5 Q ⟨(upd (upd (upd (upd (fun _ => none) 0 (some (S s_1))) 3 (some (.c (.val (.int .i32 saw3))))) 4 (some (I i_1))) 5 (some (B hex))), (fun _ => none), 0⟩ := by
  unfold internal_strconv_underscoreOK_j17 at h
  refine Sv.region ?_
  refine un (a1 rfl ?_)
  refine un (a1 (v := (I (wi (i_1 + 1)))) rfl ?_)
  refine un (a1 rfl ?_)
  refine dnil ?_
  exact hself saw3 (wi (i_1 + 1)) h _ (weak_canon [] rfl (by decide) (by decide) (fun b h => absurd h (Nat.not_lt_zero _)) (.cons rfl (avAs_free rfl) (.cons rfl (avAs_free rfl) (.cons rfl (avAs_free rfl) (.cons rfl (avAs_free rfl) .nil)))) .nil)
abbrev internal_strconv_underscoreOK_q0 (mL : Int) (Q : AExit → St → Prop) : AExit → St → Prop := AThen (Sv Tryd.prog (GG mL) 0 a108_c5 Q) Q
abbrev internal_strconv_underscoreOK_q1 (mL : Int) (Q : AExit → St → Prop) : AExit → St → Prop := ABlock 1 (internal_strconv_underscoreOK_q0 mL Q)
abbrev internal_strconv_underscoreOK_q2 (mL : Int) (Q : AExit → St → Prop) : AExit → St → Prop := AThen (Sv Tryd.prog (GG mL) 0 a108_c6 (internal_strconv_underscoreOK_q1 mL Q)) (internal_strconv_underscoreOK_q1 mL Q)
noncomputable def internal_strconv_underscoreOK_j18 (i_1 : Int) (s_1 : (List UInt8)) (hex : Bool) (saw1 : Int) (self : Int → Int → Option Bool) (K0_ : Int → Option Bool) (v83 : Bool) : Option Bool :=
  if v83 then
    internal_strconv_underscoreOK_j17 i_1 s_1 hex self K0_ 48
  else
    (at? s_1 i_1).bind fun c_ =>
    if decide ((c_.toNat : Int) = 95) then
      if (!decide (saw1 = 48)) then
        some false
      else
        internal_strconv_underscoreOK_j17 i_1 s_1 hex self K0_ 95
    else
      if decide (saw1 = 95) then
        some false
      else
        internal_strconv_underscoreOK_j17 i_1 s_1 hex self K0_ 33
theorem internal_strconv_underscoreOK_j18_ok {mL : Int} {Q : AExit → St → Prop} {i_1 : Int} {s_1 : (List UInt8)} {hex : Bool} {saw1 : Int} {self : Int → Int → Option Bool} {K0_ : Int → Option Bool} {v83 : Bool} {o : Bool} (h : internal_strconv_underscoreOK_j18 i_1 s_1 hex saw1 self K0_ v83 = some o)
    (hself : ∀ (saw1 : Int) (i_1 : Int), self saw1 i_1 = some o → ∀ s, Weak 0 s ⟨(upd (upd (upd (upd (fun _ => none) 0 (some (S s_1))) 3 (some (.c (.val (.int .i32 saw1))))) 4 (some (I i_1))) 5 (some (B hex))), (fun _ => none), 0⟩ → (Q) .normal s)
    (hK0 : ∀ (saw2 : Int), K0_ saw2 = some o → ∀ s, Weak 0 s ⟨(upd (fun _ => none) 3 (some (.c (.val (.int .i32 saw2))))), (fun _ => none), 0⟩ → Q (.exit 0) s)
    (hr : ∀ s, Ends a108.results 0 (internal_strconv_underscoreOK_post o) .ret s → Q .ret s) :
    Sv Tryd.prog (GG mL) 0 a108_c4 (internal_strconv_underscoreOK_q2 mL Q) ⟨(upd (upd (upd (upd (upd (fun _ => none) 0 (some (S s_1))) 3 (some (.c (.val (.int .i32 saw1))))) 4 (some (I i_1))) 5 (some (B hex))) 83 (some (B v83))), (fun _ => none), 0⟩ := by
  unfold internal_strconv_underscoreOK_j18 at h
  refine Sv.cond (b := v83) rfl (fun hc2 => ?_) (fun hc2 => ?_)
  · replace h := ifT hc2 h
    refine Sv.seq ?_
    refine Sv.region ?_
    refine un (a1 rfl ?_)
    refine dnil ?_
    refine Sv.exit ?_
    exact Sv.weak (weak_canon [] rfl (by decide) (by decide) (fun b h => absurd h (Nat.not_lt_zero _)) (.cons rfl (avAs_free rfl) (.cons rfl (avAs_free rfl) (.cons rfl (avAs_free rfl) (.cons rfl (avAs_free rfl) .nil)))) .nil) (internal_strconv_underscoreOK_j17_ok h hself hK0 hr)
  · replace h := ifF hc2 h
    refine Sv.skip ?_
    refine Sv.seq ?_
    refine Sv.seq ?_
    refine Sv.region ?_
    refine un (a1 rfl ?_)
    refine un (a1 rfl ?_)
    obtain ⟨c_, hx1, h⟩ := bnd h
    refine un (a1 (v := (.c (.val (.int .u8 (c_.toNat : Int))))) (s_idxS rfl rfl hx1) ?_)
    refine un (a1 (v := (B (decide ((c_.toNat : Int) = 95)))) rfl ?_)
    refine dnil ?_
    refine Sv.cond (b := decide ((c_.toNat : Int) = 95)) rfl (fun hc3 => ?_) (fun hc3 => ?_)
    · replace h := ifT hc3 h
      refine Sv.seq ?_
      refine Sv.seq ?_
      refine Sv.region ?_
      refine un (a1 rfl ?_)
      refine un (a1 (v := (B (!decide (saw1 = 48)))) rfl ?_)
      refine dnil ?_
      refine Sv.cond (b := (!decide (saw1 = 48))) rfl (fun hc4 => ?_) (fun hc4 => ?_)
      · replace h := ifT hc4 h
        refine Sv.seq ?_
        refine Sv.region ?_
        refine un (a1 rfl ?_)
        refine dnil ?_
        refine Sv.ret ?_
        replace h := Option.some.inj h
        subst h
        exact hr _ ⟨_, .refl _, _, rfl, ⟨upd (fun _ => none) 0 (some (B false)), (fun _ => none), 0⟩, (B false), weak_canon [] rfl List.nodup_nil (Nat.le_refl _) (fun b h => absurd h (Nat.not_lt_zero _)) (.cons rfl (avAs_free rfl) .nil) .nil, rfl, rfl, rfl, rfl⟩
      · replace h := ifF hc4 h
        refine Sv.skip ?_
        refine Sv.seq ?_
        refine Sv.region ?_
        refine un (a1 rfl ?_)
        refine dnil ?_
        refine Sv.exit ?_
        exact Sv.weak (weak_canon [] rfl (by decide) (by decide) (fun b h => absurd h (Nat.not_lt_zero _)) (.cons rfl (avAs_free rfl) (.cons rfl (avAs_free rfl) (.cons rfl (avAs_free rfl) (.cons rfl (avAs_free rfl) .nil)))) .nil) (internal_strconv_underscoreOK_j17_ok h hself hK0 hr)
    · replace h := ifF hc3 h
      refine Sv.skip ?_
      refine Sv.seq ?_
      refine Sv.seq ?_
      refine Sv.region ?_
      refine un (a1 rfl ?_)
      refine un (a1 (v := (B (decide (saw1 = 95)))) rfl ?_)
      refine dnil ?_
      refine Sv.cond (b := decide (saw1 = 95)) rfl (fun hc5 => ?_) (fun hc5 => ?_)
      · replace h := ifT hc5 h
        refine Sv.seq ?_
        refine Sv.region ?_
        refine un (a1 rfl ?_)
        refine dnil ?_
        refine Sv.ret ?_
        replace h := Option.some.inj h
        subst h
        exact hr _ ⟨_, .refl _, _, rfl, ⟨upd (fun _ => none) 0 (some (B false)), (fun _ => none), 0⟩, (B false), weak_canon [] rfl List.nodup_nil (Nat.le_refl _) (fun b h => absurd h (Nat.not_lt_zero _)) (.cons rfl (avAs_free rfl) .nil) .nil, rfl, rfl, rfl, rfl⟩
      · replace h := ifF hc5 h
        refine Sv.skip ?_
        refine Sv.region ?_
        refine un (a1 rfl ?_)
        refine dnil ?_
        exact Sv.weak (weak_canon [] rfl (by decide) (by decide) (fun b h => absurd h (Nat.not_lt_zero _)) (.cons rfl (avAs_free rfl) (.cons rfl (avAs_free rfl) (.cons rfl (avAs_free rfl) (.cons rfl (avAs_free rfl) .nil)))) .nil) (internal_strconv_underscoreOK_j17_ok h hself hK0 hr)
noncomputable def internal_strconv_underscoreOK_l0 (s_1 : (List UInt8)) (hex : Bool) (K0_ : Int → Option Bool) : Nat → Int → Int → Option Bool
  | 0, _, _ => none
  | k + 1, saw1, i_1 =>
    if decide (i_1 < (s_1.length : Int)) then
      (at? s_1 i_1).bind fun c_1 =>
      if decide (48 ≤ (c_1.toNat : Int)) then
        (at? s_1 i_1).bind fun c_2 =>
        if decide ((c_2.toNat : Int) ≤ 57) then
          internal_strconv_underscoreOK_j18 i_1 s_1 hex saw1 (internal_strconv_underscoreOK_l0 s_1 hex K0_ k) K0_ true
        else
          if hex then
            (at? s_1 i_1).bind fun c_3 =>
            if decide (97 ≤ (internal_strconv_lower (c_3.toNat : Int))) then
              (at? s_1 i_1).bind fun c_4 =>
              internal_strconv_underscoreOK_j18 i_1 s_1 hex saw1 (internal_strconv_underscoreOK_l0 s_1 hex K0_ k) K0_ (decide ((internal_strconv_lower (c_4.toNat : Int)) ≤ 102))
            else
              internal_strconv_underscoreOK_j18 i_1 s_1 hex saw1 (internal_strconv_underscoreOK_l0 s_1 hex K0_ k) K0_ false
          else
            internal_strconv_underscoreOK_j18 i_1 s_1 hex saw1 (internal_strconv_underscoreOK_l0 s_1 hex K0_ k) K0_ false
      else
        if hex then
          (at? s_1 i_1).bind fun c_5 =>
          if decide (97 ≤ (internal_strconv_lower (c_5.toNat : Int))) then
            (at? s_1 i_1).bind fun c_6 =>
            internal_strconv_underscoreOK_j18 i_1 s_1 hex saw1 (internal_strconv_underscoreOK_l0 s_1 hex K0_ k) K0_ (decide ((internal_strconv_lower (c_6.toNat : Int)) ≤ 102))
          else
            internal_strconv_underscoreOK_j18 i_1 s_1 hex saw1 (internal_strconv_underscoreOK_l0 s_1 hex K0_ k) K0_ false
        else
          internal_strconv_underscoreOK_j18 i_1 s_1 hex saw1 (internal_strconv_underscoreOK_l0 s_1 hex K0_ k) K0_ false
    else
      K0_ saw1
theorem internal_strconv_underscoreOK_l0_ok {mL : Int} {Q : AExit → St → Prop} {s_1 : (List UInt8)} {hex : Bool} {K0_ : Int → Option Bool} {k : Nat} {saw1 : Int} {i_1 : Int} {o : Bool} (h : internal_strconv_underscoreOK_l0 s_1 hex K0_ k saw1 i_1 = some o)
    (hK0 : ∀ (saw2 : Int), K0_ saw2 = some o → ∀ s, Weak 0 s ⟨(upd (fun _ => none) 3 (some (.c (.val (.int .i32 saw2))))), (fun _ => none), 0⟩ → Q (.exit 0) s)
    (hr : ∀ s, Ends a108.results 0 (internal_strconv_underscoreOK_post o) .ret s → Q .ret s) :
    Sv Tryd.prog (GG mL) 0 (.loop a108_c7) Q ⟨(upd (upd (upd (upd (fun _ => none) 0 (some (S s_1))) 3 (some (.c (.val (.int .i32 saw1))))) 4 (some (I i_1))) 5 (some (B hex))), (fun _ => none), 0⟩ := by
  refine Sv.loop (I := fun k s => ∃ (saw1 : Int), ∃ (i_1 : Int), internal_strconv_underscoreOK_l0 s_1 hex K0_ k saw1 i_1 = some o ∧ s = ⟨(upd (upd (upd (upd (fun _ => none) 0 (some (S s_1))) 3 (some (.c (.val (.int .i32 saw1))))) 4 (some (I i_1))) 5 (some (B hex))), (fun _ => none), 0⟩) (fun k s hI => ?_) ⟨saw1, i_1, h, rfl⟩
  clear h
  clear i_1 saw1
  obtain ⟨saw1, i_1, h, rfl⟩ := hI
  cases k with
  | zero => cases h
  | succ k =>
  rw [internal_strconv_underscoreOK_l0] at h
  have hself : ∀ (saw1 : Int) (i_1 : Int), (internal_strconv_underscoreOK_l0 s_1 hex K0_ k) saw1 i_1 = some o → ∀ s, Weak 0 s ⟨(upd (upd (upd (upd (fun _ => none) 0 (some (S s_1))) 3 (some (.c (.val (.int .i32 saw1))))) 4 (some (I i_1))) 5 (some (B hex))), (fun _ => none), 0⟩ → (AThen (fun s' => ∃ s'' k', Weak 0 s' s'' ∧ k' < k + 1 ∧ (fun k s => ∃ (saw1 : Int), ∃ (i_1 : Int), internal_strconv_underscoreOK_l0 s_1 hex K0_ k saw1 i_1 = some o ∧ s = ⟨(upd (upd (upd (upd (fun _ => none) 0 (some (S s_1))) 3 (some (.c (.val (.int .i32 saw1))))) 4 (some (I i_1))) 5 (some (B hex))), (fun _ => none), 0⟩) k' s'') Q) .normal s := fun saw1 i_1 h s hw => ⟨_, k, hw, Nat.lt_succ_self k, saw1, i_1, h, rfl⟩
  refine Sv.seq ?_
  refine Sv.seq ?_
  refine Sv.region ?_
  refine un (a1 rfl ?_)
  refine un (a1 rfl ?_)
  refine un (a1 (v := (I (s_1.length : Int))) rfl ?_)
  refine un (a1 (v := (B (decide (i_1 < (s_1.length : Int))))) rfl ?_)
  refine dnil ?_
  refine Sv.cond (b := decide (i_1 < (s_1.length : Int))) rfl (fun hc1 => ?_) (fun hc1 => ?_)
  · replace h := ifT hc1 h
    refine Sv.skip ?_
    refine Sv.seq ?_
    refine Sv.block ?_
    refine Sv.seq ?_
    refine Sv.seq ?_
    refine Sv.region ?_
    refine un (a1 rfl ?_)
    refine un (a1 rfl ?_)
    obtain ⟨c_1, hx2, h⟩ := bnd h
    refine un (a1 (v := (.c (.val (.int .u8 (c_1.toNat : Int))))) (s_idxS rfl rfl hx2) ?_)
    refine un (a1 (v := (B (decide (48 ≤ (c_1.toNat : Int))))) rfl ?_)
    refine un (a1 rfl ?_)
    refine split2 (fun hc6 => ?_) (fun hc6 => ?_)
    · replace h := ifT hc6 h
      refine gt rfl (a1 rfl ?_)
      refine gt rfl (a1 rfl ?_)
      obtain ⟨c_2, hx3, h⟩ := bnd h
      refine gt rfl (a1 (v := (.c (.val (.int .u8 (c_2.toNat : Int))))) (s_idxS rfl rfl hx3) ?_)
      refine gt rfl (a1 (v := (B (decide ((c_2.toNat : Int) ≤ 57)))) rfl ?_)
      refine un (a1 (v := (B (decide ((c_2.toNat : Int) ≤ 57)))) rfl ?_)
      refine un (a1 rfl ?_)
      refine split2 (fun hc7 => ?_) (fun hc7 => ?_)
      · replace h := ifT hc7 h
        refine gs rfl rfl ?_
        refine gs rfl rfl ?_
        refine gu rfl ?_
        refine gu rfl ?_
        refine gu rfl ?_
        refine gu rfl ?_
        refine gu rfl ?_
        refine gs rfl rfl ?_
        refine gs rfl rfl ?_
        refine gu rfl ?_
        refine gu rfl ?_
        refine gu rfl ?_
        refine gu rfl ?_
        refine gu rfl ?_
        refine gs rfl rfl ?_
        refine un (a1 (v := (B true)) rfl ?_)
        refine dnil ?_
        exact Sv.weak (weak_canon [] rfl (by decide) (by decide) (fun b h => absurd h (Nat.not_lt_zero _)) (.cons rfl (avAs_free rfl) (.cons rfl (avAs_free rfl) (.cons rfl (avAs_free rfl) (.cons rfl (avAs_free rfl) (.cons rfl (avAs_free rfl) .nil))))) .nil) (internal_strconv_underscoreOK_j18_ok h hself hK0 hr)
      · replace h := ifF hc7 h
        refine gt rfl (a1 rfl ?_)
        refine gt rfl (a1 rfl ?_)
        refine split2 (fun hc8 => ?_) (fun hc8 => ?_)
        · replace h := ifT hc8 h
          refine gt rfl (a1 rfl ?_)
          refine gt rfl (a1 rfl ?_)
          obtain ⟨c_3, hx4, h⟩ := bnd h
          refine gt rfl (a1 (v := (.c (.val (.int .u8 (c_3.toNat : Int))))) (s_idxS rfl rfl hx4) ?_)
          refine gt rfl (ac_pure (internal_strconv_lower_ok (mL := mL) (c_3.toNat : Int)) rfl rfl rfl ?_)
          refine gt rfl (a1 (v := (B (decide (97 ≤ (internal_strconv_lower (c_3.toNat : Int)))))) rfl ?_)
          refine gt rfl (a1 (v := (B (decide (97 ≤ (internal_strconv_lower (c_3.toNat : Int)))))) rfl ?_)
          refine gt rfl (a1 rfl ?_)
          refine split2 (fun hc9 => ?_) (fun hc9 => ?_)
          · replace h := ifT hc9 h
            refine gt rfl (a1 rfl ?_)
            refine gt rfl (a1 rfl ?_)
            obtain ⟨c_4, hx5, h⟩ := bnd h
            refine gt rfl (a1 (v := (.c (.val (.int .u8 (c_4.toNat : Int))))) (s_idxS rfl rfl hx5) ?_)
            refine gt rfl (ac_pure (internal_strconv_lower_ok (mL := mL) (c_4.toNat : Int)) rfl rfl rfl ?_)
            refine gt rfl (a1 (v := (B (decide ((internal_strconv_lower (c_4.toNat : Int)) ≤ 102)))) rfl ?_)
            refine gt rfl (a1 (v := (B (decide ((internal_strconv_lower (c_4.toNat : Int)) ≤ 102)))) rfl ?_)
            refine un (a1 (v := (B (decide ((internal_strconv_lower (c_4.toNat : Int)) ≤ 102)))) rfl ?_)
            refine dnil ?_
            exact Sv.weak (weak_canon [] rfl (by decide) (by decide) (fun b h => absurd h (Nat.not_lt_zero _)) (.cons rfl (avAs_free rfl) (.cons rfl (avAs_free rfl) (.cons rfl (avAs_free rfl) (.cons rfl (avAs_free rfl) (.cons rfl (avAs_free rfl) .nil))))) .nil) (internal_strconv_underscoreOK_j18_ok h hself hK0 hr)
          · replace h := ifF hc9 h
            refine gs rfl rfl ?_
            refine gs rfl rfl ?_
            refine gs rfl rfl ?_
            refine gs rfl rfl ?_
            refine gs rfl rfl ?_
            refine gt rfl (a1 (v := (B false)) rfl ?_)
            refine un (a1 (v := (B false)) rfl ?_)
            refine dnil ?_
            exact Sv.weak (weak_canon [] rfl (by decide) (by decide) (fun b h => absurd h (Nat.not_lt_zero _)) (.cons rfl (avAs_free rfl) (.cons rfl (avAs_free rfl) (.cons rfl (avAs_free rfl) (.cons rfl (avAs_free rfl) (.cons rfl (avAs_free rfl) .nil))))) .nil) (internal_strconv_underscoreOK_j18_ok h hself hK0 hr)
        · replace h := ifF hc8 h
          refine gs rfl rfl ?_
          refine gs rfl rfl ?_
          refine gs rfl rfl ?_
          refine gs rfl rfl ?_
          refine gs rfl rfl ?_
          refine gt rfl (a1 (v := (B false)) rfl ?_)
          refine gt rfl (a1 rfl ?_)
          refine gs rfl rfl ?_
          refine gs rfl rfl ?_
          refine gs rfl rfl ?_
          refine gs rfl rfl ?_
          refine gs rfl rfl ?_
          refine gt rfl (a1 (v := (B false)) rfl ?_)
          refine un (a1 (v := (B false)) rfl ?_)
          refine dnil ?_
          exact Sv.weak (weak_canon [] rfl (by decide) (by decide) (fun b h => absurd h (Nat.not_lt_zero _)) (.cons rfl (avAs_free rfl) (.cons rfl (avAs_free rfl) (.cons rfl (avAs_free rfl) (.cons rfl (avAs_free rfl) (.cons rfl (avAs_free rfl) .nil))))) .nil) (internal_strconv_underscoreOK_j18_ok h hself hK0 hr)
    · replace h := ifF hc6 h
      refine gs rfl rfl ?_
      refine gs rfl rfl ?_
      refine gs rfl rfl ?_
      refine gs rfl rfl ?_
      refine un (a1 (v := (B false)) rfl ?_)
      refine un (a1 rfl ?_)
      refine gt rfl (a1 rfl ?_)
      refine gt rfl (a1 rfl ?_)
      refine split2 (fun hc10 => ?_) (fun hc10 => ?_)
      · replace h := ifT hc10 h
        refine gt rfl (a1 rfl ?_)
        refine gt rfl (a1 rfl ?_)
        obtain ⟨c_5, hx6, h⟩ := bnd h
        refine gt rfl (a1 (v := (.c (.val (.int .u8 (c_5.toNat : Int))))) (s_idxS rfl rfl hx6) ?_)
        refine gt rfl (ac_pure (internal_strconv_lower_ok (mL := mL) (c_5.toNat : Int)) rfl rfl rfl ?_)
        refine gt rfl (a1 (v := (B (decide (97 ≤ (internal_strconv_lower (c_5.toNat : Int)))))) rfl ?_)
        refine gt rfl (a1 (v := (B (decide (97 ≤ (internal_strconv_lower (c_5.toNat : Int)))))) rfl ?_)
        refine gt rfl (a1 rfl ?_)
        refine split2 (fun hc11 => ?_) (fun hc11 => ?_)
        · replace h := ifT hc11 h
          refine gt rfl (a1 rfl ?_)
          refine gt rfl (a1 rfl ?_)
          obtain ⟨c_6, hx7, h⟩ := bnd h
          refine gt rfl (a1 (v := (.c (.val (.int .u8 (c_6.toNat : Int))))) (s_idxS rfl rfl hx7) ?_)
          refine gt rfl (ac_pure (internal_strconv_lower_ok (mL := mL) (c_6.toNat : Int)) rfl rfl rfl ?_)
          refine gt rfl (a1 (v := (B (decide ((internal_strconv_lower (c_6.toNat : Int)) ≤ 102)))) rfl ?_)
          refine gt rfl (a1 (v := (B (decide ((internal_strconv_lower (c_6.toNat : Int)) ≤ 102)))) rfl ?_)
          refine un (a1 (v := (B (decide ((internal_strconv_lower (c_6.toNat : Int)) ≤ 102)))) rfl ?_)
          refine dnil ?_
          exact Sv.weak (weak_canon [] rfl (by decide) (by decide) (fun b h => absurd h (Nat.not_lt_zero _)) (.cons rfl (avAs_free rfl) (.cons rfl (avAs_free rfl) (.cons rfl (avAs_free rfl) (.cons rfl (avAs_free rfl) (.cons rfl (avAs_free rfl) .nil))))) .nil) (internal_strconv_underscoreOK_j18_ok h hself hK0 hr)
        · replace h := ifF hc11 h
          refine gs rfl rfl ?_
          refine gs rfl rfl ?_
          refine gs rfl rfl ?_
          refine gs rfl rfl ?_
          refine gs rfl rfl ?_
          refine gt rfl (a1 (v := (B false)) rfl ?_)
          refine un (a1 (v := (B false)) rfl ?_)
          refine dnil ?_
          exact Sv.weak (weak_canon [] rfl (by decide) (by decide) (fun b h => absurd h (Nat.not_lt_zero _)) (.cons rfl (avAs_free rfl) (.cons rfl (avAs_free rfl) (.cons rfl (avAs_free rfl) (.cons rfl (avAs_free rfl) (.cons rfl (avAs_free rfl) .nil))))) .nil) (internal_strconv_underscoreOK_j18_ok h hself hK0 hr)
      · replace h := ifF hc10 h
        refine gs rfl rfl ?_
        refine gs rfl rfl ?_
        refine gs rfl rfl ?_
        refine gs rfl rfl ?_
        refine gs rfl rfl ?_
        refine gt rfl (a1 (v := (B false)) rfl ?_)
        refine gt rfl (a1 rfl ?_)
        refine gs rfl rfl ?_
        refine gs rfl rfl ?_
        refine gs rfl rfl ?_
        refine gs rfl rfl ?_
        refine gs rfl rfl ?_
        refine gt rfl (a1 (v := (B false)) rfl ?_)
        refine un (a1 (v := (B false)) rfl ?_)
        refine dnil ?_
        exact Sv.weak (weak_canon [] rfl (by decide) (by decide) (fun b h => absurd h (Nat.not_lt_zero _)) (.cons rfl (avAs_free rfl) (.cons rfl (avAs_free rfl) (.cons rfl (avAs_free rfl) (.cons rfl (avAs_free rfl) (.cons rfl (avAs_free rfl) .nil))))) .nil) (internal_strconv_underscoreOK_j18_ok h hself hK0 hr)
  · replace h := ifF hc1 h
    refine Sv.exit ?_
    exact hK0 saw1 h _ (weak_canon [] rfl (by decide) (by decide) (fun b h => absurd h (Nat.not_lt_zero _)) (.cons rfl (avAs_free rfl) .nil) .nil)
noncomputable def internal_strconv_underscoreOK_j6 (s_1 : (List UInt8)) (saw : Int) (i_ : Int) (hex : Bool) : Option Bool :=
  lim fun kk => internal_strconv_underscoreOK_l0 s_1 hex (fun (saw2 : Int) => 
      some (!decide (saw2 = 95))) kk saw i_
theorem internal_strconv_underscoreOK_j6_ok {mL : Int} {s_1 : (List UInt8)} {saw : Int} {i_ : Int} {hex : Bool} {o : Bool} (h : internal_strconv_underscoreOK_j6 s_1 saw i_ hex = some o) :
    Sv Tryd.prog (GG mL) 0 a108_c3 (Ends a108.results 0 (internal_strconv_underscoreOK_post o)) ⟨(upd (upd (upd (upd (fun _ => none) 0 (some (S s_1))) 3 (some (.c (.val (.int .i32 saw))))) 4 (some (I i_))) 5 (some (B hex))), (fun _ => none), 0⟩ := by
  unfold internal_strconv_underscoreOK_j6 at h
  refine Sv.seq ?_
  refine Sv.block ?_
  obtain ⟨kk, h⟩ := lim_some h
  refine Sv.weak (weak_canon [] rfl (by decide) (by decide) (fun b h => absurd h (Nat.not_lt_zero _)) (.cons rfl (avAs_free rfl) (.cons rfl (avAs_free rfl) (.cons rfl (avAs_free rfl) (.cons rfl (avAs_free rfl) .nil)))) .nil) (internal_strconv_underscoreOK_l0_ok h ?_ (fun s hs => hs))
  · intro saw2 h _ hw1
    refine Sv.weak hw1 ?_
    refine Sv.seq ?_
    refine Sv.region ?_
    refine un (a1 rfl ?_)
    refine un (a1 (v := (B (!decide (saw2 = 95)))) rfl ?_)
    refine un (a1 rfl ?_)
    refine dnil ?_
    refine Sv.ret ?_
    replace h := Option.some.inj h
    subst h
    exact ⟨_, .refl _, _, rfl, ⟨upd (fun _ => none) 0 (some (B (!decide (saw2 = 95)))), (fun _ => none), 0⟩, (B (!decide (saw2 = 95))), weak_canon [] rfl List.nodup_nil (Nat.le_refl _) (fun b h => absurd h (Nat.not_lt_zero _)) (.cons rfl (avAs_free rfl) .nil) .nil, rfl, rfl, rfl, rfl⟩
abbrev internal_strconv_underscoreOK_q3 (mL : Int) (o : Bool) : AExit → St → Prop := AThen (Sv Tryd.prog (GG mL) 0 a108_c3 (Ends a108.results 0 (internal_strconv_underscoreOK_post o))) (Ends a108.results 0 (internal_strconv_underscoreOK_post o))
noncomputable def internal_strconv_underscoreOK_j19 (s_1 : (List UInt8)) (v46 : Bool) : Option Bool :=
  if v46 then
    (at? s_1 1).bind fun c_7 =>
    internal_strconv_underscoreOK_j6 s_1 48 2 (decide ((internal_strconv_lower (c_7.toNat : Int)) = 120))
  else
    internal_strconv_underscoreOK_j6 s_1 94 0 false
theorem internal_strconv_underscoreOK_j19_ok {mL : Int} {s_1 : (List UInt8)} {v46 : Bool} {o : Bool} (h : internal_strconv_underscoreOK_j19 s_1 v46 = some o) :
    Sv Tryd.prog (GG mL) 0 a108_c2 (internal_strconv_underscoreOK_q3 mL o) ⟨(upd (upd (upd (upd (upd (fun _ => none) 0 (some (S s_1))) 3 (some (.c (.val (.int .i32 94))))) 4 (some (I 0))) 5 (some (B false))) 46 (some (B v46))), (fun _ => none), 0⟩ := by
  unfold internal_strconv_underscoreOK_j19 at h
  refine Sv.cond (b := v46) rfl (fun hc12 => ?_) (fun hc12 => ?_)
  · replace h := ifT hc12 h
    refine Sv.seq ?_
    refine Sv.region ?_
    refine un (a1 rfl ?_)
    refine dnil ?_
    refine Sv.seq ?_
    refine Sv.region ?_
    refine un (a1 rfl ?_)
    refine dnil ?_
    refine Sv.region ?_
    refine un (a1 rfl ?_)
    obtain ⟨c_7, hx8, h⟩ := bnd h
    refine un (a1 (v := (.c (.val (.int .u8 (c_7.toNat : Int))))) (s_idxS rfl rfl hx8) ?_)
    refine un (ac_pure (internal_strconv_lower_ok (mL := mL) (c_7.toNat : Int)) rfl rfl rfl ?_)
    refine un (a1 (v := (B (decide ((internal_strconv_lower (c_7.toNat : Int)) = 120)))) rfl ?_)
    refine un (a1 rfl ?_)
    refine dnil ?_
    exact Sv.weak (weak_canon [] rfl (by decide) (by decide) (fun b h => absurd h (Nat.not_lt_zero _)) (.cons rfl (avAs_free rfl) (.cons rfl (avAs_free rfl) (.cons rfl (avAs_free rfl) (.cons rfl (avAs_free rfl) .nil)))) .nil) (internal_strconv_underscoreOK_j6_ok h)
  · replace h := ifF hc12 h
    refine Sv.skip ?_
    exact Sv.weak (weak_canon [] rfl (by decide) (by decide) (fun b h => absurd h (Nat.not_lt_zero _)) (.cons rfl (avAs_free rfl) (.cons rfl (avAs_free rfl) (.cons rfl (avAs_free rfl) (.cons rfl (avAs_free rfl) .nil)))) .nil) (internal_strconv_underscoreOK_j6_ok h)
noncomputable def internal_strconv_underscoreOK_j3 (s_1 : (List UInt8)) : Option Bool :=
  if decide (2 ≤ (s_1.length : Int)) then
    (at? s_1 0).bind fun c_8 =>
    if decide ((c_8.toNat : Int) = 48) then
      (at? s_1 1).bind fun c_9 =>
      if decide ((internal_strconv_lower (c_9.toNat : Int)) = 98) then
        internal_strconv_underscoreOK_j19 s_1 true
      else
        (at? s_1 1).bind fun c_10 =>
        if decide ((internal_strconv_lower (c_10.toNat : Int)) = 111) then
          internal_strconv_underscoreOK_j19 s_1 true
        else
          (at? s_1 1).bind fun c_11 =>
          internal_strconv_underscoreOK_j19 s_1 (decide ((internal_strconv_lower (c_11.toNat : Int)) = 120))
    else
      internal_strconv_underscoreOK_j19 s_1 false
  else
    internal_strconv_underscoreOK_j19 s_1 false
theorem internal_strconv_underscoreOK_j3_ok {mL : Int} {s_1 : (List UInt8)} {o : Bool} (h : internal_strconv_underscoreOK_j3 s_1 = some o) :
    Sv Tryd.prog (GG mL) 0 a108_c1 (Ends a108.results 0 (internal_strconv_underscoreOK_post o)) ⟨(upd (upd (upd (fun _ => none) 0 (some (S s_1))) 3 (some (.c (.val (.int .i32 94))))) 4 (some (I 0))), (fun _ => none), 0⟩ := by
  unfold internal_strconv_underscoreOK_j3 at h
  refine Sv.seq ?_
  refine Sv.region ?_
  refine un (a1 rfl ?_)
  refine dnil ?_
  refine Sv.seq ?_
  refine Sv.seq ?_
  refine Sv.region ?_
  refine un (a1 rfl ?_)
  refine un (a1 (v := (I (s_1.length : Int))) rfl ?_)
  refine un (a1 (v := (B (decide (2 ≤ (s_1.length : Int))))) rfl ?_)
  refine un (a1 rfl ?_)
  refine split2 (fun hc13 => ?_) (fun hc13 => ?_)
  · replace h := ifT hc13 h
    refine gt rfl (a1 rfl ?_)
    obtain ⟨c_8, hx9, h⟩ := bnd h
    refine gt rfl (a1 (v := (.c (.val (.int .u8 (c_8.toNat : Int))))) (s_idxS rfl rfl hx9) ?_)
    refine gt rfl (a1 (v := (B (decide ((c_8.toNat : Int) = 48)))) rfl ?_)
    refine un (a1 (v := (B (decide ((c_8.toNat : Int) = 48)))) rfl ?_)
    refine un (a1 rfl ?_)
    refine split2 (fun hc14 => ?_) (fun hc14 => ?_)
    · replace h := ifT hc14 h
      refine gt rfl (a1 rfl ?_)
      obtain ⟨c_9, hx10, h⟩ := bnd h
      refine gt rfl (a1 (v := (.c (.val (.int .u8 (c_9.toNat : Int))))) (s_idxS rfl rfl hx10) ?_)
      refine gt rfl (ac_pure (internal_strconv_lower_ok (mL := mL) (c_9.toNat : Int)) rfl rfl rfl ?_)
      refine gt rfl (a1 (v := (B (decide ((internal_strconv_lower (c_9.toNat : Int)) = 98)))) rfl ?_)
      refine gt rfl (a1 rfl ?_)
      refine split2 (fun hc15 => ?_) (fun hc15 => ?_)
      · replace h := ifT hc15 h
        refine gs rfl rfl ?_
        refine gs rfl rfl ?_
        refine gs rfl rfl ?_
        refine gs rfl rfl ?_
        refine gt rfl (a1 (v := (B true)) rfl ?_)
        refine gt rfl (a1 rfl ?_)
        refine gs rfl rfl ?_
        refine gs rfl rfl ?_
        refine gs rfl rfl ?_
        refine gs rfl rfl ?_
        refine gt rfl (a1 (v := (B true)) rfl ?_)
        refine un (a1 (v := (B true)) rfl ?_)
        refine dnil ?_
        exact Sv.weak (weak_canon [] rfl (by decide) (by decide) (fun b h => absurd h (Nat.not_lt_zero _)) (.cons rfl (avAs_free rfl) (.cons rfl (avAs_free rfl) (.cons rfl (avAs_free rfl) (.cons rfl (avAs_free rfl) (.cons rfl (avAs_free rfl) .nil))))) .nil) (internal_strconv_underscoreOK_j19_ok h)
      · replace h := ifF hc15 h
        refine gt rfl (a1 rfl ?_)
        obtain ⟨c_10, hx11, h⟩ := bnd h
        refine gt rfl (a1 (v := (.c (.val (.int .u8 (c_10.toNat : Int))))) (s_idxS rfl rfl hx11) ?_)
        refine gt rfl (ac_pure (internal_strconv_lower_ok (mL := mL) (c_10.toNat : Int)) rfl rfl rfl ?_)
        refine gt rfl (a1 (v := (B (decide ((internal_strconv_lower (c_10.toNat : Int)) = 111)))) rfl ?_)
        refine gt rfl (a1 (v := (B (decide ((internal_strconv_lower (c_10.toNat : Int)) = 111)))) rfl ?_)
        refine gt rfl (a1 rfl ?_)
        refine split2 (fun hc16 => ?_) (fun hc16 => ?_)
        · replace h := ifT hc16 h
          refine gs rfl rfl ?_
          refine gs rfl rfl ?_
          refine gs rfl rfl ?_
          refine gs rfl rfl ?_
          refine gt rfl (a1 (v := (B true)) rfl ?_)
          refine un (a1 (v := (B true)) rfl ?_)
          refine dnil ?_
          exact Sv.weak (weak_canon [] rfl (by decide) (by decide) (fun b h => absurd h (Nat.not_lt_zero _)) (.cons rfl (avAs_free rfl) (.cons rfl (avAs_free rfl) (.cons rfl (avAs_free rfl) (.cons rfl (avAs_free rfl) (.cons rfl (avAs_free rfl) .nil))))) .nil) (internal_strconv_underscoreOK_j19_ok h)
        · replace h := ifF hc16 h
          refine gt rfl (a1 rfl ?_)
          obtain ⟨c_11, hx12, h⟩ := bnd h
          refine gt rfl (a1 (v := (.c (.val (.int .u8 (c_11.toNat : Int))))) (s_idxS rfl rfl hx12) ?_)
          refine gt rfl (ac_pure (internal_strconv_lower_ok (mL := mL) (c_11.toNat : Int)) rfl rfl rfl ?_)
          refine gt rfl (a1 (v := (B (decide ((internal_strconv_lower (c_11.toNat : Int)) = 120)))) rfl ?_)
          refine gt rfl (a1 (v := (B (decide ((internal_strconv_lower (c_11.toNat : Int)) = 120)))) rfl ?_)
          refine un (a1 (v := (B (decide ((internal_strconv_lower (c_11.toNat : Int)) = 120)))) rfl ?_)
          refine dnil ?_
          exact Sv.weak (weak_canon [] rfl (by decide) (by decide) (fun b h => absurd h (Nat.not_lt_zero _)) (.cons rfl (avAs_free rfl) (.cons rfl (avAs_free rfl) (.cons rfl (avAs_free rfl) (.cons rfl (avAs_free rfl) (.cons rfl (avAs_free rfl) .nil))))) .nil) (internal_strconv_underscoreOK_j19_ok h)
    · replace h := ifF hc14 h
      refine gs rfl rfl ?_
      refine gs rfl rfl ?_
      refine gs rfl rfl ?_
      refine gs rfl rfl ?_
      refine gs rfl rfl ?_
      refine gu rfl ?_
      refine gu rfl ?_
      refine gu rfl ?_
      refine gu rfl ?_
      refine gs rfl rfl ?_
      refine gs rfl rfl ?_
      refine gu rfl ?_
      refine gu rfl ?_
      refine gu rfl ?_
      refine gu rfl ?_
      refine gs rfl rfl ?_
      refine un (a1 (v := (B false)) rfl ?_)
      refine dnil ?_
      exact Sv.weak (weak_canon [] rfl (by decide) (by decide) (fun b h => absurd h (Nat.not_lt_zero _)) (.cons rfl (avAs_free rfl) (.cons rfl (avAs_free rfl) (.cons rfl (avAs_free rfl) (.cons rfl (avAs_free rfl) (.cons rfl (avAs_free rfl) .nil))))) .nil) (internal_strconv_underscoreOK_j19_ok h)
  · replace h := ifF hc13 h
    refine gs rfl rfl ?_
    refine gs rfl rfl ?_
    refine gs rfl rfl ?_
    refine un (a1 (v := (B false)) rfl ?_)
    refine un (a1 rfl ?_)
    refine gs rfl rfl ?_
    refine gs rfl rfl ?_
    refine gs rfl rfl ?_
    refine gs rfl rfl ?_
    refine gs rfl rfl ?_
    refine gu rfl ?_
    refine gu rfl ?_
    refine gu rfl ?_
    refine gu rfl ?_
    refine gs rfl rfl ?_
    refine gs rfl rfl ?_
    refine gu rfl ?_
    refine gu rfl ?_
    refine gu rfl ?_
    refine gu rfl ?_
    refine gs rfl rfl ?_
    refine un (a1 (v := (B false)) rfl ?_)
    refine dnil ?_
    exact Sv.weak (weak_canon [] rfl (by decide) (by decide) (fun b h => absurd h (Nat.not_lt_zero _)) (.cons rfl (avAs_free rfl) (.cons rfl (avAs_free rfl) (.cons rfl (avAs_free rfl) (.cons rfl (avAs_free rfl) (.cons rfl (avAs_free rfl) .nil))))) .nil) (internal_strconv_underscoreOK_j19_ok h)
abbrev internal_strconv_underscoreOK_q4 (mL : Int) (o : Bool) : AExit → St → Prop := AThen (Sv Tryd.prog (GG mL) 0 a108_c1 (Ends a108.results 0 (internal_strconv_underscoreOK_post o))) (Ends a108.results 0 (internal_strconv_underscoreOK_post o))
noncomputable def internal_strconv_underscoreOK_j20 (s_ : (List UInt8)) (v18 : Bool) : Option Bool :=
  if v18 then
    (sub? s_ 1 (s_.length : Int)).bind fun r_ =>
    internal_strconv_underscoreOK_j3 r_
  else
    internal_strconv_underscoreOK_j3 s_
theorem internal_strconv_underscoreOK_j20_ok {mL : Int} {s_ : (List UInt8)} {v18 : Bool} {o : Bool} (h : internal_strconv_underscoreOK_j20 s_ v18 = some o) :
    Sv Tryd.prog (GG mL) 0 a108_c0 (internal_strconv_underscoreOK_q4 mL o) ⟨(upd (upd (upd (upd (fun _ => none) 0 (some (S s_))) 3 (some (.c (.val (.int .i32 94))))) 4 (some (I 0))) 18 (some (B v18))), (fun _ => none), 0⟩ := by
  unfold internal_strconv_underscoreOK_j20 at h
  refine Sv.cond (b := v18) rfl (fun hc17 => ?_) (fun hc17 => ?_)
  · replace h := ifT hc17 h
    refine Sv.region ?_
    refine un (a1 rfl ?_)
    obtain ⟨r_, hx13, h⟩ := bnd h
    refine un (a1 (v := (S r_)) (s_slStr rfl rfl rfl hx13) ?_)
    refine un (a1 rfl ?_)
    refine dnil ?_
    exact Sv.weak (weak_canon [] rfl (by decide) (by decide) (fun b h => absurd h (Nat.not_lt_zero _)) (.cons rfl (avAs_free rfl) (.cons rfl (avAs_free rfl) (.cons rfl (avAs_free rfl) .nil))) .nil) (internal_strconv_underscoreOK_j3_ok h)
  · replace h := ifF hc17 h
    refine Sv.skip ?_
    exact Sv.weak (weak_canon [] rfl (by decide) (by decide) (fun b h => absurd h (Nat.not_lt_zero _)) (.cons rfl (avAs_free rfl) (.cons rfl (avAs_free rfl) (.cons rfl (avAs_free rfl) .nil))) .nil) (internal_strconv_underscoreOK_j3_ok h)
/-- internal/strconv.underscoreOK -/
noncomputable def internal_strconv_underscoreOK (s_ : (List UInt8)) : Option Bool :=
  if decide (1 ≤ (s_.length : Int)) then
    (at? s_ 0).bind fun c_12 =>
    if decide ((c_12.toNat : Int) = 45) then
      internal_strconv_underscoreOK_j20 s_ true
    else
      (at? s_ 0).bind fun c_13 =>
      internal_strconv_underscoreOK_j20 s_ (decide ((c_13.toNat : Int) = 43))
  else
    internal_strconv_underscoreOK_j20 s_ false
theorem internal_strconv_underscoreOK_ok {mL : Int} {s_ : (List UInt8)} {r : Bool} (h : internal_strconv_underscoreOK s_ = some r) : CPure Tryd.prog (GG mL) 108 [(S s_)] (B r) := by
  refine acalls_of_sv hmix c108 (R := internal_strconv_underscoreOK_post r) ?_
  unfold internal_strconv_underscoreOK at h
  refine Sv.seq ?_
  refine Sv.region ?_
  refine un (a1 rfl ?_)
  refine dnil ?_
  refine Sv.seq ?_
  refine Sv.region ?_
  refine un (a1 rfl ?_)
  refine dnil ?_
  refine Sv.seq ?_
  refine Sv.region ?_
  refine un (a1 rfl ?_)
  refine dnil ?_
  refine Sv.seq ?_
  refine Sv.seq ?_
  refine Sv.region ?_
  refine un (a1 rfl ?_)
  refine un (a1 (v := (I (s_.length : Int))) rfl ?_)
  refine un (a1 (v := (B (decide (1 ≤ (s_.length : Int))))) rfl ?_)
  refine un (a1 rfl ?_)
  refine split2 (fun hc18 => ?_) (fun hc18 => ?_)
  · replace h := ifT hc18 h
    refine gt rfl (a1 rfl ?_)
    obtain ⟨c_12, hx14, h⟩ := bnd h
    refine gt rfl (a1 (v := (.c (.val (.int .u8 (c_12.toNat : Int))))) (s_idxS rfl rfl hx14) ?_)
    refine gt rfl (a1 (v := (B (decide ((c_12.toNat : Int) = 45)))) rfl ?_)
    refine gt rfl (a1 rfl ?_)
    refine split2 (fun hc19 => ?_) (fun hc19 => ?_)
    · replace h := ifT hc19 h
      refine gs rfl rfl ?_
      refine gs rfl rfl ?_
      refine gs rfl rfl ?_
      refine gt rfl (a1 (v := (B true)) rfl ?_)
      refine un (a1 (v := (B true)) rfl ?_)
      refine dnil ?_
      exact Sv.weak (weak_canon [] rfl (by decide) (by decide) (fun b h => absurd h (Nat.not_lt_zero _)) (.cons rfl (avAs_free rfl) (.cons rfl (avAs_free rfl) (.cons rfl (avAs_free rfl) (.cons rfl (avAs_free rfl) .nil)))) .nil) (internal_strconv_underscoreOK_j20_ok h)
    · replace h := ifF hc19 h
      refine gt rfl (a1 rfl ?_)
      obtain ⟨c_13, hx15, h⟩ := bnd h
      refine gt rfl (a1 (v := (.c (.val (.int .u8 (c_13.toNat : Int))))) (s_idxS rfl rfl hx15) ?_)
      refine gt rfl (a1 (v := (B (decide ((c_13.toNat : Int) = 43)))) rfl ?_)
      refine gt rfl (a1 (v := (B (decide ((c_13.toNat : Int) = 43)))) rfl ?_)
      refine un (a1 (v := (B (decide ((c_13.toNat : Int) = 43)))) rfl ?_)
      refine dnil ?_
      exact Sv.weak (weak_canon [] rfl (by decide) (by decide) (fun b h => absurd h (Nat.not_lt_zero _)) (.cons rfl (avAs_free rfl) (.cons rfl (avAs_free rfl) (.cons rfl (avAs_free rfl) (.cons rfl (avAs_free rfl) .nil)))) .nil) (internal_strconv_underscoreOK_j20_ok h)
  · replace h := ifF hc18 h
    refine gs rfl rfl ?_
    refine gs rfl rfl ?_
    refine gs rfl rfl ?_
    refine gs rfl rfl ?_
    refine gu rfl ?_
    refine gu rfl ?_
    refine gu rfl ?_
    refine gs rfl rfl ?_
    refine un (a1 (v := (B false)) rfl ?_)
    refine dnil ?_
    exact Sv.weak (weak_canon [] rfl (by decide) (by decide) (fun b h => absurd h (Nat.not_lt_zero _)) (.cons rfl (avAs_free rfl) (.cons rfl (avAs_free rfl) (.cons rfl (avAs_free rfl) (.cons rfl (avAs_free rfl) .nil)))) .nil) (internal_strconv_underscoreOK_j20_ok h)
def a83_c2 : ACode := (.cond (.tmp 64) (.seq (.region [⟨(some 1), (.mov (.const (.c (.val (.int .i64 16))))), none⟩])
 (.region [⟨(some 74), (.mov (.tmp 0)), none⟩, ⟨(some 75), (.slStr (.tmp 74) (some (.const (.c (.val (.int .i64 2))))) none), none⟩, ⟨(some 0), (.mov (.tmp 75)), none⟩])) (.seq (.region [⟨(some 1), (.mov (.const (.c (.val (.int .i64 8))))), none⟩])
 (.region [⟨(some 38), (.mov (.tmp 0)), none⟩, ⟨(some 39), (.slStr (.tmp 38) (some (.const (.c (.val (.int .i64 1))))) none), none⟩, ⟨(some 0), (.mov (.tmp 39)), none⟩])))
def a83_c1 : ACode := (.cond (.tmp 52) (.seq (.region [⟨(some 1), (.mov (.const (.c (.val (.int .i64 8))))), none⟩])
 (.region [⟨(some 62), (.mov (.tmp 0)), none⟩, ⟨(some 63), (.slStr (.tmp 62) (some (.const (.c (.val (.int .i64 2))))) none), none⟩, ⟨(some 0), (.mov (.tmp 63)), none⟩])) (.seq (.region [⟨(some 65), (.mov (.tmp 0)), none⟩, ⟨(some 66), (.lenS (.tmp 65)), none⟩, ⟨(some 67), (.bin .geq (.tmp 66) (.const (.c (.val (.int .i64 3))))), none⟩, ⟨(some 68), (.mov (.tmp 67)), none⟩, ⟨(some 69), (.mov (.tmp 0)), (some (68, true))⟩, ⟨(some 70), (.idxS (.tmp 69) (.const (.c (.val (.int .i64 1))))), (some (68, true))⟩, ⟨(some 71), (.call 107 [(.tmp 70)]), (some (68, true))⟩, ⟨(some 72), (.bin .eql (.tmp 71) (.const (.c (.val (.int .u8 120))))), (some (68, true))⟩, ⟨(some 73), (.pick (.tmp 68) (.tmp 72) (.const (.c (.val (.bool false))))), none⟩, ⟨(some 64), (.mov (.tmp 73)), none⟩])
 a83_c2))
def a83_c0 : ACode := (.cond (.tmp 40) (.seq (.region [⟨(some 1), (.mov (.const (.c (.val (.int .i64 2))))), none⟩])
 (.region [⟨(some 50), (.mov (.tmp 0)), none⟩, ⟨(some 51), (.slStr (.tmp 50) (some (.const (.c (.val (.int .i64 2))))) none), none⟩, ⟨(some 0), (.mov (.tmp 51)), none⟩])) (.seq (.region [⟨(some 53), (.mov (.tmp 0)), none⟩, ⟨(some 54), (.lenS (.tmp 53)), none⟩, ⟨(some 55), (.bin .geq (.tmp 54) (.const (.c (.val (.int .i64 3))))), none⟩, ⟨(some 56), (.mov (.tmp 55)), none⟩, ⟨(some 57), (.mov (.tmp 0)), (some (56, true))⟩, ⟨(some 58), (.idxS (.tmp 57) (.const (.c (.val (.int .i64 1))))), (some (56, true))⟩, ⟨(some 59), (.call 107 [(.tmp 58)]), (some (56, true))⟩, ⟨(some 60), (.bin .eql (.tmp 59) (.const (.c (.val (.int .u8 111))))), (some (56, true))⟩, ⟨(some 61), (.pick (.tmp 56) (.tmp 60) (.const (.c (.val (.bool false))))), none⟩, ⟨(some 52), (.mov (.tmp 61)), none⟩])
 a83_c1))
def a83_c6 : ACode := (.seq (.seq (.region [⟨(some 134), (.mov (.tmp 16)), none⟩, ⟨(some 135), (.mov (.tmp 1)), none⟩, ⟨(some 136), (.conv .u8 (.tmp 135)), none⟩, ⟨(some 137), (.bin .geq (.tmp 134) (.tmp 136)), none⟩])
 (.cond (.tmp 137) (.seq (.region [⟨(some 138), (.mov (.const (.c (.val (.iface 114 (.int .i64 2)))))), none⟩, ⟨(some 6), (.mov (.const (.c (.val (.int .u64 0))))), none⟩, ⟨(some 7), (.mov (.tmp 138)), none⟩])
 .ret) .skip))
 (.seq (.seq (.region [⟨(some 139), (.mov (.tmp 13)), none⟩, ⟨(some 140), (.mov (.tmp 10)), none⟩, ⟨(some 141), (.bin .geq (.tmp 139) (.tmp 140)), none⟩])
 (.cond (.tmp 141) (.seq (.region [⟨(some 142), (.mov (.tmp 11)), none⟩, ⟨(some 143), (.mov (.const (.c (.val (.iface 114 (.int .i64 1)))))), none⟩, ⟨(some 6), (.mov (.tmp 142)), none⟩, ⟨(some 7), (.mov (.tmp 143)), none⟩])
 .ret) .skip))
 (.seq (.region [⟨(some 144), (.mov (.tmp 13)), none⟩, ⟨(some 145), (.mov (.tmp 1)), none⟩, ⟨(some 146), (.conv .u64 (.tmp 145)), none⟩, ⟨(some 147), (.bin .mul (.tmp 144) (.tmp 146)), none⟩, ⟨(some 13), (.mov (.tmp 147)), none⟩])
 (.seq (.region [⟨(some 148), (.mov (.tmp 13)), none⟩, ⟨(some 149), (.mov (.tmp 16)), none⟩, ⟨(some 150), (.conv .u64 (.tmp 149)), none⟩, ⟨(some 151), (.bin .add (.tmp 148) (.tmp 150)), none⟩, ⟨(some 17), (.mov (.tmp 151)), none⟩])
 (.seq (.seq (.region [⟨(some 152), (.mov (.tmp 17)), none⟩, ⟨(some 153), (.mov (.tmp 13)), none⟩, ⟨(some 154), (.bin .lss (.tmp 152) (.tmp 153)), none⟩, ⟨(some 155), (.mov (.tmp 154)), none⟩, ⟨(some 156), (.mov (.tmp 17)), (some (155, false))⟩, ⟨(some 157), (.mov (.tmp 11)), (some (155, false))⟩, ⟨(some 158), (.bin .gtr (.tmp 156) (.tmp 157)), (some (155, false))⟩, ⟨(some 159), (.pick (.tmp 155) (.const (.c (.val (.bool true)))) (.tmp 158)), none⟩])
 (.cond (.tmp 159) (.seq (.region [⟨(some 160), (.mov (.tmp 11)), none⟩, ⟨(some 161), (.mov (.const (.c (.val (.iface 114 (.int .i64 1)))))), none⟩, ⟨(some 6), (.mov (.tmp 160)), none⟩, ⟨(some 7), (.mov (.tmp 161)), none⟩])
 .ret) .skip))
 (.region [⟨(some 162), (.mov (.tmp 17)), none⟩, ⟨(some 13), (.mov (.tmp 162)), none⟩]))))))
def a83_c7 : ACode := (.region [⟨(some 163), (.bin .add (.tmp 101) (.const (.c (.val (.int .i64 1))))), none⟩, ⟨(some 101), (.mov (.tmp 163)), none⟩])
def a83_c8 : ACode := (.seq (.region [⟨(some 102), (.bin .lss (.tmp 101) (.tmp 100)), none⟩])
 (.seq (.cond (.tmp 102) .skip (.exit 3))
 (.seq (.block 4 (.seq (.region [⟨(some 103), (.iaddr 1 (.tmp 99) (.tmp 101)), none⟩, ⟨(some 104), (.load false 1 (.tmp 103)), none⟩, ⟨(some 15), (.mov (.tmp 104)), none⟩])
 (.seq (.region [⟨(some 16), (.mov (.const (.c (.val (.int .u8 0))))), none⟩])
 (.seq (.block 5 (.seq (.region [⟨(some 107), (.mov (.tmp 15)), none⟩, ⟨(some 108), (.bin .eql (.tmp 107) (.const (.c (.val (.int .u8 95))))), none⟩, ⟨(some 109), (.mov (.tmp 108)), none⟩, ⟨(some 110), (.mov (.tmp 8)), (some (109, true))⟩, ⟨(some 111), (.pick (.tmp 109) (.tmp 110) (.const (.c (.val (.bool false))))), none⟩, ⟨(some 106), (.mov (.tmp 111)), none⟩])
 (.cond (.tmp 106) (.seq (.region [⟨(some 12), (.mov (.const (.c (.val (.bool true))))), none⟩])
 (.exit 4)) (.seq (.region [⟨(some 113), (.mov (.tmp 15)), none⟩, ⟨(some 114), (.bin .leq (.const (.c (.val (.int .u8 48)))) (.tmp 113)), none⟩, ⟨(some 115), (.mov (.tmp 114)), none⟩, ⟨(some 116), (.mov (.tmp 15)), (some (115, true))⟩, ⟨(some 117), (.bin .leq (.tmp 116) (.const (.c (.val (.int .u8 57))))), (some (115, true))⟩, ⟨(some 118), (.pick (.tmp 115) (.tmp 117) (.const (.c (.val (.bool false))))), none⟩, ⟨(some 112), (.mov (.tmp 118)), none⟩])
 (.cond (.tmp 112) (.region [⟨(some 119), (.mov (.tmp 15)), none⟩, ⟨(some 120), (.bin .sub (.tmp 119) (.const (.c (.val (.int .u8 48))))), none⟩, ⟨(some 16), (.mov (.tmp 120)), none⟩]) (.seq (.region [⟨(some 122), (.mov (.tmp 15)), none⟩, ⟨(some 123), (.call 107 [(.tmp 122)]), none⟩, ⟨(some 124), (.bin .leq (.const (.c (.val (.int .u8 97)))) (.tmp 123)), none⟩, ⟨(some 125), (.mov (.tmp 124)), none⟩, ⟨(some 126), (.mov (.tmp 15)), (some (125, true))⟩, ⟨(some 127), (.call 107 [(.tmp 126)]), (some (125, true))⟩, ⟨(some 128), (.bin .leq (.tmp 127) (.const (.c (.val (.int .u8 122))))), (some (125, true))⟩, ⟨(some 129), (.pick (.tmp 125) (.tmp 128) (.const (.c (.val (.bool false))))), none⟩, ⟨(some 121), (.mov (.tmp 129)), none⟩])
 (.cond (.tmp 121) (.region [⟨(some 130), (.mov (.tmp 15)), none⟩, ⟨(some 131), (.call 107 [(.tmp 130)]), none⟩, ⟨(some 132), (.bin .sub (.tmp 131) (.const (.c (.val (.int .u8 97))))), none⟩, ⟨(some 133), (.bin .add (.tmp 132) (.const (.c (.val (.int .u8 10))))), none⟩, ⟨(some 16), (.mov (.tmp 133)), none⟩]) (.seq (.region [⟨(some 105), (.mov (.const (.c (.val (.iface 114 (.int .i64 2)))))), none⟩, ⟨(some 6), (.mov (.const (.c (.val (.int .u64 0))))), none⟩, ⟨(some 7), (.mov (.tmp 105)), none⟩])
 .ret))))))))
 a83_c6))))
 a83_c7)))
def a83_c9 : ACode := (.cond (.tmp 169) (.seq (.region [⟨(some 170), (.mov (.const (.c (.val (.iface 114 (.int .i64 2)))))), none⟩, ⟨(some 6), (.mov (.const (.c (.val (.int .u64 0))))), none⟩, ⟨(some 7), (.mov (.tmp 170)), none⟩])
 .ret) .skip)
def a83_c10 : ACode := (.seq (.region [⟨(some 171), (.mov (.tmp 13)), none⟩, ⟨(some 6), (.mov (.tmp 171)), none⟩, ⟨(some 7), (.mov (.const (.c (.val .nilIface)))), none⟩])
 .ret)
def a83_c5 : ACode := (.seq (.region [⟨(some 94), (.mov (.tmp 2)), none⟩, ⟨(some 95), (.conv .u64 (.tmp 94)), none⟩, ⟨(some 96), (.bin .shl (.const (.c (.val (.int .u64 1)))) (.tmp 95)), none⟩, ⟨(some 97), (.bin .sub (.tmp 96) (.const (.c (.val (.int .u64 1))))), none⟩, ⟨(some 11), (.mov (.tmp 97)), none⟩])
 (.seq (.region [⟨(some 12), (.mov (.const (.c (.val (.bool false))))), none⟩])
 (.seq (.region [⟨(some 13), (.mov (.const (.c (.val (.int .u64 0))))), none⟩])
 (.seq (.seq (.region [⟨(some 98), (.mov (.tmp 0)), none⟩, ⟨(some 99), (.toBytes (.tmp 98)), none⟩, ⟨(some 100), (.len (.tmp 99)), none⟩, ⟨(some 101), (.mov (.const (.c (.val (.int .i64 0))))), none⟩])
 (.block 3 (.loop a83_c8)))
 (.seq (.seq (.region [⟨(some 164), (.mov (.tmp 12)), none⟩, ⟨(some 165), (.mov (.tmp 164)), none⟩, ⟨(some 166), (.mov (.tmp 9)), (some (165, true))⟩, ⟨(some 167), (.call 108 [(.tmp 166)]), (some (165, true))⟩, ⟨(some 168), (.un .not (.tmp 167)), (some (165, true))⟩, ⟨(some 169), (.pick (.tmp 165) (.tmp 168) (.const (.c (.val (.bool false))))), none⟩])
 a83_c9)
 a83_c10)))))
def a83_c4 : ACode := (.seq (.region [⟨(some 10), (.mov (.const (.c (.val (.int .u64 0))))), none⟩])
 (.seq (.seq (.region [⟨(some 85), (.mov (.tmp 1)), none⟩])
 (.block 2 (.seq (.region [⟨(some 91), (.bin .eql (.tmp 85) (.const (.c (.val (.int .i64 10))))), none⟩, ⟨(some 90), (.mov (.tmp 91)), none⟩])
 (.cond (.tmp 90) (.region [⟨(some 10), (.mov (.const (.c (.val (.int .u64 1844674407370955162))))), none⟩]) (.seq (.region [⟨(some 93), (.bin .eql (.tmp 85) (.const (.c (.val (.int .i64 16))))), none⟩, ⟨(some 92), (.mov (.tmp 93)), none⟩])
 (.cond (.tmp 92) (.region [⟨(some 10), (.mov (.const (.c (.val (.int .u64 1152921504606846976))))), none⟩]) (.region [⟨(some 86), (.mov (.tmp 1)), none⟩, ⟨(some 87), (.conv .u64 (.tmp 86)), none⟩, ⟨(some 88), (.bin .quo (.const (.c (.val (.int .u64 18446744073709551615)))) (.tmp 87)), none⟩, ⟨(some 89), (.bin .add (.tmp 88) (.const (.c (.val (.int .u64 1))))), none⟩, ⟨(some 10), (.mov (.tmp 89)), none⟩])))))))
 a83_c5))
def a83_c3 : ACode := (.seq (.seq (.region [⟨(some 76), (.mov (.tmp 2)), none⟩, ⟨(some 77), (.bin .eql (.tmp 76) (.const (.c (.val (.int .i64 0))))), none⟩])
 (.cond (.tmp 77) (.region [⟨(some 2), (.mov (.const (.c (.val (.int .i64 64))))), none⟩]) (.seq (.region [⟨(some 78), (.mov (.tmp 2)), none⟩, ⟨(some 79), (.bin .lss (.tmp 78) (.const (.c (.val (.int .i64 0))))), none⟩, ⟨(some 80), (.mov (.tmp 79)), none⟩, ⟨(some 81), (.mov (.tmp 2)), (some (80, false))⟩, ⟨(some 82), (.bin .gtr (.tmp 81) (.const (.c (.val (.int .i64 64))))), (some (80, false))⟩, ⟨(some 83), (.pick (.tmp 80) (.const (.c (.val (.bool true)))) (.tmp 82)), none⟩])
 (.cond (.tmp 83) (.seq (.region [⟨(some 84), (.mov (.const (.c (.val (.iface 114 (.int .i64 4)))))), none⟩, ⟨(some 6), (.mov (.const (.c (.val (.int .u64 0))))), none⟩, ⟨(some 7), (.mov (.tmp 84)), none⟩])
 .ret) .skip))))
 a83_c4)
def a83 : AFunc := ⟨3, [(.tmp 6), (.tmp 7)], (.seq (.region [⟨(some 6), (.mov (.const (.c (.val (.int .u64 0))))), none⟩, ⟨(some 7), (.mov (.const (.c (.val .nilIface)))), none⟩])
 (.seq (.seq (.region [⟨(some 18), (.mov (.tmp 0)), none⟩, ⟨(some 19), (.bin .eql (.tmp 18) (.const (.c (.str [])))), none⟩])
 (.cond (.tmp 19) (.seq (.region [⟨(some 20), (.mov (.const (.c (.val (.iface 114 (.int .i64 2)))))), none⟩, ⟨(some 6), (.mov (.const (.c (.val (.int .u64 0))))), none⟩, ⟨(some 7), (.mov (.tmp 20)), none⟩])
 .ret) .skip))
 (.seq (.region [⟨(some 21), (.mov (.tmp 1)), none⟩, ⟨(some 22), (.bin .eql (.tmp 21) (.const (.c (.val (.int .i64 0))))), none⟩, ⟨(some 8), (.mov (.tmp 22)), none⟩])
 (.seq (.region [⟨(some 23), (.mov (.tmp 0)), none⟩, ⟨(some 9), (.mov (.tmp 23)), none⟩])
 (.seq (.block 0 (.seq (.region [⟨(some 26), (.mov (.tmp 1)), none⟩, ⟨(some 27), (.bin .leq (.const (.c (.val (.int .i64 2)))) (.tmp 26)), none⟩, ⟨(some 28), (.mov (.tmp 27)), none⟩, ⟨(some 29), (.mov (.tmp 1)), (some (28, true))⟩, ⟨(some 30), (.bin .leq (.tmp 29) (.const (.c (.val (.int .i64 36))))), (some (28, true))⟩, ⟨(some 31), (.pick (.tmp 28) (.tmp 30) (.const (.c (.val (.bool false))))), none⟩, ⟨(some 25), (.mov (.tmp 31)), none⟩])
 (.cond (.tmp 25) .skip (.seq (.region [⟨(some 33), (.mov (.tmp 1)), none⟩, ⟨(some 34), (.bin .eql (.tmp 33) (.const (.c (.val (.int .i64 0))))), none⟩, ⟨(some 32), (.mov (.tmp 34)), none⟩])
 (.cond (.tmp 32) (.seq (.region [⟨(some 1), (.mov (.const (.c (.val (.int .i64 10))))), none⟩])
 (.seq (.region [⟨(some 35), (.mov (.tmp 0)), none⟩, ⟨(some 36), (.idxS (.tmp 35) (.const (.c (.val (.int .i64 0))))), none⟩, ⟨(some 37), (.bin .eql (.tmp 36) (.const (.c (.val (.int .u8 48))))), none⟩])
 (.cond (.tmp 37) (.block 1 (.seq (.region [⟨(some 41), (.mov (.tmp 0)), none⟩, ⟨(some 42), (.lenS (.tmp 41)), none⟩, ⟨(some 43), (.bin .geq (.tmp 42) (.const (.c (.val (.int .i64 3))))), none⟩, ⟨(some 44), (.mov (.tmp 43)), none⟩, ⟨(some 45), (.mov (.tmp 0)), (some (44, true))⟩, ⟨(some 46), (.idxS (.tmp 45) (.const (.c (.val (.int .i64 1))))), (some (44, true))⟩, ⟨(some 47), (.call 107 [(.tmp 46)]), (some (44, true))⟩, ⟨(some 48), (.bin .eql (.tmp 47) (.const (.c (.val (.int .u8 98))))), (some (44, true))⟩, ⟨(some 49), (.pick (.tmp 44) (.tmp 48) (.const (.c (.val (.bool false))))), none⟩, ⟨(some 40), (.mov (.tmp 49)), none⟩])
 a83_c0)) .skip))) (.seq (.region [⟨(some 24), (.mov (.const (.c (.val (.iface 114 (.int .i64 3)))))), none⟩, ⟨(some 6), (.mov (.const (.c (.val (.int .u64 0))))), none⟩, ⟨(some 7), (.mov (.tmp 24)), none⟩])
 .ret))))))
 a83_c3)))))⟩
set_option maxRecDepth 100000 in
theorem c83 : compFunc Tryd.prog 83 = some a83 := by kernel_rfl
def internal_strconv_ParseUint_post (r : (Int × Int)) : AV → Heap → Nat → Prop := fun v h' n' => v = (.tup [(.c (.val (.int .u64 r.1))), (.c (ierrC 114 r.2))]) ∧ (h' = (fun _ => none)) ∧ n' = 0
noncomputable def internal_strconv_ParseUint_j20 (v101 : Int) (base1 : Int) (base : Int) (s_ : (List UInt8)) (cutoff : Int) (r_ : Int) (s_1 : (List UInt8)) (self : Bool → Int → (List Int) → Int → Option (Int × Int)) (K3_ : Bool → Int → Option (Int × Int)) (underscores2 : Bool) (n_2 : Int) (v991 : (List Int)) : Option (Int × Int) :=
  self underscores2 n_2 v991 (wi (v101 + 1))
theorem internal_strconv_ParseUint_j20_ok {mL : Int} {Q : AExit → St → Prop} {v101 : Int} {base1 : Int} {base : Int} {s_ : (List UInt8)} {cutoff : Int} {r_ : Int} {s_1 : (List UInt8)} {self : Bool → Int → (List Int) → Int → Option (Int × Int)} {K3_ : Bool → Int → Option (Int × Int)} {underscores2 : Bool} {n_2 : Int} {v991 : (List Int)} {zv991 : Bool} (hzv991 : zv991 = true → v991 = []) {o : (Int × Int)} (h : internal_strconv_ParseUint_j20 v101 base1 base s_ cutoff r_ s_1 self K3_ underscores2 n_2 v991 = some o)
    (hself : ∀ (underscores : Bool) (n_ : Int) (v99 : (List Int)) (v101 : Int) (zv99 : Bool) (_ : zv99 = true → v99 = []), self underscores n_ v99 v101 = some o → ∀ s, Weak 0 s ⟨(upd (upd (upd (upd (upd (upd (upd (upd (upd (upd (fun _ => none) 1 (some (I base1))) 8 (some (B (decide (base = 0))))) 9 (some (S s_))) 10 (some (.c (.val (.int .u64 cutoff))))) 11 (some (.c (.val (.int .u64 (wr .u64 (r_ - 1))))))) 12 (some (B underscores))) 13 (some (.c (.val (.int .u64 n_))))) 99 (some (lstV zv99 0 1 v99.length))) 100 (some (I ((ints s_1).length : Int)))) 101 (some (I v101))), (upd (fun _ => none) 0 (lstB zv99 1 (v99.map (eK .u8)))), 1⟩ → (Q) .normal s)
    (hK3 : ∀ (underscores1 : Bool) (n_1 : Int), K3_ underscores1 n_1 = some o → ∀ s, Weak 0 s ⟨(upd (upd (upd (fun _ => none) 9 (some (S s_))) 12 (some (B underscores1))) 13 (some (.c (.val (.int .u64 n_1))))), (fun _ => none), 0⟩ → Q (.exit 3) s)
    (hr : ∀ s, Ends a83.results 0 (internal_strconv_ParseUint_post o) .ret s → Q .ret s) :
    Sv Tryd.prog (GG mL) 0 a83_c7 Q ⟨(upd (upd (upd (upd (upd (upd (upd (upd (upd (upd (fun _ => none) 1 (some (I base1))) 8 (some (B (decide (base = 0))))) 9 (some (S s_))) 10 (some (.c (.val (.int .u64 cutoff))))) 11 (some (.c (.val (.int .u64 (wr .u64 (r_ - 1))))))) 12 (some (B underscores2))) 13 (some (.c (.val (.int .u64 n_2))))) 99 (some (lstV zv991 0 1 v991.length))) 100 (some (I ((ints s_1).length : Int)))) 101 (some (I v101))), (upd (fun _ => none) 0 (lstB zv991 1 (v991.map (eK .u8)))), 1⟩ := by
  unfold internal_strconv_ParseUint_j20 at h
  refine Sv.region ?_
  refine un (a1 (v := (I (wi (v101 + 1)))) rfl ?_)
  refine un (a1 rfl ?_)
  refine dnil ?_
  exact hself underscores2 n_2 v991 (wi (v101 + 1)) zv991 hzv991 h _ (weak_canon [0] rfl (by decide) (by decide) (fun b h => absurd h (Nat.not_lt_zero _)) (.cons rfl (avAs_free rfl) (.cons rfl (avAs_free rfl) (.cons rfl (.c (lstC_ren rfl (by decide))) (.cons rfl (avAs_free rfl) (.cons rfl (avAs_free rfl) (.cons rfl (avAs_free rfl) (.cons rfl (avAs_free rfl) (.cons rfl (avAs_free rfl) (.cons rfl (avAs_free rfl) (.cons rfl (avAs_free rfl) .nil)))))))))) (.row (by decide) rfl (fr_map fun _ => rfl) .nil))
abbrev internal_strconv_ParseUint_q0 (mL : Int) (Q : AExit → St → Prop) : AExit → St → Prop := AThen (Sv Tryd.prog (GG mL) 0 a83_c7 Q) Q
abbrev internal_strconv_ParseUint_q1 (mL : Int) (Q : AExit → St → Prop) : AExit → St → Prop := ABlock 4 (internal_strconv_ParseUint_q0 mL Q)
noncomputable def internal_strconv_ParseUint_j21 (base1 : Int) (cutoff : Int) (n_ : Int) (r_ : Int) (v101 : Int) (base : Int) (s_ : (List UInt8)) (s_1 : (List UInt8)) (underscores : Bool) (self : Bool → Int → (List Int) → Int → Option (Int × Int)) (K3_ : Bool → Int → Option (Int × Int)) (d_ : Int) (v992 : (List Int)) : Option (Int × Int) :=
  if decide ((wr .u8 base1) ≤ d_) then
    some (0, 2)
  else
    if decide (cutoff ≤ n_) then
      some ((wr .u64 (r_ - 1)), 1)
    else
      letIn (decide ((wr .u64 ((wr .u64 (n_ * (wr .u64 base1))) + (wr .u64 d_))) < (wr .u64 (n_ * (wr .u64 base1))))) fun v154 : Bool =>
      if (v154 || (decide ((wr .u64 (r_ - 1)) < (wr .u64 ((wr .u64 (n_ * (wr .u64 base1))) + (wr .u64 d_)))))) then
        some ((wr .u64 (r_ - 1)), 1)
      else
        internal_strconv_ParseUint_j20 v101 base1 base s_ cutoff r_ s_1 self K3_ underscores (wr .u64 ((wr .u64 (n_ * (wr .u64 base1))) + (wr .u64 d_))) v992
theorem internal_strconv_ParseUint_j21_ok {mL : Int} {Q : AExit → St → Prop} {base1 : Int} {cutoff : Int} {n_ : Int} {r_ : Int} {v101 : Int} {base : Int} {s_ : (List UInt8)} {s_1 : (List UInt8)} {underscores : Bool} {self : Bool → Int → (List Int) → Int → Option (Int × Int)} {K3_ : Bool → Int → Option (Int × Int)} {d_ : Int} {v992 : (List Int)} {zv992 : Bool} (hzv992 : zv992 = true → v992 = []) {o : (Int × Int)} (h : internal_strconv_ParseUint_j21 base1 cutoff n_ r_ v101 base s_ s_1 underscores self K3_ d_ v992 = some o)
    (hself : ∀ (underscores : Bool) (n_ : Int) (v99 : (List Int)) (v101 : Int) (zv99 : Bool) (_ : zv99 = true → v99 = []), self underscores n_ v99 v101 = some o → ∀ s, Weak 0 s ⟨(upd (upd (upd (upd (upd (upd (upd (upd (upd (upd (fun _ => none) 1 (some (I base1))) 8 (some (B (decide (base = 0))))) 9 (some (S s_))) 10 (some (.c (.val (.int .u64 cutoff))))) 11 (some (.c (.val (.int .u64 (wr .u64 (r_ - 1))))))) 12 (some (B underscores))) 13 (some (.c (.val (.int .u64 n_))))) 99 (some (lstV zv99 0 1 v99.length))) 100 (some (I ((ints s_1).length : Int)))) 101 (some (I v101))), (upd (fun _ => none) 0 (lstB zv99 1 (v99.map (eK .u8)))), 1⟩ → (Q) .normal s)
    (hK3 : ∀ (underscores1 : Bool) (n_1 : Int), K3_ underscores1 n_1 = some o → ∀ s, Weak 0 s ⟨(upd (upd (upd (fun _ => none) 9 (some (S s_))) 12 (some (B underscores1))) 13 (some (.c (.val (.int .u64 n_1))))), (fun _ => none), 0⟩ → Q (.exit 3) s)
    (hr : ∀ s, Ends a83.results 0 (internal_strconv_ParseUint_post o) .ret s → Q .ret s) :
    Sv Tryd.prog (GG mL) 0 a83_c6 (internal_strconv_ParseUint_q1 mL Q) ⟨(upd (upd (upd (upd (upd (upd (upd (upd (upd (upd (upd (fun _ => none) 1 (some (I base1))) 8 (some (B (decide (base = 0))))) 9 (some (S s_))) 10 (some (.c (.val (.int .u64 cutoff))))) 11 (some (.c (.val (.int .u64 (wr .u64 (r_ - 1))))))) 12 (some (B underscores))) 13 (some (.c (.val (.int .u64 n_))))) 16 (some (.c (.val (.int .u8 d_))))) 99 (some (lstV zv992 0 1 v992.length))) 100 (some (I ((ints s_1).length : Int)))) 101 (some (I v101))), (upd (fun _ => none) 0 (lstB zv992 1 (v992.map (eK .u8)))), 1⟩ := by
  unfold internal_strconv_ParseUint_j21 at h
  refine Sv.seq ?_
  refine Sv.seq ?_
  refine Sv.region ?_
  refine un (a1 rfl ?_)
  refine un (a1 rfl ?_)
  refine un (a1 (v := (.c (.val (.int .u8 (wr .u8 base1))))) rfl ?_)
  refine un (a1 (v := (B (decide ((wr .u8 base1) ≤ d_)))) rfl ?_)
  refine dnil ?_
  refine Sv.cond (b := decide ((wr .u8 base1) ≤ d_)) rfl (fun hc3 => ?_) (fun hc3 => ?_)
  · replace h := ifT hc3 h
    refine Sv.seq ?_
    refine Sv.region ?_
    refine un (a1 rfl ?_)
    refine un (a1 rfl ?_)
    refine un (a1 rfl ?_)
    refine dnil ?_
    refine Sv.ret ?_
    replace h := Option.some.inj h
    subst h
    exact hr _ ⟨_, .refl _, _, rfl, ⟨upd (fun _ => none) 0 (some (.tup [(.c (.val (.int .u64 0))), (.c (.val (.iface 114 (.int .i64 2))))])), (fun _ => none), 0⟩, (.tup [(.c (.val (.int .u64 0))), (.c (.val (.iface 114 (.int .i64 2))))]), weak_canon [] rfl List.nodup_nil (Nat.le_refl _) (fun b h => absurd h (Nat.not_lt_zero _)) (.cons rfl (avAs_tup (.cons (avAs_free rfl) (.cons (avAs_free rfl) .nil))) .nil) .nil, rfl, rfl, rfl, rfl⟩
  · replace h := ifF hc3 h
    refine Sv.skip ?_
    refine Sv.seq ?_
    refine Sv.seq ?_
    refine Sv.region ?_
    refine un (a1 rfl ?_)
    refine un (a1 rfl ?_)
    refine un (a1 (v := (B (decide (cutoff ≤ n_)))) rfl ?_)
    refine dnil ?_
    refine Sv.cond (b := decide (cutoff ≤ n_)) rfl (fun hc4 => ?_) (fun hc4 => ?_)
    · replace h := ifT hc4 h
      refine Sv.seq ?_
      refine Sv.region ?_
      refine un (a1 rfl ?_)
      refine un (a1 rfl ?_)
      refine un (a1 rfl ?_)
      refine un (a1 rfl ?_)
      refine dnil ?_
      refine Sv.ret ?_
      replace h := Option.some.inj h
      subst h
      exact hr _ ⟨_, .refl _, _, rfl, ⟨upd (fun _ => none) 0 (some (.tup [(.c (.val (.int .u64 (wr .u64 (r_ - 1))))), (.c (.val (.iface 114 (.int .i64 1))))])), (fun _ => none), 0⟩, (.tup [(.c (.val (.int .u64 (wr .u64 (r_ - 1))))), (.c (.val (.iface 114 (.int .i64 1))))]), weak_canon [] rfl List.nodup_nil (Nat.le_refl _) (fun b h => absurd h (Nat.not_lt_zero _)) (.cons rfl (avAs_tup (.cons (avAs_free rfl) (.cons (avAs_free rfl) .nil))) .nil) .nil, rfl, rfl, rfl, rfl⟩
    · replace h := ifF hc4 h
      refine Sv.skip ?_
      refine Sv.seq ?_
      refine Sv.region ?_
      refine un (a1 rfl ?_)
      refine un (a1 rfl ?_)
      refine un (a1 (v := (.c (.val (.int .u64 (wr .u64 base1))))) rfl ?_)
      refine un (a1 (v := (.c (.val (.int .u64 (wr .u64 (n_ * (wr .u64 base1))))))) rfl ?_)
      refine un (a1 rfl ?_)
      refine dnil ?_
      refine Sv.seq ?_
      refine Sv.region ?_
      refine un (a1 rfl ?_)
      refine un (a1 rfl ?_)
      refine un (a1 (v := (.c (.val (.int .u64 (wr .u64 d_))))) rfl ?_)
      refine un (a1 (v := (.c (.val (.int .u64 (wr .u64 ((wr .u64 (n_ * (wr .u64 base1))) + (wr .u64 d_))))))) rfl ?_)
      refine un (a1 rfl ?_)
      refine dnil ?_
      refine Sv.seq ?_
      refine Sv.seq ?_
      refine Sv.region ?_
      refine un (a1 rfl ?_)
      refine un (a1 rfl ?_)
      obtain ⟨v154, hv154⟩ : ∃ v154 : Bool, v154 = decide ((wr .u64 ((wr .u64 (n_ * (wr .u64 base1))) + (wr .u64 d_))) < (wr .u64 (n_ * (wr .u64 base1)))) := ⟨_, rfl⟩
      replace h := letAt hv154 h
      refine un (a1 (v := (B v154)) (by rw [hv154]; rfl) ?_)
      clear hv154
      refine un (a1 rfl ?_)
      refine gjoin 4 (d := 159) (v := (B (v154 || (decide ((wr .u64 (r_ - 1)) < (wr .u64 ((wr .u64 (n_ * (wr .u64 base1))) + (wr .u64 d_)))))))) (fun X hX => ?_) ?_
      · refine split2 (fun hc5 => ?_) (fun hc5 => ?_)
        · refine gs rfl rfl ?_
          refine gs rfl rfl ?_
          refine gs rfl rfl ?_
          refine un (a1 (v := (B true)) rfl ?_)
          refine dnil ?_
          exact hX _ (.putEq (by rw [hc5]; rfl) (.skip _ _ (.skip _ _ (.skip _ _ (.putEq (by rw [hc5]) (.refl _)) rfl) rfl) rfl))
        · refine gt rfl (a1 rfl ?_)
          refine gt rfl (a1 rfl ?_)
          refine gt rfl (a1 (v := (B (decide ((wr .u64 (r_ - 1)) < (wr .u64 ((wr .u64 (n_ * (wr .u64 base1))) + (wr .u64 d_))))))) rfl ?_)
          refine un (a1 (v := (B (decide ((wr .u64 (r_ - 1)) < (wr .u64 ((wr .u64 (n_ * (wr .u64 base1))) + (wr .u64 d_))))))) rfl ?_)
          refine dnil ?_
          exact hX _ (.putEq (by rw [hc5]; rfl) (.skip _ _ (.skip _ _ (.skip _ _ (.putEq (by rw [hc5]) (.refl _)) rfl) rfl) rfl))
      refine dnil ?_
      refine Sv.cond (b := (v154 || (decide ((wr .u64 (r_ - 1)) < (wr .u64 ((wr .u64 (n_ * (wr .u64 base1))) + (wr .u64 d_))))))) rfl (fun hc6 => ?_) (fun hc6 => ?_)
      · replace h := ifT hc6 h
        refine Sv.seq ?_
        refine Sv.region ?_
        refine un (a1 rfl ?_)
        refine un (a1 rfl ?_)
        refine un (a1 rfl ?_)
        refine un (a1 rfl ?_)
        refine dnil ?_
        refine Sv.ret ?_
        replace h := Option.some.inj h
        subst h
        exact hr _ ⟨_, .refl _, _, rfl, ⟨upd (fun _ => none) 0 (some (.tup [(.c (.val (.int .u64 (wr .u64 (r_ - 1))))), (.c (.val (.iface 114 (.int .i64 1))))])), (fun _ => none), 0⟩, (.tup [(.c (.val (.int .u64 (wr .u64 (r_ - 1))))), (.c (.val (.iface 114 (.int .i64 1))))]), weak_canon [] rfl List.nodup_nil (Nat.le_refl _) (fun b h => absurd h (Nat.not_lt_zero _)) (.cons rfl (avAs_tup (.cons (avAs_free rfl) (.cons (avAs_free rfl) .nil))) .nil) .nil, rfl, rfl, rfl, rfl⟩
      · replace h := ifF hc6 h
        refine Sv.skip ?_
        refine Sv.region ?_
        refine un (a1 rfl ?_)
        refine un (a1 rfl ?_)
        refine dnil ?_
        exact Sv.weak (weak_canon [0] rfl (by decide) (by decide) (fun b h => absurd h (Nat.not_lt_zero _)) (.cons rfl (avAs_free rfl) (.cons rfl (avAs_free rfl) (.cons rfl (.c (lstC_ren rfl (by decide))) (.cons rfl (avAs_free rfl) (.cons rfl (avAs_free rfl) (.cons rfl (avAs_free rfl) (.cons rfl (avAs_free rfl) (.cons rfl (avAs_free rfl) (.cons rfl (avAs_free rfl) (.cons rfl (avAs_free rfl) .nil)))))))))) (.row (by decide) rfl (fr_map fun _ => rfl) .nil)) (internal_strconv_ParseUint_j20_ok hzv992 h hself hK3 hr)
noncomputable def internal_strconv_ParseUint_l0 (s_1 : (List UInt8)) (base : Int) (base1 : Int) (s_ : (List UInt8)) (cutoff : Int) (r_ : Int) (K3_ : Bool → Int → Option (Int × Int)) : Nat → Bool → Int → (List Int) → Int → Option (Int × Int)
  | 0, _, _, _, _ => none
  | k + 1, underscores, n_, v99, v101 =>
    if decide (v101 < ((ints s_1).length : Int)) then
      (at? v99 v101).bind fun x_ =>
      if ((decide (x_ = 95)) && (decide (base = 0))) then
        internal_strconv_ParseUint_j20 v101 base1 base s_ cutoff r_ s_1 (internal_strconv_ParseUint_l0 s_1 base base1 s_ cutoff r_ K3_ k) K3_ true n_ v99
      else
        if ((decide (48 ≤ x_)) && (decide (x_ ≤ 57))) then
          internal_strconv_ParseUint_j21 base1 cutoff n_ r_ v101 base s_ s_1 underscores (internal_strconv_ParseUint_l0 s_1 base base1 s_ cutoff r_ K3_ k) K3_ (wr .u8 (x_ - 48)) v99
        else
          if ((decide (97 ≤ (internal_strconv_lower x_))) && (decide ((internal_strconv_lower x_) ≤ 122))) then
            internal_strconv_ParseUint_j21 base1 cutoff n_ r_ v101 base s_ s_1 underscores (internal_strconv_ParseUint_l0 s_1 base base1 s_ cutoff r_ K3_ k) K3_ (wr .u8 ((wr .u8 ((internal_strconv_lower x_) - 97)) + 10)) v99
          else
            some (0, 2)
    else
      K3_ underscores n_
theorem internal_strconv_ParseUint_l0_ok {mL : Int} {Q : AExit → St → Prop} {s_1 : (List UInt8)} {base : Int} {base1 : Int} {s_ : (List UInt8)} {cutoff : Int} {r_ : Int} {K3_ : Bool → Int → Option (Int × Int)} {k : Nat} {underscores : Bool} {n_ : Int} {v99 : (List Int)} {v101 : Int} {zv99 : Bool} (hzv99 : zv99 = true → v99 = []) {o : (Int × Int)} (h : internal_strconv_ParseUint_l0 s_1 base base1 s_ cutoff r_ K3_ k underscores n_ v99 v101 = some o)
    (hK3 : ∀ (underscores1 : Bool) (n_1 : Int), K3_ underscores1 n_1 = some o → ∀ s, Weak 0 s ⟨(upd (upd (upd (fun _ => none) 9 (some (S s_))) 12 (some (B underscores1))) 13 (some (.c (.val (.int .u64 n_1))))), (fun _ => none), 0⟩ → Q (.exit 3) s)
    (hr : ∀ s, Ends a83.results 0 (internal_strconv_ParseUint_post o) .ret s → Q .ret s) :
    Sv Tryd.prog (GG mL) 0 (.loop a83_c8) Q ⟨(upd (upd (upd (upd (upd (upd (upd (upd (upd (upd (fun _ => none) 1 (some (I base1))) 8 (some (B (decide (base = 0))))) 9 (some (S s_))) 10 (some (.c (.val (.int .u64 cutoff))))) 11 (some (.c (.val (.int .u64 (wr .u64 (r_ - 1))))))) 12 (some (B underscores))) 13 (some (.c (.val (.int .u64 n_))))) 99 (some (lstV zv99 0 1 v99.length))) 100 (some (I ((ints s_1).length : Int)))) 101 (some (I v101))), (upd (fun _ => none) 0 (lstB zv99 1 (v99.map (eK .u8)))), 1⟩ := by
  refine Sv.loop (I := fun k s => ∃ (underscores : Bool), ∃ (n_ : Int), ∃ (v99 : (List Int)), ∃ (v101 : Int), ∃ (zv99 : Bool), (zv99 = true → v99 = []) ∧ internal_strconv_ParseUint_l0 s_1 base base1 s_ cutoff r_ K3_ k underscores n_ v99 v101 = some o ∧ s = ⟨(upd (upd (upd (upd (upd (upd (upd (upd (upd (upd (fun _ => none) 1 (some (I base1))) 8 (some (B (decide (base = 0))))) 9 (some (S s_))) 10 (some (.c (.val (.int .u64 cutoff))))) 11 (some (.c (.val (.int .u64 (wr .u64 (r_ - 1))))))) 12 (some (B underscores))) 13 (some (.c (.val (.int .u64 n_))))) 99 (some (lstV zv99 0 1 v99.length))) 100 (some (I ((ints s_1).length : Int)))) 101 (some (I v101))), (upd (fun _ => none) 0 (lstB zv99 1 (v99.map (eK .u8)))), 1⟩) (fun k s hI => ?_) ⟨underscores, n_, v99, v101, zv99, hzv99, h, rfl⟩
  clear h
  clear hzv99 zv99 v101 v99 n_ underscores
  obtain ⟨underscores, n_, v99, v101, zv99, hzv99, h, rfl⟩ := hI
  cases k with
  | zero => cases h
  | succ k =>
  rw [internal_strconv_ParseUint_l0] at h
  have hself : ∀ (underscores : Bool) (n_ : Int) (v99 : (List Int)) (v101 : Int) (zv99 : Bool) (_ : zv99 = true → v99 = []), (internal_strconv_ParseUint_l0 s_1 base base1 s_ cutoff r_ K3_ k) underscores n_ v99 v101 = some o → ∀ s, Weak 0 s ⟨(upd (upd (upd (upd (upd (upd (upd (upd (upd (upd (fun _ => none) 1 (some (I base1))) 8 (some (B (decide (base = 0))))) 9 (some (S s_))) 10 (some (.c (.val (.int .u64 cutoff))))) 11 (some (.c (.val (.int .u64 (wr .u64 (r_ - 1))))))) 12 (some (B underscores))) 13 (some (.c (.val (.int .u64 n_))))) 99 (some (lstV zv99 0 1 v99.length))) 100 (some (I ((ints s_1).length : Int)))) 101 (some (I v101))), (upd (fun _ => none) 0 (lstB zv99 1 (v99.map (eK .u8)))), 1⟩ → (AThen (fun s' => ∃ s'' k', Weak 0 s' s'' ∧ k' < k + 1 ∧ (fun k s => ∃ (underscores : Bool), ∃ (n_ : Int), ∃ (v99 : (List Int)), ∃ (v101 : Int), ∃ (zv99 : Bool), (zv99 = true → v99 = []) ∧ internal_strconv_ParseUint_l0 s_1 base base1 s_ cutoff r_ K3_ k underscores n_ v99 v101 = some o ∧ s = ⟨(upd (upd (upd (upd (upd (upd (upd (upd (upd (upd (fun _ => none) 1 (some (I base1))) 8 (some (B (decide (base = 0))))) 9 (some (S s_))) 10 (some (.c (.val (.int .u64 cutoff))))) 11 (some (.c (.val (.int .u64 (wr .u64 (r_ - 1))))))) 12 (some (B underscores))) 13 (some (.c (.val (.int .u64 n_))))) 99 (some (lstV zv99 0 1 v99.length))) 100 (some (I ((ints s_1).length : Int)))) 101 (some (I v101))), (upd (fun _ => none) 0 (lstB zv99 1 (v99.map (eK .u8)))), 1⟩) k' s'') Q) .normal s := fun underscores n_ v99 v101 zv99 hzv99 h s hw => ⟨_, k, hw, Nat.lt_succ_self k, underscores, n_, v99, v101, zv99, hzv99, h, rfl⟩
  refine Sv.seq ?_
  refine Sv.region ?_
  refine un (a1 (v := (B (decide (v101 < ((ints s_1).length : Int))))) rfl ?_)
  refine dnil ?_
  refine Sv.seq ?_
  refine Sv.cond (b := decide (v101 < ((ints s_1).length : Int))) rfl (fun hc2 => ?_) (fun hc2 => ?_)
  · replace h := ifT hc2 h
    refine Sv.skip ?_
    refine Sv.seq ?_
    refine Sv.block ?_
    refine Sv.seq ?_
    refine Sv.region ?_
    obtain ⟨x_, hx2, h⟩ := bnd h
    refine un (a1 (v := (.c (.ref 0 1 v101.toNat 0))) (s_iaddrL rfl rfl hzv99 hx2) ?_)
    refine un (a1 (v := (.c (.val (.int .u8 x_)))) (s_loadL (z := zv99) (e := (eK .u8)) rfl rfl hzv99 hx2 rfl rfl) ?_)
    refine un (a1 rfl ?_)
    refine dnil ?_
    refine Sv.seq ?_
    refine Sv.region ?_
    refine un (a1 rfl ?_)
    refine dnil ?_
    refine Sv.seq ?_
    refine Sv.block ?_
    refine Sv.seq ?_
    refine Sv.region ?_
    refine un (a1 rfl ?_)
    refine un (a1 (v := (B (decide (x_ = 95)))) rfl ?_)
    refine un (a1 rfl ?_)
    refine gjoin 2 (d := 111) (v := (B ((decide (x_ = 95)) && (decide (base = 0))))) (fun X hX => ?_) ?_
    · refine split2 (fun hc7 => ?_) (fun hc7 => ?_)
      · refine gt rfl (a1 rfl ?_)
        refine un (a1 (v := (B (decide (base = 0)))) rfl ?_)
        refine dnil ?_
        exact hX _ (.putEq (by rw [hc7]; rfl) (.skip _ _ (.putEq (by rw [hc7]) (.refl _)) rfl))
      · refine gs rfl rfl ?_
        refine un (a1 (v := (B false)) rfl ?_)
        refine dnil ?_
        exact hX _ (.putEq (by rw [hc7]; rfl) (.skip _ _ (.putEq (by rw [hc7]) (.refl _)) rfl))
    refine un (a1 rfl ?_)
    refine dnil ?_
    refine Sv.cond (b := ((decide (x_ = 95)) && (decide (base = 0)))) rfl (fun hc8 => ?_) (fun hc8 => ?_)
    · replace h := ifT hc8 h
      refine Sv.seq ?_
      refine Sv.region ?_
      refine un (a1 rfl ?_)
      refine dnil ?_
      refine Sv.exit ?_
      exact Sv.weak (weak_canon [0] rfl (by decide) (by decide) (fun b h => absurd h (Nat.not_lt_zero _)) (.cons rfl (avAs_free rfl) (.cons rfl (avAs_free rfl) (.cons rfl (.c (lstC_ren rfl (by decide))) (.cons rfl (avAs_free rfl) (.cons rfl (avAs_free rfl) (.cons rfl (avAs_free rfl) (.cons rfl (avAs_free rfl) (.cons rfl (avAs_free rfl) (.cons rfl (avAs_free rfl) (.cons rfl (avAs_free rfl) .nil)))))))))) (.row (by decide) rfl (fr_map fun _ => rfl) .nil)) (internal_strconv_ParseUint_j20_ok hzv99 h hself hK3 hr)
    · replace h := ifF hc8 h
      refine Sv.seq ?_
      refine Sv.region ?_
      refine un (a1 rfl ?_)
      refine un (a1 (v := (B (decide (48 ≤ x_)))) rfl ?_)
      refine un (a1 rfl ?_)
      refine gjoin 3 (d := 118) (v := (B ((decide (48 ≤ x_)) && (decide (x_ ≤ 57))))) (fun X hX => ?_) ?_
      · refine split2 (fun hc9 => ?_) (fun hc9 => ?_)
        · refine gt rfl (a1 rfl ?_)
          refine gt rfl (a1 (v := (B (decide (x_ ≤ 57)))) rfl ?_)
          refine un (a1 (v := (B (decide (x_ ≤ 57)))) rfl ?_)
          refine dnil ?_
          exact hX _ (.putEq (by rw [hc9]; rfl) (.skip _ _ (.skip _ _ (.putEq (by rw [hc9]) (.refl _)) rfl) rfl))
        · refine gs rfl rfl ?_
          refine gs rfl rfl ?_
          refine un (a1 (v := (B false)) rfl ?_)
          refine dnil ?_
          exact hX _ (.putEq (by rw [hc9]; rfl) (.skip _ _ (.skip _ _ (.putEq (by rw [hc9]) (.refl _)) rfl) rfl))
      refine un (a1 rfl ?_)
      refine dnil ?_
      refine Sv.cond (b := ((decide (48 ≤ x_)) && (decide (x_ ≤ 57)))) rfl (fun hc10 => ?_) (fun hc10 => ?_)
      · replace h := ifT hc10 h
        refine Sv.region ?_
        refine un (a1 rfl ?_)
        refine un (a1 (v := (.c (.val (.int .u8 (wr .u8 (x_ - 48)))))) rfl ?_)
        refine un (a1 rfl ?_)
        refine dnil ?_
        exact Sv.weak (weak_canon [0] rfl (by decide) (by decide) (fun b h => absurd h (Nat.not_lt_zero _)) (.cons rfl (avAs_free rfl) (.cons rfl (avAs_free rfl) (.cons rfl (.c (lstC_ren rfl (by decide))) (.cons rfl (avAs_free rfl) (.cons rfl (avAs_free rfl) (.cons rfl (avAs_free rfl) (.cons rfl (avAs_free rfl) (.cons rfl (avAs_free rfl) (.cons rfl (avAs_free rfl) (.cons rfl (avAs_free rfl) (.cons rfl (avAs_free rfl) .nil))))))))))) (.row (by decide) rfl (fr_map fun _ => rfl) .nil)) (internal_strconv_ParseUint_j21_ok hzv99 h hself hK3 hr)
      · replace h := ifF hc10 h
        refine Sv.seq ?_
        refine Sv.region ?_
        refine un (a1 rfl ?_)
        refine un (ac_pure (internal_strconv_lower_ok (mL := mL) x_) rfl rfl rfl ?_)
        refine un (a1 (v := (B (decide (97 ≤ (internal_strconv_lower x_))))) rfl ?_)
        refine un (a1 rfl ?_)
        refine gjoin 4 (d := 129) (v := (B ((decide (97 ≤ (internal_strconv_lower x_))) && (decide ((internal_strconv_lower x_) ≤ 122))))) (fun X hX => ?_) ?_
        · refine split2 (fun hc11 => ?_) (fun hc11 => ?_)
          · refine gt rfl (a1 rfl ?_)
            refine gt rfl (ac_pure (internal_strconv_lower_ok (mL := mL) x_) rfl rfl rfl ?_)
            refine gt rfl (a1 (v := (B (decide ((internal_strconv_lower x_) ≤ 122)))) rfl ?_)
            refine un (a1 (v := (B (decide ((internal_strconv_lower x_) ≤ 122)))) rfl ?_)
            refine dnil ?_
            exact hX _ (.putEq (by rw [hc11]; rfl) (.skip _ _ (.skip _ _ (.skip _ _ (.putEq (by rw [hc11]) (.refl _)) rfl) rfl) rfl))
          · refine gs rfl rfl ?_
            refine gs rfl rfl ?_
            refine gs rfl rfl ?_
            refine un (a1 (v := (B false)) rfl ?_)
            refine dnil ?_
            exact hX _ (.putEq (by rw [hc11]; rfl) (.skip _ _ (.skip _ _ (.skip _ _ (.putEq (by rw [hc11]) (.refl _)) rfl) rfl) rfl))
        refine un (a1 rfl ?_)
        refine dnil ?_
        refine Sv.cond (b := ((decide (97 ≤ (internal_strconv_lower x_))) && (decide ((internal_strconv_lower x_) ≤ 122)))) rfl (fun hc12 => ?_) (fun hc12 => ?_)
        · replace h := ifT hc12 h
          refine Sv.region ?_
          refine un (a1 rfl ?_)
          refine un (ac_pure (internal_strconv_lower_ok (mL := mL) x_) rfl rfl rfl ?_)
          refine un (a1 (v := (.c (.val (.int .u8 (wr .u8 ((internal_strconv_lower x_) - 97)))))) rfl ?_)
          refine un (a1 (v := (.c (.val (.int .u8 (wr .u8 ((wr .u8 ((internal_strconv_lower x_) - 97)) + 10)))))) rfl ?_)
          refine un (a1 rfl ?_)
          refine dnil ?_
          exact Sv.weak (weak_canon [0] rfl (by decide) (by decide) (fun b h => absurd h (Nat.not_lt_zero _)) (.cons rfl (avAs_free rfl) (.cons rfl (avAs_free rfl) (.cons rfl (.c (lstC_ren rfl (by decide))) (.cons rfl (avAs_free rfl) (.cons rfl (avAs_free rfl) (.cons rfl (avAs_free rfl) (.cons rfl (avAs_free rfl) (.cons rfl (avAs_free rfl) (.cons rfl (avAs_free rfl) (.cons rfl (avAs_free rfl) (.cons rfl (avAs_free rfl) .nil))))))))))) (.row (by decide) rfl (fr_map fun _ => rfl) .nil)) (internal_strconv_ParseUint_j21_ok hzv99 h hself hK3 hr)
        · replace h := ifF hc12 h
          refine Sv.seq ?_
          refine Sv.region ?_
          refine un (a1 rfl ?_)
          refine un (a1 rfl ?_)
          refine un (a1 rfl ?_)
          refine dnil ?_
          refine Sv.ret ?_
          replace h := Option.some.inj h
          subst h
          exact hr _ ⟨_, .refl _, _, rfl, ⟨upd (fun _ => none) 0 (some (.tup [(.c (.val (.int .u64 0))), (.c (.val (.iface 114 (.int .i64 2))))])), (fun _ => none), 0⟩, (.tup [(.c (.val (.int .u64 0))), (.c (.val (.iface 114 (.int .i64 2))))]), weak_canon [] rfl List.nodup_nil (Nat.le_refl _) (fun b h => absurd h (Nat.not_lt_zero _)) (.cons rfl (avAs_tup (.cons (avAs_free rfl) (.cons (avAs_free rfl) .nil))) .nil) .nil, rfl, rfl, rfl, rfl⟩
  · replace h := ifF hc2 h
    refine Sv.exit ?_
    exact hK3 underscores n_ h _ (weak_canon [] rfl (by decide) (by decide) (fun b h => absurd h (Nat.not_lt_zero _)) (.cons rfl (avAs_free rfl) (.cons rfl (avAs_free rfl) (.cons rfl (avAs_free rfl) .nil))) .nil)
abbrev internal_strconv_ParseUint_q2 (mL : Int) (o : (Int × Int)) : AExit → St → Prop := AThen (Sv Tryd.prog (GG mL) 0 a83_c10 (Ends a83.results 0 (internal_strconv_ParseUint_post o))) (Ends a83.results 0 (internal_strconv_ParseUint_post o))
noncomputable def internal_strconv_ParseUint_j22 (n_1 : Int) (v169 : Bool) : Option (Int × Int) :=
  if v169 then
    some (0, 2)
  else
    some (n_1, 0)
theorem internal_strconv_ParseUint_j22_ok {mL : Int} {n_1 : Int} {v169 : Bool} {o : (Int × Int)} (h : internal_strconv_ParseUint_j22 n_1 v169 = some o) :
    Sv Tryd.prog (GG mL) 0 a83_c9 (internal_strconv_ParseUint_q2 mL o) ⟨(upd (upd (fun _ => none) 13 (some (.c (.val (.int .u64 n_1))))) 169 (some (B v169))), (fun _ => none), 0⟩ := by
  unfold internal_strconv_ParseUint_j22 at h
  refine Sv.cond (b := v169) rfl (fun hc13 => ?_) (fun hc13 => ?_)
  · replace h := ifT hc13 h
    refine Sv.seq ?_
    refine Sv.region ?_
    refine un (a1 rfl ?_)
    refine un (a1 rfl ?_)
    refine un (a1 rfl ?_)
    refine dnil ?_
    refine Sv.ret ?_
    replace h := Option.some.inj h
    subst h
    exact ⟨_, .refl _, _, rfl, ⟨upd (fun _ => none) 0 (some (.tup [(.c (.val (.int .u64 0))), (.c (.val (.iface 114 (.int .i64 2))))])), (fun _ => none), 0⟩, (.tup [(.c (.val (.int .u64 0))), (.c (.val (.iface 114 (.int .i64 2))))]), weak_canon [] rfl List.nodup_nil (Nat.le_refl _) (fun b h => absurd h (Nat.not_lt_zero _)) (.cons rfl (avAs_tup (.cons (avAs_free rfl) (.cons (avAs_free rfl) .nil))) .nil) .nil, rfl, rfl, rfl, rfl⟩
  · replace h := ifF hc13 h
    refine Sv.skip ?_
    refine Sv.seq ?_
    refine Sv.region ?_
    refine un (a1 rfl ?_)
    refine un (a1 rfl ?_)
    refine un (a1 rfl ?_)
    refine dnil ?_
    refine Sv.ret ?_
    replace h := Option.some.inj h
    subst h
    exact ⟨_, .refl _, _, rfl, ⟨upd (fun _ => none) 0 (some (.tup [(.c (.val (.int .u64 n_1))), (.c (.val .nilIface))])), (fun _ => none), 0⟩, (.tup [(.c (.val (.int .u64 n_1))), (.c (.val .nilIface))]), weak_canon [] rfl List.nodup_nil (Nat.le_refl _) (fun b h => absurd h (Nat.not_lt_zero _)) (.cons rfl (avAs_tup (.cons (avAs_free rfl) (.cons (avAs_free rfl) .nil))) .nil) .nil, rfl, rfl, rfl, rfl⟩
noncomputable def internal_strconv_ParseUint_j9 (bitSize1 : Int) (s_1 : (List UInt8)) (base : Int) (base1 : Int) (s_ : (List UInt8)) (cutoff : Int) : Option (Int × Int) :=
  (shl? .u64 1 (wr .u64 bitSize1)).bind fun r_ =>
  lim fun kk => internal_strconv_ParseUint_l0 s_1 base base1 s_ cutoff r_ (fun (underscores1 : Bool) (n_1 : Int) => 
      if underscores1 then
        (internal_strconv_underscoreOK s_).bind fun r_1 =>
        internal_strconv_ParseUint_j22 n_1 (!r_1)
      else
        internal_strconv_ParseUint_j22 n_1 false) kk false 0 (ints s_1) 0
theorem internal_strconv_ParseUint_j9_ok {mL : Int} {bitSize1 : Int} {s_1 : (List UInt8)} {base : Int} {base1 : Int} {s_ : (List UInt8)} {cutoff : Int} {o : (Int × Int)} (h : internal_strconv_ParseUint_j9 bitSize1 s_1 base base1 s_ cutoff = some o) :
    Sv Tryd.prog (GG mL) 0 a83_c5 (Ends a83.results 0 (internal_strconv_ParseUint_post o)) ⟨(upd (upd (upd (upd (upd (upd (fun _ => none) 0 (some (S s_1))) 1 (some (I base1))) 2 (some (I bitSize1))) 8 (some (B (decide (base = 0))))) 9 (some (S s_))) 10 (some (.c (.val (.int .u64 cutoff))))), (fun _ => none), 0⟩ := by
  unfold internal_strconv_ParseUint_j9 at h
  refine Sv.seq ?_
  refine Sv.region ?_
  refine un (a1 rfl ?_)
  refine un (a1 (v := (.c (.val (.int .u64 (wr .u64 bitSize1))))) rfl ?_)
  obtain ⟨r_, hx1, h⟩ := bnd h
  refine un (a1 (v := (.c (.val (.int .u64 r_)))) (s_shl rfl rfl hx1) ?_)
  refine un (a1 (v := (.c (.val (.int .u64 (wr .u64 (r_ - 1)))))) rfl ?_)
  refine un (a1 rfl ?_)
  refine dnil ?_
  refine Sv.seq ?_
  refine Sv.region ?_
  refine un (a1 rfl ?_)
  refine dnil ?_
  refine Sv.seq ?_
  refine Sv.region ?_
  refine un (a1 rfl ?_)
  refine dnil ?_
  refine Sv.seq ?_
  refine Sv.seq ?_
  refine Sv.region ?_
  refine un (a1 rfl ?_)
  refine un (a2v (v := (lstV false 0 1 (ints s_1).length)) (h' := upd _ 0 (lstB false 1 ((ints s_1).map (eK .u8)))) (n' := 1) rfl (s_toBytes rfl) (fun h => by cases h) ?_)
  refine un (a1 (v := (I ((ints s_1).length : Int))) (s_lenL rfl (len_nil_of (fun h => by cases h))) ?_)
  refine un (a1 rfl ?_)
  refine dnil ?_
  refine Sv.block ?_
  obtain ⟨kk, h⟩ := lim_some h
  refine Sv.weak (weak_canon [0] rfl (by decide) (by decide) (fun b h => absurd h (Nat.not_lt_zero _)) (.cons rfl (avAs_free rfl) (.cons rfl (avAs_free rfl) (.cons rfl (.c (lstC_ren rfl (by decide))) (.cons rfl (avAs_free rfl) (.cons rfl (avAs_free rfl) (.cons rfl (avAs_free rfl) (.cons rfl (avAs_free rfl) (.cons rfl (avAs_free rfl) (.cons rfl (avAs_free rfl) (.cons rfl (avAs_free rfl) .nil)))))))))) (.row (by decide) rfl (fr_map fun _ => rfl) .nil)) (internal_strconv_ParseUint_l0_ok (fun h => by cases h) h ?_ (fun s hs => hs))
  · intro underscores1 n_1 h _ hw1
    refine Sv.weak hw1 ?_
    refine Sv.seq ?_
    refine Sv.seq ?_
    refine Sv.region ?_
    refine un (a1 rfl ?_)
    refine un (a1 rfl ?_)
    refine split2 (fun hc14 => ?_) (fun hc14 => ?_)
    · replace h := ifT hc14 h
      refine gt rfl (a1 rfl ?_)
      obtain ⟨r_1, hr1, h⟩ := bnd h
      refine gt rfl (ac_pure (internal_strconv_underscoreOK_ok hr1) rfl rfl rfl ?_)
      refine gt rfl (a1 (v := (B (!r_1))) rfl ?_)
      refine un (a1 (v := (B (!r_1))) rfl ?_)
      refine dnil ?_
      exact Sv.weak (weak_canon [] rfl (by decide) (by decide) (fun b h => absurd h (Nat.not_lt_zero _)) (.cons rfl (avAs_free rfl) (.cons rfl (avAs_free rfl) .nil)) .nil) (internal_strconv_ParseUint_j22_ok h)
    · replace h := ifF hc14 h
      refine gs rfl rfl ?_
      refine gs rfl rfl ?_
      refine gs rfl rfl ?_
      refine un (a1 (v := (B false)) rfl ?_)
      refine dnil ?_
      exact Sv.weak (weak_canon [] rfl (by decide) (by decide) (fun b h => absurd h (Nat.not_lt_zero _)) (.cons rfl (avAs_free rfl) (.cons rfl (avAs_free rfl) .nil)) .nil) (internal_strconv_ParseUint_j22_ok h)
noncomputable def internal_strconv_ParseUint_j8 (base1 : Int) (s_1 : (List UInt8)) (base : Int) (s_ : (List UInt8)) (bitSize1 : Int) : Option (Int × Int) :=
  if decide (base1 = 10) then
    internal_strconv_ParseUint_j9 bitSize1 s_1 base base1 s_ 1844674407370955162
  else
    if decide (base1 = 16) then
      internal_strconv_ParseUint_j9 bitSize1 s_1 base base1 s_ 1152921504606846976
    else
      (quo? .u64 18446744073709551615 (wr .u64 base1)).bind fun r_2 =>
      internal_strconv_ParseUint_j9 bitSize1 s_1 base base1 s_ (wr .u64 (r_2 + 1))
theorem internal_strconv_ParseUint_j8_ok {mL : Int} {base1 : Int} {s_1 : (List UInt8)} {base : Int} {s_ : (List UInt8)} {bitSize1 : Int} {o : (Int × Int)} (h : internal_strconv_ParseUint_j8 base1 s_1 base s_ bitSize1 = some o) :
    Sv Tryd.prog (GG mL) 0 a83_c4 (Ends a83.results 0 (internal_strconv_ParseUint_post o)) ⟨(upd (upd (upd (upd (upd (fun _ => none) 0 (some (S s_1))) 1 (some (I base1))) 2 (some (I bitSize1))) 8 (some (B (decide (base = 0))))) 9 (some (S s_))), (fun _ => none), 0⟩ := by
  unfold internal_strconv_ParseUint_j8 at h
  refine Sv.seq ?_
  refine Sv.region ?_
  refine un (a1 rfl ?_)
  refine dnil ?_
  refine Sv.seq ?_
  refine Sv.seq ?_
  refine Sv.region ?_
  refine un (a1 rfl ?_)
  refine dnil ?_
  refine Sv.block ?_
  refine Sv.seq ?_
  refine Sv.region ?_
  refine un (a1 (v := (B (decide (base1 = 10)))) rfl ?_)
  refine un (a1 rfl ?_)
  refine dnil ?_
  refine Sv.cond (b := decide (base1 = 10)) rfl (fun hc15 => ?_) (fun hc15 => ?_)
  · replace h := ifT hc15 h
    refine Sv.region ?_
    refine un (a1 rfl ?_)
    refine dnil ?_
    exact Sv.weak (weak_canon [] rfl (by decide) (by decide) (fun b h => absurd h (Nat.not_lt_zero _)) (.cons rfl (avAs_free rfl) (.cons rfl (avAs_free rfl) (.cons rfl (avAs_free rfl) (.cons rfl (avAs_free rfl) (.cons rfl (avAs_free rfl) (.cons rfl (avAs_free rfl) .nil)))))) .nil) (internal_strconv_ParseUint_j9_ok h)
  · replace h := ifF hc15 h
    refine Sv.seq ?_
    refine Sv.region ?_
    refine un (a1 (v := (B (decide (base1 = 16)))) rfl ?_)
    refine un (a1 rfl ?_)
    refine dnil ?_
    refine Sv.cond (b := decide (base1 = 16)) rfl (fun hc16 => ?_) (fun hc16 => ?_)
    · replace h := ifT hc16 h
      refine Sv.region ?_
      refine un (a1 rfl ?_)
      refine dnil ?_
      exact Sv.weak (weak_canon [] rfl (by decide) (by decide) (fun b h => absurd h (Nat.not_lt_zero _)) (.cons rfl (avAs_free rfl) (.cons rfl (avAs_free rfl) (.cons rfl (avAs_free rfl) (.cons rfl (avAs_free rfl) (.cons rfl (avAs_free rfl) (.cons rfl (avAs_free rfl) .nil)))))) .nil) (internal_strconv_ParseUint_j9_ok h)
    · replace h := ifF hc16 h
      refine Sv.region ?_
      refine un (a1 rfl ?_)
      refine un (a1 (v := (.c (.val (.int .u64 (wr .u64 base1))))) rfl ?_)
      obtain ⟨r_2, hx3, h⟩ := bnd h
      refine un (a1 (v := (.c (.val (.int .u64 r_2)))) (s_quo rfl rfl hx3) ?_)
      refine un (a1 (v := (.c (.val (.int .u64 (wr .u64 (r_2 + 1)))))) rfl ?_)
      refine un (a1 rfl ?_)
      refine dnil ?_
      exact Sv.weak (weak_canon [] rfl (by decide) (by decide) (fun b h => absurd h (Nat.not_lt_zero _)) (.cons rfl (avAs_free rfl) (.cons rfl (avAs_free rfl) (.cons rfl (avAs_free rfl) (.cons rfl (avAs_free rfl) (.cons rfl (avAs_free rfl) (.cons rfl (avAs_free rfl) .nil)))))) .nil) (internal_strconv_ParseUint_j9_ok h)
noncomputable def internal_strconv_ParseUint_j7 (bitSize : Int) (base : Int) (s_ : (List UInt8)) (s_1 : (List UInt8)) (base1 : Int) : Option (Int × Int) :=
  if decide (bitSize = 0) then
    internal_strconv_ParseUint_j8 base1 s_1 base s_ 64
  else
    if ((decide (bitSize < 0)) || (decide (64 < bitSize))) then
      some (0, 4)
    else
      internal_strconv_ParseUint_j8 base1 s_1 base s_ bitSize
theorem internal_strconv_ParseUint_j7_ok {mL : Int} {bitSize : Int} {base : Int} {s_ : (List UInt8)} {s_1 : (List UInt8)} {base1 : Int} {o : (Int × Int)} (h : internal_strconv_ParseUint_j7 bitSize base s_ s_1 base1 = some o) :
    Sv Tryd.prog (GG mL) 0 a83_c3 (Ends a83.results 0 (internal_strconv_ParseUint_post o)) ⟨(upd (upd (upd (upd (upd (fun _ => none) 0 (some (S s_1))) 1 (some (I base1))) 2 (some (I bitSize))) 8 (some (B (decide (base = 0))))) 9 (some (S s_))), (fun _ => none), 0⟩ := by
  unfold internal_strconv_ParseUint_j7 at h
  refine Sv.seq ?_
  refine Sv.seq ?_
  refine Sv.region ?_
  refine un (a1 rfl ?_)
  refine un (a1 (v := (B (decide (bitSize = 0)))) rfl ?_)
  refine dnil ?_
  refine Sv.cond (b := decide (bitSize = 0)) rfl (fun hc17 => ?_) (fun hc17 => ?_)
  · replace h := ifT hc17 h
    refine Sv.region ?_
    refine un (a1 rfl ?_)
    refine dnil ?_
    exact Sv.weak (weak_canon [] rfl (by decide) (by decide) (fun b h => absurd h (Nat.not_lt_zero _)) (.cons rfl (avAs_free rfl) (.cons rfl (avAs_free rfl) (.cons rfl (avAs_free rfl) (.cons rfl (avAs_free rfl) (.cons rfl (avAs_free rfl) .nil))))) .nil) (internal_strconv_ParseUint_j8_ok h)
  · replace h := ifF hc17 h
    refine Sv.seq ?_
    refine Sv.region ?_
    refine un (a1 rfl ?_)
    refine un (a1 (v := (B (decide (bitSize < 0)))) rfl ?_)
    refine un (a1 rfl ?_)
    refine gjoin 3 (d := 83) (v := (B ((decide (bitSize < 0)) || (decide (64 < bitSize))))) (fun X hX => ?_) ?_
    · refine split2 (fun hc18 => ?_) (fun hc18 => ?_)
      · refine gs rfl rfl ?_
        refine gs rfl rfl ?_
        refine un (a1 (v := (B true)) rfl ?_)
        refine dnil ?_
        exact hX _ (.putEq (by rw [hc18]; rfl) (.skip _ _ (.skip _ _ (.putEq (by rw [hc18]) (.refl _)) rfl) rfl))
      · refine gt rfl (a1 rfl ?_)
        refine gt rfl (a1 (v := (B (decide (64 < bitSize)))) rfl ?_)
        refine un (a1 (v := (B (decide (64 < bitSize)))) rfl ?_)
        refine dnil ?_
        exact hX _ (.putEq (by rw [hc18]; rfl) (.skip _ _ (.skip _ _ (.putEq (by rw [hc18]) (.refl _)) rfl) rfl))
    refine dnil ?_
    refine Sv.cond (b := ((decide (bitSize < 0)) || (decide (64 < bitSize)))) rfl (fun hc19 => ?_) (fun hc19 => ?_)
    · replace h := ifT hc19 h
      refine Sv.seq ?_
      refine Sv.region ?_
      refine un (a1 rfl ?_)
      refine un (a1 rfl ?_)
      refine un (a1 rfl ?_)
      refine dnil ?_
      refine Sv.ret ?_
      replace h := Option.some.inj h
      subst h
      exact ⟨_, .refl _, _, rfl, ⟨upd (fun _ => none) 0 (some (.tup [(.c (.val (.int .u64 0))), (.c (.val (.iface 114 (.int .i64 4))))])), (fun _ => none), 0⟩, (.tup [(.c (.val (.int .u64 0))), (.c (.val (.iface 114 (.int .i64 4))))]), weak_canon [] rfl List.nodup_nil (Nat.le_refl _) (fun b h => absurd h (Nat.not_lt_zero _)) (.cons rfl (avAs_tup (.cons (avAs_free rfl) (.cons (avAs_free rfl) .nil))) .nil) .nil, rfl, rfl, rfl, rfl⟩
    · replace h := ifF hc19 h
      refine Sv.skip ?_
      exact Sv.weak (weak_canon [] rfl (by decide) (by decide) (fun b h => absurd h (Nat.not_lt_zero _)) (.cons rfl (avAs_free rfl) (.cons rfl (avAs_free rfl) (.cons rfl (avAs_free rfl) (.cons rfl (avAs_free rfl) (.cons rfl (avAs_free rfl) .nil))))) .nil) (internal_strconv_ParseUint_j8_ok h)
abbrev internal_strconv_ParseUint_q3 (mL : Int) (o : (Int × Int)) : AExit → St → Prop := AThen (Sv Tryd.prog (GG mL) 0 a83_c3 (Ends a83.results 0 (internal_strconv_ParseUint_post o))) (Ends a83.results 0 (internal_strconv_ParseUint_post o))
abbrev internal_strconv_ParseUint_q4 (mL : Int) (o : (Int × Int)) : AExit → St → Prop := ABlock 0 (internal_strconv_ParseUint_q3 mL o)
abbrev internal_strconv_ParseUint_q5 (mL : Int) (o : (Int × Int)) : AExit → St → Prop := ABlock 1 (internal_strconv_ParseUint_q4 mL o)
noncomputable def internal_strconv_ParseUint_j25 (s_ : (List UInt8)) (bitSize : Int) (base : Int) (v64 : Bool) : Option (Int × Int) :=
  if v64 then
    (sub? s_ 2 (s_.length : Int)).bind fun r_5 =>
    internal_strconv_ParseUint_j7 bitSize base s_ r_5 16
  else
    (sub? s_ 1 (s_.length : Int)).bind fun r_6 =>
    internal_strconv_ParseUint_j7 bitSize base s_ r_6 8
theorem internal_strconv_ParseUint_j25_ok {mL : Int} {s_ : (List UInt8)} {bitSize : Int} {base : Int} {v64 : Bool} {o : (Int × Int)} (h : internal_strconv_ParseUint_j25 s_ bitSize base v64 = some o) :
    Sv Tryd.prog (GG mL) 0 a83_c2 (internal_strconv_ParseUint_q5 mL o) ⟨(upd (upd (upd (upd (upd (fun _ => none) 0 (some (S s_))) 2 (some (I bitSize))) 8 (some (B (decide (base = 0))))) 9 (some (S s_))) 64 (some (B v64))), (fun _ => none), 0⟩ := by
  unfold internal_strconv_ParseUint_j25 at h
  refine Sv.cond (b := v64) rfl (fun hc26 => ?_) (fun hc26 => ?_)
  · replace h := ifT hc26 h
    refine Sv.seq ?_
    refine Sv.region ?_
    refine un (a1 rfl ?_)
    refine dnil ?_
    refine Sv.region ?_
    refine un (a1 rfl ?_)
    obtain ⟨r_5, hx7, h⟩ := bnd h
    refine un (a1 (v := (S r_5)) (s_slStr rfl rfl rfl hx7) ?_)
    refine un (a1 rfl ?_)
    refine dnil ?_
    exact Sv.weak (weak_canon [] rfl (by decide) (by decide) (fun b h => absurd h (Nat.not_lt_zero _)) (.cons rfl (avAs_free rfl) (.cons rfl (avAs_free rfl) (.cons rfl (avAs_free rfl) (.cons rfl (avAs_free rfl) (.cons rfl (avAs_free rfl) .nil))))) .nil) (internal_strconv_ParseUint_j7_ok h)
  · replace h := ifF hc26 h
    refine Sv.seq ?_
    refine Sv.region ?_
    refine un (a1 rfl ?_)
    refine dnil ?_
    refine Sv.region ?_
    refine un (a1 rfl ?_)
    obtain ⟨r_6, hx8, h⟩ := bnd h
    refine un (a1 (v := (S r_6)) (s_slStr rfl rfl rfl hx8) ?_)
    refine un (a1 rfl ?_)
    refine dnil ?_
    exact Sv.weak (weak_canon [] rfl (by decide) (by decide) (fun b h => absurd h (Nat.not_lt_zero _)) (.cons rfl (avAs_free rfl) (.cons rfl (avAs_free rfl) (.cons rfl (avAs_free rfl) (.cons rfl (avAs_free rfl) (.cons rfl (avAs_free rfl) .nil))))) .nil) (internal_strconv_ParseUint_j7_ok h)
noncomputable def internal_strconv_ParseUint_j24 (s_ : (List UInt8)) (bitSize : Int) (base : Int) (v52 : Bool) : Option (Int × Int) :=
  if v52 then
    (sub? s_ 2 (s_.length : Int)).bind fun r_4 =>
    internal_strconv_ParseUint_j7 bitSize base s_ r_4 8
  else
    if decide (3 ≤ (s_.length : Int)) then
      (at? s_ 1).bind fun c_1 =>
      internal_strconv_ParseUint_j25 s_ bitSize base (decide ((internal_strconv_lower (c_1.toNat : Int)) = 120))
    else
      internal_strconv_ParseUint_j25 s_ bitSize base false
theorem internal_strconv_ParseUint_j24_ok {mL : Int} {s_ : (List UInt8)} {bitSize : Int} {base : Int} {v52 : Bool} {o : (Int × Int)} (h : internal_strconv_ParseUint_j24 s_ bitSize base v52 = some o) :
    Sv Tryd.prog (GG mL) 0 a83_c1 (internal_strconv_ParseUint_q5 mL o) ⟨(upd (upd (upd (upd (upd (fun _ => none) 0 (some (S s_))) 2 (some (I bitSize))) 8 (some (B (decide (base = 0))))) 9 (some (S s_))) 52 (some (B v52))), (fun _ => none), 0⟩ := by
  unfold internal_strconv_ParseUint_j24 at h
  refine Sv.cond (b := v52) rfl (fun hc25 => ?_) (fun hc25 => ?_)
  · replace h := ifT hc25 h
    refine Sv.seq ?_
    refine Sv.region ?_
    refine un (a1 rfl ?_)
    refine dnil ?_
    refine Sv.region ?_
    refine un (a1 rfl ?_)
    obtain ⟨r_4, hx6, h⟩ := bnd h
    refine un (a1 (v := (S r_4)) (s_slStr rfl rfl rfl hx6) ?_)
    refine un (a1 rfl ?_)
    refine dnil ?_
    exact Sv.weak (weak_canon [] rfl (by decide) (by decide) (fun b h => absurd h (Nat.not_lt_zero _)) (.cons rfl (avAs_free rfl) (.cons rfl (avAs_free rfl) (.cons rfl (avAs_free rfl) (.cons rfl (avAs_free rfl) (.cons rfl (avAs_free rfl) .nil))))) .nil) (internal_strconv_ParseUint_j7_ok h)
  · replace h := ifF hc25 h
    refine Sv.seq ?_
    refine Sv.region ?_
    refine un (a1 rfl ?_)
    refine un (a1 (v := (I (s_.length : Int))) rfl ?_)
    refine un (a1 (v := (B (decide (3 ≤ (s_.length : Int))))) rfl ?_)
    refine un (a1 rfl ?_)
    refine split2 (fun hc27 => ?_) (fun hc27 => ?_)
    · replace h := ifT hc27 h
      refine gt rfl (a1 rfl ?_)
      obtain ⟨c_1, hx9, h⟩ := bnd h
      refine gt rfl (a1 (v := (.c (.val (.int .u8 (c_1.toNat : Int))))) (s_idxS rfl rfl hx9) ?_)
      refine gt rfl (ac_pure (internal_strconv_lower_ok (mL := mL) (c_1.toNat : Int)) rfl rfl rfl ?_)
      refine gt rfl (a1 (v := (B (decide ((internal_strconv_lower (c_1.toNat : Int)) = 120)))) rfl ?_)
      refine un (a1 (v := (B (decide ((internal_strconv_lower (c_1.toNat : Int)) = 120)))) rfl ?_)
      refine un (a1 rfl ?_)
      refine dnil ?_
      exact Sv.weak (weak_canon [] rfl (by decide) (by decide) (fun b h => absurd h (Nat.not_lt_zero _)) (.cons rfl (avAs_free rfl) (.cons rfl (avAs_free rfl) (.cons rfl (avAs_free rfl) (.cons rfl (avAs_free rfl) (.cons rfl (avAs_free rfl) .nil))))) .nil) (internal_strconv_ParseUint_j25_ok h)
    · replace h := ifF hc27 h
      refine gs rfl rfl ?_
      refine gs rfl rfl ?_
      refine gs rfl rfl ?_
      refine gs rfl rfl ?_
      refine un (a1 (v := (B false)) rfl ?_)
      refine un (a1 rfl ?_)
      refine dnil ?_
      exact Sv.weak (weak_canon [] rfl (by decide) (by decide) (fun b h => absurd h (Nat.not_lt_zero _)) (.cons rfl (avAs_free rfl) (.cons rfl (avAs_free rfl) (.cons rfl (avAs_free rfl) (.cons rfl (avAs_free rfl) (.cons rfl (avAs_free rfl) .nil))))) .nil) (internal_strconv_ParseUint_j25_ok h)
noncomputable def internal_strconv_ParseUint_j23 (s_ : (List UInt8)) (bitSize : Int) (base : Int) (v40 : Bool) : Option (Int × Int) :=
  if v40 then
    (sub? s_ 2 (s_.length : Int)).bind fun r_3 =>
    internal_strconv_ParseUint_j7 bitSize base s_ r_3 2
  else
    if decide (3 ≤ (s_.length : Int)) then
      (at? s_ 1).bind fun c_2 =>
      internal_strconv_ParseUint_j24 s_ bitSize base (decide ((internal_strconv_lower (c_2.toNat : Int)) = 111))
    else
      internal_strconv_ParseUint_j24 s_ bitSize base false
theorem internal_strconv_ParseUint_j23_ok {mL : Int} {s_ : (List UInt8)} {bitSize : Int} {base : Int} {v40 : Bool} {o : (Int × Int)} (h : internal_strconv_ParseUint_j23 s_ bitSize base v40 = some o) :
    Sv Tryd.prog (GG mL) 0 a83_c0 (internal_strconv_ParseUint_q5 mL o) ⟨(upd (upd (upd (upd (upd (fun _ => none) 0 (some (S s_))) 2 (some (I bitSize))) 8 (some (B (decide (base = 0))))) 9 (some (S s_))) 40 (some (B v40))), (fun _ => none), 0⟩ := by
  unfold internal_strconv_ParseUint_j23 at h
  refine Sv.cond (b := v40) rfl (fun hc24 => ?_) (fun hc24 => ?_)
  · replace h := ifT hc24 h
    refine Sv.seq ?_
    refine Sv.region ?_
    refine un (a1 rfl ?_)
    refine dnil ?_
    refine Sv.region ?_
    refine un (a1 rfl ?_)
    obtain ⟨r_3, hx5, h⟩ := bnd h
    refine un (a1 (v := (S r_3)) (s_slStr rfl rfl rfl hx5) ?_)
    refine un (a1 rfl ?_)
    refine dnil ?_
    exact Sv.weak (weak_canon [] rfl (by decide) (by decide) (fun b h => absurd h (Nat.not_lt_zero _)) (.cons rfl (avAs_free rfl) (.cons rfl (avAs_free rfl) (.cons rfl (avAs_free rfl) (.cons rfl (avAs_free rfl) (.cons rfl (avAs_free rfl) .nil))))) .nil) (internal_strconv_ParseUint_j7_ok h)
  · replace h := ifF hc24 h
    refine Sv.seq ?_
    refine Sv.region ?_
    refine un (a1 rfl ?_)
    refine un (a1 (v := (I (s_.length : Int))) rfl ?_)
    refine un (a1 (v := (B (decide (3 ≤ (s_.length : Int))))) rfl ?_)
    refine un (a1 rfl ?_)
    refine split2 (fun hc28 => ?_) (fun hc28 => ?_)
    · replace h := ifT hc28 h
      refine gt rfl (a1 rfl ?_)
      obtain ⟨c_2, hx10, h⟩ := bnd h
      refine gt rfl (a1 (v := (.c (.val (.int .u8 (c_2.toNat : Int))))) (s_idxS rfl rfl hx10) ?_)
      refine gt rfl (ac_pure (internal_strconv_lower_ok (mL := mL) (c_2.toNat : Int)) rfl rfl rfl ?_)
      refine gt rfl (a1 (v := (B (decide ((internal_strconv_lower (c_2.toNat : Int)) = 111)))) rfl ?_)
      refine un (a1 (v := (B (decide ((internal_strconv_lower (c_2.toNat : Int)) = 111)))) rfl ?_)
      refine un (a1 rfl ?_)
      refine dnil ?_
      exact Sv.weak (weak_canon [] rfl (by decide) (by decide) (fun b h => absurd h (Nat.not_lt_zero _)) (.cons rfl (avAs_free rfl) (.cons rfl (avAs_free rfl) (.cons rfl (avAs_free rfl) (.cons rfl (avAs_free rfl) (.cons rfl (avAs_free rfl) .nil))))) .nil) (internal_strconv_ParseUint_j24_ok h)
    · replace h := ifF hc28 h
      refine gs rfl rfl ?_
      refine gs rfl rfl ?_
      refine gs rfl rfl ?_
      refine gs rfl rfl ?_
      refine un (a1 (v := (B false)) rfl ?_)
      refine un (a1 rfl ?_)
      refine dnil ?_
      exact Sv.weak (weak_canon [] rfl (by decide) (by decide) (fun b h => absurd h (Nat.not_lt_zero _)) (.cons rfl (avAs_free rfl) (.cons rfl (avAs_free rfl) (.cons rfl (avAs_free rfl) (.cons rfl (avAs_free rfl) (.cons rfl (avAs_free rfl) .nil))))) .nil) (internal_strconv_ParseUint_j24_ok h)
/-- internal/strconv.ParseUint -/
noncomputable def internal_strconv_ParseUint (s_ : (List UInt8)) (base : Int) (bitSize : Int) : Option (Int × Int) :=
  if decide (s_ = []) then
    some (0, 2)
  else
    if ((decide (2 ≤ base)) && (decide (base ≤ 36))) then
      internal_strconv_ParseUint_j7 bitSize base s_ s_ base
    else
      if decide (base = 0) then
        (at? s_ 0).bind fun c_ =>
        if decide ((c_.toNat : Int) = 48) then
          if decide (3 ≤ (s_.length : Int)) then
            (at? s_ 1).bind fun c_3 =>
            internal_strconv_ParseUint_j23 s_ bitSize base (decide ((internal_strconv_lower (c_3.toNat : Int)) = 98))
          else
            internal_strconv_ParseUint_j23 s_ bitSize base false
        else
          internal_strconv_ParseUint_j7 bitSize base s_ s_ 10
      else
        some (0, 3)
theorem internal_strconv_ParseUint_ok {mL : Int} {s_ : (List UInt8)} {base : Int} {bitSize : Int} {r : (Int × Int)} (h : internal_strconv_ParseUint s_ base bitSize = some r) : CPure Tryd.prog (GG mL) 83 [(S s_), (I base), (I bitSize)] (.tup [(.c (.val (.int .u64 r.1))), (.c (ierrC 114 r.2))]) := by
  refine acalls_of_sv hmix c83 (R := internal_strconv_ParseUint_post r) ?_
  unfold internal_strconv_ParseUint at h
  refine Sv.seq ?_
  refine Sv.region ?_
  refine un (a1 rfl ?_)
  refine un (a1 rfl ?_)
  refine dnil ?_
  refine Sv.seq ?_
  refine Sv.seq ?_
  refine Sv.region ?_
  refine un (a1 rfl ?_)
  refine un (a1 (v := (B (decide (s_ = [])))) rfl ?_)
  refine dnil ?_
  refine Sv.cond (b := decide (s_ = [])) rfl (fun hc1 => ?_) (fun hc1 => ?_)
  · replace h := ifT hc1 h
    refine Sv.seq ?_
    refine Sv.region ?_
    refine un (a1 rfl ?_)
    refine un (a1 rfl ?_)
    refine un (a1 rfl ?_)
    refine dnil ?_
    refine Sv.ret ?_
    replace h := Option.some.inj h
    subst h
    exact ⟨_, .refl _, _, rfl, ⟨upd (fun _ => none) 0 (some (.tup [(.c (.val (.int .u64 0))), (.c (.val (.iface 114 (.int .i64 2))))])), (fun _ => none), 0⟩, (.tup [(.c (.val (.int .u64 0))), (.c (.val (.iface 114 (.int .i64 2))))]), weak_canon [] rfl List.nodup_nil (Nat.le_refl _) (fun b h => absurd h (Nat.not_lt_zero _)) (.cons rfl (avAs_tup (.cons (avAs_free rfl) (.cons (avAs_free rfl) .nil))) .nil) .nil, rfl, rfl, rfl, rfl⟩
  · replace h := ifF hc1 h
    refine Sv.skip ?_
    refine Sv.seq ?_
    refine Sv.region ?_
    refine un (a1 rfl ?_)
    refine un (a1 (v := (B (decide (base = 0)))) rfl ?_)
    refine un (a1 rfl ?_)
    refine dnil ?_
    refine Sv.seq ?_
    refine Sv.region ?_
    refine un (a1 rfl ?_)
    refine un (a1 rfl ?_)
    refine dnil ?_
    refine Sv.seq ?_
    refine Sv.block ?_
    refine Sv.seq ?_
    refine Sv.region ?_
    refine un (a1 rfl ?_)
    refine un (a1 (v := (B (decide (2 ≤ base)))) rfl ?_)
    refine un (a1 rfl ?_)
    refine gjoin 3 (d := 31) (v := (B ((decide (2 ≤ base)) && (decide (base ≤ 36))))) (fun X hX => ?_) ?_
    · refine split2 (fun hc20 => ?_) (fun hc20 => ?_)
      · refine gt rfl (a1 rfl ?_)
        refine gt rfl (a1 (v := (B (decide (base ≤ 36)))) rfl ?_)
        refine un (a1 (v := (B (decide (base ≤ 36)))) rfl ?_)
        refine dnil ?_
        exact hX _ (.putEq (by rw [hc20]; rfl) (.skip _ _ (.skip _ _ (.putEq (by rw [hc20]) (.refl _)) rfl) rfl))
      · refine gs rfl rfl ?_
        refine gs rfl rfl ?_
        refine un (a1 (v := (B false)) rfl ?_)
        refine dnil ?_
        exact hX _ (.putEq (by rw [hc20]; rfl) (.skip _ _ (.skip _ _ (.putEq (by rw [hc20]) (.refl _)) rfl) rfl))
    refine un (a1 rfl ?_)
    refine dnil ?_
    refine Sv.cond (b := ((decide (2 ≤ base)) && (decide (base ≤ 36)))) rfl (fun hc21 => ?_) (fun hc21 => ?_)
    · replace h := ifT hc21 h
      refine Sv.skip ?_
      exact Sv.weak (weak_canon [] rfl (by decide) (by decide) (fun b h => absurd h (Nat.not_lt_zero _)) (.cons rfl (avAs_free rfl) (.cons rfl (avAs_free rfl) (.cons rfl (avAs_free rfl) (.cons rfl (avAs_free rfl) (.cons rfl (avAs_free rfl) .nil))))) .nil) (internal_strconv_ParseUint_j7_ok h)
    · replace h := ifF hc21 h
      refine Sv.seq ?_
      refine Sv.region ?_
      refine un (a1 rfl ?_)
      refine un (a1 (v := (B (decide (base = 0)))) rfl ?_)
      refine un (a1 rfl ?_)
      refine dnil ?_
      refine Sv.cond (b := decide (base = 0)) rfl (fun hc22 => ?_) (fun hc22 => ?_)
      · replace h := ifT hc22 h
        refine Sv.seq ?_
        refine Sv.region ?_
        refine un (a1 rfl ?_)
        refine dnil ?_
        refine Sv.seq ?_
        refine Sv.region ?_
        refine un (a1 rfl ?_)
        obtain ⟨c_, hx4, h⟩ := bnd h
        refine un (a1 (v := (.c (.val (.int .u8 (c_.toNat : Int))))) (s_idxS rfl rfl hx4) ?_)
        refine un (a1 (v := (B (decide ((c_.toNat : Int) = 48)))) rfl ?_)
        refine dnil ?_
        refine Sv.cond (b := decide ((c_.toNat : Int) = 48)) rfl (fun hc23 => ?_) (fun hc23 => ?_)
        · replace h := ifT hc23 h
          refine Sv.block ?_
          refine Sv.seq ?_
          refine Sv.region ?_
          refine un (a1 rfl ?_)
          refine un (a1 (v := (I (s_.length : Int))) rfl ?_)
          refine un (a1 (v := (B (decide (3 ≤ (s_.length : Int))))) rfl ?_)
          refine un (a1 rfl ?_)
          refine split2 (fun hc29 => ?_) (fun hc29 => ?_)
          · replace h := ifT hc29 h
            refine gt rfl (a1 rfl ?_)
            obtain ⟨c_3, hx11, h⟩ := bnd h
            refine gt rfl (a1 (v := (.c (.val (.int .u8 (c_3.toNat : Int))))) (s_idxS rfl rfl hx11) ?_)
            refine gt rfl (ac_pure (internal_strconv_lower_ok (mL := mL) (c_3.toNat : Int)) rfl rfl rfl ?_)
            refine gt rfl (a1 (v := (B (decide ((internal_strconv_lower (c_3.toNat : Int)) = 98)))) rfl ?_)
            refine un (a1 (v := (B (decide ((internal_strconv_lower (c_3.toNat : Int)) = 98)))) rfl ?_)
            refine un (a1 rfl ?_)
            refine dnil ?_
            exact Sv.weak (weak_canon [] rfl (by decide) (by decide) (fun b h => absurd h (Nat.not_lt_zero _)) (.cons rfl (avAs_free rfl) (.cons rfl (avAs_free rfl) (.cons rfl (avAs_free rfl) (.cons rfl (avAs_free rfl) (.cons rfl (avAs_free rfl) .nil))))) .nil) (internal_strconv_ParseUint_j23_ok h)
          · replace h := ifF hc29 h
            refine gs rfl rfl ?_
            refine gs rfl rfl ?_
            refine gs rfl rfl ?_
            refine gs rfl rfl ?_
            refine un (a1 (v := (B false)) rfl ?_)
            refine un (a1 rfl ?_)
            refine dnil ?_
            exact Sv.weak (weak_canon [] rfl (by decide) (by decide) (fun b h => absurd h (Nat.not_lt_zero _)) (.cons rfl (avAs_free rfl) (.cons rfl (avAs_free rfl) (.cons rfl (avAs_free rfl) (.cons rfl (avAs_free rfl) (.cons rfl (avAs_free rfl) .nil))))) .nil) (internal_strconv_ParseUint_j23_ok h)
        · replace h := ifF hc23 h
          refine Sv.skip ?_
          exact Sv.weak (weak_canon [] rfl (by decide) (by decide) (fun b h => absurd h (Nat.not_lt_zero _)) (.cons rfl (avAs_free rfl) (.cons rfl (avAs_free rfl) (.cons rfl (avAs_free rfl) (.cons rfl (avAs_free rfl) (.cons rfl (avAs_free rfl) .nil))))) .nil) (internal_strconv_ParseUint_j7_ok h)
      · replace h := ifF hc22 h
        refine Sv.seq ?_
        refine Sv.region ?_
        refine un (a1 rfl ?_)
        refine un (a1 rfl ?_)
        refine un (a1 rfl ?_)
        refine dnil ?_
        refine Sv.ret ?_
        replace h := Option.some.inj h
        subst h
        exact ⟨_, .refl _, _, rfl, ⟨upd (fun _ => none) 0 (some (.tup [(.c (.val (.int .u64 0))), (.c (.val (.iface 114 (.int .i64 3))))])), (fun _ => none), 0⟩, (.tup [(.c (.val (.int .u64 0))), (.c (.val (.iface 114 (.int .i64 3))))]), weak_canon [] rfl List.nodup_nil (Nat.le_refl _) (fun b h => absurd h (Nat.not_lt_zero _)) (.cons rfl (avAs_tup (.cons (avAs_free rfl) (.cons (avAs_free rfl) .nil))) .nil) .nil, rfl, rfl, rfl, rfl⟩
noncomputable abbrev strconv_toError (fn_ : (List UInt8)) (s_ : (List UInt8)) (base_ : Int) (bitSize_ : Int) (err_ : Int) : Option Bool := toError? fn_ s_ base_ bitSize_ err_
/-- strconv.toError, by the contract of the shelf -/
theorem strconv_toError_ok {mL : Int} {fn_ : (List UInt8)} {s_ : (List UInt8)} {base_ : Int} {bitSize_ : Int} {err_ : Int} {r : Bool} (h : strconv_toError fn_ s_ base_ bitSize_ err_ = some r) : CPure Tryd.prog (GG mL) 84 [(S fn_), (S s_), (I base_), (I bitSize_), (.c (ierrC 114 err_))] (.c (errC r)) := toError_ok Tryd.laysC245 (by kernel_rfl) (by kernel_rfl) (by kernel_rfl) h
def a60 : AFunc := ⟨3, [(.tmp 6), (.tmp 7)], (.seq (.region [⟨(some 6), (.mov (.const (.c (.val (.int .u64 0))))), none⟩, ⟨(some 7), (.mov (.const (.c (.val .nilIface)))), none⟩])
 (.seq (.region [⟨(some 11), (.mov (.tmp 0)), none⟩, ⟨(some 12), (.mov (.tmp 1)), none⟩, ⟨(some 13), (.mov (.tmp 2)), none⟩, ⟨(some 14), (.call 83 [(.tmp 11), (.tmp 12), (.tmp 13)]), none⟩, ⟨(some 10), (.mov (.tmp 14)), none⟩, ⟨(some 15), (.ext (.tmp 10) 0), none⟩, ⟨(some 16), (.ext (.tmp 10) 1), none⟩, ⟨(some 8), (.mov (.tmp 15)), none⟩, ⟨(some 9), (.mov (.tmp 16)), none⟩])
 (.seq (.seq (.region [⟨(some 17), (.mov (.tmp 9)), none⟩, ⟨(some 18), (.eqi true (.tmp 17)), none⟩])
 (.cond (.tmp 18) (.seq (.region [⟨(some 19), (.mov (.tmp 8)), none⟩, ⟨(some 20), (.mov (.tmp 0)), none⟩, ⟨(some 21), (.mov (.tmp 1)), none⟩, ⟨(some 22), (.mov (.tmp 2)), none⟩, ⟨(some 23), (.mov (.tmp 9)), none⟩, ⟨(some 24), (.call 84 [(.const (.c (.str [80, 97, 114, 115, 101, 85, 105, 110, 116]))), (.tmp 20), (.tmp 21), (.tmp 22), (.tmp 23)]), none⟩, ⟨(some 6), (.mov (.tmp 19)), none⟩, ⟨(some 7), (.mov (.tmp 24)), none⟩])
 .ret) .skip))
 (.seq (.region [⟨(some 25), (.mov (.tmp 8)), none⟩, ⟨(some 6), (.mov (.tmp 25)), none⟩, ⟨(some 7), (.mov (.const (.c (.val .nilIface)))), none⟩])
 .ret))))⟩
set_option maxRecDepth 100000 in
theorem c60 : compFunc Tryd.prog 60 = some a60 := by kernel_rfl
def strconv_ParseUint_post (r : (Int × Bool)) : AV → Heap → Nat → Prop := fun v h' n' => v = (.tup [(.c (.val (.int .u64 r.1))), (.c (errC r.2))]) ∧ (h' = (fun _ => none)) ∧ n' = 0
/-- strconv.ParseUint -/
noncomputable def strconv_ParseUint (s_ : (List UInt8)) (base : Int) (bitSize : Int) : Option (Int × Bool) :=
  (internal_strconv_ParseUint s_ base bitSize).bind fun r_ =>
  if !decide (r_.2 = 0) then
    (strconv_toError [80, 97, 114, 115, 101, 85, 105, 110, 116] s_ base bitSize r_.2).bind fun r_1 =>
    some (r_.1, r_1)
  else
    some (r_.1, false)
theorem strconv_ParseUint_ok {mL : Int} {s_ : (List UInt8)} {base : Int} {bitSize : Int} {r : (Int × Bool)} (h : strconv_ParseUint s_ base bitSize = some r) : CPure Tryd.prog (GG mL) 60 [(S s_), (I base), (I bitSize)] (.tup [(.c (.val (.int .u64 r.1))), (.c (errC r.2))]) := by
  refine acalls_of_sv hmix c60 (R := strconv_ParseUint_post r) ?_
  unfold strconv_ParseUint at h
  refine Sv.seq ?_
  refine Sv.region ?_
  refine un (a1 rfl ?_)
  refine un (a1 rfl ?_)
  refine dnil ?_
  refine Sv.seq ?_
  refine Sv.region ?_
  refine un (a1 rfl ?_)
  refine un (a1 rfl ?_)
  refine un (a1 rfl ?_)
  obtain ⟨r_, hr1, h⟩ := bnd h
  refine un (ac_pure (internal_strconv_ParseUint_ok hr1) rfl rfl (by simp only [AV.free, freeL, List.all_cons, List.all_nil, errC_free, ierrC_free] <;> rfl) ?_)
  refine un (a1 rfl ?_)
  refine un (a1 (v := (.c (.val (.int .u64 r_.1)))) rfl ?_)
  refine un (a1 (v := (.c (ierrC 114 r_.2))) rfl ?_)
  refine un (a1 rfl ?_)
  refine un (a1 rfl ?_)
  refine dnil ?_
  refine Sv.seq ?_
  refine Sv.seq ?_
  refine Sv.region ?_
  refine un (a1 rfl ?_)
  refine un (a1 (v := (B (!decide (r_.2 = 0)))) (s_eqie (neg := true) (T := 114) (k := r_.2) rfl) ?_)
  refine dnil ?_
  refine Sv.cond (b := !decide (r_.2 = 0)) rfl (fun hc1 => ?_) (fun hc1 => ?_)
  · replace h := ifT hc1 h
    refine Sv.seq ?_
    refine Sv.region ?_
    refine un (a1 rfl ?_)
    refine un (a1 rfl ?_)
    refine un (a1 rfl ?_)
    refine un (a1 rfl ?_)
    refine un (a1 rfl ?_)
    obtain ⟨r_1, hr2, h⟩ := bnd h
    refine un (ac_lend (h2 := _) (strconv_toError_ok hr2) rfl (.cons (avAs_free rfl) (.cons (avAs_free rfl) (.cons (avAs_free rfl) (.cons (avAs_free rfl) (.cons (.c (.same (ierrC_free _ _))) .nil))))) (hsub_refl _) (by simp only [AV.free, freeL, List.all_cons, List.all_nil, errC_free, ierrC_free] <;> rfl) (by simp only [AV.free, freeL, List.all_cons, List.all_nil, errC_free, ierrC_free] <;> rfl) (.inl rfl) ?_)
    refine un (a1 rfl ?_)
    refine un (a1 rfl ?_)
    refine dnil ?_
    refine Sv.ret ?_
    replace h := Option.some.inj h
    subst h
    exact ⟨_, .refl _, _, rfl, ⟨upd (fun _ => none) 0 (some (.tup [(.c (.val (.int .u64 r_.1))), (.c (errC r_1))])), (fun _ => none), 0⟩, (.tup [(.c (.val (.int .u64 r_.1))), (.c (errC r_1))]), weak_canon [] rfl List.nodup_nil (Nat.le_refl _) (fun b h => absurd h (Nat.not_lt_zero _)) (.cons rfl (avAs_tup (.cons (avAs_free rfl) (.cons (.c (.same (errC_free _))) .nil))) .nil) .nil, rfl, rfl, rfl, rfl⟩
  · replace h := ifF hc1 h
    refine Sv.skip ?_
    refine Sv.seq ?_
    refine Sv.region ?_
    refine un (a1 rfl ?_)
    refine un (a1 rfl ?_)
    refine un (a1 rfl ?_)
    refine dnil ?_
    refine Sv.ret ?_
    replace h := Option.some.inj h
    subst h
    exact ⟨_, .refl _, _, rfl, ⟨upd (fun _ => none) 0 (some (.tup [(.c (.val (.int .u64 r_.1))), (.c (.val .nilIface))])), (fun _ => none), 0⟩, (.tup [(.c (.val (.int .u64 r_.1))), (.c (.val .nilIface))]), weak_canon [] rfl List.nodup_nil (Nat.le_refl _) (fun b h => absurd h (Nat.not_lt_zero _)) (.cons rfl (avAs_tup (.cons (avAs_free rfl) (.cons (avAs_free rfl) .nil))) .nil) .nil, rfl, rfl, rfl, rfl⟩
def a37_c0 : ACode := (.seq (.region [⟨(some 22), (.bin .lss (.tmp 21) (.tmp 20)), none⟩])
 (.seq (.cond (.tmp 22) .skip (.exit 0))
 (.seq (.block 1 (.seq (.region [⟨(some 23), (.mov (.tmp 21)), none⟩, ⟨(some 5), (.mov (.tmp 23)), none⟩])
 (.region [⟨(some 24), (.mov (.tmp 0)), none⟩, ⟨(some 25), (.mov (.tmp 5)), none⟩, ⟨(some 26), (.mov (.tmp 5)), none⟩, ⟨(some 27), (.bin .add (.tmp 26) (.const (.c (.val (.int .i64 1))))), none⟩, ⟨(some 28), (.slStr (.tmp 24) (some (.tmp 25)) (some (.tmp 27))), none⟩, ⟨(some 29), (.call 58 [(.tmp 28), (.const (.c (.val (.int .i64 2))))]), none⟩, ⟨(some 30), (.call 57 [(.tmp 4), (.tmp 29)]), none⟩])))
 (.region [⟨(some 31), (.bin .add (.tmp 21) (.const (.c (.val (.int .i64 1))))), none⟩, ⟨(some 21), (.mov (.tmp 31)), none⟩]))))
def a37_c2 : ACode := (.seq (.region [⟨(some 39), (.mov (.tmp 0)), none⟩, ⟨(some 40), (.call 60 [(.tmp 39), (.const (.c (.val (.int .i64 16)))), (.const (.c (.val (.int .i64 64))))]), none⟩, ⟨(some 38), (.mov (.tmp 40)), none⟩, ⟨(some 41), (.ext (.tmp 38) 0), none⟩, ⟨(some 42), (.ext (.tmp 38) 1), none⟩, ⟨(some 6), (.mov (.tmp 41)), none⟩, ⟨(some 7), (.mov (.tmp 42)), none⟩])
 (.seq (.region [⟨(some 43), (.mov (.tmp 6)), none⟩, ⟨(some 44), (.conv .i64 (.tmp 43)), none⟩, ⟨(some 45), (.mov (.tmp 7)), none⟩, ⟨(some 46), (.eqi false (.tmp 45)), none⟩, ⟨(some 47), (.mov (.tmp 46)), none⟩, ⟨(some 48), (.mov (.tmp 0)), (some (47, true))⟩, ⟨(some 49), (.lenS (.tmp 48)), (some (47, true))⟩, ⟨(some 50), (.bin .eql (.tmp 49) (.const (.c (.val (.int .i64 8))))), (some (47, true))⟩, ⟨(some 51), (.pick (.tmp 47) (.tmp 50) (.const (.c (.val (.bool false))))), none⟩, ⟨(some 2), (.mov (.tmp 44)), none⟩, ⟨(some 3), (.mov (.tmp 51)), none⟩])
 .ret))
def a37_c1 : ACode := (.seq (.seq (.region [⟨(some 33), (.mov (.tmp 0)), none⟩, ⟨(some 34), (.lenS (.tmp 33)), none⟩, ⟨(some 35), (.bin .eql (.tmp 34) (.const (.c (.val (.int .i64 6))))), none⟩])
 (.cond (.tmp 35) (.region [⟨(some 36), (.mov (.tmp 0)), none⟩, ⟨(some 37), (.bin .add (.tmp 36) (.const (.c (.str [102, 102])))), none⟩, ⟨(some 0), (.mov (.tmp 37)), none⟩]) .skip))
 a37_c2)
def a37 : AFunc := ⟨1, [(.tmp 2), (.tmp 3)], (.seq (.region [⟨(some 2), (.mov (.const (.c (.val (.int .i64 0))))), none⟩, ⟨(some 3), (.mov (.const (.c (.val (.bool false))))), none⟩])
 (.seq (.seq (.region [⟨(some 8), (.mov (.tmp 0)), none⟩, ⟨(some 9), (.call 56 [(.tmp 8), (.const (.c (.str [48, 49, 50, 51, 52, 53, 54, 55, 56, 57, 97, 98, 99, 100, 101, 102])))]), none⟩, ⟨(some 10), (.bin .neq (.tmp 9) (.const (.c (.str [])))), none⟩])
 (.cond (.tmp 10) (.seq (.region [⟨(some 2), (.mov (.const (.c (.val (.int .i64 0))))), none⟩, ⟨(some 3), (.mov (.const (.c (.val (.bool false))))), none⟩])
 .ret) .skip))
 (.seq (.seq (.region [⟨(some 11), (.mov (.tmp 0)), none⟩, ⟨(some 12), (.lenS (.tmp 11)), none⟩, ⟨(some 13), (.bin .eql (.tmp 12) (.const (.c (.val (.int .i64 3))))), none⟩, ⟨(some 14), (.mov (.tmp 13)), none⟩, ⟨(some 15), (.mov (.tmp 0)), (some (14, false))⟩, ⟨(some 16), (.lenS (.tmp 15)), (some (14, false))⟩, ⟨(some 17), (.bin .eql (.tmp 16) (.const (.c (.val (.int .i64 4))))), (some (14, false))⟩, ⟨(some 18), (.pick (.tmp 14) (.const (.c (.val (.bool true)))) (.tmp 17)), none⟩])
 (.cond (.tmp 18) (.seq (.region [⟨(some 4), (.boxB 68), none⟩])
 (.seq (.seq (.region [⟨(some 19), (.mov (.tmp 0)), none⟩, ⟨(some 20), (.lenS (.tmp 19)), none⟩, ⟨(some 21), (.mov (.const (.c (.val (.int .i64 0))))), none⟩])
 (.block 0 (.loop a37_c0)))
 (.region [⟨(some 32), (.call 59 [(.tmp 4)]), none⟩, ⟨(some 0), (.mov (.tmp 32)), none⟩]))) .skip))
 a37_c1)))⟩
set_option maxRecDepth 100000 in
theorem c37 : compFunc Tryd.prog 37 = some a37 := by kernel_rfl
def color_hex_post (r : (Int × Bool)) : AV → Heap → Nat → Prop := fun v h' n' => v = (.tup [(I r.1), (B r.2)]) ∧ (h' = (fun _ => none)) ∧ n' = 0
noncomputable def color_hex_j2 (s_2 : (List UInt8)) : Option (Int × Bool) :=
  (strconv_ParseUint s_2 16 64).bind fun r_1 =>
  some ((wr .i64 r_1.1), ((!r_1.2) && (decide ((s_2.length : Int) = 8))))
theorem color_hex_j2_ok {mL : Int} {s_2 : (List UInt8)} {o : (Int × Bool)} (h : color_hex_j2 s_2 = some o) :
    Sv Tryd.prog (GG mL) 0 a37_c2 (Ends a37.results 0 (color_hex_post o)) ⟨(upd (fun _ => none) 0 (some (S s_2))), (fun _ => none), 0⟩ := by
  unfold color_hex_j2 at h
  refine Sv.seq ?_
  refine Sv.region ?_
  refine un (a1 rfl ?_)
  obtain ⟨r_1, hr2, h⟩ := bnd h
  refine un (ac_pure (strconv_ParseUint_ok hr2) rfl rfl (by simp only [AV.free, freeL, List.all_cons, List.all_nil, errC_free, ierrC_free] <;> rfl) ?_)
  refine un (a1 rfl ?_)
  refine un (a1 (v := (.c (.val (.int .u64 r_1.1)))) rfl ?_)
  refine un (a1 (v := (.c (errC r_1.2))) rfl ?_)
  refine un (a1 rfl ?_)
  refine un (a1 rfl ?_)
  refine dnil ?_
  refine Sv.seq ?_
  refine Sv.region ?_
  refine un (a1 rfl ?_)
  refine un (a1 (v := (I (wr .i64 r_1.1))) rfl ?_)
  refine un (a1 rfl ?_)
  refine un (a1 (v := (B (!r_1.2))) (s_eqe (neg := false) (b := r_1.2) rfl) ?_)
  refine un (a1 rfl ?_)
  refine gjoin 4 (d := 51) (v := (B ((!r_1.2) && (decide ((s_2.length : Int) = 8))))) (fun X hX => ?_) ?_
  · refine split2 (fun hc2 => ?_) (fun hc2 => ?_)
    · refine gt rfl (a1 rfl ?_)
      refine gt rfl (a1 (v := (I (s_2.length : Int))) rfl ?_)
      refine gt rfl (a1 (v := (B (decide ((s_2.length : Int) = 8)))) rfl ?_)
      refine un (a1 (v := (B (decide ((s_2.length : Int) = 8)))) rfl ?_)
      refine dnil ?_
      exact hX _ (.putEq (by rw [hc2]; rfl) (.skip _ _ (.skip _ _ (.skip _ _ (.putEq (by rw [hc2]) (.refl _)) rfl) rfl) rfl))
    · refine gs rfl rfl ?_
      refine gs rfl rfl ?_
      refine gs rfl rfl ?_
      refine un (a1 (v := (B false)) rfl ?_)
      refine dnil ?_
      exact hX _ (.putEq (by rw [hc2]; rfl) (.skip _ _ (.skip _ _ (.skip _ _ (.putEq (by rw [hc2]) (.refl _)) rfl) rfl) rfl))
  refine un (a1 rfl ?_)
  refine un (a1 rfl ?_)
  refine dnil ?_
  refine Sv.ret ?_
  replace h := Option.some.inj h
  subst h
  exact ⟨_, .refl _, _, rfl, ⟨upd (fun _ => none) 0 (some (.tup [(I (wr .i64 r_1.1)), (B ((!r_1.2) && (decide ((s_2.length : Int) = 8))))])), (fun _ => none), 0⟩, (.tup [(I (wr .i64 r_1.1)), (B ((!r_1.2) && (decide ((s_2.length : Int) = 8))))]), weak_canon [] rfl List.nodup_nil (Nat.le_refl _) (fun b h => absurd h (Nat.not_lt_zero _)) (.cons rfl (avAs_tup (.cons (avAs_free rfl) (.cons (avAs_free rfl) .nil))) .nil) .nil, rfl, rfl, rfl, rfl⟩
noncomputable def color_hex_j1 (s_1 : (List UInt8)) : Option (Int × Bool) :=
  if decide ((s_1.length : Int) = 6) then
    (cat? s_1 [102, 102]).bind fun r_2 =>
    color_hex_j2 r_2
  else
    color_hex_j2 s_1
theorem color_hex_j1_ok {mL : Int} {s_1 : (List UInt8)} {o : (Int × Bool)} (h : color_hex_j1 s_1 = some o) :
    Sv Tryd.prog (GG mL) 0 a37_c1 (Ends a37.results 0 (color_hex_post o)) ⟨(upd (fun _ => none) 0 (some (S s_1))), (fun _ => none), 0⟩ := by
  unfold color_hex_j1 at h
  refine Sv.seq ?_
  refine Sv.seq ?_
  refine Sv.region ?_
  refine un (a1 rfl ?_)
  refine un (a1 (v := (I (s_1.length : Int))) rfl ?_)
  refine un (a1 (v := (B (decide ((s_1.length : Int) = 6)))) rfl ?_)
  refine dnil ?_
  refine Sv.cond (b := decide ((s_1.length : Int) = 6)) rfl (fun hc3 => ?_) (fun hc3 => ?_)
  · replace h := ifT hc3 h
    refine Sv.region ?_
    refine un (a1 rfl ?_)
    obtain ⟨r_2, hx1, h⟩ := bnd h
    refine un (a1 (v := (S r_2)) (s_cat rfl rfl hx1) ?_)
    refine un (a1 rfl ?_)
    refine dnil ?_
    exact Sv.weak (weak_canon [] rfl (by decide) (by decide) (fun b h => absurd h (Nat.not_lt_zero _)) (.cons rfl (avAs_free rfl) .nil) .nil) (color_hex_j2_ok h)
  · replace h := ifF hc3 h
    refine Sv.skip ?_
    exact Sv.weak (weak_canon [] rfl (by decide) (by decide) (fun b h => absurd h (Nat.not_lt_zero _)) (.cons rfl (avAs_free rfl) .nil) .nil) (color_hex_j2_ok h)
noncomputable def color_hex_l2 (s_ : (List UInt8)) (K0_ : (List UInt8) → Option (Int × Bool)) : Nat → (List UInt8) → Int → Option (Int × Bool)
  | 0, _, _ => none
  | k + 1, b_, v21 =>
    if decide (v21 < (s_.length : Int)) then
      (sub? s_ v21 (wi (v21 + 1))).bind fun r_3 =>
      (strings_Repeat r_3 2).bind fun r_4 =>
      (strings_Builder_WriteString b_ r_4).bind fun r_5 =>
      (color_hex_l2 s_ K0_ k) r_5 (wi (v21 + 1))
    else
      K0_ b_
theorem color_hex_l2_ok {mL : Int} {Q : AExit → St → Prop} {s_ : (List UInt8)} {K0_ : (List UInt8) → Option (Int × Bool)} {k : Nat} {b_ : (List UInt8)} {v21 : Int} {zb : Bool} (hzb : zb = true → b_ = []) {o : (Int × Bool)} (h : color_hex_l2 s_ K0_ k b_ v21 = some o)
    (hK0 : ∀ (b_1 : (List UInt8)) (zb_1 : Bool) (_ : zb_1 = true → b_1 = []), K0_ b_1 = some o → ∀ s, Weak 0 s ⟨(upd (fun _ => none) 4 (some (.c (.ref 0 2 0 0)))), (upd (upd (fun _ => none) 0 (some (.bld 68 zb_1 1 b_1.length))) 1 (bufB zb_1 5 b_1)), 2⟩ → Q (.exit 0) s)
    (hr : ∀ s, Ends a37.results 0 (color_hex_post o) .ret s → Q .ret s) :
    Sv Tryd.prog (GG mL) 0 (.loop a37_c0) Q ⟨(upd (upd (upd (upd (fun _ => none) 0 (some (S s_))) 4 (some (.c (.ref 0 2 0 0)))) 20 (some (I (s_.length : Int)))) 21 (some (I v21))), (upd (upd (fun _ => none) 0 (some (.bld 68 zb 1 b_.length))) 1 (bufB zb 5 b_)), 2⟩ := by
  refine Sv.loop (I := fun k s => ∃ (b_ : (List UInt8)), ∃ (v21 : Int), ∃ (zb : Bool), (zb = true → b_ = []) ∧ color_hex_l2 s_ K0_ k b_ v21 = some o ∧ s = ⟨(upd (upd (upd (upd (fun _ => none) 0 (some (S s_))) 4 (some (.c (.ref 0 2 0 0)))) 20 (some (I (s_.length : Int)))) 21 (some (I v21))), (upd (upd (fun _ => none) 0 (some (.bld 68 zb 1 b_.length))) 1 (bufB zb 5 b_)), 2⟩) (fun k s hI => ?_) ⟨b_, v21, zb, hzb, h, rfl⟩
  clear h
  clear hzb zb v21 b_
  obtain ⟨b_, v21, zb, hzb, h, rfl⟩ := hI
  cases k with
  | zero => cases h
  | succ k =>
  rw [color_hex_l2] at h
  have hself : ∀ (b_ : (List UInt8)) (v21 : Int) (zb : Bool) (_ : zb = true → b_ = []), (color_hex_l2 s_ K0_ k) b_ v21 = some o → ∀ s, Weak 0 s ⟨(upd (upd (upd (upd (fun _ => none) 0 (some (S s_))) 4 (some (.c (.ref 0 2 0 0)))) 20 (some (I (s_.length : Int)))) 21 (some (I v21))), (upd (upd (fun _ => none) 0 (some (.bld 68 zb 1 b_.length))) 1 (bufB zb 5 b_)), 2⟩ → (AThen (fun s' => ∃ s'' k', Weak 0 s' s'' ∧ k' < k + 1 ∧ (fun k s => ∃ (b_ : (List UInt8)), ∃ (v21 : Int), ∃ (zb : Bool), (zb = true → b_ = []) ∧ color_hex_l2 s_ K0_ k b_ v21 = some o ∧ s = ⟨(upd (upd (upd (upd (fun _ => none) 0 (some (S s_))) 4 (some (.c (.ref 0 2 0 0)))) 20 (some (I (s_.length : Int)))) 21 (some (I v21))), (upd (upd (fun _ => none) 0 (some (.bld 68 zb 1 b_.length))) 1 (bufB zb 5 b_)), 2⟩) k' s'') Q) .normal s := fun b_ v21 zb hzb h s hw => ⟨_, k, hw, Nat.lt_succ_self k, b_, v21, zb, hzb, h, rfl⟩
  refine Sv.seq ?_
  refine Sv.region ?_
  refine un (a1 (v := (B (decide (v21 < (s_.length : Int))))) rfl ?_)
  refine dnil ?_
  refine Sv.seq ?_
  refine Sv.cond (b := decide (v21 < (s_.length : Int))) rfl (fun hc6 => ?_) (fun hc6 => ?_)
  · replace h := ifT hc6 h
    refine Sv.skip ?_
    refine Sv.seq ?_
    refine Sv.block ?_
    refine Sv.seq ?_
    refine Sv.region ?_
    refine un (a1 rfl ?_)
    refine un (a1 rfl ?_)
    refine dnil ?_
    refine Sv.region ?_
    refine un (a1 rfl ?_)
    refine un (a1 rfl ?_)
    refine un (a1 rfl ?_)
    refine un (a1 (v := (I (wi (v21 + 1)))) rfl ?_)
    obtain ⟨r_3, hx2, h⟩ := bnd h
    refine un (a1 (v := (S r_3)) (s_slStr rfl rfl rfl hx2) ?_)
    obtain ⟨r_4, hr3, h⟩ := bnd h
    refine un (ac_pure (strings_Repeat_ok hr3) rfl rfl rfl ?_)
    obtain ⟨r_5, hr4, h⟩ := bnd h
    refine un (ac_gen (bs := [0, 1]) («as» := [(.c (.ref 0 2 0 0)), (S r_4)]) (h2 := _) (h1 := (upd (upd (fun _ => none) 0 (some (.bld 68 zb 1 b_.length))) 1 (bufB zb 5 b_))) (strings_Builder_WriteString_ok (z := zb) (l := b_) hzb hr4) rfl (.cons (.c (.ref rfl (by decide))) (.cons (avAs_free rfl) .nil)) (hsub_refl _) (.cons rfl (.cons rfl (.nil _))) (fun h => by cases h) (by decide) (by decide) (.cons (.c (.ref rfl (by decide))) (.cons (avAs_free rfl) .nil)) (.buf (by decide) rfl (.box (by decide) rfl (.bld rfl (by decide)) .nil)) ?_)
    rintro _ _ _ hn ⟨z_, hz_, rfl, rfl, rfl⟩
    refine ⟨.inl rfl, (upd (upd (rem [0, 1] _) 0 (some (.bld 68 z_ 2 r_5.length))) 2 (bufB z_ 5 r_5)), fun hbd => (m3_cons (m3_buf rfl) (m3_cons (m3_box rfl rfl) (m3_rem (in_cons (by decide) (in_cons (by decide) (in_nil _))) (.cons (by decide) (.cons (by decide) .nil)) hbd))), (.tup [(I (r_4.length : Int)), (.c (.val .nilIface))]), 3, (by cases z_ <;> rfl), rfl, ?_⟩
    refine dnil ?_
    refine Sv.region ?_
    refine un (a1 (v := (I (wi (v21 + 1)))) rfl ?_)
    refine un (a1 rfl ?_)
    refine dnil ?_
    exact hself r_5 (wi (v21 + 1)) z_ hz_ h _ (weak_canon [0, 2] rfl (by decide) (by decide) (fun b h => absurd h (Nat.not_lt_zero _)) (.cons rfl (avAs_free rfl) (.cons rfl (avAs_free rfl) (.cons rfl (.c (.ref rfl (by decide))) (.cons rfl (avAs_free rfl) .nil)))) (.buf (by decide) rfl (.box (by decide) rfl (.bld rfl (by decide)) .nil)))
  · replace h := ifF hc6 h
    refine Sv.exit ?_
    exact hK0 b_ zb hzb h _ (weak_canon [0, 1] rfl (by decide) (by decide) (fun b h => absurd h (Nat.not_lt_zero _)) (.cons rfl (.c (.ref rfl (by decide))) .nil) (.buf (by decide) rfl (.box (by decide) rfl (.bld rfl (by decide)) .nil)))
/-- clerestory/color.hex -/
noncomputable def color_hex (s_ : (List UInt8)) : Option (Int × Bool) :=
  (strings_Trim s_ [48, 49, 50, 51, 52, 53, 54, 55, 56, 57, 97, 98, 99, 100, 101, 102]).bind fun r_ =>
  if (!decide (r_ = [])) then
    some (0, false)
  else
    if ((decide ((s_.length : Int) = 3)) || (decide ((s_.length : Int) = 4))) then
      lim fun kk => color_hex_l2 s_ (fun (b_1 : (List UInt8)) => 
          color_hex_j1 b_1) kk ([] : List UInt8) 0
    else
      color_hex_j1 s_
theorem color_hex_ok {mL : Int} {s_ : (List UInt8)} {r : (Int × Bool)} (h : color_hex s_ = some r) : CPure Tryd.prog (GG mL) 37 [(S s_)] (.tup [(I r.1), (B r.2)]) := by
  refine acalls_of_sv hmix c37 (R := color_hex_post r) ?_
  unfold color_hex at h
  refine Sv.seq ?_
  refine Sv.region ?_
  refine un (a1 rfl ?_)
  refine un (a1 rfl ?_)
  refine dnil ?_
  refine Sv.seq ?_
  refine Sv.seq ?_
  refine Sv.region ?_
  refine un (a1 rfl ?_)
  obtain ⟨r_, hr1, h⟩ := bnd h
  refine un (ac_pure (strings_Trim_ok hr1) rfl rfl rfl ?_)
  refine un (a1 (v := (B (!decide (r_ = [])))) rfl ?_)
  refine dnil ?_
  refine Sv.cond (b := (!decide (r_ = []))) rfl (fun hc1 => ?_) (fun hc1 => ?_)
  · replace h := ifT hc1 h
    refine Sv.seq ?_
    refine Sv.region ?_
    refine un (a1 rfl ?_)
    refine un (a1 rfl ?_)
    refine dnil ?_
    refine Sv.ret ?_
    replace h := Option.some.inj h
    subst h
    exact ⟨_, .refl _, _, rfl, ⟨upd (fun _ => none) 0 (some (.tup [(I 0), (B false)])), (fun _ => none), 0⟩, (.tup [(I 0), (B false)]), weak_canon [] rfl List.nodup_nil (Nat.le_refl _) (fun b h => absurd h (Nat.not_lt_zero _)) (.cons rfl (avAs_tup (.cons (avAs_free rfl) (.cons (avAs_free rfl) .nil))) .nil) .nil, rfl, rfl, rfl, rfl⟩
  · replace h := ifF hc1 h
    refine Sv.skip ?_
    refine Sv.seq ?_
    refine Sv.seq ?_
    refine Sv.region ?_
    refine un (a1 rfl ?_)
    refine un (a1 (v := (I (s_.length : Int))) rfl ?_)
    refine un (a1 (v := (B (decide ((s_.length : Int) = 3)))) rfl ?_)
    refine un (a1 rfl ?_)
    refine gjoin 4 (d := 18) (v := (B ((decide ((s_.length : Int) = 3)) || (decide ((s_.length : Int) = 4))))) (fun X hX => ?_) ?_
    · refine split2 (fun hc4 => ?_) (fun hc4 => ?_)
      · refine gs rfl rfl ?_
        refine gs rfl rfl ?_
        refine gs rfl rfl ?_
        refine un (a1 (v := (B true)) rfl ?_)
        refine dnil ?_
        exact hX _ (.putEq (by rw [hc4]; rfl) (.skip _ _ (.skip _ _ (.skip _ _ (.putEq (by rw [hc4]) (.refl _)) rfl) rfl) rfl))
      · refine gt rfl (a1 rfl ?_)
        refine gt rfl (a1 (v := (I (s_.length : Int))) rfl ?_)
        refine gt rfl (a1 (v := (B (decide ((s_.length : Int) = 4)))) rfl ?_)
        refine un (a1 (v := (B (decide ((s_.length : Int) = 4)))) rfl ?_)
        refine dnil ?_
        exact hX _ (.putEq (by rw [hc4]; rfl) (.skip _ _ (.skip _ _ (.skip _ _ (.putEq (by rw [hc4]) (.refl _)) rfl) rfl) rfl))
    refine dnil ?_
    refine Sv.cond (b := ((decide ((s_.length : Int) = 3)) || (decide ((s_.length : Int) = 4)))) rfl (fun hc5 => ?_) (fun hc5 => ?_)
    · replace h := ifT hc5 h
      refine Sv.seq ?_
      refine Sv.region ?_
      refine un (a2v (v := (.c (.ref 1 2 0 0))) (h' := upd _ 1 (some (.bld 68 true 0 ([] : List UInt8).length))) (n' := 2) rfl rfl (fun h => by cases h) ?_)
      refine dnil ?_
      refine Sv.seq ?_
      refine Sv.seq ?_
      refine Sv.region ?_
      refine un (a1 rfl ?_)
      refine un (a1 (v := (I (s_.length : Int))) rfl ?_)
      refine un (a1 rfl ?_)
      refine dnil ?_
      refine Sv.block ?_
      obtain ⟨kk, h⟩ := lim_some h
      refine Sv.weak (weak_canon [1, 1000] rfl (by decide) (by decide) (fun b h => absurd h (Nat.not_lt_zero _)) (.cons rfl (avAs_free rfl) (.cons rfl (avAs_free rfl) (.cons rfl (.c (.ref rfl (by decide))) (.cons rfl (avAs_free rfl) .nil)))) (.nonB (by decide) (.box (by decide) rfl (.bldN (by decide)) .nil))) (color_hex_l2_ok (fun _ => rfl) h ?_ (fun s hs => hs))
      · intro b_1 zb_1 hzb_1 h _ hw1
        refine Sv.weak hw1 ?_
        refine Sv.region ?_
        refine un (ac_gen (bs := [0, 1]) («as» := [(.c (.ref 0 2 0 0))]) (h2 := _) (h1 := (upd (upd (fun _ => none) 0 (some (.bld 68 zb_1 1 b_1.length))) 1 (bufB zb_1 5 b_1))) (strings_Builder_String_ok (z := zb_1) (l := b_1) hzb_1) rfl (.cons (.c (.ref rfl (by decide))) .nil) (hsub_refl _) (.cons rfl (.cons rfl (.nil _))) (fun h => by cases h) (by decide) (by decide) (.cons (.c (.ref rfl (by decide))) .nil) (.buf (by decide) rfl (.box (by decide) rfl (.bld rfl (by decide)) .nil)) ?_)
        rintro _ _ _ hn ⟨rfl, rfl, rfl⟩
        refine ⟨.inl rfl, (rem [0, 1] _), fun hbd => (m3_rem (in_cons (by decide) (in_cons (by decide) (in_nil _))) (.nil) hbd), (S b_1), 2, rfl, rfl, ?_⟩
        refine un (a1 rfl ?_)
        refine dnil ?_
        exact Sv.weak (weak_canon [] rfl (by decide) (by decide) (fun b h => absurd h (Nat.not_lt_zero _)) (.cons rfl (avAs_free rfl) .nil) .nil) (color_hex_j1_ok h)
    · replace h := ifF hc5 h
      refine Sv.skip ?_
      exact Sv.weak (weak_canon [] rfl (by decide) (by decide) (fun b h => absurd h (Nat.not_lt_zero _)) (.cons rfl (avAs_free rfl) .nil) .nil) (color_hex_j1_ok h)
def a61_c0 : ACode := .ret
def a61 : AFunc := ⟨2, [(.tmp 4)], (.seq (.region [⟨(some 4), (.mov (.const (.c (.val (.bool false))))), none⟩])
 (.seq (.region [⟨(some 5), (.mov (.tmp 0)), none⟩, ⟨(some 6), (.lenS (.tmp 5)), none⟩, ⟨(some 7), (.mov (.tmp 1)), none⟩, ⟨(some 8), (.lenS (.tmp 7)), none⟩, ⟨(some 9), (.bin .geq (.tmp 6) (.tmp 8)), none⟩, ⟨(some 10), (.mov (.tmp 9)), none⟩, ⟨(some 11), (.mov (.tmp 0)), (some (10, true))⟩, ⟨(some 12), (.mov (.tmp 0)), (some (10, true))⟩, ⟨(some 13), (.lenS (.tmp 12)), (some (10, true))⟩, ⟨(some 14), (.mov (.tmp 1)), (some (10, true))⟩, ⟨(some 15), (.lenS (.tmp 14)), (some (10, true))⟩, ⟨(some 16), (.bin .sub (.tmp 13) (.tmp 15)), (some (10, true))⟩, ⟨(some 17), (.slStr (.tmp 11) (some (.tmp 16)) none), (some (10, true))⟩, ⟨(some 18), (.mov (.tmp 1)), (some (10, true))⟩, ⟨(some 19), (.bin .eql (.tmp 17) (.tmp 18)), (some (10, true))⟩, ⟨(some 20), (.pick (.tmp 10) (.tmp 19) (.const (.c (.val (.bool false))))), none⟩, ⟨(some 4), (.mov (.tmp 20)), none⟩])
 a61_c0))⟩
set_option maxRecDepth 100000 in
theorem c61 : compFunc Tryd.prog 61 = some a61 := by kernel_rfl
def internal_stringslite_HasSuffix_post (r : Bool) : AV → Heap → Nat → Prop := fun v h' n' => v = (B r) ∧ (h' = (fun _ => none)) ∧ n' = 0
noncomputable def internal_stringslite_HasSuffix_j1 (v4 : Bool) : Option Bool :=
  some v4
theorem internal_stringslite_HasSuffix_j1_ok {mL : Int} {v4 : Bool} {o : Bool} (h : internal_stringslite_HasSuffix_j1 v4 = some o) :
    Sv Tryd.prog (GG mL) 0 a61_c0 (Ends a61.results 0 (internal_stringslite_HasSuffix_post o)) ⟨(upd (fun _ => none) 4 (some (B v4))), (fun _ => none), 0⟩ := by
  unfold internal_stringslite_HasSuffix_j1 at h
  refine Sv.ret ?_
  replace h := Option.some.inj h
  subst h
  exact ⟨_, .refl _, _, rfl, ⟨upd (fun _ => none) 0 (some (B v4)), (fun _ => none), 0⟩, (B v4), weak_canon [] rfl List.nodup_nil (Nat.le_refl _) (fun b h => absurd h (Nat.not_lt_zero _)) (.cons rfl (avAs_free rfl) .nil) .nil, rfl, rfl, rfl, rfl⟩
/-- internal/stringslite.HasSuffix -/
noncomputable def internal_stringslite_HasSuffix (s_ : (List UInt8)) (suffix : (List UInt8)) : Option Bool :=
  if decide ((suffix.length : Int) ≤ (s_.length : Int)) then
    (sub? s_ (wi ((s_.length : Int) - (suffix.length : Int))) (s_.length : Int)).bind fun r_ =>
    internal_stringslite_HasSuffix_j1 (decide (r_ = suffix))
  else
    internal_stringslite_HasSuffix_j1 false
theorem internal_stringslite_HasSuffix_ok {mL : Int} {s_ : (List UInt8)} {suffix : (List UInt8)} {r : Bool} (h : internal_stringslite_HasSuffix s_ suffix = some r) : CPure Tryd.prog (GG mL) 61 [(S s_), (S suffix)] (B r) := by
  refine acalls_of_sv hmix c61 (R := internal_stringslite_HasSuffix_post r) ?_
  unfold internal_stringslite_HasSuffix at h
  refine Sv.seq ?_
  refine Sv.region ?_
  refine un (a1 rfl ?_)
  refine dnil ?_
  refine Sv.seq ?_
  refine Sv.region ?_
  refine un (a1 rfl ?_)
  refine un (a1 (v := (I (s_.length : Int))) rfl ?_)
  refine un (a1 rfl ?_)
  refine un (a1 (v := (I (suffix.length : Int))) rfl ?_)
  refine un (a1 (v := (B (decide ((suffix.length : Int) ≤ (s_.length : Int))))) rfl ?_)
  refine un (a1 rfl ?_)
  refine split2 (fun hc1 => ?_) (fun hc1 => ?_)
  · replace h := ifT hc1 h
    refine gt rfl (a1 rfl ?_)
    refine gt rfl (a1 rfl ?_)
    refine gt rfl (a1 (v := (I (s_.length : Int))) rfl ?_)
    refine gt rfl (a1 rfl ?_)
    refine gt rfl (a1 (v := (I (suffix.length : Int))) rfl ?_)
    refine gt rfl (a1 (v := (I (wi ((s_.length : Int) - (suffix.length : Int))))) rfl ?_)
    obtain ⟨r_, hx1, h⟩ := bnd h
    refine gt rfl (a1 (v := (S r_)) (s_slStr rfl rfl rfl hx1) ?_)
    refine gt rfl (a1 rfl ?_)
    refine gt rfl (a1 (v := (B (decide (r_ = suffix)))) rfl ?_)
    refine un (a1 (v := (B (decide (r_ = suffix)))) rfl ?_)
    refine un (a1 rfl ?_)
    refine dnil ?_
    exact Sv.weak (weak_canon [] rfl (by decide) (by decide) (fun b h => absurd h (Nat.not_lt_zero _)) (.cons rfl (avAs_free rfl) .nil) .nil) (internal_stringslite_HasSuffix_j1_ok h)
  · replace h := ifF hc1 h
    refine gs rfl rfl ?_
    refine gs rfl rfl ?_
    refine gs rfl rfl ?_
    refine gs rfl rfl ?_
    refine gs rfl rfl ?_
    refine gs rfl rfl ?_
    refine gs rfl rfl ?_
    refine gs rfl rfl ?_
    refine gs rfl rfl ?_
    refine un (a1 (v := (B false)) rfl ?_)
    refine un (a1 rfl ?_)
    refine dnil ?_
    exact Sv.weak (weak_canon [] rfl (by decide) (by decide) (fun b h => absurd h (Nat.not_lt_zero _)) (.cons rfl (avAs_free rfl) .nil) .nil) (internal_stringslite_HasSuffix_j1_ok h)
def a38 : AFunc := ⟨2, [(.tmp 4)], (.seq (.region [⟨(some 4), (.mov (.const (.c (.val (.bool false))))), none⟩])
 (.seq (.region [⟨(some 5), (.mov (.tmp 0)), none⟩, ⟨(some 6), (.mov (.tmp 1)), none⟩, ⟨(some 7), (.call 61 [(.tmp 5), (.tmp 6)]), none⟩, ⟨(some 4), (.mov (.tmp 7)), none⟩])
 .ret))⟩
set_option maxRecDepth 100000 in
theorem c38 : compFunc Tryd.prog 38 = some a38 := by kernel_rfl
def strings_HasSuffix_post (r : Bool) : AV → Heap → Nat → Prop := fun v h' n' => v = (B r) ∧ (h' = (fun _ => none)) ∧ n' = 0
/-- strings.HasSuffix -/
noncomputable def strings_HasSuffix (s_ : (List UInt8)) (suffix : (List UInt8)) : Option Bool :=
  (internal_stringslite_HasSuffix s_ suffix).bind fun r_ =>
  some r_
theorem strings_HasSuffix_ok {mL : Int} {s_ : (List UInt8)} {suffix : (List UInt8)} {r : Bool} (h : strings_HasSuffix s_ suffix = some r) : CPure Tryd.prog (GG mL) 38 [(S s_), (S suffix)] (B r) := by
  refine acalls_of_sv hmix c38 (R := strings_HasSuffix_post r) ?_
  unfold strings_HasSuffix at h
  refine Sv.seq ?_
  refine Sv.region ?_
  refine un (a1 rfl ?_)
  refine dnil ?_
  refine Sv.seq ?_
  refine Sv.region ?_
  refine un (a1 rfl ?_)
  refine un (a1 rfl ?_)
  obtain ⟨r_, hr1, h⟩ := bnd h
  refine un (ac_pure (internal_stringslite_HasSuffix_ok hr1) rfl rfl rfl ?_)
  refine un (a1 rfl ?_)
  refine dnil ?_
  refine Sv.ret ?_
  replace h := Option.some.inj h
  subst h
  exact ⟨_, .refl _, _, rfl, ⟨upd (fun _ => none) 0 (some (B r_)), (fun _ => none), 0⟩, (B r_), weak_canon [] rfl List.nodup_nil (Nat.le_refl _) (fun b h => absurd h (Nat.not_lt_zero _)) (.cons rfl (avAs_free rfl) .nil) .nil, rfl, rfl, rfl, rfl⟩
noncomputable abbrev strings_Split (s_ : (List UInt8)) (sep_ : (List UInt8)) : Option (List (List UInt8)) := split? s_ sep_
/-- strings.Split, by the contract of the shelf -/
theorem strings_Split_ok {mL : Int} {s_ : (List UInt8)} {sep_ : (List UInt8)} {r : (List (List UInt8))} (h : strings_Split s_ sep_ = some r) : ACalls Tryd.prog (GG mL) 51 [(S s_), (S sep_)] (fun _ => none) 0 (fun v h' n' => ∃ z : Bool, (z = true → r = []) ∧ v = lstV z 0 1 r.length ∧ (h' = (upd (fun _ => none) 0 (lstB z 1 (r.map eStr)))) ∧ n' = 1) := split_ok (m := mL) Tryd.lays146 (by kernel_rfl) rfl h
def a85 : AFunc := ⟨2, [(.tmp 4)], (.seq (.region [⟨(some 4), (.mov (.const (.c (.str [])))), none⟩])
 (.seq (.seq (.region [⟨(some 5), (.mov (.tmp 0)), none⟩, ⟨(some 6), (.mov (.tmp 1)), none⟩, ⟨(some 7), (.call 74 [(.tmp 5), (.tmp 6)]), none⟩])
 (.cond (.tmp 7) (.seq (.region [⟨(some 8), (.mov (.tmp 0)), none⟩, ⟨(some 9), (.mov (.tmp 1)), none⟩, ⟨(some 10), (.lenS (.tmp 9)), none⟩, ⟨(some 11), (.slStr (.tmp 8) (some (.tmp 10)) none), none⟩, ⟨(some 4), (.mov (.tmp 11)), none⟩])
 .ret) .skip))
 (.seq (.region [⟨(some 12), (.mov (.tmp 0)), none⟩, ⟨(some 4), (.mov (.tmp 12)), none⟩])
 .ret)))⟩
set_option maxRecDepth 100000 in
theorem c85 : compFunc Tryd.prog 85 = some a85 := by kernel_rfl
def internal_stringslite_TrimPrefix_post (r : (List UInt8)) : AV → Heap → Nat → Prop := fun v h' n' => v = (S r) ∧ (h' = (fun _ => none)) ∧ n' = 0
/-- internal/stringslite.TrimPrefix -/
noncomputable def internal_stringslite_TrimPrefix (s_ : (List UInt8)) (prefix_ : (List UInt8)) : Option (List UInt8) :=
  (internal_stringslite_HasPrefix s_ prefix_).bind fun r_ =>
  if r_ then
    (sub? s_ (prefix_.length : Int) (s_.length : Int)).bind fun r_1 =>
    some r_1
  else
    some s_
theorem internal_stringslite_TrimPrefix_ok {mL : Int} {s_ : (List UInt8)} {prefix_ : (List UInt8)} {r : (List UInt8)} (h : internal_stringslite_TrimPrefix s_ prefix_ = some r) : CPure Tryd.prog (GG mL) 85 [(S s_), (S prefix_)] (S r) := by
  refine acalls_of_sv hmix c85 (R := internal_stringslite_TrimPrefix_post r) ?_
  unfold internal_stringslite_TrimPrefix at h
  refine Sv.seq ?_
  refine Sv.region ?_
  refine un (a1 rfl ?_)
  refine dnil ?_
  refine Sv.seq ?_
  refine Sv.seq ?_
  refine Sv.region ?_
  refine un (a1 rfl ?_)
  refine un (a1 rfl ?_)
  obtain ⟨r_, hr1, h⟩ := bnd h
  refine un (ac_pure (internal_stringslite_HasPrefix_ok hr1) rfl rfl rfl ?_)
  refine dnil ?_
  refine Sv.cond (b := r_) rfl (fun hc1 => ?_) (fun hc1 => ?_)
  · replace h := ifT hc1 h
    refine Sv.seq ?_
    refine Sv.region ?_
    refine un (a1 rfl ?_)
    refine un (a1 rfl ?_)
    refine un (a1 (v := (I (prefix_.length : Int))) rfl ?_)
    obtain ⟨r_1, hx1, h⟩ := bnd h
    refine un (a1 (v := (S r_1)) (s_slStr rfl rfl rfl hx1) ?_)
    refine un (a1 rfl ?_)
    refine dnil ?_
    refine Sv.ret ?_
    replace h := Option.some.inj h
    subst h
    exact ⟨_, .refl _, _, rfl, ⟨upd (fun _ => none) 0 (some (S r_1)), (fun _ => none), 0⟩, (S r_1), weak_canon [] rfl List.nodup_nil (Nat.le_refl _) (fun b h => absurd h (Nat.not_lt_zero _)) (.cons rfl (avAs_free rfl) .nil) .nil, rfl, rfl, rfl, rfl⟩
  · replace h := ifF hc1 h
    refine Sv.skip ?_
    refine Sv.seq ?_
    refine Sv.region ?_
    refine un (a1 rfl ?_)
    refine un (a1 rfl ?_)
    refine dnil ?_
    refine Sv.ret ?_
    replace h := Option.some.inj h
    subst h
    exact ⟨_, .refl _, _, rfl, ⟨upd (fun _ => none) 0 (some (S s_)), (fun _ => none), 0⟩, (S s_), weak_canon [] rfl List.nodup_nil (Nat.le_refl _) (fun b h => absurd h (Nat.not_lt_zero _)) (.cons rfl (avAs_free rfl) .nil) .nil, rfl, rfl, rfl, rfl⟩
def a62 : AFunc := ⟨2, [(.tmp 4)], (.seq (.region [⟨(some 4), (.mov (.const (.c (.str [])))), none⟩])
 (.seq (.region [⟨(some 5), (.mov (.tmp 0)), none⟩, ⟨(some 6), (.mov (.tmp 1)), none⟩, ⟨(some 7), (.call 85 [(.tmp 5), (.tmp 6)]), none⟩, ⟨(some 4), (.mov (.tmp 7)), none⟩])
 .ret))⟩
set_option maxRecDepth 100000 in
theorem c62 : compFunc Tryd.prog 62 = some a62 := by kernel_rfl
def strings_TrimPrefix_post (r : (List UInt8)) : AV → Heap → Nat → Prop := fun v h' n' => v = (S r) ∧ (h' = (fun _ => none)) ∧ n' = 0
/-- strings.TrimPrefix -/
noncomputable def strings_TrimPrefix (s_ : (List UInt8)) (prefix_ : (List UInt8)) : Option (List UInt8) :=
  (internal_stringslite_TrimPrefix s_ prefix_).bind fun r_ =>
  some r_
theorem strings_TrimPrefix_ok {mL : Int} {s_ : (List UInt8)} {prefix_ : (List UInt8)} {r : (List UInt8)} (h : strings_TrimPrefix s_ prefix_ = some r) : CPure Tryd.prog (GG mL) 62 [(S s_), (S prefix_)] (S r) := by
  refine acalls_of_sv hmix c62 (R := strings_TrimPrefix_post r) ?_
  unfold strings_TrimPrefix at h
  refine Sv.seq ?_
  refine Sv.region ?_
  refine un (a1 rfl ?_)
  refine dnil ?_
  refine Sv.seq ?_
  refine Sv.region ?_
  refine un (a1 rfl ?_)
  refine un (a1 rfl ?_)
  obtain ⟨r_, hr1, h⟩ := bnd h
  refine un (ac_pure (internal_stringslite_TrimPrefix_ok hr1) rfl rfl rfl ?_)
  refine un (a1 rfl ?_)
  refine dnil ?_
  refine Sv.ret ?_
  replace h := Option.some.inj h
  subst h
  exact ⟨_, .refl _, _, rfl, ⟨upd (fun _ => none) 0 (some (S r_)), (fun _ => none), 0⟩, (S r_), weak_canon [] rfl List.nodup_nil (Nat.le_refl _) (fun b h => absurd h (Nat.not_lt_zero _)) (.cons rfl (avAs_free rfl) .nil) .nil, rfl, rfl, rfl, rfl⟩
noncomputable abbrev strconv_Atoi (s_ : (List UInt8)) : Option (Int × Bool) := atoi? s_
/-- strconv.Atoi, by the contract of the shelf -/
theorem strconv_Atoi_ok {mL : Int} {s_ : (List UInt8)} {r : (Int × Bool)} (h : strconv_Atoi s_ = some r) : CPure Tryd.prog (GG mL) 63 [(S s_)] (.tup [(I r.1), (.c (errC r.2))]) := atoi_ok Tryd.laysC172 (by kernel_rfl) (by kernel_rfl) h
noncomputable abbrev strconv_Itoa (i_ : Int) : Option (List UInt8) := itoa? i_
/-- strconv.Itoa, by the contract of the shelf -/
theorem strconv_Itoa_ok {mL : Int} {i_ : Int} {r : (List UInt8)} (h : strconv_Itoa i_ = some r) : CPure Tryd.prog (GG mL) 52 [(I i_)] (S r) := itoa_ok (g := 1) Tryd.laysM171 (by kernel_rfl) (by kernel_rfl) h
end Go.Proofs.YtmpdhpfimmahfaaDoorBv
