/- Printed by a program of mine (bgen.py): plain functions, and the walks that show that the code comes to what they answer. -/
import Derived.Test.YtmpdhpfimmahfaaDoorRows
import Derived.Test.YtmpdhpfimmahfaaDoorBv40
import Derived.Test.YtmpdhpfimmahfaaDoorBv45
import Derived.Test.YtmpdhpfimmahfaaDoorBv30
import Derived.Test.YtmpdhpfimmahfaaDoorShelf
import Derived.Test.YtmpdhpfimmahfaaDoorBv36
import Derived.Test.YtmpdhpfimmahfaaDoorBv37
namespace Go.Proofs.YtmpdhpfimmahfaaDoorBv
open Go
set_option linter.unusedVariables false
set_option linter.unusedSimpArgs false
set_option maxRecDepth 100000
theorem hmix : Tryd.prog.follows .mixedOrders = true := by kernel_rfl
structure TVal where
  Kind : Int
  N : Int
def e_TVal (x : TVal) : List Cel := [cI x.Kind, cI x.N]
structure Trow where
  f_name : (List UInt8)
  f_kinds : (List UInt8)
  f_keys : (List UInt8)
  f_auto : (List UInt8)
  f_above : Bool
def e_Trow (x : Trow) : List Cel := [.str x.f_name, .str x.f_kinds, .str x.f_keys, .str x.f_auto, cB x.f_above]
structure TSDim where
  Num : Int
  Unit : (List UInt8)
def e_TSDim (x : TSDim) : List Cel := [cI x.Num, .str x.Unit]
def g1_c : List Cel := [.val (.int .u64 1), .val (.int .u64 10), .val (.int .u64 100), .val (.int .u64 1000), .val (.int .u64 10000), .val (.int .u64 100000), .val (.int .u64 1000000), .val (.int .u64 10000000), .val (.int .u64 100000000), .val (.int .u64 1000000000), .val (.int .u64 10000000000), .val (.int .u64 100000000000), .val (.int .u64 1000000000000), .val (.int .u64 10000000000000), .val (.int .u64 100000000000000), .val (.int .u64 1000000000000000), .val (.int .u64 10000000000000000), .val (.int .u64 100000000000000000), .val (.int .u64 1000000000000000000), .val (.int .u64 10000000000000000000)]
def g4_c : List Cel := [.val (.int .u8 240), .val (.int .u8 240), .val (.int .u8 240), .val (.int .u8 240), .val (.int .u8 240), .val (.int .u8 240), .val (.int .u8 240), .val (.int .u8 240), .val (.int .u8 240), .val (.int .u8 240), .val (.int .u8 240), .val (.int .u8 240), .val (.int .u8 240), .val (.int .u8 240), .val (.int .u8 240), .val (.int .u8 240), .val (.int .u8 240), .val (.int .u8 240), .val (.int .u8 240), .val (.int .u8 240), .val (.int .u8 240), .val (.int .u8 240), .val (.int .u8 240), .val (.int .u8 240), .val (.int .u8 240), .val (.int .u8 240), .val (.int .u8 240), .val (.int .u8 240), .val (.int .u8 240), .val (.int .u8 240), .val (.int .u8 240), .val (.int .u8 240), .val (.int .u8 240), .val (.int .u8 240), .val (.int .u8 240), .val (.int .u8 240), .val (.int .u8 240), .val (.int .u8 240), .val (.int .u8 240), .val (.int .u8 240), .val (.int .u8 240), .val (.int .u8 240), .val (.int .u8 240), .val (.int .u8 240), .val (.int .u8 240), .val (.int .u8 240), .val (.int .u8 240), .val (.int .u8 240), .val (.int .u8 240), .val (.int .u8 240), .val (.int .u8 240), .val (.int .u8 240), .val (.int .u8 240), .val (.int .u8 240), .val (.int .u8 240), .val (.int .u8 240), .val (.int .u8 240), .val (.int .u8 240), .val (.int .u8 240), .val (.int .u8 240), .val (.int .u8 240), .val (.int .u8 240), .val (.int .u8 240), .val (.int .u8 240), .val (.int .u8 240), .val (.int .u8 240), .val (.int .u8 240), .val (.int .u8 240), .val (.int .u8 240), .val (.int .u8 240), .val (.int .u8 240), .val (.int .u8 240), .val (.int .u8 240), .val (.int .u8 240), .val (.int .u8 240), .val (.int .u8 240), .val (.int .u8 240), .val (.int .u8 240), .val (.int .u8 240), .val (.int .u8 240), .val (.int .u8 240), .val (.int .u8 240), .val (.int .u8 240), .val (.int .u8 240), .val (.int .u8 240), .val (.int .u8 240), .val (.int .u8 240), .val (.int .u8 240), .val (.int .u8 240), .val (.int .u8 240), .val (.int .u8 240), .val (.int .u8 240), .val (.int .u8 240), .val (.int .u8 240), .val (.int .u8 240), .val (.int .u8 240), .val (.int .u8 240), .val (.int .u8 240), .val (.int .u8 240), .val (.int .u8 240), .val (.int .u8 240), .val (.int .u8 240), .val (.int .u8 240), .val (.int .u8 240), .val (.int .u8 240), .val (.int .u8 240), .val (.int .u8 240), .val (.int .u8 240), .val (.int .u8 240), .val (.int .u8 240), .val (.int .u8 240), .val (.int .u8 240), .val (.int .u8 240), .val (.int .u8 240), .val (.int .u8 240), .val (.int .u8 240), .val (.int .u8 240), .val (.int .u8 240), .val (.int .u8 240), .val (.int .u8 240), .val (.int .u8 240), .val (.int .u8 240), .val (.int .u8 240), .val (.int .u8 240), .val (.int .u8 240), .val (.int .u8 240), .val (.int .u8 240), .val (.int .u8 240), .val (.int .u8 241), .val (.int .u8 241), .val (.int .u8 241), .val (.int .u8 241), .val (.int .u8 241), .val (.int .u8 241), .val (.int .u8 241), .val (.int .u8 241), .val (.int .u8 241), .val (.int .u8 241), .val (.int .u8 241), .val (.int .u8 241), .val (.int .u8 241), .val (.int .u8 241), .val (.int .u8 241), .val (.int .u8 241), .val (.int .u8 241), .val (.int .u8 241), .val (.int .u8 241), .val (.int .u8 241), .val (.int .u8 241), .val (.int .u8 241), .val (.int .u8 241), .val (.int .u8 241), .val (.int .u8 241), .val (.int .u8 241), .val (.int .u8 241), .val (.int .u8 241), .val (.int .u8 241), .val (.int .u8 241), .val (.int .u8 241), .val (.int .u8 241), .val (.int .u8 241), .val (.int .u8 241), .val (.int .u8 241), .val (.int .u8 241), .val (.int .u8 241), .val (.int .u8 241), .val (.int .u8 241), .val (.int .u8 241), .val (.int .u8 241), .val (.int .u8 241), .val (.int .u8 241), .val (.int .u8 241), .val (.int .u8 241), .val (.int .u8 241), .val (.int .u8 241), .val (.int .u8 241), .val (.int .u8 241), .val (.int .u8 241), .val (.int .u8 241), .val (.int .u8 241), .val (.int .u8 241), .val (.int .u8 241), .val (.int .u8 241), .val (.int .u8 241), .val (.int .u8 241), .val (.int .u8 241), .val (.int .u8 241), .val (.int .u8 241), .val (.int .u8 241), .val (.int .u8 241), .val (.int .u8 241), .val (.int .u8 241), .val (.int .u8 241), .val (.int .u8 241), .val (.int .u8 2), .val (.int .u8 2), .val (.int .u8 2), .val (.int .u8 2), .val (.int .u8 2), .val (.int .u8 2), .val (.int .u8 2), .val (.int .u8 2), .val (.int .u8 2), .val (.int .u8 2), .val (.int .u8 2), .val (.int .u8 2), .val (.int .u8 2), .val (.int .u8 2), .val (.int .u8 2), .val (.int .u8 2), .val (.int .u8 2), .val (.int .u8 2), .val (.int .u8 2), .val (.int .u8 2), .val (.int .u8 2), .val (.int .u8 2), .val (.int .u8 2), .val (.int .u8 2), .val (.int .u8 2), .val (.int .u8 2), .val (.int .u8 2), .val (.int .u8 2), .val (.int .u8 2), .val (.int .u8 2), .val (.int .u8 19), .val (.int .u8 3), .val (.int .u8 3), .val (.int .u8 3), .val (.int .u8 3), .val (.int .u8 3), .val (.int .u8 3), .val (.int .u8 3), .val (.int .u8 3), .val (.int .u8 3), .val (.int .u8 3), .val (.int .u8 3), .val (.int .u8 3), .val (.int .u8 35), .val (.int .u8 3), .val (.int .u8 3), .val (.int .u8 52), .val (.int .u8 4), .val (.int .u8 4), .val (.int .u8 4), .val (.int .u8 68), .val (.int .u8 241), .val (.int .u8 241), .val (.int .u8 241), .val (.int .u8 241), .val (.int .u8 241), .val (.int .u8 241), .val (.int .u8 241), .val (.int .u8 241), .val (.int .u8 241), .val (.int .u8 241), .val (.int .u8 241)]
def g5_c : List Cel := [.val (.int .u8 128), .val (.int .u8 191), .val (.int .u8 160), .val (.int .u8 191), .val (.int .u8 128), .val (.int .u8 159), .val (.int .u8 144), .val (.int .u8 191), .val (.int .u8 128), .val (.int .u8 143), .val (.int .u8 0), .val (.int .u8 0), .val (.int .u8 0), .val (.int .u8 0), .val (.int .u8 0), .val (.int .u8 0), .val (.int .u8 0), .val (.int .u8 0), .val (.int .u8 0), .val (.int .u8 0), .val (.int .u8 0), .val (.int .u8 0), .val (.int .u8 0), .val (.int .u8 0), .val (.int .u8 0), .val (.int .u8 0), .val (.int .u8 0), .val (.int .u8 0), .val (.int .u8 0), .val (.int .u8 0), .val (.int .u8 0), .val (.int .u8 0)]
def g6_c : List Cel := [.val (.int .u8 0), .val (.int .u8 1), .val (.int .u8 28), .val (.int .u8 2), .val (.int .u8 29), .val (.int .u8 14), .val (.int .u8 24), .val (.int .u8 3), .val (.int .u8 30), .val (.int .u8 22), .val (.int .u8 20), .val (.int .u8 15), .val (.int .u8 25), .val (.int .u8 17), .val (.int .u8 4), .val (.int .u8 8), .val (.int .u8 31), .val (.int .u8 27), .val (.int .u8 13), .val (.int .u8 23), .val (.int .u8 21), .val (.int .u8 19), .val (.int .u8 16), .val (.int .u8 7), .val (.int .u8 26), .val (.int .u8 12), .val (.int .u8 18), .val (.int .u8 6), .val (.int .u8 11), .val (.int .u8 5), .val (.int .u8 10), .val (.int .u8 9)]
def g7_c : List Cel := [.val (.int .u8 0), .val (.int .u8 1), .val (.int .u8 56), .val (.int .u8 2), .val (.int .u8 57), .val (.int .u8 49), .val (.int .u8 28), .val (.int .u8 3), .val (.int .u8 61), .val (.int .u8 58), .val (.int .u8 42), .val (.int .u8 50), .val (.int .u8 38), .val (.int .u8 29), .val (.int .u8 17), .val (.int .u8 4), .val (.int .u8 62), .val (.int .u8 47), .val (.int .u8 59), .val (.int .u8 36), .val (.int .u8 45), .val (.int .u8 43), .val (.int .u8 51), .val (.int .u8 22), .val (.int .u8 53), .val (.int .u8 39), .val (.int .u8 33), .val (.int .u8 30), .val (.int .u8 24), .val (.int .u8 18), .val (.int .u8 12), .val (.int .u8 5), .val (.int .u8 63), .val (.int .u8 55), .val (.int .u8 48), .val (.int .u8 27), .val (.int .u8 60), .val (.int .u8 41), .val (.int .u8 37), .val (.int .u8 16), .val (.int .u8 46), .val (.int .u8 35), .val (.int .u8 44), .val (.int .u8 21), .val (.int .u8 52), .val (.int .u8 32), .val (.int .u8 23), .val (.int .u8 11), .val (.int .u8 54), .val (.int .u8 26), .val (.int .u8 40), .val (.int .u8 15), .val (.int .u8 34), .val (.int .u8 20), .val (.int .u8 31), .val (.int .u8 10), .val (.int .u8 25), .val (.int .u8 14), .val (.int .u8 19), .val (.int .u8 9), .val (.int .u8 13), .val (.int .u8 8), .val (.int .u8 7), .val (.int .u8 6)]
/-- what the listed package variables hold -/
def GG (mL : Int) : Glob := fun g => if g = 0 then [.val (.int .i64 mL)] else if g = 1 then g1_c else if g = 4 then g4_c else if g = 5 then g5_c else if g = 6 then g6_c else if g = 7 then g7_c else []
def a21 : AFunc := ⟨1, [(.tmp 2)], (.seq (.region [⟨(some 2), (.mov (.const (.c (.val (.bool false))))), none⟩])
 (.seq (.region [⟨(some 3), (.mov (.tmp 0)), none⟩, ⟨(some 4), (.bin .geq (.tmp 3) (.const (.c (.val (.int .i64 0))))), none⟩, ⟨(some 5), (.mov (.tmp 4)), none⟩, ⟨(some 6), (.mov (.tmp 0)), (some (5, true))⟩, ⟨(some 7), (.bin .lss (.tmp 6) (.const (.c (.val (.int .i64 59))))), (some (5, true))⟩, ⟨(some 8), (.pick (.tmp 5) (.tmp 7) (.const (.c (.val (.bool false))))), none⟩, ⟨(some 2), (.mov (.tmp 8)), none⟩])
 .ret))⟩
set_option maxRecDepth 100000 in
theorem c21 : compFunc Tryd.prog 21 = some a21 := by kernel_rfl
def prop_in_post (r : Bool) : AV → Heap → Nat → Prop := fun v h' n' => v = (B r) ∧ (h' = (fun _ => none)) ∧ n' = 0
/-- clerestory/prop.in -/
def prop_in (p_ : Int) : Bool :=
  ((decide (0 ≤ p_)) && (decide (p_ < 59)))
theorem prop_in_ok {mL : Int} (p_ : Int) : CPure Tryd.prog (GG mL) 21 [(I p_)] (B (prop_in p_)) := by
  generalize h : prop_in p_ = o
  refine acalls_of_sv hmix c21 (R := prop_in_post o) ?_
  unfold prop_in at h
  refine Sv.seq ?_
  refine Sv.region ?_
  refine un (a1 rfl ?_)
  refine dnil ?_
  refine Sv.seq ?_
  refine Sv.region ?_
  refine un (a1 rfl ?_)
  refine un (a1 (v := (B (decide (0 ≤ p_)))) rfl ?_)
  refine un (a1 rfl ?_)
  refine gjoin 3 (d := 8) (v := (B ((decide (0 ≤ p_)) && (decide (p_ < 59))))) (fun X hX => ?_) ?_
  · refine split2 (fun hc1 => ?_) (fun hc1 => ?_)
    · refine gt rfl (a1 rfl ?_)
      refine gt rfl (a1 (v := (B (decide (p_ < 59)))) rfl ?_)
      refine un (a1 (v := (B (decide (p_ < 59)))) rfl ?_)
      refine dnil ?_
      exact hX _ (.putEq (by rw [hc1]; rfl) (.skip _ _ (.skip _ _ (.putEq (by rw [hc1]) (.refl _)) rfl) rfl))
    · refine gs rfl rfl ?_
      refine gs rfl rfl ?_
      refine un (a1 (v := (B false)) rfl ?_)
      refine dnil ?_
      exact hX _ (.putEq (by rw [hc1]; rfl) (.skip _ _ (.skip _ _ (.putEq (by rw [hc1]) (.refl _)) rfl) rfl))
  refine un (a1 rfl ?_)
  refine dnil ?_
  refine Sv.ret ?_
  subst h
  exact ⟨_, .refl _, _, rfl, ⟨upd (fun _ => none) 0 (some (B ((decide (0 ≤ p_)) && (decide (p_ < 59))))), (fun _ => none), 0⟩, (B ((decide (0 ≤ p_)) && (decide (p_ < 59)))), weak_canon [] rfl List.nodup_nil (Nat.le_refl _) (fun b h => absurd h (Nat.not_lt_zero _)) (.cons rfl (avAs_free rfl) .nil) .nil, rfl, rfl, rfl, rfl⟩
def a48 : AFunc := ⟨1, [(.cell true 5 2)], (.seq (.region [⟨(some 2), (.box (.const (.agg [(.str []), (.str []), (.str []), (.str []), (.val (.bool false))]))), none⟩])
 (.seq (.region [⟨(some 4), (.build [(.str []), (.str []), (.str []), (.str []), (.val (.bool false))] [(0, (1, (.const (.c (.str [100, 105, 115, 112, 108, 97, 121]))))), (1, (1, (.const (.c (.str [107]))))), (2, (1, (.const (.c (.str [110, 111, 110, 101, 32, 105, 110, 108, 105, 110, 101, 32, 98, 108, 111, 99, 107, 32, 105, 110, 108, 105, 110, 101, 45, 98, 108, 111, 99, 107, 32, 102, 108, 101, 120, 32, 116, 97, 98, 108, 101, 32, 116, 97, 98, 108, 101, 45, 114, 111, 119, 32, 116, 97, 98, 108, 101, 45, 99, 101, 108, 108, 32, 108, 105, 115, 116, 45, 105, 116, 101, 109, 32, 99, 111, 110, 116, 101, 110, 116, 115]))))), (3, (1, (.const (.c (.str []))))), (4, (1, (.const (.c (.val (.bool false))))))]), none⟩, ⟨(some 5), (.build [(.str []), (.str []), (.str []), (.str []), (.val (.bool false))] [(0, (1, (.const (.c (.str [112, 111, 115, 105, 116, 105, 111, 110]))))), (1, (1, (.const (.c (.str [107]))))), (2, (1, (.const (.c (.str [115, 116, 97, 116, 105, 99, 32, 114, 101, 108, 97, 116, 105, 118, 101, 32, 97, 98, 115, 111, 108, 117, 116, 101, 32, 102, 105, 120, 101, 100]))))), (3, (1, (.const (.c (.str []))))), (4, (1, (.const (.c (.val (.bool false))))))]), none⟩, ⟨(some 6), (.build [(.str []), (.str []), (.str []), (.str []), (.val (.bool false))] [(0, (1, (.const (.c (.str [102, 108, 111, 97, 116]))))), (1, (1, (.const (.c (.str [107]))))), (2, (1, (.const (.c (.str [110, 111, 110, 101, 32, 108, 101, 102, 116, 32, 114, 105, 103, 104, 116]))))), (3, (1, (.const (.c (.str []))))), (4, (1, (.const (.c (.val (.bool false))))))]), none⟩, ⟨(some 7), (.build [(.str []), (.str []), (.str []), (.str []), (.val (.bool false))] [(0, (1, (.const (.c (.str [99, 108, 101, 97, 114]))))), (1, (1, (.const (.c (.str [107]))))), (2, (1, (.const (.c (.str [110, 111, 110, 101, 32, 108, 101, 102, 116, 32, 114, 105, 103, 104, 116, 32, 98, 111, 116, 104]))))), (3, (1, (.const (.c (.str []))))), (4, (1, (.const (.c (.val (.bool false))))))]), none⟩, ⟨(some 8), (.build [(.str []), (.str []), (.str []), (.str []), (.val (.bool false))] [(0, (1, (.const (.c (.str [98, 111, 120, 45, 115, 105, 122, 105, 110, 103]))))), (1, (1, (.const (.c (.str [107]))))), (2, (1, (.const (.c (.str [99, 111, 110, 116, 101, 110, 116, 45, 98, 111, 120, 32, 98, 111, 114, 100, 101, 114, 45, 98, 111, 120]))))), (3, (1, (.const (.c (.str []))))), (4, (1, (.const (.c (.val (.bool false))))))]), none⟩, ⟨(some 9), (.build [(.str []), (.str []), (.str []), (.str []), (.val (.bool false))] [(0, (1, (.const (.c (.str [119, 105, 100, 116, 104]))))), (1, (1, (.const (.c (.str [108, 112, 97]))))), (2, (1, (.const (.c (.str []))))), (3, (1, (.const (.c (.str [97, 117, 116, 111]))))), (4, (1, (.const (.c (.val (.bool true))))))]), none⟩, ⟨(some 10), (.build [(.str []), (.str []), (.str []), (.str []), (.val (.bool false))] [(0, (1, (.const (.c (.str [104, 101, 105, 103, 104, 116]))))), (1, (1, (.const (.c (.str [108, 112, 97]))))), (2, (1, (.const (.c (.str []))))), (3, (1, (.const (.c (.str [97, 117, 116, 111]))))), (4, (1, (.const (.c (.val (.bool true))))))]), none⟩, ⟨(some 11), (.build [(.str []), (.str []), (.str []), (.str []), (.val (.bool false))] [(0, (1, (.const (.c (.str [109, 105, 110, 45, 119, 105, 100, 116, 104]))))), (1, (1, (.const (.c (.str [108, 112, 97]))))), (2, (1, (.const (.c (.str []))))), (3, (1, (.const (.c (.str [97, 117, 116, 111]))))), (4, (1, (.const (.c (.val (.bool true))))))]), none⟩, ⟨(some 12), (.build [(.str []), (.str []), (.str []), (.str []), (.val (.bool false))] [(0, (1, (.const (.c (.str [109, 105, 110, 45, 104, 101, 105, 103, 104, 116]))))), (1, (1, (.const (.c (.str [108, 112, 97]))))), (2, (1, (.const (.c (.str []))))), (3, (1, (.const (.c (.str [97, 117, 116, 111]))))), (4, (1, (.const (.c (.val (.bool true))))))]), none⟩, ⟨(some 13), (.build [(.str []), (.str []), (.str []), (.str []), (.val (.bool false))] [(0, (1, (.const (.c (.str [109, 97, 120, 45, 119, 105, 100, 116, 104]))))), (1, (1, (.const (.c (.str [108, 112, 97]))))), (2, (1, (.const (.c (.str []))))), (3, (1, (.const (.c (.str [110, 111, 110, 101]))))), (4, (1, (.const (.c (.val (.bool true))))))]), none⟩, ⟨(some 14), (.build [(.str []), (.str []), (.str []), (.str []), (.val (.bool false))] [(0, (1, (.const (.c (.str [109, 97, 120, 45, 104, 101, 105, 103, 104, 116]))))), (1, (1, (.const (.c (.str [108, 112, 97]))))), (2, (1, (.const (.c (.str []))))), (3, (1, (.const (.c (.str [110, 111, 110, 101]))))), (4, (1, (.const (.c (.val (.bool true))))))]), none⟩, ⟨(some 15), (.build [(.str []), (.str []), (.str []), (.str []), (.val (.bool false))] [(0, (1, (.const (.c (.str [109, 97, 114, 103, 105, 110, 45, 116, 111, 112]))))), (1, (1, (.const (.c (.str [108, 112, 97]))))), (2, (1, (.const (.c (.str []))))), (3, (1, (.const (.c (.str [97, 117, 116, 111]))))), (4, (1, (.const (.c (.val (.bool false))))))]), none⟩, ⟨(some 16), (.build [(.str []), (.str []), (.str []), (.str []), (.val (.bool false))] [(0, (1, (.const (.c (.str [109, 97, 114, 103, 105, 110, 45, 114, 105, 103, 104, 116]))))), (1, (1, (.const (.c (.str [108, 112, 97]))))), (2, (1, (.const (.c (.str []))))), (3, (1, (.const (.c (.str [97, 117, 116, 111]))))), (4, (1, (.const (.c (.val (.bool false))))))]), none⟩, ⟨(some 17), (.build [(.str []), (.str []), (.str []), (.str []), (.val (.bool false))] [(0, (1, (.const (.c (.str [109, 97, 114, 103, 105, 110, 45, 98, 111, 116, 116, 111, 109]))))), (1, (1, (.const (.c (.str [108, 112, 97]))))), (2, (1, (.const (.c (.str []))))), (3, (1, (.const (.c (.str [97, 117, 116, 111]))))), (4, (1, (.const (.c (.val (.bool false))))))]), none⟩, ⟨(some 18), (.build [(.str []), (.str []), (.str []), (.str []), (.val (.bool false))] [(0, (1, (.const (.c (.str [109, 97, 114, 103, 105, 110, 45, 108, 101, 102, 116]))))), (1, (1, (.const (.c (.str [108, 112, 97]))))), (2, (1, (.const (.c (.str []))))), (3, (1, (.const (.c (.str [97, 117, 116, 111]))))), (4, (1, (.const (.c (.val (.bool false))))))]), none⟩, ⟨(some 19), (.build [(.str []), (.str []), (.str []), (.str []), (.val (.bool false))] [(0, (1, (.const (.c (.str [112, 97, 100, 100, 105, 110, 103, 45, 116, 111, 112]))))), (1, (1, (.const (.c (.str [108, 112]))))), (2, (1, (.const (.c (.str []))))), (3, (1, (.const (.c (.str []))))), (4, (1, (.const (.c (.val (.bool true))))))]), none⟩, ⟨(some 20), (.build [(.str []), (.str []), (.str []), (.str []), (.val (.bool false))] [(0, (1, (.const (.c (.str [112, 97, 100, 100, 105, 110, 103, 45, 114, 105, 103, 104, 116]))))), (1, (1, (.const (.c (.str [108, 112]))))), (2, (1, (.const (.c (.str []))))), (3, (1, (.const (.c (.str []))))), (4, (1, (.const (.c (.val (.bool true))))))]), none⟩, ⟨(some 21), (.build [(.str []), (.str []), (.str []), (.str []), (.val (.bool false))] [(0, (1, (.const (.c (.str [112, 97, 100, 100, 105, 110, 103, 45, 98, 111, 116, 116, 111, 109]))))), (1, (1, (.const (.c (.str [108, 112]))))), (2, (1, (.const (.c (.str []))))), (3, (1, (.const (.c (.str []))))), (4, (1, (.const (.c (.val (.bool true))))))]), none⟩, ⟨(some 22), (.build [(.str []), (.str []), (.str []), (.str []), (.val (.bool false))] [(0, (1, (.const (.c (.str [112, 97, 100, 100, 105, 110, 103, 45, 108, 101, 102, 116]))))), (1, (1, (.const (.c (.str [108, 112]))))), (2, (1, (.const (.c (.str []))))), (3, (1, (.const (.c (.str []))))), (4, (1, (.const (.c (.val (.bool true))))))]), none⟩, ⟨(some 23), (.build [(.str []), (.str []), (.str []), (.str []), (.val (.bool false))] [(0, (1, (.const (.c (.str [98, 111, 114, 100, 101, 114, 45, 116, 111, 112, 45, 119, 105, 100, 116, 104]))))), (1, (1, (.const (.c (.str [108]))))), (2, (1, (.const (.c (.str []))))), (3, (1, (.const (.c (.str []))))), (4, (1, (.const (.c (.val (.bool true))))))]), none⟩, ⟨(some 24), (.build [(.str []), (.str []), (.str []), (.str []), (.val (.bool false)), (.str []), (.str []), (.str []), (.str []), (.val (.bool false)), (.str []), (.str []), (.str []), (.str []), (.val (.bool false)), (.str []), (.str []), (.str []), (.str []), (.val (.bool false)), (.str []), (.str []), (.str []), (.str []), (.val (.bool false)), (.str []), (.str []), (.str []), (.str []), (.val (.bool false)), (.str []), (.str []), (.str []), (.str []), (.val (.bool false)), (.str []), (.str []), (.str []), (.str []), (.val (.bool false)), (.str []), (.str []), (.str []), (.str []), (.val (.bool false)), (.str []), (.str []), (.str []), (.str []), (.val (.bool false)), (.str []), (.str []), (.str []), (.str []), (.val (.bool false)), (.str []), (.str []), (.str []), (.str []), (.val (.bool false)), (.str []), (.str []), (.str []), (.str []), (.val (.bool false)), (.str []), (.str []), (.str []), (.str []), (.val (.bool false)), (.str []), (.str []), (.str []), (.str []), (.val (.bool false)), (.str []), (.str []), (.str []), (.str []), (.val (.bool false)), (.str []), (.str []), (.str []), (.str []), (.val (.bool false)), (.str []), (.str []), (.str []), (.str []), (.val (.bool false)), (.str []), (.str []), (.str []), (.str []), (.val (.bool false)), (.str []), (.str []), (.str []), (.str []), (.val (.bool false))] [(0, (5, (.tmp 4))), (5, (5, (.tmp 5))), (10, (5, (.tmp 6))), (15, (5, (.tmp 7))), (20, (5, (.tmp 8))), (25, (5, (.tmp 9))), (30, (5, (.tmp 10))), (35, (5, (.tmp 11))), (40, (5, (.tmp 12))), (45, (5, (.tmp 13))), (50, (5, (.tmp 14))), (55, (5, (.tmp 15))), (60, (5, (.tmp 16))), (65, (5, (.tmp 17))), (70, (5, (.tmp 18))), (75, (5, (.tmp 19))), (80, (5, (.tmp 20))), (85, (5, (.tmp 21))), (90, (5, (.tmp 22))), (95, (5, (.tmp 23)))]), none⟩, ⟨(some 3), (.box (.const (.agg [(.str []), (.str []), (.str []), (.str []), (.val (.bool false)), (.str []), (.str []), (.str []), (.str []), (.val (.bool false)), (.str []), (.str []), (.str []), (.str []), (.val (.bool false)), (.str []), (.str []), (.str []), (.str []), (.val (.bool false)), (.str []), (.str []), (.str []), (.str []), (.val (.bool false)), (.str []), (.str []), (.str []), (.str []), (.val (.bool false)), (.str []), (.str []), (.str []), (.str []), (.val (.bool false)), (.str []), (.str []), (.str []), (.str []), (.val (.bool false)), (.str []), (.str []), (.str []), (.str []), (.val (.bool false)), (.str []), (.str []), (.str []), (.str []), (.val (.bool false)), (.str []), (.str []), (.str []), (.str []), (.val (.bool false)), (.str []), (.str []), (.str []), (.str []), (.val (.bool false)), (.str []), (.str []), (.str []), (.str []), (.val (.bool false)), (.str []), (.str []), (.str []), (.str []), (.val (.bool false)), (.str []), (.str []), (.str []), (.str []), (.val (.bool false)), (.str []), (.str []), (.str []), (.str []), (.val (.bool false)), (.str []), (.str []), (.str []), (.str []), (.val (.bool false)), (.str []), (.str []), (.str []), (.str []), (.val (.bool false)), (.str []), (.str []), (.str []), (.str []), (.val (.bool false)), (.str []), (.str []), (.str []), (.str []), (.val (.bool false))]))), none⟩, ⟨none, (.store 100 (.tmp 3) (.tmp 24)), none⟩])
 (.seq (.region [⟨(some 25), (.mov (.tmp 0)), none⟩, ⟨(some 26), (.iaddrA 20 5 (.tmp 3) (.tmp 25)), none⟩, ⟨(some 27), (.load true 5 (.tmp 26)), none⟩, ⟨none, (.store 5 (.tmp 2) (.tmp 27)), none⟩])
 .ret)))⟩
set_option maxRecDepth 100000 in
theorem c48 : compFunc Tryd.prog 48 = some a48 := by kernel_rfl
def prop_firsts_post (r : Trow) : AV → Heap → Nat → Prop := fun v h' n' => v = (.agg [.str r.f_name, .str r.f_kinds, .str r.f_keys, .str r.f_auto, cB r.f_above]) ∧ (h' = (fun _ => none)) ∧ n' = 0
def prop_firsts_t0 : AV := (.agg [.str [100, 105, 115, 112, 108, 97, 121], .str [107], .str [110, 111, 110, 101, 32, 105, 110, 108, 105, 110, 101, 32, 98, 108, 111, 99, 107, 32, 105, 110, 108, 105, 110, 101, 45, 98, 108, 111, 99, 107, 32, 102, 108, 101, 120, 32, 116, 97, 98, 108, 101, 32, 116, 97, 98, 108, 101, 45, 114, 111, 119, 32, 116, 97, 98, 108, 101, 45, 99, 101, 108, 108, 32, 108, 105, 115, 116, 45, 105, 116, 101, 109, 32, 99, 111, 110, 116, 101, 110, 116, 115], .str [], cB false])
def prop_firsts_t1 : AV := (.agg [.str [112, 111, 115, 105, 116, 105, 111, 110], .str [107], .str [115, 116, 97, 116, 105, 99, 32, 114, 101, 108, 97, 116, 105, 118, 101, 32, 97, 98, 115, 111, 108, 117, 116, 101, 32, 102, 105, 120, 101, 100], .str [], cB false])
def prop_firsts_t2 : AV := (.agg [.str [98, 111, 120, 45, 115, 105, 122, 105, 110, 103], .str [107], .str [99, 111, 110, 116, 101, 110, 116, 45, 98, 111, 120, 32, 98, 111, 114, 100, 101, 114, 45, 98, 111, 120], .str [], cB false])
def prop_firsts_t3 : AV := (.agg [.str [100, 105, 115, 112, 108, 97, 121], .str [107], .str [110, 111, 110, 101, 32, 105, 110, 108, 105, 110, 101, 32, 98, 108, 111, 99, 107, 32, 105, 110, 108, 105, 110, 101, 45, 98, 108, 111, 99, 107, 32, 102, 108, 101, 120, 32, 116, 97, 98, 108, 101, 32, 116, 97, 98, 108, 101, 45, 114, 111, 119, 32, 116, 97, 98, 108, 101, 45, 99, 101, 108, 108, 32, 108, 105, 115, 116, 45, 105, 116, 101, 109, 32, 99, 111, 110, 116, 101, 110, 116, 115], .str [], cB false, .str [112, 111, 115, 105, 116, 105, 111, 110], .str [107], .str [115, 116, 97, 116, 105, 99, 32, 114, 101, 108, 97, 116, 105, 118, 101, 32, 97, 98, 115, 111, 108, 117, 116, 101, 32, 102, 105, 120, 101, 100], .str [], cB false, .str [102, 108, 111, 97, 116], .str [107], .str [110, 111, 110, 101, 32, 108, 101, 102, 116, 32, 114, 105, 103, 104, 116], .str [], cB false, .str [99, 108, 101, 97, 114], .str [107], .str [110, 111, 110, 101, 32, 108, 101, 102, 116, 32, 114, 105, 103, 104, 116, 32, 98, 111, 116, 104], .str [], cB false, .str [98, 111, 120, 45, 115, 105, 122, 105, 110, 103], .str [107], .str [99, 111, 110, 116, 101, 110, 116, 45, 98, 111, 120, 32, 98, 111, 114, 100, 101, 114, 45, 98, 111, 120], .str [], cB false, .str [119, 105, 100, 116, 104], .str [108, 112, 97], .str [], .str [97, 117, 116, 111], cB true, .str [104, 101, 105, 103, 104, 116], .str [108, 112, 97], .str [], .str [97, 117, 116, 111], cB true, .str [109, 105, 110, 45, 119, 105, 100, 116, 104], .str [108, 112, 97], .str [], .str [97, 117, 116, 111], cB true, .str [109, 105, 110, 45, 104, 101, 105, 103, 104, 116], .str [108, 112, 97], .str [], .str [97, 117, 116, 111], cB true, .str [109, 97, 120, 45, 119, 105, 100, 116, 104], .str [108, 112, 97], .str [], .str [110, 111, 110, 101], cB true, .str [109, 97, 120, 45, 104, 101, 105, 103, 104, 116], .str [108, 112, 97], .str [], .str [110, 111, 110, 101], cB true, .str [109, 97, 114, 103, 105, 110, 45, 116, 111, 112], .str [108, 112, 97], .str [], .str [97, 117, 116, 111], cB false, .str [109, 97, 114, 103, 105, 110, 45, 114, 105, 103, 104, 116], .str [108, 112, 97], .str [], .str [97, 117, 116, 111], cB false, .str [109, 97, 114, 103, 105, 110, 45, 98, 111, 116, 116, 111, 109], .str [108, 112, 97], .str [], .str [97, 117, 116, 111], cB false, .str [109, 97, 114, 103, 105, 110, 45, 108, 101, 102, 116], .str [108, 112, 97], .str [], .str [97, 117, 116, 111], cB false, .str [112, 97, 100, 100, 105, 110, 103, 45, 116, 111, 112], .str [108, 112], .str [], .str [], cB true, .str [112, 97, 100, 100, 105, 110, 103, 45, 114, 105, 103, 104, 116], .str [108, 112], .str [], .str [], cB true, .str [112, 97, 100, 100, 105, 110, 103, 45, 98, 111, 116, 116, 111, 109], .str [108, 112], .str [], .str [], cB true, .str [112, 97, 100, 100, 105, 110, 103, 45, 108, 101, 102, 116], .str [108, 112], .str [], .str [], cB true, .str [98, 111, 114, 100, 101, 114, 45, 116, 111, 112, 45, 119, 105, 100, 116, 104], .str [108], .str [], .str [], cB true])
def prop_firsts_t4 : List Trow := [(⟨[100, 105, 115, 112, 108, 97, 121], [107], [110, 111, 110, 101, 32, 105, 110, 108, 105, 110, 101, 32, 98, 108, 111, 99, 107, 32, 105, 110, 108, 105, 110, 101, 45, 98, 108, 111, 99, 107, 32, 102, 108, 101, 120, 32, 116, 97, 98, 108, 101, 32, 116, 97, 98, 108, 101, 45, 114, 111, 119, 32, 116, 97, 98, 108, 101, 45, 99, 101, 108, 108, 32, 108, 105, 115, 116, 45, 105, 116, 101, 109, 32, 99, 111, 110, 116, 101, 110, 116, 115], [], false⟩ : Trow), (⟨[112, 111, 115, 105, 116, 105, 111, 110], [107], [115, 116, 97, 116, 105, 99, 32, 114, 101, 108, 97, 116, 105, 118, 101, 32, 97, 98, 115, 111, 108, 117, 116, 101, 32, 102, 105, 120, 101, 100], [], false⟩ : Trow), (⟨[102, 108, 111, 97, 116], [107], [110, 111, 110, 101, 32, 108, 101, 102, 116, 32, 114, 105, 103, 104, 116], [], false⟩ : Trow), (⟨[99, 108, 101, 97, 114], [107], [110, 111, 110, 101, 32, 108, 101, 102, 116, 32, 114, 105, 103, 104, 116, 32, 98, 111, 116, 104], [], false⟩ : Trow), (⟨[98, 111, 120, 45, 115, 105, 122, 105, 110, 103], [107], [99, 111, 110, 116, 101, 110, 116, 45, 98, 111, 120, 32, 98, 111, 114, 100, 101, 114, 45, 98, 111, 120], [], false⟩ : Trow), (⟨[119, 105, 100, 116, 104], [108, 112, 97], [], [97, 117, 116, 111], true⟩ : Trow), (⟨[104, 101, 105, 103, 104, 116], [108, 112, 97], [], [97, 117, 116, 111], true⟩ : Trow), (⟨[109, 105, 110, 45, 119, 105, 100, 116, 104], [108, 112, 97], [], [97, 117, 116, 111], true⟩ : Trow), (⟨[109, 105, 110, 45, 104, 101, 105, 103, 104, 116], [108, 112, 97], [], [97, 117, 116, 111], true⟩ : Trow), (⟨[109, 97, 120, 45, 119, 105, 100, 116, 104], [108, 112, 97], [], [110, 111, 110, 101], true⟩ : Trow), (⟨[109, 97, 120, 45, 104, 101, 105, 103, 104, 116], [108, 112, 97], [], [110, 111, 110, 101], true⟩ : Trow), (⟨[109, 97, 114, 103, 105, 110, 45, 116, 111, 112], [108, 112, 97], [], [97, 117, 116, 111], false⟩ : Trow), (⟨[109, 97, 114, 103, 105, 110, 45, 114, 105, 103, 104, 116], [108, 112, 97], [], [97, 117, 116, 111], false⟩ : Trow), (⟨[109, 97, 114, 103, 105, 110, 45, 98, 111, 116, 116, 111, 109], [108, 112, 97], [], [97, 117, 116, 111], false⟩ : Trow), (⟨[109, 97, 114, 103, 105, 110, 45, 108, 101, 102, 116], [108, 112, 97], [], [97, 117, 116, 111], false⟩ : Trow), (⟨[112, 97, 100, 100, 105, 110, 103, 45, 116, 111, 112], [108, 112], [], [], true⟩ : Trow), (⟨[112, 97, 100, 100, 105, 110, 103, 45, 114, 105, 103, 104, 116], [108, 112], [], [], true⟩ : Trow), (⟨[112, 97, 100, 100, 105, 110, 103, 45, 98, 111, 116, 116, 111, 109], [108, 112], [], [], true⟩ : Trow), (⟨[112, 97, 100, 100, 105, 110, 103, 45, 108, 101, 102, 116], [108, 112], [], [], true⟩ : Trow), (⟨[98, 111, 114, 100, 101, 114, 45, 116, 111, 112, 45, 119, 105, 100, 116, 104], [108], [], [], true⟩ : Trow)]
/-- clerestory/prop.firsts -/
noncomputable def prop_firsts (p_ : Int) : Option Trow :=
  (at? prop_firsts_t4 p_).bind fun x_ =>
  some x_
theorem prop_firsts_ok {mL : Int} {p_ : Int} {r : Trow} (h : prop_firsts p_ = some r) : CPure Tryd.prog (GG mL) 48 [(I p_)] (.agg [.str r.f_name, .str r.f_kinds, .str r.f_keys, .str r.f_auto, cB r.f_above]) := by
  refine acalls_of_sv hmix c48 (R := prop_firsts_post r) ?_
  unfold prop_firsts at h
  refine Sv.seq ?_
  refine Sv.region ?_
  refine un (a2v (v := (.c (.ref 0 5 0 0))) (h' := upd _ 0 (some (.cells 5 [[.str [], .str [], .str [], .str [], cB false]]))) (n' := 1) rfl rfl (fun h => by cases h) ?_)
  refine dnil ?_
  refine Sv.seq ?_
  refine Sv.region ?_
  refine un (a1 (v := prop_firsts_t0) rfl ?_)
  refine un (a1 (v := prop_firsts_t1) rfl ?_)
  refine un (a1 (v := (.agg [.str [102, 108, 111, 97, 116], .str [107], .str [110, 111, 110, 101, 32, 108, 101, 102, 116, 32, 114, 105, 103, 104, 116], .str [], cB false])) rfl ?_)
  refine un (a1 (v := (.agg [.str [99, 108, 101, 97, 114], .str [107], .str [110, 111, 110, 101, 32, 108, 101, 102, 116, 32, 114, 105, 103, 104, 116, 32, 98, 111, 116, 104], .str [], cB false])) rfl ?_)
  refine un (a1 (v := prop_firsts_t2) rfl ?_)
  refine un (a1 (v := (.agg [.str [119, 105, 100, 116, 104], .str [108, 112, 97], .str [], .str [97, 117, 116, 111], cB true])) rfl ?_)
  refine un (a1 (v := (.agg [.str [104, 101, 105, 103, 104, 116], .str [108, 112, 97], .str [], .str [97, 117, 116, 111], cB true])) rfl ?_)
  refine un (a1 (v := (.agg [.str [109, 105, 110, 45, 119, 105, 100, 116, 104], .str [108, 112, 97], .str [], .str [97, 117, 116, 111], cB true])) rfl ?_)
  refine un (a1 (v := (.agg [.str [109, 105, 110, 45, 104, 101, 105, 103, 104, 116], .str [108, 112, 97], .str [], .str [97, 117, 116, 111], cB true])) rfl ?_)
  refine un (a1 (v := (.agg [.str [109, 97, 120, 45, 119, 105, 100, 116, 104], .str [108, 112, 97], .str [], .str [110, 111, 110, 101], cB true])) rfl ?_)
  refine un (a1 (v := (.agg [.str [109, 97, 120, 45, 104, 101, 105, 103, 104, 116], .str [108, 112, 97], .str [], .str [110, 111, 110, 101], cB true])) rfl ?_)
  refine un (a1 (v := (.agg [.str [109, 97, 114, 103, 105, 110, 45, 116, 111, 112], .str [108, 112, 97], .str [], .str [97, 117, 116, 111], cB false])) rfl ?_)
  refine un (a1 (v := (.agg [.str [109, 97, 114, 103, 105, 110, 45, 114, 105, 103, 104, 116], .str [108, 112, 97], .str [], .str [97, 117, 116, 111], cB false])) rfl ?_)
  refine un (a1 (v := (.agg [.str [109, 97, 114, 103, 105, 110, 45, 98, 111, 116, 116, 111, 109], .str [108, 112, 97], .str [], .str [97, 117, 116, 111], cB false])) rfl ?_)
  refine un (a1 (v := (.agg [.str [109, 97, 114, 103, 105, 110, 45, 108, 101, 102, 116], .str [108, 112, 97], .str [], .str [97, 117, 116, 111], cB false])) rfl ?_)
  refine un (a1 (v := (.agg [.str [112, 97, 100, 100, 105, 110, 103, 45, 116, 111, 112], .str [108, 112], .str [], .str [], cB true])) rfl ?_)
  refine un (a1 (v := (.agg [.str [112, 97, 100, 100, 105, 110, 103, 45, 114, 105, 103, 104, 116], .str [108, 112], .str [], .str [], cB true])) rfl ?_)
  refine un (a1 (v := (.agg [.str [112, 97, 100, 100, 105, 110, 103, 45, 98, 111, 116, 116, 111, 109], .str [108, 112], .str [], .str [], cB true])) rfl ?_)
  refine un (a1 (v := (.agg [.str [112, 97, 100, 100, 105, 110, 103, 45, 108, 101, 102, 116], .str [108, 112], .str [], .str [], cB true])) rfl ?_)
  refine un (a1 (v := (.agg [.str [98, 111, 114, 100, 101, 114, 45, 116, 111, 112, 45, 119, 105, 100, 116, 104], .str [108], .str [], .str [], cB true])) rfl ?_)
  refine un (a1 (v := prop_firsts_t3) rfl ?_)
  refine un (a2v (v := (.c (.ref 1 100 0 0))) (h' := upd _ 1 (some (.cells 100 [[.str [], .str [], .str [], .str [], cB false, .str [], .str [], .str [], .str [], cB false, .str [], .str [], .str [], .str [], cB false, .str [], .str [], .str [], .str [], cB false, .str [], .str [], .str [], .str [], cB false, .str [], .str [], .str [], .str [], cB false, .str [], .str [], .str [], .str [], cB false, .str [], .str [], .str [], .str [], cB false, .str [], .str [], .str [], .str [], cB false, .str [], .str [], .str [], .str [], cB false, .str [], .str [], .str [], .str [], cB false, .str [], .str [], .str [], .str [], cB false, .str [], .str [], .str [], .str [], cB false, .str [], .str [], .str [], .str [], cB false, .str [], .str [], .str [], .str [], cB false, .str [], .str [], .str [], .str [], cB false, .str [], .str [], .str [], .str [], cB false, .str [], .str [], .str [], .str [], cB false, .str [], .str [], .str [], .str [], cB false, .str [], .str [], .str [], .str [], cB false]]))) (n' := 2) rfl rfl (fun h => by cases h) ?_)
  refine un (a2n (h' := upd _ 1 (some (.cells 100 [[.str [100, 105, 115, 112, 108, 97, 121], .str [107], .str [110, 111, 110, 101, 32, 105, 110, 108, 105, 110, 101, 32, 98, 108, 111, 99, 107, 32, 105, 110, 108, 105, 110, 101, 45, 98, 108, 111, 99, 107, 32, 102, 108, 101, 120, 32, 116, 97, 98, 108, 101, 32, 116, 97, 98, 108, 101, 45, 114, 111, 119, 32, 116, 97, 98, 108, 101, 45, 99, 101, 108, 108, 32, 108, 105, 115, 116, 45, 105, 116, 101, 109, 32, 99, 111, 110, 116, 101, 110, 116, 115], .str [], cB false, .str [112, 111, 115, 105, 116, 105, 111, 110], .str [107], .str [115, 116, 97, 116, 105, 99, 32, 114, 101, 108, 97, 116, 105, 118, 101, 32, 97, 98, 115, 111, 108, 117, 116, 101, 32, 102, 105, 120, 101, 100], .str [], cB false, .str [102, 108, 111, 97, 116], .str [107], .str [110, 111, 110, 101, 32, 108, 101, 102, 116, 32, 114, 105, 103, 104, 116], .str [], cB false, .str [99, 108, 101, 97, 114], .str [107], .str [110, 111, 110, 101, 32, 108, 101, 102, 116, 32, 114, 105, 103, 104, 116, 32, 98, 111, 116, 104], .str [], cB false, .str [98, 111, 120, 45, 115, 105, 122, 105, 110, 103], .str [107], .str [99, 111, 110, 116, 101, 110, 116, 45, 98, 111, 120, 32, 98, 111, 114, 100, 101, 114, 45, 98, 111, 120], .str [], cB false, .str [119, 105, 100, 116, 104], .str [108, 112, 97], .str [], .str [97, 117, 116, 111], cB true, .str [104, 101, 105, 103, 104, 116], .str [108, 112, 97], .str [], .str [97, 117, 116, 111], cB true, .str [109, 105, 110, 45, 119, 105, 100, 116, 104], .str [108, 112, 97], .str [], .str [97, 117, 116, 111], cB true, .str [109, 105, 110, 45, 104, 101, 105, 103, 104, 116], .str [108, 112, 97], .str [], .str [97, 117, 116, 111], cB true, .str [109, 97, 120, 45, 119, 105, 100, 116, 104], .str [108, 112, 97], .str [], .str [110, 111, 110, 101], cB true, .str [109, 97, 120, 45, 104, 101, 105, 103, 104, 116], .str [108, 112, 97], .str [], .str [110, 111, 110, 101], cB true, .str [109, 97, 114, 103, 105, 110, 45, 116, 111, 112], .str [108, 112, 97], .str [], .str [97, 117, 116, 111], cB false, .str [109, 97, 114, 103, 105, 110, 45, 114, 105, 103, 104, 116], .str [108, 112, 97], .str [], .str [97, 117, 116, 111], cB false, .str [109, 97, 114, 103, 105, 110, 45, 98, 111, 116, 116, 111, 109], .str [108, 112, 97], .str [], .str [97, 117, 116, 111], cB false, .str [109, 97, 114, 103, 105, 110, 45, 108, 101, 102, 116], .str [108, 112, 97], .str [], .str [97, 117, 116, 111], cB false, .str [112, 97, 100, 100, 105, 110, 103, 45, 116, 111, 112], .str [108, 112], .str [], .str [], cB true, .str [112, 97, 100, 100, 105, 110, 103, 45, 114, 105, 103, 104, 116], .str [108, 112], .str [], .str [], cB true, .str [112, 97, 100, 100, 105, 110, 103, 45, 98, 111, 116, 116, 111, 109], .str [108, 112], .str [], .str [], cB true, .str [112, 97, 100, 100, 105, 110, 103, 45, 108, 101, 102, 116], .str [108, 112], .str [], .str [], cB true, .str [98, 111, 114, 100, 101, 114, 45, 116, 111, 112, 45, 119, 105, 100, 116, 104], .str [108], .str [], .str [], cB true]]))) (n' := 2) rfl rfl (fun h => by cases h) ?_)
  refine dnil ?_
  refine Sv.seq ?_
  refine Sv.region ?_
  refine un (a1 rfl ?_)
  obtain ⟨x_, hx1, h⟩ := bnd h
  refine un (a1 (v := (.c (.ref 1 100 0 (0 + p_.toNat * 5)))) (s_iaddrA (L := prop_firsts_t4) rfl rfl rfl hx1) ?_)
  refine un (a1 (v := (.agg [.str x_.f_name, .str x_.f_kinds, .str x_.f_keys, .str x_.f_auto, cB x_.f_above])) (s_loadA (o2 := 0) (v := fun q => (.agg [.str q.f_name, .str q.f_kinds, .str q.f_keys, .str q.f_auto, cB q.f_above])) rfl rfl (.cons rfl (.cons rfl (.cons rfl (.cons rfl (.cons rfl (.cons rfl (.cons rfl (.cons rfl (.cons rfl (.cons rfl (.cons rfl (.cons rfl (.cons rfl (.cons rfl (.cons rfl (.cons rfl (.cons rfl (.cons rfl (.cons rfl (.cons rfl .nil)))))))))))))))))))) hx1) ?_)
  refine un (a2n (h' := upd _ 0 (some (.cells 5 [[.str x_.f_name, .str x_.f_kinds, .str x_.f_keys, .str x_.f_auto, cB x_.f_above]]))) (n' := 2) rfl rfl (fun h => by cases h) ?_)
  refine dnil ?_
  refine Sv.ret ?_
  replace h := Option.some.inj h
  subst h
  exact ⟨_, .refl _, _, rfl, ⟨upd (fun _ => none) 0 (some (.agg [.str x_.f_name, .str x_.f_kinds, .str x_.f_keys, .str x_.f_auto, cB x_.f_above])), (fun _ => none), 0⟩, (.agg [.str x_.f_name, .str x_.f_kinds, .str x_.f_keys, .str x_.f_auto, cB x_.f_above]), weak_canon [] rfl List.nodup_nil (Nat.le_refl _) (fun b h => absurd h (Nat.not_lt_zero _)) (.cons rfl (avAs_free rfl) .nil) .nil, rfl, rfl, rfl, rfl⟩
def a49 : AFunc := ⟨1, [(.cell true 5 2)], (.seq (.region [⟨(some 2), (.box (.const (.agg [(.str []), (.str []), (.str []), (.str []), (.val (.bool false))]))), none⟩])
 (.seq (.region [⟨(some 4), (.build [(.str []), (.str []), (.str []), (.str []), (.val (.bool false))] [(0, (1, (.const (.c (.str [98, 111, 114, 100, 101, 114, 45, 114, 105, 103, 104, 116, 45, 119, 105, 100, 116, 104]))))), (1, (1, (.const (.c (.str [108]))))), (2, (1, (.const (.c (.str []))))), (3, (1, (.const (.c (.str []))))), (4, (1, (.const (.c (.val (.bool true))))))]), none⟩, ⟨(some 5), (.build [(.str []), (.str []), (.str []), (.str []), (.val (.bool false))] [(0, (1, (.const (.c (.str [98, 111, 114, 100, 101, 114, 45, 98, 111, 116, 116, 111, 109, 45, 119, 105, 100, 116, 104]))))), (1, (1, (.const (.c (.str [108]))))), (2, (1, (.const (.c (.str []))))), (3, (1, (.const (.c (.str []))))), (4, (1, (.const (.c (.val (.bool true))))))]), none⟩, ⟨(some 6), (.build [(.str []), (.str []), (.str []), (.str []), (.val (.bool false))] [(0, (1, (.const (.c (.str [98, 111, 114, 100, 101, 114, 45, 108, 101, 102, 116, 45, 119, 105, 100, 116, 104]))))), (1, (1, (.const (.c (.str [108]))))), (2, (1, (.const (.c (.str []))))), (3, (1, (.const (.c (.str []))))), (4, (1, (.const (.c (.val (.bool true))))))]), none⟩, ⟨(some 7), (.build [(.str []), (.str []), (.str []), (.str []), (.val (.bool false))] [(0, (1, (.const (.c (.str [98, 111, 114, 100, 101, 114, 45, 116, 111, 112, 45, 99, 111, 108, 111, 114]))))), (1, (1, (.const (.c (.str [99]))))), (2, (1, (.const (.c (.str []))))), (3, (1, (.const (.c (.str []))))), (4, (1, (.const (.c (.val (.bool false))))))]), none⟩, ⟨(some 8), (.build [(.str []), (.str []), (.str []), (.str []), (.val (.bool false))] [(0, (1, (.const (.c (.str [98, 111, 114, 100, 101, 114, 45, 114, 105, 103, 104, 116, 45, 99, 111, 108, 111, 114]))))), (1, (1, (.const (.c (.str [99]))))), (2, (1, (.const (.c (.str []))))), (3, (1, (.const (.c (.str []))))), (4, (1, (.const (.c (.val (.bool false))))))]), none⟩, ⟨(some 9), (.build [(.str []), (.str []), (.str []), (.str []), (.val (.bool false))] [(0, (1, (.const (.c (.str [98, 111, 114, 100, 101, 114, 45, 98, 111, 116, 116, 111, 109, 45, 99, 111, 108, 111, 114]))))), (1, (1, (.const (.c (.str [99]))))), (2, (1, (.const (.c (.str []))))), (3, (1, (.const (.c (.str []))))), (4, (1, (.const (.c (.val (.bool false))))))]), none⟩, ⟨(some 10), (.build [(.str []), (.str []), (.str []), (.str []), (.val (.bool false))] [(0, (1, (.const (.c (.str [98, 111, 114, 100, 101, 114, 45, 108, 101, 102, 116, 45, 99, 111, 108, 111, 114]))))), (1, (1, (.const (.c (.str [99]))))), (2, (1, (.const (.c (.str []))))), (3, (1, (.const (.c (.str []))))), (4, (1, (.const (.c (.val (.bool false))))))]), none⟩, ⟨(some 11), (.build [(.str []), (.str []), (.str []), (.str []), (.val (.bool false))] [(0, (1, (.const (.c (.str [116, 111, 112]))))), (1, (1, (.const (.c (.str [108, 112, 97]))))), (2, (1, (.const (.c (.str []))))), (3, (1, (.const (.c (.str [97, 117, 116, 111]))))), (4, (1, (.const (.c (.val (.bool false))))))]), none⟩, ⟨(some 12), (.build [(.str []), (.str []), (.str []), (.str []), (.val (.bool false))] [(0, (1, (.const (.c (.str [114, 105, 103, 104, 116]))))), (1, (1, (.const (.c (.str [108, 112, 97]))))), (2, (1, (.const (.c (.str []))))), (3, (1, (.const (.c (.str [97, 117, 116, 111]))))), (4, (1, (.const (.c (.val (.bool false))))))]), none⟩, ⟨(some 13), (.build [(.str []), (.str []), (.str []), (.str []), (.val (.bool false))] [(0, (1, (.const (.c (.str [98, 111, 116, 116, 111, 109]))))), (1, (1, (.const (.c (.str [108, 112, 97]))))), (2, (1, (.const (.c (.str []))))), (3, (1, (.const (.c (.str [97, 117, 116, 111]))))), (4, (1, (.const (.c (.val (.bool false))))))]), none⟩, ⟨(some 14), (.build [(.str []), (.str []), (.str []), (.str []), (.val (.bool false))] [(0, (1, (.const (.c (.str [108, 101, 102, 116]))))), (1, (1, (.const (.c (.str [108, 112, 97]))))), (2, (1, (.const (.c (.str []))))), (3, (1, (.const (.c (.str [97, 117, 116, 111]))))), (4, (1, (.const (.c (.val (.bool false))))))]), none⟩, ⟨(some 15), (.build [(.str []), (.str []), (.str []), (.str []), (.val (.bool false))] [(0, (1, (.const (.c (.str [122, 45, 105, 110, 100, 101, 120]))))), (1, (1, (.const (.c (.str [110, 97]))))), (2, (1, (.const (.c (.str []))))), (3, (1, (.const (.c (.str [97, 117, 116, 111]))))), (4, (1, (.const (.c (.val (.bool false))))))]), none⟩, ⟨(some 16), (.build [(.str []), (.str []), (.str []), (.str []), (.val (.bool false))] [(0, (1, (.const (.c (.str [111, 118, 101, 114, 102, 108, 111, 119]))))), (1, (1, (.const (.c (.str [107]))))), (2, (1, (.const (.c (.str [118, 105, 115, 105, 98, 108, 101, 32, 104, 105, 100, 100, 101, 110]))))), (3, (1, (.const (.c (.str []))))), (4, (1, (.const (.c (.val (.bool false))))))]), none⟩, ⟨(some 17), (.build [(.str []), (.str []), (.str []), (.str []), (.val (.bool false))] [(0, (1, (.const (.c (.str [118, 105, 115, 105, 98, 105, 108, 105, 116, 121]))))), (1, (1, (.const (.c (.str [107]))))), (2, (1, (.const (.c (.str [118, 105, 115, 105, 98, 108, 101, 32, 104, 105, 100, 100, 101, 110]))))), (3, (1, (.const (.c (.str []))))), (4, (1, (.const (.c (.val (.bool false))))))]), none⟩, ⟨(some 18), (.build [(.str []), (.str []), (.str []), (.str []), (.val (.bool false))] [(0, (1, (.const (.c (.str [111, 112, 97, 99, 105, 116, 121]))))), (1, (1, (.const (.c (.str [110]))))), (2, (1, (.const (.c (.str []))))), (3, (1, (.const (.c (.str []))))), (4, (1, (.const (.c (.val (.bool true))))))]), none⟩, ⟨(some 19), (.build [(.str []), (.str []), (.str []), (.str []), (.val (.bool false))] [(0, (1, (.const (.c (.str [99, 111, 108, 111, 114]))))), (1, (1, (.const (.c (.str [99]))))), (2, (1, (.const (.c (.str []))))), (3, (1, (.const (.c (.str []))))), (4, (1, (.const (.c (.val (.bool false))))))]), none⟩, ⟨(some 20), (.build [(.str []), (.str []), (.str []), (.str []), (.val (.bool false))] [(0, (1, (.const (.c (.str [98, 97, 99, 107, 103, 114, 111, 117, 110, 100, 45, 99, 111, 108, 111, 114]))))), (1, (1, (.const (.c (.str [99]))))), (2, (1, (.const (.c (.str []))))), (3, (1, (.const (.c (.str []))))), (4, (1, (.const (.c (.val (.bool false))))))]), none⟩, ⟨(some 21), (.build [(.str []), (.str []), (.str []), (.str []), (.val (.bool false))] [(0, (1, (.const (.c (.str [102, 111, 110, 116, 45, 115, 105, 122, 101]))))), (1, (1, (.const (.c (.str [108]))))), (2, (1, (.const (.c (.str []))))), (3, (1, (.const (.c (.str []))))), (4, (1, (.const (.c (.val (.bool true))))))]), none⟩, ⟨(some 22), (.build [(.str []), (.str []), (.str []), (.str []), (.val (.bool false))] [(0, (1, (.const (.c (.str [108, 105, 110, 101, 45, 104, 101, 105, 103, 104, 116]))))), (1, (1, (.const (.c (.str [108, 110, 97]))))), (2, (1, (.const (.c (.str []))))), (3, (1, (.const (.c (.str [110, 111, 114, 109, 97, 108]))))), (4, (1, (.const (.c (.val (.bool true))))))]), none⟩, ⟨(some 23), (.build [(.str []), (.str []), (.str []), (.str []), (.val (.bool false))] [(0, (1, (.const (.c (.str [116, 101, 120, 116, 45, 97, 108, 105, 103, 110]))))), (1, (1, (.const (.c (.str [107]))))), (2, (1, (.const (.c (.str [115, 116, 97, 114, 116, 32, 101, 110, 100, 32, 99, 101, 110, 116, 101, 114, 32, 106, 117, 115, 116, 105, 102, 121]))))), (3, (1, (.const (.c (.str []))))), (4, (1, (.const (.c (.val (.bool false))))))]), none⟩, ⟨(some 24), (.build [(.str []), (.str []), (.str []), (.str []), (.val (.bool false)), (.str []), (.str []), (.str []), (.str []), (.val (.bool false)), (.str []), (.str []), (.str []), (.str []), (.val (.bool false)), (.str []), (.str []), (.str []), (.str []), (.val (.bool false)), (.str []), (.str []), (.str []), (.str []), (.val (.bool false)), (.str []), (.str []), (.str []), (.str []), (.val (.bool false)), (.str []), (.str []), (.str []), (.str []), (.val (.bool false)), (.str []), (.str []), (.str []), (.str []), (.val (.bool false)), (.str []), (.str []), (.str []), (.str []), (.val (.bool false)), (.str []), (.str []), (.str []), (.str []), (.val (.bool false)), (.str []), (.str []), (.str []), (.str []), (.val (.bool false)), (.str []), (.str []), (.str []), (.str []), (.val (.bool false)), (.str []), (.str []), (.str []), (.str []), (.val (.bool false)), (.str []), (.str []), (.str []), (.str []), (.val (.bool false)), (.str []), (.str []), (.str []), (.str []), (.val (.bool false)), (.str []), (.str []), (.str []), (.str []), (.val (.bool false)), (.str []), (.str []), (.str []), (.str []), (.val (.bool false)), (.str []), (.str []), (.str []), (.str []), (.val (.bool false)), (.str []), (.str []), (.str []), (.str []), (.val (.bool false)), (.str []), (.str []), (.str []), (.str []), (.val (.bool false))] [(0, (5, (.tmp 4))), (5, (5, (.tmp 5))), (10, (5, (.tmp 6))), (15, (5, (.tmp 7))), (20, (5, (.tmp 8))), (25, (5, (.tmp 9))), (30, (5, (.tmp 10))), (35, (5, (.tmp 11))), (40, (5, (.tmp 12))), (45, (5, (.tmp 13))), (50, (5, (.tmp 14))), (55, (5, (.tmp 15))), (60, (5, (.tmp 16))), (65, (5, (.tmp 17))), (70, (5, (.tmp 18))), (75, (5, (.tmp 19))), (80, (5, (.tmp 20))), (85, (5, (.tmp 21))), (90, (5, (.tmp 22))), (95, (5, (.tmp 23)))]), none⟩, ⟨(some 3), (.box (.const (.agg [(.str []), (.str []), (.str []), (.str []), (.val (.bool false)), (.str []), (.str []), (.str []), (.str []), (.val (.bool false)), (.str []), (.str []), (.str []), (.str []), (.val (.bool false)), (.str []), (.str []), (.str []), (.str []), (.val (.bool false)), (.str []), (.str []), (.str []), (.str []), (.val (.bool false)), (.str []), (.str []), (.str []), (.str []), (.val (.bool false)), (.str []), (.str []), (.str []), (.str []), (.val (.bool false)), (.str []), (.str []), (.str []), (.str []), (.val (.bool false)), (.str []), (.str []), (.str []), (.str []), (.val (.bool false)), (.str []), (.str []), (.str []), (.str []), (.val (.bool false)), (.str []), (.str []), (.str []), (.str []), (.val (.bool false)), (.str []), (.str []), (.str []), (.str []), (.val (.bool false)), (.str []), (.str []), (.str []), (.str []), (.val (.bool false)), (.str []), (.str []), (.str []), (.str []), (.val (.bool false)), (.str []), (.str []), (.str []), (.str []), (.val (.bool false)), (.str []), (.str []), (.str []), (.str []), (.val (.bool false)), (.str []), (.str []), (.str []), (.str []), (.val (.bool false)), (.str []), (.str []), (.str []), (.str []), (.val (.bool false)), (.str []), (.str []), (.str []), (.str []), (.val (.bool false)), (.str []), (.str []), (.str []), (.str []), (.val (.bool false))]))), none⟩, ⟨none, (.store 100 (.tmp 3) (.tmp 24)), none⟩])
 (.seq (.region [⟨(some 25), (.mov (.tmp 0)), none⟩, ⟨(some 26), (.iaddrA 20 5 (.tmp 3) (.tmp 25)), none⟩, ⟨(some 27), (.load true 5 (.tmp 26)), none⟩, ⟨none, (.store 5 (.tmp 2) (.tmp 27)), none⟩])
 .ret)))⟩
set_option maxRecDepth 100000 in
theorem c49 : compFunc Tryd.prog 49 = some a49 := by kernel_rfl
def prop_seconds_post (r : Trow) : AV → Heap → Nat → Prop := fun v h' n' => v = (.agg [.str r.f_name, .str r.f_kinds, .str r.f_keys, .str r.f_auto, cB r.f_above]) ∧ (h' = (fun _ => none)) ∧ n' = 0
def prop_seconds_t0 : AV := (.agg [.str [116, 101, 120, 116, 45, 97, 108, 105, 103, 110], .str [107], .str [115, 116, 97, 114, 116, 32, 101, 110, 100, 32, 99, 101, 110, 116, 101, 114, 32, 106, 117, 115, 116, 105, 102, 121], .str [], cB false])
def prop_seconds_t1 : AV := (.agg [.str [98, 111, 114, 100, 101, 114, 45, 114, 105, 103, 104, 116, 45, 119, 105, 100, 116, 104], .str [108], .str [], .str [], cB true, .str [98, 111, 114, 100, 101, 114, 45, 98, 111, 116, 116, 111, 109, 45, 119, 105, 100, 116, 104], .str [108], .str [], .str [], cB true, .str [98, 111, 114, 100, 101, 114, 45, 108, 101, 102, 116, 45, 119, 105, 100, 116, 104], .str [108], .str [], .str [], cB true, .str [98, 111, 114, 100, 101, 114, 45, 116, 111, 112, 45, 99, 111, 108, 111, 114], .str [99], .str [], .str [], cB false, .str [98, 111, 114, 100, 101, 114, 45, 114, 105, 103, 104, 116, 45, 99, 111, 108, 111, 114], .str [99], .str [], .str [], cB false, .str [98, 111, 114, 100, 101, 114, 45, 98, 111, 116, 116, 111, 109, 45, 99, 111, 108, 111, 114], .str [99], .str [], .str [], cB false, .str [98, 111, 114, 100, 101, 114, 45, 108, 101, 102, 116, 45, 99, 111, 108, 111, 114], .str [99], .str [], .str [], cB false, .str [116, 111, 112], .str [108, 112, 97], .str [], .str [97, 117, 116, 111], cB false, .str [114, 105, 103, 104, 116], .str [108, 112, 97], .str [], .str [97, 117, 116, 111], cB false, .str [98, 111, 116, 116, 111, 109], .str [108, 112, 97], .str [], .str [97, 117, 116, 111], cB false, .str [108, 101, 102, 116], .str [108, 112, 97], .str [], .str [97, 117, 116, 111], cB false, .str [122, 45, 105, 110, 100, 101, 120], .str [110, 97], .str [], .str [97, 117, 116, 111], cB false, .str [111, 118, 101, 114, 102, 108, 111, 119], .str [107], .str [118, 105, 115, 105, 98, 108, 101, 32, 104, 105, 100, 100, 101, 110], .str [], cB false, .str [118, 105, 115, 105, 98, 105, 108, 105, 116, 121], .str [107], .str [118, 105, 115, 105, 98, 108, 101, 32, 104, 105, 100, 100, 101, 110], .str [], cB false, .str [111, 112, 97, 99, 105, 116, 121], .str [110], .str [], .str [], cB true, .str [99, 111, 108, 111, 114], .str [99], .str [], .str [], cB false, .str [98, 97, 99, 107, 103, 114, 111, 117, 110, 100, 45, 99, 111, 108, 111, 114], .str [99], .str [], .str [], cB false, .str [102, 111, 110, 116, 45, 115, 105, 122, 101], .str [108], .str [], .str [], cB true, .str [108, 105, 110, 101, 45, 104, 101, 105, 103, 104, 116], .str [108, 110, 97], .str [], .str [110, 111, 114, 109, 97, 108], cB true, .str [116, 101, 120, 116, 45, 97, 108, 105, 103, 110], .str [107], .str [115, 116, 97, 114, 116, 32, 101, 110, 100, 32, 99, 101, 110, 116, 101, 114, 32, 106, 117, 115, 116, 105, 102, 121], .str [], cB false])
def prop_seconds_t2 : List Trow := [(⟨[98, 111, 114, 100, 101, 114, 45, 114, 105, 103, 104, 116, 45, 119, 105, 100, 116, 104], [108], [], [], true⟩ : Trow), (⟨[98, 111, 114, 100, 101, 114, 45, 98, 111, 116, 116, 111, 109, 45, 119, 105, 100, 116, 104], [108], [], [], true⟩ : Trow), (⟨[98, 111, 114, 100, 101, 114, 45, 108, 101, 102, 116, 45, 119, 105, 100, 116, 104], [108], [], [], true⟩ : Trow), (⟨[98, 111, 114, 100, 101, 114, 45, 116, 111, 112, 45, 99, 111, 108, 111, 114], [99], [], [], false⟩ : Trow), (⟨[98, 111, 114, 100, 101, 114, 45, 114, 105, 103, 104, 116, 45, 99, 111, 108, 111, 114], [99], [], [], false⟩ : Trow), (⟨[98, 111, 114, 100, 101, 114, 45, 98, 111, 116, 116, 111, 109, 45, 99, 111, 108, 111, 114], [99], [], [], false⟩ : Trow), (⟨[98, 111, 114, 100, 101, 114, 45, 108, 101, 102, 116, 45, 99, 111, 108, 111, 114], [99], [], [], false⟩ : Trow), (⟨[116, 111, 112], [108, 112, 97], [], [97, 117, 116, 111], false⟩ : Trow), (⟨[114, 105, 103, 104, 116], [108, 112, 97], [], [97, 117, 116, 111], false⟩ : Trow), (⟨[98, 111, 116, 116, 111, 109], [108, 112, 97], [], [97, 117, 116, 111], false⟩ : Trow), (⟨[108, 101, 102, 116], [108, 112, 97], [], [97, 117, 116, 111], false⟩ : Trow), (⟨[122, 45, 105, 110, 100, 101, 120], [110, 97], [], [97, 117, 116, 111], false⟩ : Trow), (⟨[111, 118, 101, 114, 102, 108, 111, 119], [107], [118, 105, 115, 105, 98, 108, 101, 32, 104, 105, 100, 100, 101, 110], [], false⟩ : Trow), (⟨[118, 105, 115, 105, 98, 105, 108, 105, 116, 121], [107], [118, 105, 115, 105, 98, 108, 101, 32, 104, 105, 100, 100, 101, 110], [], false⟩ : Trow), (⟨[111, 112, 97, 99, 105, 116, 121], [110], [], [], true⟩ : Trow), (⟨[99, 111, 108, 111, 114], [99], [], [], false⟩ : Trow), (⟨[98, 97, 99, 107, 103, 114, 111, 117, 110, 100, 45, 99, 111, 108, 111, 114], [99], [], [], false⟩ : Trow), (⟨[102, 111, 110, 116, 45, 115, 105, 122, 101], [108], [], [], true⟩ : Trow), (⟨[108, 105, 110, 101, 45, 104, 101, 105, 103, 104, 116], [108, 110, 97], [], [110, 111, 114, 109, 97, 108], true⟩ : Trow), (⟨[116, 101, 120, 116, 45, 97, 108, 105, 103, 110], [107], [115, 116, 97, 114, 116, 32, 101, 110, 100, 32, 99, 101, 110, 116, 101, 114, 32, 106, 117, 115, 116, 105, 102, 121], [], false⟩ : Trow)]
/-- clerestory/prop.seconds -/
noncomputable def prop_seconds (p_ : Int) : Option Trow :=
  (at? prop_seconds_t2 p_).bind fun x_ =>
  some x_
theorem prop_seconds_ok {mL : Int} {p_ : Int} {r : Trow} (h : prop_seconds p_ = some r) : CPure Tryd.prog (GG mL) 49 [(I p_)] (.agg [.str r.f_name, .str r.f_kinds, .str r.f_keys, .str r.f_auto, cB r.f_above]) := by
  refine acalls_of_sv hmix c49 (R := prop_seconds_post r) ?_
  unfold prop_seconds at h
  refine Sv.seq ?_
  refine Sv.region ?_
  refine un (a2v (v := (.c (.ref 0 5 0 0))) (h' := upd _ 0 (some (.cells 5 [[.str [], .str [], .str [], .str [], cB false]]))) (n' := 1) rfl rfl (fun h => by cases h) ?_)
  refine dnil ?_
  refine Sv.seq ?_
  refine Sv.region ?_
  refine un (a1 (v := (.agg [.str [98, 111, 114, 100, 101, 114, 45, 114, 105, 103, 104, 116, 45, 119, 105, 100, 116, 104], .str [108], .str [], .str [], cB true])) rfl ?_)
  refine un (a1 (v := (.agg [.str [98, 111, 114, 100, 101, 114, 45, 98, 111, 116, 116, 111, 109, 45, 119, 105, 100, 116, 104], .str [108], .str [], .str [], cB true])) rfl ?_)
  refine un (a1 (v := (.agg [.str [98, 111, 114, 100, 101, 114, 45, 108, 101, 102, 116, 45, 119, 105, 100, 116, 104], .str [108], .str [], .str [], cB true])) rfl ?_)
  refine un (a1 (v := (.agg [.str [98, 111, 114, 100, 101, 114, 45, 116, 111, 112, 45, 99, 111, 108, 111, 114], .str [99], .str [], .str [], cB false])) rfl ?_)
  refine un (a1 (v := (.agg [.str [98, 111, 114, 100, 101, 114, 45, 114, 105, 103, 104, 116, 45, 99, 111, 108, 111, 114], .str [99], .str [], .str [], cB false])) rfl ?_)
  refine un (a1 (v := (.agg [.str [98, 111, 114, 100, 101, 114, 45, 98, 111, 116, 116, 111, 109, 45, 99, 111, 108, 111, 114], .str [99], .str [], .str [], cB false])) rfl ?_)
  refine un (a1 (v := (.agg [.str [98, 111, 114, 100, 101, 114, 45, 108, 101, 102, 116, 45, 99, 111, 108, 111, 114], .str [99], .str [], .str [], cB false])) rfl ?_)
  refine un (a1 (v := (.agg [.str [116, 111, 112], .str [108, 112, 97], .str [], .str [97, 117, 116, 111], cB false])) rfl ?_)
  refine un (a1 (v := (.agg [.str [114, 105, 103, 104, 116], .str [108, 112, 97], .str [], .str [97, 117, 116, 111], cB false])) rfl ?_)
  refine un (a1 (v := (.agg [.str [98, 111, 116, 116, 111, 109], .str [108, 112, 97], .str [], .str [97, 117, 116, 111], cB false])) rfl ?_)
  refine un (a1 (v := (.agg [.str [108, 101, 102, 116], .str [108, 112, 97], .str [], .str [97, 117, 116, 111], cB false])) rfl ?_)
  refine un (a1 (v := (.agg [.str [122, 45, 105, 110, 100, 101, 120], .str [110, 97], .str [], .str [97, 117, 116, 111], cB false])) rfl ?_)
  refine un (a1 (v := (.agg [.str [111, 118, 101, 114, 102, 108, 111, 119], .str [107], .str [118, 105, 115, 105, 98, 108, 101, 32, 104, 105, 100, 100, 101, 110], .str [], cB false])) rfl ?_)
  refine un (a1 (v := (.agg [.str [118, 105, 115, 105, 98, 105, 108, 105, 116, 121], .str [107], .str [118, 105, 115, 105, 98, 108, 101, 32, 104, 105, 100, 100, 101, 110], .str [], cB false])) rfl ?_)
  refine un (a1 (v := (.agg [.str [111, 112, 97, 99, 105, 116, 121], .str [110], .str [], .str [], cB true])) rfl ?_)
  refine un (a1 (v := (.agg [.str [99, 111, 108, 111, 114], .str [99], .str [], .str [], cB false])) rfl ?_)
  refine un (a1 (v := (.agg [.str [98, 97, 99, 107, 103, 114, 111, 117, 110, 100, 45, 99, 111, 108, 111, 114], .str [99], .str [], .str [], cB false])) rfl ?_)
  refine un (a1 (v := (.agg [.str [102, 111, 110, 116, 45, 115, 105, 122, 101], .str [108], .str [], .str [], cB true])) rfl ?_)
  refine un (a1 (v := (.agg [.str [108, 105, 110, 101, 45, 104, 101, 105, 103, 104, 116], .str [108, 110, 97], .str [], .str [110, 111, 114, 109, 97, 108], cB true])) rfl ?_)
  refine un (a1 (v := prop_seconds_t0) rfl ?_)
  refine un (a1 (v := prop_seconds_t1) rfl ?_)
  refine un (a2v (v := (.c (.ref 1 100 0 0))) (h' := upd _ 1 (some (.cells 100 [[.str [], .str [], .str [], .str [], cB false, .str [], .str [], .str [], .str [], cB false, .str [], .str [], .str [], .str [], cB false, .str [], .str [], .str [], .str [], cB false, .str [], .str [], .str [], .str [], cB false, .str [], .str [], .str [], .str [], cB false, .str [], .str [], .str [], .str [], cB false, .str [], .str [], .str [], .str [], cB false, .str [], .str [], .str [], .str [], cB false, .str [], .str [], .str [], .str [], cB false, .str [], .str [], .str [], .str [], cB false, .str [], .str [], .str [], .str [], cB false, .str [], .str [], .str [], .str [], cB false, .str [], .str [], .str [], .str [], cB false, .str [], .str [], .str [], .str [], cB false, .str [], .str [], .str [], .str [], cB false, .str [], .str [], .str [], .str [], cB false, .str [], .str [], .str [], .str [], cB false, .str [], .str [], .str [], .str [], cB false, .str [], .str [], .str [], .str [], cB false]]))) (n' := 2) rfl rfl (fun h => by cases h) ?_)
  refine un (a2n (h' := upd _ 1 (some (.cells 100 [[.str [98, 111, 114, 100, 101, 114, 45, 114, 105, 103, 104, 116, 45, 119, 105, 100, 116, 104], .str [108], .str [], .str [], cB true, .str [98, 111, 114, 100, 101, 114, 45, 98, 111, 116, 116, 111, 109, 45, 119, 105, 100, 116, 104], .str [108], .str [], .str [], cB true, .str [98, 111, 114, 100, 101, 114, 45, 108, 101, 102, 116, 45, 119, 105, 100, 116, 104], .str [108], .str [], .str [], cB true, .str [98, 111, 114, 100, 101, 114, 45, 116, 111, 112, 45, 99, 111, 108, 111, 114], .str [99], .str [], .str [], cB false, .str [98, 111, 114, 100, 101, 114, 45, 114, 105, 103, 104, 116, 45, 99, 111, 108, 111, 114], .str [99], .str [], .str [], cB false, .str [98, 111, 114, 100, 101, 114, 45, 98, 111, 116, 116, 111, 109, 45, 99, 111, 108, 111, 114], .str [99], .str [], .str [], cB false, .str [98, 111, 114, 100, 101, 114, 45, 108, 101, 102, 116, 45, 99, 111, 108, 111, 114], .str [99], .str [], .str [], cB false, .str [116, 111, 112], .str [108, 112, 97], .str [], .str [97, 117, 116, 111], cB false, .str [114, 105, 103, 104, 116], .str [108, 112, 97], .str [], .str [97, 117, 116, 111], cB false, .str [98, 111, 116, 116, 111, 109], .str [108, 112, 97], .str [], .str [97, 117, 116, 111], cB false, .str [108, 101, 102, 116], .str [108, 112, 97], .str [], .str [97, 117, 116, 111], cB false, .str [122, 45, 105, 110, 100, 101, 120], .str [110, 97], .str [], .str [97, 117, 116, 111], cB false, .str [111, 118, 101, 114, 102, 108, 111, 119], .str [107], .str [118, 105, 115, 105, 98, 108, 101, 32, 104, 105, 100, 100, 101, 110], .str [], cB false, .str [118, 105, 115, 105, 98, 105, 108, 105, 116, 121], .str [107], .str [118, 105, 115, 105, 98, 108, 101, 32, 104, 105, 100, 100, 101, 110], .str [], cB false, .str [111, 112, 97, 99, 105, 116, 121], .str [110], .str [], .str [], cB true, .str [99, 111, 108, 111, 114], .str [99], .str [], .str [], cB false, .str [98, 97, 99, 107, 103, 114, 111, 117, 110, 100, 45, 99, 111, 108, 111, 114], .str [99], .str [], .str [], cB false, .str [102, 111, 110, 116, 45, 115, 105, 122, 101], .str [108], .str [], .str [], cB true, .str [108, 105, 110, 101, 45, 104, 101, 105, 103, 104, 116], .str [108, 110, 97], .str [], .str [110, 111, 114, 109, 97, 108], cB true, .str [116, 101, 120, 116, 45, 97, 108, 105, 103, 110], .str [107], .str [115, 116, 97, 114, 116, 32, 101, 110, 100, 32, 99, 101, 110, 116, 101, 114, 32, 106, 117, 115, 116, 105, 102, 121], .str [], cB false]]))) (n' := 2) rfl rfl (fun h => by cases h) ?_)
  refine dnil ?_
  refine Sv.seq ?_
  refine Sv.region ?_
  refine un (a1 rfl ?_)
  obtain ⟨x_, hx1, h⟩ := bnd h
  refine un (a1 (v := (.c (.ref 1 100 0 (0 + p_.toNat * 5)))) (s_iaddrA (L := prop_seconds_t2) rfl rfl rfl hx1) ?_)
  refine un (a1 (v := (.agg [.str x_.f_name, .str x_.f_kinds, .str x_.f_keys, .str x_.f_auto, cB x_.f_above])) (s_loadA (o2 := 0) (v := fun q => (.agg [.str q.f_name, .str q.f_kinds, .str q.f_keys, .str q.f_auto, cB q.f_above])) rfl rfl (.cons rfl (.cons rfl (.cons rfl (.cons rfl (.cons rfl (.cons rfl (.cons rfl (.cons rfl (.cons rfl (.cons rfl (.cons rfl (.cons rfl (.cons rfl (.cons rfl (.cons rfl (.cons rfl (.cons rfl (.cons rfl (.cons rfl (.cons rfl .nil)))))))))))))))))))) hx1) ?_)
  refine un (a2n (h' := upd _ 0 (some (.cells 5 [[.str x_.f_name, .str x_.f_kinds, .str x_.f_keys, .str x_.f_auto, cB x_.f_above]]))) (n' := 2) rfl rfl (fun h => by cases h) ?_)
  refine dnil ?_
  refine Sv.ret ?_
  replace h := Option.some.inj h
  subst h
  exact ⟨_, .refl _, _, rfl, ⟨upd (fun _ => none) 0 (some (.agg [.str x_.f_name, .str x_.f_kinds, .str x_.f_keys, .str x_.f_auto, cB x_.f_above])), (fun _ => none), 0⟩, (.agg [.str x_.f_name, .str x_.f_kinds, .str x_.f_keys, .str x_.f_auto, cB x_.f_above]), weak_canon [] rfl List.nodup_nil (Nat.le_refl _) (fun b h => absurd h (Nat.not_lt_zero _)) (.cons rfl (avAs_free rfl) .nil) .nil, rfl, rfl, rfl, rfl⟩
def a50 : AFunc := ⟨1, [(.cell true 5 2)], (.seq (.region [⟨(some 2), (.box (.const (.agg [(.str []), (.str []), (.str []), (.str []), (.val (.bool false))]))), none⟩])
 (.seq (.region [⟨(some 4), (.build [(.str []), (.str []), (.str []), (.str []), (.val (.bool false))] [(0, (1, (.const (.c (.str [116, 101, 120, 116, 45, 105, 110, 100, 101, 110, 116]))))), (1, (1, (.const (.c (.str [108, 112]))))), (2, (1, (.const (.c (.str []))))), (3, (1, (.const (.c (.str []))))), (4, (1, (.const (.c (.val (.bool false))))))]), none⟩, ⟨(some 5), (.build [(.str []), (.str []), (.str []), (.str []), (.val (.bool false))] [(0, (1, (.const (.c (.str [119, 104, 105, 116, 101, 45, 115, 112, 97, 99, 101]))))), (1, (1, (.const (.c (.str [107]))))), (2, (1, (.const (.c (.str [110, 111, 114, 109, 97, 108, 32, 112, 114, 101, 32, 110, 111, 119, 114, 97, 112, 32, 112, 114, 101, 45, 119, 114, 97, 112]))))), (3, (1, (.const (.c (.str []))))), (4, (1, (.const (.c (.val (.bool false))))))]), none⟩, ⟨(some 6), (.build [(.str []), (.str []), (.str []), (.str []), (.val (.bool false))] [(0, (1, (.const (.c (.str [118, 101, 114, 116, 105, 99, 97, 108, 45, 97, 108, 105, 103, 110]))))), (1, (1, (.const (.c (.str [107, 108]))))), (2, (1, (.const (.c (.str [98, 97, 115, 101, 108, 105, 110, 101, 32, 116, 111, 112, 32, 109, 105, 100, 100, 108, 101, 32, 98, 111, 116, 116, 111, 109]))))), (3, (1, (.const (.c (.str []))))), (4, (1, (.const (.c (.val (.bool false))))))]), none⟩, ⟨(some 7), (.build [(.str []), (.str []), (.str []), (.str []), (.val (.bool false))] [(0, (1, (.const (.c (.str [116, 101, 120, 116, 45, 116, 114, 97, 110, 115, 102, 111, 114, 109]))))), (1, (1, (.const (.c (.str [107]))))), (2, (1, (.const (.c (.str [110, 111, 110, 101, 32, 117, 112, 112, 101, 114, 99, 97, 115, 101, 32, 108, 111, 119, 101, 114, 99, 97, 115, 101]))))), (3, (1, (.const (.c (.str []))))), (4, (1, (.const (.c (.val (.bool false))))))]), none⟩, ⟨(some 8), (.build [(.str []), (.str []), (.str []), (.str []), (.val (.bool false))] [(0, (1, (.const (.c (.str [108, 101, 116, 116, 101, 114, 45, 115, 112, 97, 99, 105, 110, 103]))))), (1, (1, (.const (.c (.str [108, 97]))))), (2, (1, (.const (.c (.str []))))), (3, (1, (.const (.c (.str [110, 111, 114, 109, 97, 108]))))), (4, (1, (.const (.c (.val (.bool false))))))]), none⟩, ⟨(some 9), (.build [(.str []), (.str []), (.str []), (.str []), (.val (.bool false))] [(0, (1, (.const (.c (.str [102, 108, 101, 120, 45, 100, 105, 114, 101, 99, 116, 105, 111, 110]))))), (1, (1, (.const (.c (.str [107]))))), (2, (1, (.const (.c (.str [114, 111, 119, 32, 114, 111, 119, 45, 114, 101, 118, 101, 114, 115, 101, 32, 99, 111, 108, 117, 109, 110, 32, 99, 111, 108, 117, 109, 110, 45, 114, 101, 118, 101, 114, 115, 101]))))), (3, (1, (.const (.c (.str []))))), (4, (1, (.const (.c (.val (.bool false))))))]), none⟩, ⟨(some 10), (.build [(.str []), (.str []), (.str []), (.str []), (.val (.bool false))] [(0, (1, (.const (.c (.str [102, 108, 101, 120, 45, 119, 114, 97, 112]))))), (1, (1, (.const (.c (.str [107]))))), (2, (1, (.const (.c (.str [110, 111, 119, 114, 97, 112, 32, 119, 114, 97, 112]))))), (3, (1, (.const (.c (.str []))))), (4, (1, (.const (.c (.val (.bool false))))))]), none⟩, ⟨(some 11), (.build [(.str []), (.str []), (.str []), (.str []), (.val (.bool false))] [(0, (1, (.const (.c (.str [106, 117, 115, 116, 105, 102, 121, 45, 99, 111, 110, 116, 101, 110, 116]))))), (1, (1, (.const (.c (.str [107]))))), (2, (1, (.const (.c (.str [102, 108, 101, 120, 45, 115, 116, 97, 114, 116, 32, 102, 108, 101, 120, 45, 101, 110, 100, 32, 99, 101, 110, 116, 101, 114, 32, 45, 32, 115, 112, 97, 99, 101, 45, 98, 101, 116, 119, 101, 101, 110, 32, 115, 112, 97, 99, 101, 45, 97, 114, 111, 117, 110, 100]))))), (3, (1, (.const (.c (.str []))))), (4, (1, (.const (.c (.val (.bool false))))))]), none⟩, ⟨(some 12), (.build [(.str []), (.str []), (.str []), (.str []), (.val (.bool false))] [(0, (1, (.const (.c (.str [97, 108, 105, 103, 110, 45, 105, 116, 101, 109, 115]))))), (1, (1, (.const (.c (.str [107]))))), (2, (1, (.const (.c (.str [102, 108, 101, 120, 45, 115, 116, 97, 114, 116, 32, 102, 108, 101, 120, 45, 101, 110, 100, 32, 99, 101, 110, 116, 101, 114, 32, 45, 32, 45, 32, 45, 32, 115, 116, 114, 101, 116, 99, 104]))))), (3, (1, (.const (.c (.str []))))), (4, (1, (.const (.c (.val (.bool false))))))]), none⟩, ⟨(some 13), (.build [(.str []), (.str []), (.str []), (.str []), (.val (.bool false))] [(0, (1, (.const (.c (.str [97, 108, 105, 103, 110, 45, 115, 101, 108, 102]))))), (1, (1, (.const (.c (.str [107, 97]))))), (2, (1, (.const (.c (.str [102, 108, 101, 120, 45, 115, 116, 97, 114, 116, 32, 102, 108, 101, 120, 45, 101, 110, 100, 32, 99, 101, 110, 116, 101, 114, 32, 45, 32, 45, 32, 45, 32, 115, 116, 114, 101, 116, 99, 104]))))), (3, (1, (.const (.c (.str [97, 117, 116, 111]))))), (4, (1, (.const (.c (.val (.bool false))))))]), none⟩, ⟨(some 14), (.build [(.str []), (.str []), (.str []), (.str []), (.val (.bool false))] [(0, (1, (.const (.c (.str [102, 108, 101, 120, 45, 103, 114, 111, 119]))))), (1, (1, (.const (.c (.str [110]))))), (2, (1, (.const (.c (.str []))))), (3, (1, (.const (.c (.str []))))), (4, (1, (.const (.c (.val (.bool true))))))]), none⟩, ⟨(some 15), (.build [(.str []), (.str []), (.str []), (.str []), (.val (.bool false))] [(0, (1, (.const (.c (.str [102, 108, 101, 120, 45, 115, 104, 114, 105, 110, 107]))))), (1, (1, (.const (.c (.str [110]))))), (2, (1, (.const (.c (.str []))))), (3, (1, (.const (.c (.str []))))), (4, (1, (.const (.c (.val (.bool true))))))]), none⟩, ⟨(some 16), (.build [(.str []), (.str []), (.str []), (.str []), (.val (.bool false))] [(0, (1, (.const (.c (.str [102, 108, 101, 120, 45, 98, 97, 115, 105, 115]))))), (1, (1, (.const (.c (.str [108, 112, 97]))))), (2, (1, (.const (.c (.str []))))), (3, (1, (.const (.c (.str [97, 117, 116, 111]))))), (4, (1, (.const (.c (.val (.bool true))))))]), none⟩, ⟨(some 17), (.build [(.str []), (.str []), (.str []), (.str []), (.val (.bool false))] [(0, (1, (.const (.c (.str [111, 114, 100, 101, 114]))))), (1, (1, (.const (.c (.str [110]))))), (2, (1, (.const (.c (.str []))))), (3, (1, (.const (.c (.str []))))), (4, (1, (.const (.c (.val (.bool false))))))]), none⟩, ⟨(some 18), (.build [(.str []), (.str []), (.str []), (.str []), (.val (.bool false))] [(0, (1, (.const (.c (.str [103, 97, 112]))))), (1, (1, (.const (.c (.str [108]))))), (2, (1, (.const (.c (.str []))))), (3, (1, (.const (.c (.str []))))), (4, (1, (.const (.c (.val (.bool true))))))]), none⟩, ⟨(some 19), (.build [(.str []), (.str []), (.str []), (.str []), (.val (.bool false))] [(0, (1, (.const (.c (.str [116, 97, 98, 108, 101, 45, 108, 97, 121, 111, 117, 116]))))), (1, (1, (.const (.c (.str [107]))))), (2, (1, (.const (.c (.str [97, 117, 116, 111, 32, 102, 105, 120, 101, 100]))))), (3, (1, (.const (.c (.str []))))), (4, (1, (.const (.c (.val (.bool false))))))]), none⟩, ⟨(some 20), (.build [(.str []), (.str []), (.str []), (.str []), (.val (.bool false))] [(0, (1, (.const (.c (.str [98, 111, 114, 100, 101, 114, 45, 115, 112, 97, 99, 105, 110, 103]))))), (1, (1, (.const (.c (.str [108]))))), (2, (1, (.const (.c (.str []))))), (3, (1, (.const (.c (.str []))))), (4, (1, (.const (.c (.val (.bool true))))))]), none⟩, ⟨(some 21), (.build [(.str []), (.str []), (.str []), (.str []), (.val (.bool false))] [(0, (1, (.const (.c (.str [108, 105, 115, 116, 45, 115, 116, 121, 108, 101, 45, 116, 121, 112, 101]))))), (1, (1, (.const (.c (.str [107]))))), (2, (1, (.const (.c (.str [110, 111, 110, 101, 32, 100, 105, 115, 99, 32, 100, 101, 99, 105, 109, 97, 108]))))), (3, (1, (.const (.c (.str []))))), (4, (1, (.const (.c (.val (.bool false))))))]), none⟩, ⟨(some 22), (.build [(.str []), (.str []), (.str []), (.str []), (.val (.bool false))] [(0, (1, (.const (.c (.str [112, 111, 105, 110, 116, 101, 114, 45, 101, 118, 101, 110, 116, 115]))))), (1, (1, (.const (.c (.str [107]))))), (2, (1, (.const (.c (.str [97, 117, 116, 111, 32, 110, 111, 110, 101]))))), (3, (1, (.const (.c (.str []))))), (4, (1, (.const (.c (.val (.bool false))))))]), none⟩, ⟨(some 23), (.build [(.str []), (.str []), (.str []), (.str []), (.val (.bool false)), (.str []), (.str []), (.str []), (.str []), (.val (.bool false)), (.str []), (.str []), (.str []), (.str []), (.val (.bool false)), (.str []), (.str []), (.str []), (.str []), (.val (.bool false)), (.str []), (.str []), (.str []), (.str []), (.val (.bool false)), (.str []), (.str []), (.str []), (.str []), (.val (.bool false)), (.str []), (.str []), (.str []), (.str []), (.val (.bool false)), (.str []), (.str []), (.str []), (.str []), (.val (.bool false)), (.str []), (.str []), (.str []), (.str []), (.val (.bool false)), (.str []), (.str []), (.str []), (.str []), (.val (.bool false)), (.str []), (.str []), (.str []), (.str []), (.val (.bool false)), (.str []), (.str []), (.str []), (.str []), (.val (.bool false)), (.str []), (.str []), (.str []), (.str []), (.val (.bool false)), (.str []), (.str []), (.str []), (.str []), (.val (.bool false)), (.str []), (.str []), (.str []), (.str []), (.val (.bool false)), (.str []), (.str []), (.str []), (.str []), (.val (.bool false)), (.str []), (.str []), (.str []), (.str []), (.val (.bool false)), (.str []), (.str []), (.str []), (.str []), (.val (.bool false)), (.str []), (.str []), (.str []), (.str []), (.val (.bool false))] [(0, (5, (.tmp 4))), (5, (5, (.tmp 5))), (10, (5, (.tmp 6))), (15, (5, (.tmp 7))), (20, (5, (.tmp 8))), (25, (5, (.tmp 9))), (30, (5, (.tmp 10))), (35, (5, (.tmp 11))), (40, (5, (.tmp 12))), (45, (5, (.tmp 13))), (50, (5, (.tmp 14))), (55, (5, (.tmp 15))), (60, (5, (.tmp 16))), (65, (5, (.tmp 17))), (70, (5, (.tmp 18))), (75, (5, (.tmp 19))), (80, (5, (.tmp 20))), (85, (5, (.tmp 21))), (90, (5, (.tmp 22)))]), none⟩, ⟨(some 3), (.box (.const (.agg [(.str []), (.str []), (.str []), (.str []), (.val (.bool false)), (.str []), (.str []), (.str []), (.str []), (.val (.bool false)), (.str []), (.str []), (.str []), (.str []), (.val (.bool false)), (.str []), (.str []), (.str []), (.str []), (.val (.bool false)), (.str []), (.str []), (.str []), (.str []), (.val (.bool false)), (.str []), (.str []), (.str []), (.str []), (.val (.bool false)), (.str []), (.str []), (.str []), (.str []), (.val (.bool false)), (.str []), (.str []), (.str []), (.str []), (.val (.bool false)), (.str []), (.str []), (.str []), (.str []), (.val (.bool false)), (.str []), (.str []), (.str []), (.str []), (.val (.bool false)), (.str []), (.str []), (.str []), (.str []), (.val (.bool false)), (.str []), (.str []), (.str []), (.str []), (.val (.bool false)), (.str []), (.str []), (.str []), (.str []), (.val (.bool false)), (.str []), (.str []), (.str []), (.str []), (.val (.bool false)), (.str []), (.str []), (.str []), (.str []), (.val (.bool false)), (.str []), (.str []), (.str []), (.str []), (.val (.bool false)), (.str []), (.str []), (.str []), (.str []), (.val (.bool false)), (.str []), (.str []), (.str []), (.str []), (.val (.bool false)), (.str []), (.str []), (.str []), (.str []), (.val (.bool false))]))), none⟩, ⟨none, (.store 95 (.tmp 3) (.tmp 23)), none⟩])
 (.seq (.region [⟨(some 24), (.mov (.tmp 0)), none⟩, ⟨(some 25), (.iaddrA 19 5 (.tmp 3) (.tmp 24)), none⟩, ⟨(some 26), (.load true 5 (.tmp 25)), none⟩, ⟨none, (.store 5 (.tmp 2) (.tmp 26)), none⟩])
 .ret)))⟩
set_option maxRecDepth 100000 in
theorem c50 : compFunc Tryd.prog 50 = some a50 := by kernel_rfl
def prop_thirds_post (r : Trow) : AV → Heap → Nat → Prop := fun v h' n' => v = (.agg [.str r.f_name, .str r.f_kinds, .str r.f_keys, .str r.f_auto, cB r.f_above]) ∧ (h' = (fun _ => none)) ∧ n' = 0
def prop_thirds_t0 : AV := (.agg [.str [119, 104, 105, 116, 101, 45, 115, 112, 97, 99, 101], .str [107], .str [110, 111, 114, 109, 97, 108, 32, 112, 114, 101, 32, 110, 111, 119, 114, 97, 112, 32, 112, 114, 101, 45, 119, 114, 97, 112], .str [], cB false])
def prop_thirds_t1 : AV := (.agg [.str [118, 101, 114, 116, 105, 99, 97, 108, 45, 97, 108, 105, 103, 110], .str [107, 108], .str [98, 97, 115, 101, 108, 105, 110, 101, 32, 116, 111, 112, 32, 109, 105, 100, 100, 108, 101, 32, 98, 111, 116, 116, 111, 109], .str [], cB false])
def prop_thirds_t2 : AV := (.agg [.str [116, 101, 120, 116, 45, 116, 114, 97, 110, 115, 102, 111, 114, 109], .str [107], .str [110, 111, 110, 101, 32, 117, 112, 112, 101, 114, 99, 97, 115, 101, 32, 108, 111, 119, 101, 114, 99, 97, 115, 101], .str [], cB false])
def prop_thirds_t3 : AV := (.agg [.str [102, 108, 101, 120, 45, 100, 105, 114, 101, 99, 116, 105, 111, 110], .str [107], .str [114, 111, 119, 32, 114, 111, 119, 45, 114, 101, 118, 101, 114, 115, 101, 32, 99, 111, 108, 117, 109, 110, 32, 99, 111, 108, 117, 109, 110, 45, 114, 101, 118, 101, 114, 115, 101], .str [], cB false])
def prop_thirds_t4 : AV := (.agg [.str [106, 117, 115, 116, 105, 102, 121, 45, 99, 111, 110, 116, 101, 110, 116], .str [107], .str [102, 108, 101, 120, 45, 115, 116, 97, 114, 116, 32, 102, 108, 101, 120, 45, 101, 110, 100, 32, 99, 101, 110, 116, 101, 114, 32, 45, 32, 115, 112, 97, 99, 101, 45, 98, 101, 116, 119, 101, 101, 110, 32, 115, 112, 97, 99, 101, 45, 97, 114, 111, 117, 110, 100], .str [], cB false])
def prop_thirds_t5 : AV := (.agg [.str [97, 108, 105, 103, 110, 45, 105, 116, 101, 109, 115], .str [107], .str [102, 108, 101, 120, 45, 115, 116, 97, 114, 116, 32, 102, 108, 101, 120, 45, 101, 110, 100, 32, 99, 101, 110, 116, 101, 114, 32, 45, 32, 45, 32, 45, 32, 115, 116, 114, 101, 116, 99, 104], .str [], cB false])
def prop_thirds_t6 : AV := (.agg [.str [97, 108, 105, 103, 110, 45, 115, 101, 108, 102], .str [107, 97], .str [102, 108, 101, 120, 45, 115, 116, 97, 114, 116, 32, 102, 108, 101, 120, 45, 101, 110, 100, 32, 99, 101, 110, 116, 101, 114, 32, 45, 32, 45, 32, 45, 32, 115, 116, 114, 101, 116, 99, 104], .str [97, 117, 116, 111], cB false])
def prop_thirds_t7 : AV := (.agg [.str [108, 105, 115, 116, 45, 115, 116, 121, 108, 101, 45, 116, 121, 112, 101], .str [107], .str [110, 111, 110, 101, 32, 100, 105, 115, 99, 32, 100, 101, 99, 105, 109, 97, 108], .str [], cB false])
def prop_thirds_t8 : AV := (.agg [.str [116, 101, 120, 116, 45, 105, 110, 100, 101, 110, 116], .str [108, 112], .str [], .str [], cB false, .str [119, 104, 105, 116, 101, 45, 115, 112, 97, 99, 101], .str [107], .str [110, 111, 114, 109, 97, 108, 32, 112, 114, 101, 32, 110, 111, 119, 114, 97, 112, 32, 112, 114, 101, 45, 119, 114, 97, 112], .str [], cB false, .str [118, 101, 114, 116, 105, 99, 97, 108, 45, 97, 108, 105, 103, 110], .str [107, 108], .str [98, 97, 115, 101, 108, 105, 110, 101, 32, 116, 111, 112, 32, 109, 105, 100, 100, 108, 101, 32, 98, 111, 116, 116, 111, 109], .str [], cB false, .str [116, 101, 120, 116, 45, 116, 114, 97, 110, 115, 102, 111, 114, 109], .str [107], .str [110, 111, 110, 101, 32, 117, 112, 112, 101, 114, 99, 97, 115, 101, 32, 108, 111, 119, 101, 114, 99, 97, 115, 101], .str [], cB false, .str [108, 101, 116, 116, 101, 114, 45, 115, 112, 97, 99, 105, 110, 103], .str [108, 97], .str [], .str [110, 111, 114, 109, 97, 108], cB false, .str [102, 108, 101, 120, 45, 100, 105, 114, 101, 99, 116, 105, 111, 110], .str [107], .str [114, 111, 119, 32, 114, 111, 119, 45, 114, 101, 118, 101, 114, 115, 101, 32, 99, 111, 108, 117, 109, 110, 32, 99, 111, 108, 117, 109, 110, 45, 114, 101, 118, 101, 114, 115, 101], .str [], cB false, .str [102, 108, 101, 120, 45, 119, 114, 97, 112], .str [107], .str [110, 111, 119, 114, 97, 112, 32, 119, 114, 97, 112], .str [], cB false, .str [106, 117, 115, 116, 105, 102, 121, 45, 99, 111, 110, 116, 101, 110, 116], .str [107], .str [102, 108, 101, 120, 45, 115, 116, 97, 114, 116, 32, 102, 108, 101, 120, 45, 101, 110, 100, 32, 99, 101, 110, 116, 101, 114, 32, 45, 32, 115, 112, 97, 99, 101, 45, 98, 101, 116, 119, 101, 101, 110, 32, 115, 112, 97, 99, 101, 45, 97, 114, 111, 117, 110, 100], .str [], cB false, .str [97, 108, 105, 103, 110, 45, 105, 116, 101, 109, 115], .str [107], .str [102, 108, 101, 120, 45, 115, 116, 97, 114, 116, 32, 102, 108, 101, 120, 45, 101, 110, 100, 32, 99, 101, 110, 116, 101, 114, 32, 45, 32, 45, 32, 45, 32, 115, 116, 114, 101, 116, 99, 104], .str [], cB false, .str [97, 108, 105, 103, 110, 45, 115, 101, 108, 102], .str [107, 97], .str [102, 108, 101, 120, 45, 115, 116, 97, 114, 116, 32, 102, 108, 101, 120, 45, 101, 110, 100, 32, 99, 101, 110, 116, 101, 114, 32, 45, 32, 45, 32, 45, 32, 115, 116, 114, 101, 116, 99, 104], .str [97, 117, 116, 111], cB false, .str [102, 108, 101, 120, 45, 103, 114, 111, 119], .str [110], .str [], .str [], cB true, .str [102, 108, 101, 120, 45, 115, 104, 114, 105, 110, 107], .str [110], .str [], .str [], cB true, .str [102, 108, 101, 120, 45, 98, 97, 115, 105, 115], .str [108, 112, 97], .str [], .str [97, 117, 116, 111], cB true, .str [111, 114, 100, 101, 114], .str [110], .str [], .str [], cB false, .str [103, 97, 112], .str [108], .str [], .str [], cB true, .str [116, 97, 98, 108, 101, 45, 108, 97, 121, 111, 117, 116], .str [107], .str [97, 117, 116, 111, 32, 102, 105, 120, 101, 100], .str [], cB false, .str [98, 111, 114, 100, 101, 114, 45, 115, 112, 97, 99, 105, 110, 103], .str [108], .str [], .str [], cB true, .str [108, 105, 115, 116, 45, 115, 116, 121, 108, 101, 45, 116, 121, 112, 101], .str [107], .str [110, 111, 110, 101, 32, 100, 105, 115, 99, 32, 100, 101, 99, 105, 109, 97, 108], .str [], cB false, .str [112, 111, 105, 110, 116, 101, 114, 45, 101, 118, 101, 110, 116, 115], .str [107], .str [97, 117, 116, 111, 32, 110, 111, 110, 101], .str [], cB false])
def prop_thirds_t9 : List Trow := [(⟨[116, 101, 120, 116, 45, 105, 110, 100, 101, 110, 116], [108, 112], [], [], false⟩ : Trow), (⟨[119, 104, 105, 116, 101, 45, 115, 112, 97, 99, 101], [107], [110, 111, 114, 109, 97, 108, 32, 112, 114, 101, 32, 110, 111, 119, 114, 97, 112, 32, 112, 114, 101, 45, 119, 114, 97, 112], [], false⟩ : Trow), (⟨[118, 101, 114, 116, 105, 99, 97, 108, 45, 97, 108, 105, 103, 110], [107, 108], [98, 97, 115, 101, 108, 105, 110, 101, 32, 116, 111, 112, 32, 109, 105, 100, 100, 108, 101, 32, 98, 111, 116, 116, 111, 109], [], false⟩ : Trow), (⟨[116, 101, 120, 116, 45, 116, 114, 97, 110, 115, 102, 111, 114, 109], [107], [110, 111, 110, 101, 32, 117, 112, 112, 101, 114, 99, 97, 115, 101, 32, 108, 111, 119, 101, 114, 99, 97, 115, 101], [], false⟩ : Trow), (⟨[108, 101, 116, 116, 101, 114, 45, 115, 112, 97, 99, 105, 110, 103], [108, 97], [], [110, 111, 114, 109, 97, 108], false⟩ : Trow), (⟨[102, 108, 101, 120, 45, 100, 105, 114, 101, 99, 116, 105, 111, 110], [107], [114, 111, 119, 32, 114, 111, 119, 45, 114, 101, 118, 101, 114, 115, 101, 32, 99, 111, 108, 117, 109, 110, 32, 99, 111, 108, 117, 109, 110, 45, 114, 101, 118, 101, 114, 115, 101], [], false⟩ : Trow), (⟨[102, 108, 101, 120, 45, 119, 114, 97, 112], [107], [110, 111, 119, 114, 97, 112, 32, 119, 114, 97, 112], [], false⟩ : Trow), (⟨[106, 117, 115, 116, 105, 102, 121, 45, 99, 111, 110, 116, 101, 110, 116], [107], [102, 108, 101, 120, 45, 115, 116, 97, 114, 116, 32, 102, 108, 101, 120, 45, 101, 110, 100, 32, 99, 101, 110, 116, 101, 114, 32, 45, 32, 115, 112, 97, 99, 101, 45, 98, 101, 116, 119, 101, 101, 110, 32, 115, 112, 97, 99, 101, 45, 97, 114, 111, 117, 110, 100], [], false⟩ : Trow), (⟨[97, 108, 105, 103, 110, 45, 105, 116, 101, 109, 115], [107], [102, 108, 101, 120, 45, 115, 116, 97, 114, 116, 32, 102, 108, 101, 120, 45, 101, 110, 100, 32, 99, 101, 110, 116, 101, 114, 32, 45, 32, 45, 32, 45, 32, 115, 116, 114, 101, 116, 99, 104], [], false⟩ : Trow), (⟨[97, 108, 105, 103, 110, 45, 115, 101, 108, 102], [107, 97], [102, 108, 101, 120, 45, 115, 116, 97, 114, 116, 32, 102, 108, 101, 120, 45, 101, 110, 100, 32, 99, 101, 110, 116, 101, 114, 32, 45, 32, 45, 32, 45, 32, 115, 116, 114, 101, 116, 99, 104], [97, 117, 116, 111], false⟩ : Trow), (⟨[102, 108, 101, 120, 45, 103, 114, 111, 119], [110], [], [], true⟩ : Trow), (⟨[102, 108, 101, 120, 45, 115, 104, 114, 105, 110, 107], [110], [], [], true⟩ : Trow), (⟨[102, 108, 101, 120, 45, 98, 97, 115, 105, 115], [108, 112, 97], [], [97, 117, 116, 111], true⟩ : Trow), (⟨[111, 114, 100, 101, 114], [110], [], [], false⟩ : Trow), (⟨[103, 97, 112], [108], [], [], true⟩ : Trow), (⟨[116, 97, 98, 108, 101, 45, 108, 97, 121, 111, 117, 116], [107], [97, 117, 116, 111, 32, 102, 105, 120, 101, 100], [], false⟩ : Trow), (⟨[98, 111, 114, 100, 101, 114, 45, 115, 112, 97, 99, 105, 110, 103], [108], [], [], true⟩ : Trow), (⟨[108, 105, 115, 116, 45, 115, 116, 121, 108, 101, 45, 116, 121, 112, 101], [107], [110, 111, 110, 101, 32, 100, 105, 115, 99, 32, 100, 101, 99, 105, 109, 97, 108], [], false⟩ : Trow), (⟨[112, 111, 105, 110, 116, 101, 114, 45, 101, 118, 101, 110, 116, 115], [107], [97, 117, 116, 111, 32, 110, 111, 110, 101], [], false⟩ : Trow)]
/-- clerestory/prop.thirds -/
noncomputable def prop_thirds (p_ : Int) : Option Trow :=
  (at? prop_thirds_t9 p_).bind fun x_ =>
  some x_
theorem prop_thirds_ok {mL : Int} {p_ : Int} {r : Trow} (h : prop_thirds p_ = some r) : CPure Tryd.prog (GG mL) 50 [(I p_)] (.agg [.str r.f_name, .str r.f_kinds, .str r.f_keys, .str r.f_auto, cB r.f_above]) := by
  refine acalls_of_sv hmix c50 (R := prop_thirds_post r) ?_
  unfold prop_thirds at h
  refine Sv.seq ?_
  refine Sv.region ?_
  refine un (a2v (v := (.c (.ref 0 5 0 0))) (h' := upd _ 0 (some (.cells 5 [[.str [], .str [], .str [], .str [], cB false]]))) (n' := 1) rfl rfl (fun h => by cases h) ?_)
  refine dnil ?_
  refine Sv.seq ?_
  refine Sv.region ?_
  refine un (a1 (v := (.agg [.str [116, 101, 120, 116, 45, 105, 110, 100, 101, 110, 116], .str [108, 112], .str [], .str [], cB false])) rfl ?_)
  refine un (a1 (v := prop_thirds_t0) rfl ?_)
  refine un (a1 (v := prop_thirds_t1) rfl ?_)
  refine un (a1 (v := prop_thirds_t2) rfl ?_)
  refine un (a1 (v := (.agg [.str [108, 101, 116, 116, 101, 114, 45, 115, 112, 97, 99, 105, 110, 103], .str [108, 97], .str [], .str [110, 111, 114, 109, 97, 108], cB false])) rfl ?_)
  refine un (a1 (v := prop_thirds_t3) rfl ?_)
  refine un (a1 (v := (.agg [.str [102, 108, 101, 120, 45, 119, 114, 97, 112], .str [107], .str [110, 111, 119, 114, 97, 112, 32, 119, 114, 97, 112], .str [], cB false])) rfl ?_)
  refine un (a1 (v := prop_thirds_t4) rfl ?_)
  refine un (a1 (v := prop_thirds_t5) rfl ?_)
  refine un (a1 (v := prop_thirds_t6) rfl ?_)
  refine un (a1 (v := (.agg [.str [102, 108, 101, 120, 45, 103, 114, 111, 119], .str [110], .str [], .str [], cB true])) rfl ?_)
  refine un (a1 (v := (.agg [.str [102, 108, 101, 120, 45, 115, 104, 114, 105, 110, 107], .str [110], .str [], .str [], cB true])) rfl ?_)
  refine un (a1 (v := (.agg [.str [102, 108, 101, 120, 45, 98, 97, 115, 105, 115], .str [108, 112, 97], .str [], .str [97, 117, 116, 111], cB true])) rfl ?_)
  refine un (a1 (v := (.agg [.str [111, 114, 100, 101, 114], .str [110], .str [], .str [], cB false])) rfl ?_)
  refine un (a1 (v := (.agg [.str [103, 97, 112], .str [108], .str [], .str [], cB true])) rfl ?_)
  refine un (a1 (v := (.agg [.str [116, 97, 98, 108, 101, 45, 108, 97, 121, 111, 117, 116], .str [107], .str [97, 117, 116, 111, 32, 102, 105, 120, 101, 100], .str [], cB false])) rfl ?_)
  refine un (a1 (v := (.agg [.str [98, 111, 114, 100, 101, 114, 45, 115, 112, 97, 99, 105, 110, 103], .str [108], .str [], .str [], cB true])) rfl ?_)
  refine un (a1 (v := prop_thirds_t7) rfl ?_)
  refine un (a1 (v := (.agg [.str [112, 111, 105, 110, 116, 101, 114, 45, 101, 118, 101, 110, 116, 115], .str [107], .str [97, 117, 116, 111, 32, 110, 111, 110, 101], .str [], cB false])) rfl ?_)
  refine un (a1 (v := prop_thirds_t8) rfl ?_)
  refine un (a2v (v := (.c (.ref 1 95 0 0))) (h' := upd _ 1 (some (.cells 95 [[.str [], .str [], .str [], .str [], cB false, .str [], .str [], .str [], .str [], cB false, .str [], .str [], .str [], .str [], cB false, .str [], .str [], .str [], .str [], cB false, .str [], .str [], .str [], .str [], cB false, .str [], .str [], .str [], .str [], cB false, .str [], .str [], .str [], .str [], cB false, .str [], .str [], .str [], .str [], cB false, .str [], .str [], .str [], .str [], cB false, .str [], .str [], .str [], .str [], cB false, .str [], .str [], .str [], .str [], cB false, .str [], .str [], .str [], .str [], cB false, .str [], .str [], .str [], .str [], cB false, .str [], .str [], .str [], .str [], cB false, .str [], .str [], .str [], .str [], cB false, .str [], .str [], .str [], .str [], cB false, .str [], .str [], .str [], .str [], cB false, .str [], .str [], .str [], .str [], cB false, .str [], .str [], .str [], .str [], cB false]]))) (n' := 2) rfl rfl (fun h => by cases h) ?_)
  refine un (a2n (h' := upd _ 1 (some (.cells 95 [[.str [116, 101, 120, 116, 45, 105, 110, 100, 101, 110, 116], .str [108, 112], .str [], .str [], cB false, .str [119, 104, 105, 116, 101, 45, 115, 112, 97, 99, 101], .str [107], .str [110, 111, 114, 109, 97, 108, 32, 112, 114, 101, 32, 110, 111, 119, 114, 97, 112, 32, 112, 114, 101, 45, 119, 114, 97, 112], .str [], cB false, .str [118, 101, 114, 116, 105, 99, 97, 108, 45, 97, 108, 105, 103, 110], .str [107, 108], .str [98, 97, 115, 101, 108, 105, 110, 101, 32, 116, 111, 112, 32, 109, 105, 100, 100, 108, 101, 32, 98, 111, 116, 116, 111, 109], .str [], cB false, .str [116, 101, 120, 116, 45, 116, 114, 97, 110, 115, 102, 111, 114, 109], .str [107], .str [110, 111, 110, 101, 32, 117, 112, 112, 101, 114, 99, 97, 115, 101, 32, 108, 111, 119, 101, 114, 99, 97, 115, 101], .str [], cB false, .str [108, 101, 116, 116, 101, 114, 45, 115, 112, 97, 99, 105, 110, 103], .str [108, 97], .str [], .str [110, 111, 114, 109, 97, 108], cB false, .str [102, 108, 101, 120, 45, 100, 105, 114, 101, 99, 116, 105, 111, 110], .str [107], .str [114, 111, 119, 32, 114, 111, 119, 45, 114, 101, 118, 101, 114, 115, 101, 32, 99, 111, 108, 117, 109, 110, 32, 99, 111, 108, 117, 109, 110, 45, 114, 101, 118, 101, 114, 115, 101], .str [], cB false, .str [102, 108, 101, 120, 45, 119, 114, 97, 112], .str [107], .str [110, 111, 119, 114, 97, 112, 32, 119, 114, 97, 112], .str [], cB false, .str [106, 117, 115, 116, 105, 102, 121, 45, 99, 111, 110, 116, 101, 110, 116], .str [107], .str [102, 108, 101, 120, 45, 115, 116, 97, 114, 116, 32, 102, 108, 101, 120, 45, 101, 110, 100, 32, 99, 101, 110, 116, 101, 114, 32, 45, 32, 115, 112, 97, 99, 101, 45, 98, 101, 116, 119, 101, 101, 110, 32, 115, 112, 97, 99, 101, 45, 97, 114, 111, 117, 110, 100], .str [], cB false, .str [97, 108, 105, 103, 110, 45, 105, 116, 101, 109, 115], .str [107], .str [102, 108, 101, 120, 45, 115, 116, 97, 114, 116, 32, 102, 108, 101, 120, 45, 101, 110, 100, 32, 99, 101, 110, 116, 101, 114, 32, 45, 32, 45, 32, 45, 32, 115, 116, 114, 101, 116, 99, 104], .str [], cB false, .str [97, 108, 105, 103, 110, 45, 115, 101, 108, 102], .str [107, 97], .str [102, 108, 101, 120, 45, 115, 116, 97, 114, 116, 32, 102, 108, 101, 120, 45, 101, 110, 100, 32, 99, 101, 110, 116, 101, 114, 32, 45, 32, 45, 32, 45, 32, 115, 116, 114, 101, 116, 99, 104], .str [97, 117, 116, 111], cB false, .str [102, 108, 101, 120, 45, 103, 114, 111, 119], .str [110], .str [], .str [], cB true, .str [102, 108, 101, 120, 45, 115, 104, 114, 105, 110, 107], .str [110], .str [], .str [], cB true, .str [102, 108, 101, 120, 45, 98, 97, 115, 105, 115], .str [108, 112, 97], .str [], .str [97, 117, 116, 111], cB true, .str [111, 114, 100, 101, 114], .str [110], .str [], .str [], cB false, .str [103, 97, 112], .str [108], .str [], .str [], cB true, .str [116, 97, 98, 108, 101, 45, 108, 97, 121, 111, 117, 116], .str [107], .str [97, 117, 116, 111, 32, 102, 105, 120, 101, 100], .str [], cB false, .str [98, 111, 114, 100, 101, 114, 45, 115, 112, 97, 99, 105, 110, 103], .str [108], .str [], .str [], cB true, .str [108, 105, 115, 116, 45, 115, 116, 121, 108, 101, 45, 116, 121, 112, 101], .str [107], .str [110, 111, 110, 101, 32, 100, 105, 115, 99, 32, 100, 101, 99, 105, 109, 97, 108], .str [], cB false, .str [112, 111, 105, 110, 116, 101, 114, 45, 101, 118, 101, 110, 116, 115], .str [107], .str [97, 117, 116, 111, 32, 110, 111, 110, 101], .str [], cB false]]))) (n' := 2) rfl rfl (fun h => by cases h) ?_)
  refine dnil ?_
  refine Sv.seq ?_
  refine Sv.region ?_
  refine un (a1 rfl ?_)
  obtain ⟨x_, hx1, h⟩ := bnd h
  refine un (a1 (v := (.c (.ref 1 95 0 (0 + p_.toNat * 5)))) (s_iaddrA (L := prop_thirds_t9) rfl rfl rfl hx1) ?_)
  refine un (a1 (v := (.agg [.str x_.f_name, .str x_.f_kinds, .str x_.f_keys, .str x_.f_auto, cB x_.f_above])) (s_loadA (o2 := 0) (v := fun q => (.agg [.str q.f_name, .str q.f_kinds, .str q.f_keys, .str q.f_auto, cB q.f_above])) rfl rfl (.cons rfl (.cons rfl (.cons rfl (.cons rfl (.cons rfl (.cons rfl (.cons rfl (.cons rfl (.cons rfl (.cons rfl (.cons rfl (.cons rfl (.cons rfl (.cons rfl (.cons rfl (.cons rfl (.cons rfl (.cons rfl (.cons rfl .nil))))))))))))))))))) hx1) ?_)
  refine un (a2n (h' := upd _ 0 (some (.cells 5 [[.str x_.f_name, .str x_.f_kinds, .str x_.f_keys, .str x_.f_auto, cB x_.f_above]]))) (n' := 2) rfl rfl (fun h => by cases h) ?_)
  refine dnil ?_
  refine Sv.ret ?_
  replace h := Option.some.inj h
  subst h
  exact ⟨_, .refl _, _, rfl, ⟨upd (fun _ => none) 0 (some (.agg [.str x_.f_name, .str x_.f_kinds, .str x_.f_keys, .str x_.f_auto, cB x_.f_above])), (fun _ => none), 0⟩, (.agg [.str x_.f_name, .str x_.f_kinds, .str x_.f_keys, .str x_.f_auto, cB x_.f_above]), weak_canon [] rfl List.nodup_nil (Nat.le_refl _) (fun b h => absurd h (Nat.not_lt_zero _)) (.cons rfl (avAs_free rfl) .nil) .nil, rfl, rfl, rfl, rfl⟩
def a23 : AFunc := ⟨1, [(.cell true 5 2)], (.seq (.region [⟨(some 2), (.box (.const (.agg [(.str []), (.str []), (.str []), (.str []), (.val (.bool false))]))), none⟩])
 (.seq (.block 0 (.seq (.region [⟨(some 4), (.mov (.tmp 0)), none⟩, ⟨(some 5), (.bin .lss (.tmp 4) (.const (.c (.val (.int .i64 20))))), none⟩, ⟨(some 3), (.mov (.tmp 5)), none⟩])
 (.cond (.tmp 3) (.seq (.region [⟨(some 6), (.mov (.tmp 0)), none⟩, ⟨(some 7), (.call 48 [(.tmp 6)]), none⟩, ⟨none, (.store 5 (.tmp 2) (.tmp 7)), none⟩])
 .ret) (.seq (.region [⟨(some 9), (.mov (.tmp 0)), none⟩, ⟨(some 10), (.bin .lss (.tmp 9) (.const (.c (.val (.int .i64 40))))), none⟩, ⟨(some 8), (.mov (.tmp 10)), none⟩])
 (.cond (.tmp 8) (.seq (.region [⟨(some 11), (.mov (.tmp 0)), none⟩, ⟨(some 12), (.bin .sub (.tmp 11) (.const (.c (.val (.int .i64 20))))), none⟩, ⟨(some 13), (.call 49 [(.tmp 12)]), none⟩, ⟨none, (.store 5 (.tmp 2) (.tmp 13)), none⟩])
 .ret) .skip)))))
 (.seq (.region [⟨(some 14), (.mov (.tmp 0)), none⟩, ⟨(some 15), (.bin .sub (.tmp 14) (.const (.c (.val (.int .i64 40))))), none⟩, ⟨(some 16), (.call 50 [(.tmp 15)]), none⟩, ⟨none, (.store 5 (.tmp 2) (.tmp 16)), none⟩])
 .ret)))⟩
set_option maxRecDepth 100000 in
theorem c23 : compFunc Tryd.prog 23 = some a23 := by kernel_rfl
def prop_at_post (r : Trow) : AV → Heap → Nat → Prop := fun v h' n' => v = (.agg [.str r.f_name, .str r.f_kinds, .str r.f_keys, .str r.f_auto, cB r.f_above]) ∧ (h' = (fun _ => none)) ∧ n' = 0
/-- clerestory/prop.at -/
noncomputable def prop_at (p_ : Int) : Option Trow :=
  if decide (p_ < 20) then
    (prop_firsts p_).bind fun r_ =>
    some r_
  else
    if decide (p_ < 40) then
      (prop_seconds (wi (p_ - 20))).bind fun r_1 =>
      some r_1
    else
      (prop_thirds (wi (p_ - 40))).bind fun r_2 =>
      some r_2
theorem prop_at_ok {mL : Int} {p_ : Int} {r : Trow} (h : prop_at p_ = some r) : CPure Tryd.prog (GG mL) 23 [(I p_)] (.agg [.str r.f_name, .str r.f_kinds, .str r.f_keys, .str r.f_auto, cB r.f_above]) := by
  refine acalls_of_sv hmix c23 (R := prop_at_post r) ?_
  unfold prop_at at h
  refine Sv.seq ?_
  refine Sv.region ?_
  refine un (a2v (v := (.c (.ref 0 5 0 0))) (h' := upd _ 0 (some (.cells 5 [[.str [], .str [], .str [], .str [], cB false]]))) (n' := 1) rfl rfl (fun h => by cases h) ?_)
  refine dnil ?_
  refine Sv.seq ?_
  refine Sv.block ?_
  refine Sv.seq ?_
  refine Sv.region ?_
  refine un (a1 rfl ?_)
  refine un (a1 (v := (B (decide (p_ < 20)))) rfl ?_)
  refine un (a1 rfl ?_)
  refine dnil ?_
  refine Sv.cond (b := decide (p_ < 20)) rfl (fun hc1 => ?_) (fun hc1 => ?_)
  · replace h := ifT hc1 h
    refine Sv.seq ?_
    refine Sv.region ?_
    refine un (a1 rfl ?_)
    obtain ⟨r_, hr1, h⟩ := bnd h
    refine un (ac_pure (prop_firsts_ok hr1) rfl rfl rfl ?_)
    refine un (a2n (h' := upd _ 0 (some (.cells 5 [[.str r_.f_name, .str r_.f_kinds, .str r_.f_keys, .str r_.f_auto, cB r_.f_above]]))) (n' := 1) rfl rfl (fun h => by cases h) ?_)
    refine dnil ?_
    refine Sv.ret ?_
    replace h := Option.some.inj h
    subst h
    exact ⟨_, .refl _, _, rfl, ⟨upd (fun _ => none) 0 (some (.agg [.str r_.f_name, .str r_.f_kinds, .str r_.f_keys, .str r_.f_auto, cB r_.f_above])), (fun _ => none), 0⟩, (.agg [.str r_.f_name, .str r_.f_kinds, .str r_.f_keys, .str r_.f_auto, cB r_.f_above]), weak_canon [] rfl List.nodup_nil (Nat.le_refl _) (fun b h => absurd h (Nat.not_lt_zero _)) (.cons rfl (avAs_free rfl) .nil) .nil, rfl, rfl, rfl, rfl⟩
  · replace h := ifF hc1 h
    refine Sv.seq ?_
    refine Sv.region ?_
    refine un (a1 rfl ?_)
    refine un (a1 (v := (B (decide (p_ < 40)))) rfl ?_)
    refine un (a1 rfl ?_)
    refine dnil ?_
    refine Sv.cond (b := decide (p_ < 40)) rfl (fun hc2 => ?_) (fun hc2 => ?_)
    · replace h := ifT hc2 h
      refine Sv.seq ?_
      refine Sv.region ?_
      refine un (a1 rfl ?_)
      refine un (a1 (v := (I (wi (p_ - 20)))) rfl ?_)
      obtain ⟨r_1, hr2, h⟩ := bnd h
      refine un (ac_pure (prop_seconds_ok hr2) rfl rfl rfl ?_)
      refine un (a2n (h' := upd _ 0 (some (.cells 5 [[.str r_1.f_name, .str r_1.f_kinds, .str r_1.f_keys, .str r_1.f_auto, cB r_1.f_above]]))) (n' := 1) rfl rfl (fun h => by cases h) ?_)
      refine dnil ?_
      refine Sv.ret ?_
      replace h := Option.some.inj h
      subst h
      exact ⟨_, .refl _, _, rfl, ⟨upd (fun _ => none) 0 (some (.agg [.str r_1.f_name, .str r_1.f_kinds, .str r_1.f_keys, .str r_1.f_auto, cB r_1.f_above])), (fun _ => none), 0⟩, (.agg [.str r_1.f_name, .str r_1.f_kinds, .str r_1.f_keys, .str r_1.f_auto, cB r_1.f_above]), weak_canon [] rfl List.nodup_nil (Nat.le_refl _) (fun b h => absurd h (Nat.not_lt_zero _)) (.cons rfl (avAs_free rfl) .nil) .nil, rfl, rfl, rfl, rfl⟩
    · replace h := ifF hc2 h
      refine Sv.skip ?_
      refine Sv.seq ?_
      refine Sv.region ?_
      refine un (a1 rfl ?_)
      refine un (a1 (v := (I (wi (p_ - 40)))) rfl ?_)
      obtain ⟨r_2, hr3, h⟩ := bnd h
      refine un (ac_pure (prop_thirds_ok hr3) rfl rfl rfl ?_)
      refine un (a2n (h' := upd _ 0 (some (.cells 5 [[.str r_2.f_name, .str r_2.f_kinds, .str r_2.f_keys, .str r_2.f_auto, cB r_2.f_above]]))) (n' := 1) rfl rfl (fun h => by cases h) ?_)
      refine dnil ?_
      refine Sv.ret ?_
      replace h := Option.some.inj h
      subst h
      exact ⟨_, .refl _, _, rfl, ⟨upd (fun _ => none) 0 (some (.agg [.str r_2.f_name, .str r_2.f_kinds, .str r_2.f_keys, .str r_2.f_auto, cB r_2.f_above])), (fun _ => none), 0⟩, (.agg [.str r_2.f_name, .str r_2.f_kinds, .str r_2.f_keys, .str r_2.f_auto, cB r_2.f_above]), weak_canon [] rfl List.nodup_nil (Nat.le_refl _) (fun b h => absurd h (Nat.not_lt_zero _)) (.cons rfl (avAs_free rfl) .nil) .nil, rfl, rfl, rfl, rfl⟩
def a24 : AFunc := ⟨1, [(.tmp 2)], (.seq (.region [⟨(some 2), (.mov (.const (.c (.str [])))), none⟩])
 (.seq (.seq (.region [⟨(some 3), (.mov (.tmp 0)), none⟩, ⟨(some 4), (.bin .lss (.tmp 3) (.const (.c (.val (.int .i64 1))))), none⟩, ⟨(some 5), (.mov (.tmp 4)), none⟩, ⟨(some 6), (.mov (.tmp 0)), (some (5, false))⟩, ⟨(some 7), (.bin .gtr (.tmp 6) (.const (.c (.val (.int .i64 6))))), (some (5, false))⟩, ⟨(some 8), (.pick (.tmp 5) (.const (.c (.val (.bool true)))) (.tmp 7)), none⟩])
 (.cond (.tmp 8) (.seq (.region [⟨(some 2), (.mov (.const (.c (.str [63])))), none⟩])
 .ret) .skip))
 (.seq (.region [⟨(some 9), (.mov (.tmp 0)), none⟩, ⟨(some 10), (.bin .sub (.tmp 9) (.const (.c (.val (.int .i64 1))))), none⟩, ⟨(some 11), (.mov (.tmp 0)), none⟩, ⟨(some 12), (.slStr (.const (.c (.str [107, 108, 112, 110, 99, 97]))) (some (.tmp 10)) (some (.tmp 11))), none⟩, ⟨(some 2), (.mov (.tmp 12)), none⟩])
 .ret)))⟩
set_option maxRecDepth 100000 in
theorem c24 : compFunc Tryd.prog 24 = some a24 := by kernel_rfl
def prop_letter_post (r : (List UInt8)) : AV → Heap → Nat → Prop := fun v h' n' => v = (S r) ∧ (h' = (fun _ => none)) ∧ n' = 0
/-- clerestory/prop.letter -/
noncomputable def prop_letter (kind : Int) : Option (List UInt8) :=
  if ((decide (kind < 1)) || (decide (6 < kind))) then
    some [63]
  else
    (sub? [107, 108, 112, 110, 99, 97] (wi (kind - 1)) kind).bind fun r_ =>
    some r_
theorem prop_letter_ok {mL : Int} {kind : Int} {r : (List UInt8)} (h : prop_letter kind = some r) : CPure Tryd.prog (GG mL) 24 [(I kind)] (S r) := by
  refine acalls_of_sv hmix c24 (R := prop_letter_post r) ?_
  unfold prop_letter at h
  refine Sv.seq ?_
  refine Sv.region ?_
  refine un (a1 rfl ?_)
  refine dnil ?_
  refine Sv.seq ?_
  refine Sv.seq ?_
  refine Sv.region ?_
  refine un (a1 rfl ?_)
  refine un (a1 (v := (B (decide (kind < 1)))) rfl ?_)
  refine un (a1 rfl ?_)
  refine gjoin 3 (d := 8) (v := (B ((decide (kind < 1)) || (decide (6 < kind))))) (fun X hX => ?_) ?_
  · refine split2 (fun hc1 => ?_) (fun hc1 => ?_)
    · refine gs rfl rfl ?_
      refine gs rfl rfl ?_
      refine un (a1 (v := (B true)) rfl ?_)
      refine dnil ?_
      exact hX _ (.putEq (by rw [hc1]; rfl) (.skip _ _ (.skip _ _ (.putEq (by rw [hc1]) (.refl _)) rfl) rfl))
    · refine gt rfl (a1 rfl ?_)
      refine gt rfl (a1 (v := (B (decide (6 < kind)))) rfl ?_)
      refine un (a1 (v := (B (decide (6 < kind)))) rfl ?_)
      refine dnil ?_
      exact hX _ (.putEq (by rw [hc1]; rfl) (.skip _ _ (.skip _ _ (.putEq (by rw [hc1]) (.refl _)) rfl) rfl))
  refine dnil ?_
  refine Sv.cond (b := ((decide (kind < 1)) || (decide (6 < kind)))) rfl (fun hc2 => ?_) (fun hc2 => ?_)
  · replace h := ifT hc2 h
    refine Sv.seq ?_
    refine Sv.region ?_
    refine un (a1 rfl ?_)
    refine dnil ?_
    refine Sv.ret ?_
    replace h := Option.some.inj h
    subst h
    exact ⟨_, .refl _, _, rfl, ⟨upd (fun _ => none) 0 (some (S [63])), (fun _ => none), 0⟩, (S [63]), weak_canon [] rfl List.nodup_nil (Nat.le_refl _) (fun b h => absurd h (Nat.not_lt_zero _)) (.cons rfl (avAs_free rfl) .nil) .nil, rfl, rfl, rfl, rfl⟩
  · replace h := ifF hc2 h
    refine Sv.skip ?_
    refine Sv.seq ?_
    refine Sv.region ?_
    refine un (a1 rfl ?_)
    refine un (a1 (v := (I (wi (kind - 1)))) rfl ?_)
    refine un (a1 rfl ?_)
    obtain ⟨r_, hx1, h⟩ := bnd h
    refine un (a1 (v := (S r_)) (s_slStr rfl rfl rfl hx1) ?_)
    refine un (a1 rfl ?_)
    refine dnil ?_
    refine Sv.ret ?_
    replace h := Option.some.inj h
    subst h
    exact ⟨_, .refl _, _, rfl, ⟨upd (fun _ => none) 0 (some (S r_)), (fun _ => none), 0⟩, (S r_), weak_canon [] rfl List.nodup_nil (Nat.le_refl _) (fun b h => absurd h (Nat.not_lt_zero _)) (.cons rfl (avAs_free rfl) .nil) .nil, rfl, rfl, rfl, rfl⟩
noncomputable abbrev strings_Contains (s_ : (List UInt8)) (substr_ : (List UInt8)) : Option Bool := contains? s_ substr_
/-- strings.Contains+, by the contract of the shelf -/
theorem strings_Contains_ok {mL : Int} {s_ : (List UInt8)} {substr_ : (List UInt8)} {r : Bool} (h : strings_Contains s_ substr_ = some r) : CPure Tryd.prog (GG mL) 22 [(S s_), (S substr_)] (B r) := contains_ok (m := mL) Tryd.lays144 rfl h
noncomputable abbrev strings_Split (s_ : (List UInt8)) (sep_ : (List UInt8)) : Option (List (List UInt8)) := split? s_ sep_
/-- strings.Split, by the contract of the shelf -/
theorem strings_Split_ok {mL : Int} {s_ : (List UInt8)} {sep_ : (List UInt8)} {r : (List (List UInt8))} (h : strings_Split s_ sep_ = some r) : ACalls Tryd.prog (GG mL) 51 [(S s_), (S sep_)] (fun _ => none) 0 (fun v h' n' => ∃ z : Bool, (z = true → r = []) ∧ v = lstV z 0 1 r.length ∧ (h' = (upd (fun _ => none) 0 (lstB z 1 (r.map eStr)))) ∧ n' = 1) := split_ok (m := mL) Tryd.lays146 (by kernel_rfl) rfl h
def a25_c0 : ACode := (.cond (.tmp 23) (.seq (.region [⟨(some 4), (.mov (.const (.c (.str [])))), none⟩])
 .ret) .skip)
def a25_c1 : ACode := (.seq (.region [⟨(some 24), (.mov (.tmp 5)), none⟩, ⟨(some 25), (.mov (.tmp 1)), none⟩, ⟨(some 26), (.iaddr 1 (.tmp 24) (.tmp 25)), none⟩, ⟨(some 27), (.load false 1 (.tmp 26)), none⟩, ⟨(some 4), (.mov (.tmp 27)), none⟩])
 .ret)
def a25 : AFunc := ⟨2, [(.tmp 4)], (.seq (.region [⟨(some 2), (.box (.tmp 0)), none⟩, ⟨(some 4), (.mov (.const (.c (.str [])))), none⟩])
 (.seq (.region [⟨(some 6), (.faddr 2 (.tmp 2)), none⟩, ⟨(some 7), (.load false 1 (.tmp 6)), none⟩, ⟨(some 8), (.call 51 [(.tmp 7), (.const (.c (.str [32])))]), none⟩, ⟨(some 5), (.mov (.tmp 8)), none⟩])
 (.seq (.seq (.region [⟨(some 9), (.mov (.tmp 1)), none⟩, ⟨(some 10), (.bin .lss (.tmp 9) (.const (.c (.val (.int .i64 0))))), none⟩, ⟨(some 11), (.mov (.tmp 10)), none⟩, ⟨(some 12), (.mov (.tmp 1)), (some (11, false))⟩, ⟨(some 13), (.mov (.tmp 5)), (some (11, false))⟩, ⟨(some 14), (.len (.tmp 13)), (some (11, false))⟩, ⟨(some 15), (.bin .geq (.tmp 12) (.tmp 14)), (some (11, false))⟩, ⟨(some 16), (.pick (.tmp 11) (.const (.c (.val (.bool true)))) (.tmp 15)), none⟩, ⟨(some 17), (.mov (.tmp 16)), none⟩, ⟨(some 18), (.mov (.tmp 5)), (some (17, false))⟩, ⟨(some 19), (.mov (.tmp 1)), (some (17, false))⟩, ⟨(some 20), (.iaddr 1 (.tmp 18) (.tmp 19)), (some (17, false))⟩, ⟨(some 21), (.load false 1 (.tmp 20)), (some (17, false))⟩, ⟨(some 22), (.bin .eql (.tmp 21) (.const (.c (.str [45])))), (some (17, false))⟩, ⟨(some 23), (.pick (.tmp 17) (.const (.c (.val (.bool true)))) (.tmp 22)), none⟩])
 a25_c0)
 a25_c1)))⟩
set_option maxRecDepth 100000 in
theorem c25 : compFunc Tryd.prog 25 = some a25 := by kernel_rfl
def prop_key_post (r : (List UInt8)) : AV → Heap → Nat → Prop := fun v h' n' => v = (S r) ∧ (h' = (fun _ => none)) ∧ n' = 0
abbrev prop_key_q0 (mL : Int) (o : (List UInt8)) : AExit → St → Prop := AThen (Sv Tryd.prog (GG mL) 0 a25_c1 (Ends a25.results 0 (prop_key_post o))) (Ends a25.results 0 (prop_key_post o))
noncomputable def prop_key_j1 (n_ : Int) (l_ : (List (List UInt8))) (v23 : Bool) : Option (List UInt8) :=
  if v23 then
    some []
  else
    (at? l_ n_).bind fun x_ =>
    some x_
theorem prop_key_j1_ok {mL : Int} {n_ : Int} {l_ : (List (List UInt8))} {v23 : Bool} {zl : Bool} (hzl : zl = true → l_ = []) {o : (List UInt8)} (h : prop_key_j1 n_ l_ v23 = some o) :
    Sv Tryd.prog (GG mL) 0 a25_c0 (prop_key_q0 mL o) ⟨(upd (upd (upd (fun _ => none) 1 (some (I n_))) 5 (some (lstV zl 0 1 l_.length))) 23 (some (B v23))), (upd (fun _ => none) 0 (lstB zl 1 (l_.map eStr))), 1⟩ := by
  unfold prop_key_j1 at h
  refine Sv.cond (b := v23) rfl (fun hc1 => ?_) (fun hc1 => ?_)
  · replace h := ifT hc1 h
    refine Sv.seq ?_
    refine Sv.region ?_
    refine un (a1 rfl ?_)
    refine dnil ?_
    refine Sv.ret ?_
    replace h := Option.some.inj h
    subst h
    exact ⟨_, .refl _, _, rfl, ⟨upd (fun _ => none) 0 (some (S [])), (fun _ => none), 0⟩, (S []), weak_canon [] rfl List.nodup_nil (Nat.le_refl _) (fun b h => absurd h (Nat.not_lt_zero _)) (.cons rfl (avAs_free rfl) .nil) .nil, rfl, rfl, rfl, rfl⟩
  · replace h := ifF hc1 h
    refine Sv.skip ?_
    refine Sv.seq ?_
    refine Sv.region ?_
    refine un (a1 rfl ?_)
    refine un (a1 rfl ?_)
    obtain ⟨x_, hx1, h⟩ := bnd h
    refine un (a1 (v := (.c (.ref 0 1 n_.toNat 0))) (s_iaddrL rfl rfl hzl hx1) ?_)
    refine un (a1 (v := (S x_)) (s_loadL (z := zl) (e := eStr) rfl rfl hzl hx1 rfl rfl) ?_)
    refine un (a1 rfl ?_)
    refine dnil ?_
    refine Sv.ret ?_
    replace h := Option.some.inj h
    subst h
    exact ⟨_, .refl _, _, rfl, ⟨upd (fun _ => none) 0 (some (S x_)), (fun _ => none), 0⟩, (S x_), weak_canon [] rfl List.nodup_nil (Nat.le_refl _) (fun b h => absurd h (Nat.not_lt_zero _)) (.cons rfl (avAs_free rfl) .nil) .nil, rfl, rfl, rfl, rfl⟩
/-- clerestory/prop.key -/
noncomputable def prop_key (r_ : Trow) (n_ : Int) : Option (List UInt8) :=
  (strings_Split r_.f_keys [32]).bind fun r_1 =>
  if ((decide (n_ < 0)) || (decide ((r_1.length : Int) ≤ n_))) then
    prop_key_j1 n_ r_1 true
  else
    (at? r_1 n_).bind fun x_1 =>
    prop_key_j1 n_ r_1 (decide (x_1 = [45]))
theorem prop_key_ok {mL : Int} {r_ : Trow} {n_ : Int} {r : (List UInt8)} (h : prop_key r_ n_ = some r) : CPure Tryd.prog (GG mL) 25 [(.agg [.str r_.f_name, .str r_.f_kinds, .str r_.f_keys, .str r_.f_auto, cB r_.f_above]), (I n_)] (S r) := by
  refine acalls_of_sv hmix c25 (R := prop_key_post r) ?_
  unfold prop_key at h
  refine Sv.seq ?_
  refine Sv.region ?_
  refine un (a2v (v := (.c (.ref 0 5 0 0))) (h' := upd _ 0 (some (.cells 5 [[.str r_.f_name, .str r_.f_kinds, .str r_.f_keys, .str r_.f_auto, cB r_.f_above]]))) (n' := 1) rfl rfl (fun h => by cases h) ?_)
  refine un (a1 rfl ?_)
  refine dnil ?_
  refine Sv.seq ?_
  refine Sv.region ?_
  refine un (a1 (v := (.c (.ref 0 5 0 2))) rfl ?_)
  refine un (a1 (v := (S r_.f_keys)) rfl ?_)
  obtain ⟨r_1, hr1, h⟩ := bnd h
  refine un (ac_gen (bs := []) («as» := [(S r_.f_keys), (S [32])]) (h2 := _) (h1 := (fun _ => none)) (strings_Split_ok hr1) rfl (.cons (avAs_free rfl) (.cons (avAs_free rfl) .nil)) (hsub_refl _) (.nil _) (fun _ => rfl) (by decide) (by decide) (.cons (avAs_free rfl) (.cons (avAs_free rfl) .nil)) .nil ?_)
  rintro _ _ _ hn ⟨z_, hz_, rfl, rfl, rfl⟩
  refine ⟨.inl rfl, (upd (rem [] _) 1 (lstB z_ 1 (r_1.map eStr))), fun hbd => (m3_cons (m3_row rfl (fr_map fun _ => rfl)) (m3_rem (in_nil _) (.cons (by decide) .nil) hbd)), (lstV z_ 1 1 r_1.length), 2, (by cases z_ <;> rfl), rfl, ?_⟩
  refine un (a1 rfl ?_)
  refine dnil ?_
  refine Sv.seq ?_
  refine Sv.seq ?_
  refine Sv.region ?_
  refine un (a1 rfl ?_)
  refine un (a1 (v := (B (decide (n_ < 0)))) rfl ?_)
  refine un (a1 rfl ?_)
  refine gjoin 5 (d := 16) (v := (B ((decide (n_ < 0)) || (decide ((r_1.length : Int) ≤ n_))))) (fun X hX => ?_) ?_
  · refine split2 (fun hc2 => ?_) (fun hc2 => ?_)
    · refine gs rfl rfl ?_
      refine gs rfl rfl ?_
      refine gs rfl rfl ?_
      refine gs rfl rfl ?_
      refine un (a1 (v := (B true)) rfl ?_)
      refine dnil ?_
      exact hX _ (.putEq (by rw [hc2]; rfl) (.skip _ _ (.skip _ _ (.skip _ _ (.skip _ _ (.putEq (by rw [hc2]) (.refl _)) rfl) rfl) rfl) rfl))
    · refine gt rfl (a1 rfl ?_)
      refine gt rfl (a1 rfl ?_)
      refine gt rfl (a1 (v := (I (r_1.length : Int))) (s_lenL rfl (len_nil_of hz_)) ?_)
      refine gt rfl (a1 (v := (B (decide ((r_1.length : Int) ≤ n_)))) rfl ?_)
      refine un (a1 (v := (B (decide ((r_1.length : Int) ≤ n_)))) rfl ?_)
      refine dnil ?_
      exact hX _ (.putEq (by rw [hc2]; rfl) (.skip _ _ (.skip _ _ (.skip _ _ (.skip _ _ (.putEq (by rw [hc2]) (.refl _)) rfl) rfl) rfl) rfl))
  refine un (a1 rfl ?_)
  refine split2 (fun hc3 => ?_) (fun hc3 => ?_)
  · replace h := ifT hc3 h
    refine gs rfl rfl ?_
    refine gs rfl rfl ?_
    refine gs rfl rfl ?_
    refine gs rfl rfl ?_
    refine gs rfl rfl ?_
    refine un (a1 (v := (B true)) rfl ?_)
    refine dnil ?_
    exact Sv.weak (weak_canon [1] rfl (by decide) (by decide) (fun b h => absurd h (Nat.not_lt_zero _)) (.cons rfl (avAs_free rfl) (.cons rfl (.c (lstC_ren rfl (by decide))) (.cons rfl (avAs_free rfl) .nil))) (.row (by decide) rfl (fr_map fun _ => rfl) .nil)) (prop_key_j1_ok hz_ h)
  · replace h := ifF hc3 h
    refine gt rfl (a1 rfl ?_)
    refine gt rfl (a1 rfl ?_)
    obtain ⟨x_1, hx2, h⟩ := bnd h
    refine gt rfl (a1 (v := (.c (.ref 1 1 n_.toNat 0))) (s_iaddrL rfl rfl hz_ hx2) ?_)
    refine gt rfl (a1 (v := (S x_1)) (s_loadL (z := z_) (e := eStr) rfl rfl hz_ hx2 rfl rfl) ?_)
    refine gt rfl (a1 (v := (B (decide (x_1 = [45])))) rfl ?_)
    refine un (a1 (v := (B (decide (x_1 = [45])))) rfl ?_)
    refine dnil ?_
    exact Sv.weak (weak_canon [1] rfl (by decide) (by decide) (fun b h => absurd h (Nat.not_lt_zero _)) (.cons rfl (avAs_free rfl) (.cons rfl (.c (lstC_ren rfl (by decide))) (.cons rfl (avAs_free rfl) .nil))) (.row (by decide) rfl (fr_map fun _ => rfl) .nil)) (prop_key_j1_ok hz_ h)
def a8_c0 : ACode := (.cond (.tmp 20) (.seq (.region [⟨(some 4), (.mov (.const (.c (.val (.bool false))))), none⟩])
 .ret) .skip)
def a8_c2 : ACode := (.cond (.tmp 54) (.seq (.region [⟨(some 57), (.faddr 1 (.tmp 3)), none⟩, ⟨(some 58), (.load false 1 (.tmp 57)), none⟩, ⟨(some 59), (.bin .rem (.tmp 58) (.const (.c (.val (.int .i64 1000))))), none⟩, ⟨(some 60), (.bin .neq (.tmp 59) (.const (.c (.val (.int .i64 0))))), none⟩])
 (.cond (.tmp 60) (.seq (.region [⟨(some 4), (.mov (.const (.c (.val (.bool false))))), none⟩])
 .ret) .skip)) .skip)
def a8_c3 : ACode := (.seq (.region [⟨(some 61), (.faddr 1 (.tmp 3)), none⟩, ⟨(some 62), (.load false 1 (.tmp 61)), none⟩, ⟨(some 63), (.mov (.tmp 6)), none⟩, ⟨(some 64), (.bin .geq (.tmp 62) (.tmp 63)), none⟩, ⟨(some 65), (.mov (.tmp 64)), none⟩, ⟨(some 66), (.faddr 1 (.tmp 3)), (some (65, true))⟩, ⟨(some 67), (.load false 1 (.tmp 66)), (some (65, true))⟩, ⟨(some 68), (.mov (.tmp 7)), (some (65, true))⟩, ⟨(some 69), (.bin .leq (.tmp 67) (.tmp 68)), (some (65, true))⟩, ⟨(some 70), (.pick (.tmp 65) (.tmp 69) (.const (.c (.val (.bool false))))), none⟩, ⟨(some 4), (.mov (.tmp 70)), none⟩])
 .ret)
def a8_c1 : ACode := (.seq (.seq (.region [⟨(some 49), (.mov (.tmp 0)), none⟩])
 (.block 1 (.seq (.region [⟨(some 51), (.bin .eql (.tmp 49) (.const (.c (.val (.int .i64 37))))), none⟩, ⟨(some 50), (.mov (.tmp 51)), none⟩])
 (.cond (.tmp 50) (.region [⟨(some 6), (.mov (.const (.c (.val (.int .i64 64))))), none⟩]) (.seq (.region [⟨(some 53), (.bin .eql (.tmp 49) (.const (.c (.val (.int .i64 34))))), none⟩, ⟨(some 52), (.mov (.tmp 53)), none⟩])
 (.cond (.tmp 52) (.region [⟨(some 7), (.mov (.const (.c (.val (.int .i64 1000))))), none⟩]) (.seq (.seq (.region [⟨(some 55), (.bin .eql (.tmp 49) (.const (.c (.val (.int .i64 31))))), none⟩, ⟨(some 54), (.mov (.tmp 55)), none⟩])
 (.cond (.tmp 54) .skip (.region [⟨(some 56), (.bin .eql (.tmp 49) (.const (.c (.val (.int .i64 53))))), none⟩, ⟨(some 54), (.mov (.tmp 56)), none⟩])))
 a8_c2)))))))
 a8_c3)
def a8_c4 : ACode := (.seq (.region [⟨(some 21), (.mov (.tmp 0)), none⟩, ⟨(some 22), (.call 23 [(.tmp 21)]), none⟩, ⟨(some 5), (.box (.const (.agg [(.str []), (.str []), (.str []), (.str []), (.val (.bool false))]))), none⟩, ⟨none, (.store 5 (.tmp 5) (.tmp 22)), none⟩])
 (.seq (.seq (.region [⟨(some 23), (.faddr 0 (.tmp 3)), none⟩, ⟨(some 24), (.load false 1 (.tmp 23)), none⟩])
 (.block 0 (.seq (.region [⟨(some 26), (.bin .eql (.tmp 24) (.const (.c (.val (.int .i64 1))))), none⟩, ⟨(some 25), (.mov (.tmp 26)), none⟩])
 (.cond (.tmp 25) (.seq (.region [⟨(some 27), (.load true 5 (.tmp 5)), none⟩, ⟨(some 28), (.faddr 1 (.tmp 3)), none⟩, ⟨(some 29), (.load false 1 (.tmp 28)), none⟩, ⟨(some 30), (.call 25 [(.tmp 27), (.tmp 29)]), none⟩, ⟨(some 31), (.bin .neq (.tmp 30) (.const (.c (.str [])))), none⟩, ⟨(some 4), (.mov (.tmp 31)), none⟩])
 .ret) (.seq (.region [⟨(some 33), (.bin .eql (.tmp 24) (.const (.c (.val (.int .i64 6))))), none⟩, ⟨(some 32), (.mov (.tmp 33)), none⟩])
 (.cond (.tmp 32) (.seq (.region [⟨(some 34), (.faddr 1 (.tmp 3)), none⟩, ⟨(some 35), (.load false 1 (.tmp 34)), none⟩, ⟨(some 36), (.bin .eql (.tmp 35) (.const (.c (.val (.int .i64 0))))), none⟩, ⟨(some 4), (.mov (.tmp 36)), none⟩])
 .ret) (.seq (.region [⟨(some 38), (.bin .eql (.tmp 24) (.const (.c (.val (.int .i64 5))))), none⟩, ⟨(some 37), (.mov (.tmp 38)), none⟩])
 (.cond (.tmp 37) (.seq (.region [⟨(some 39), (.faddr 1 (.tmp 3)), none⟩, ⟨(some 40), (.load false 1 (.tmp 39)), none⟩, ⟨(some 41), (.bin .geq (.tmp 40) (.const (.c (.val (.int .i64 0))))), none⟩, ⟨(some 42), (.mov (.tmp 41)), none⟩, ⟨(some 43), (.faddr 1 (.tmp 3)), (some (42, true))⟩, ⟨(some 44), (.load false 1 (.tmp 43)), (some (42, true))⟩, ⟨(some 45), (.bin .lss (.tmp 44) (.const (.c (.val (.int .i64 4294967296))))), (some (42, true))⟩, ⟨(some 46), (.pick (.tmp 42) (.tmp 45) (.const (.c (.val (.bool false))))), none⟩, ⟨(some 4), (.mov (.tmp 46)), none⟩])
 .ret) .skip))))))))
 (.seq (.region [⟨(some 6), (.mov (.const (.c (.val (.int .i64 (-16777216)))))), none⟩, ⟨(some 7), (.mov (.const (.c (.val (.int .i64 16777216))))), none⟩])
 (.seq (.seq (.region [⟨(some 47), (.faddr 4 (.tmp 5)), none⟩, ⟨(some 48), (.load false 1 (.tmp 47)), none⟩])
 (.cond (.tmp 48) (.region [⟨(some 6), (.mov (.const (.c (.val (.int .i64 0))))), none⟩]) .skip))
 a8_c1))))
def a8 : AFunc := ⟨2, [(.tmp 4)], (.seq (.region [⟨(some 3), (.box (.tmp 1)), none⟩, ⟨(some 4), (.mov (.const (.c (.val (.bool false))))), none⟩])
 (.seq (.seq (.drawn (.fin [(⟨(some 8), (.mov (.tmp 0)), none⟩, (0, 0)), (⟨(some 9), (.call 21 [(.tmp 8)]), none⟩, (1, 1)), (⟨(some 10), (.un .not (.tmp 9)), none⟩, (0, 2)), (⟨(some 11), (.mov (.tmp 10)), none⟩, (0, 3)), (⟨(some 12), (.mov (.tmp 0)), (some (11, false))⟩, (0, 4)), (⟨(some 15), (.faddr 0 (.tmp 3)), (some (11, false))⟩, (0, 7)), (⟨(some 16), (.load false 1 (.tmp 15)), (some (11, false))⟩, (0, 8)), (⟨(some 13), (.call 23 [(.tmp 12)]), (some (11, false))⟩, (1, 5)), (⟨(some 14), (.fld false 1 1 (.tmp 13)), (some (11, false))⟩, (0, 6)), (⟨(some 17), (.call 24 [(.tmp 16)]), (some (11, false))⟩, (2, 9)), (⟨(some 18), (.call 22 [(.tmp 14), (.tmp 17)]), (some (11, false))⟩, (2, 10)), (⟨(some 19), (.un .not (.tmp 18)), (some (11, false))⟩, (0, 11)), (⟨(some 20), (.pick (.tmp 11) (.const (.c (.val (.bool true)))) (.tmp 19)), none⟩, (0, 12))]))
 a8_c0)
 a8_c4))⟩
set_option maxRecDepth 100000 in
theorem c8 : compFunc Tryd.prog 8 = some a8 := by kernel_rfl
def prop_Fits_post (r : Bool) : AV → Heap → Nat → Prop := fun v h' n' => v = (B r) ∧ (h' = (fun _ => none)) ∧ n' = 0
noncomputable def prop_Fits_j5 (v_ : TVal) (low1 : Int) (high : Int) : Option Bool :=
  some ((decide (low1 ≤ v_.N)) && (decide (v_.N ≤ high)))
theorem prop_Fits_j5_ok {mL : Int} {v_ : TVal} {low1 : Int} {high : Int} {o : Bool} (h : prop_Fits_j5 v_ low1 high = some o) :
    Sv Tryd.prog (GG mL) 0 a8_c3 (Ends a8.results 0 (prop_Fits_post o)) ⟨(upd (upd (upd (fun _ => none) 3 (some (.c (.ref 0 2 0 0)))) 6 (some (I low1))) 7 (some (I high))), (upd (fun _ => none) 0 (some (.cells 2 [[cI v_.Kind, cI v_.N]]))), 1⟩ := by
  unfold prop_Fits_j5 at h
  refine Sv.seq ?_
  refine Sv.region ?_
  refine un (a1 (v := (.c (.ref 0 2 0 1))) rfl ?_)
  refine un (a1 (v := (I v_.N)) rfl ?_)
  refine un (a1 rfl ?_)
  refine un (a1 (v := (B (decide (low1 ≤ v_.N)))) rfl ?_)
  refine un (a1 rfl ?_)
  refine gjoin 5 (d := 70) (v := (B ((decide (low1 ≤ v_.N)) && (decide (v_.N ≤ high))))) (fun X hX => ?_) ?_
  · refine split2 (fun hc6 => ?_) (fun hc6 => ?_)
    · refine gt rfl (a1 (v := (.c (.ref 0 2 0 1))) rfl ?_)
      refine gt rfl (a1 (v := (I v_.N)) rfl ?_)
      refine gt rfl (a1 rfl ?_)
      refine gt rfl (a1 (v := (B (decide (v_.N ≤ high)))) rfl ?_)
      refine un (a1 (v := (B (decide (v_.N ≤ high)))) rfl ?_)
      refine dnil ?_
      exact hX _ (.putEq (by rw [hc6]; rfl) (.skip _ _ (.skip _ _ (.skip _ _ (.skip _ _ (.putEq (by rw [hc6]) (.refl _)) rfl) rfl) rfl) rfl))
    · refine gs rfl rfl ?_
      refine gs rfl rfl ?_
      refine gs rfl rfl ?_
      refine gs rfl rfl ?_
      refine un (a1 (v := (B false)) rfl ?_)
      refine dnil ?_
      exact hX _ (.putEq (by rw [hc6]; rfl) (.skip _ _ (.skip _ _ (.skip _ _ (.skip _ _ (.putEq (by rw [hc6]) (.refl _)) rfl) rfl) rfl) rfl))
  refine un (a1 rfl ?_)
  refine dnil ?_
  refine Sv.ret ?_
  replace h := Option.some.inj h
  subst h
  exact ⟨_, .refl _, _, rfl, ⟨upd (fun _ => none) 0 (some (B ((decide (low1 ≤ v_.N)) && (decide (v_.N ≤ high))))), (fun _ => none), 0⟩, (B ((decide (low1 ≤ v_.N)) && (decide (v_.N ≤ high)))), weak_canon [] rfl List.nodup_nil (Nat.le_refl _) (fun b h => absurd h (Nat.not_lt_zero _)) (.cons rfl (avAs_free rfl) .nil) .nil, rfl, rfl, rfl, rfl⟩
abbrev prop_Fits_q0 (mL : Int) (o : Bool) : AExit → St → Prop := AThen (Sv Tryd.prog (GG mL) 0 a8_c3 (Ends a8.results 0 (prop_Fits_post o))) (Ends a8.results 0 (prop_Fits_post o))
abbrev prop_Fits_q1 (mL : Int) (o : Bool) : AExit → St → Prop := ABlock 1 (prop_Fits_q0 mL o)
noncomputable def prop_Fits_j6 (v_ : TVal) (low : Int) (v54 : Bool) : Option Bool :=
  if v54 then
    if (!decide ((v_.N.tmod 1000) = 0)) then
      some false
    else
      prop_Fits_j5 v_ low 16777216
  else
    prop_Fits_j5 v_ low 16777216
theorem prop_Fits_j6_ok {mL : Int} {v_ : TVal} {low : Int} {v54 : Bool} {o : Bool} (h : prop_Fits_j6 v_ low v54 = some o) :
    Sv Tryd.prog (GG mL) 0 a8_c2 (prop_Fits_q1 mL o) ⟨(upd (upd (upd (upd (fun _ => none) 3 (some (.c (.ref 0 2 0 0)))) 6 (some (I low))) 7 (some (I 16777216))) 54 (some (B v54))), (upd (fun _ => none) 0 (some (.cells 2 [[cI v_.Kind, cI v_.N]]))), 1⟩ := by
  unfold prop_Fits_j6 at h
  refine Sv.cond (b := v54) rfl (fun hc9 => ?_) (fun hc9 => ?_)
  · replace h := ifT hc9 h
    refine Sv.seq ?_
    refine Sv.region ?_
    refine un (a1 (v := (.c (.ref 0 2 0 1))) rfl ?_)
    refine un (a1 (v := (I v_.N)) rfl ?_)
    refine un (a1 (v := (I (v_.N.tmod 1000))) rfl ?_)
    refine un (a1 (v := (B (!decide ((v_.N.tmod 1000) = 0)))) rfl ?_)
    refine dnil ?_
    refine Sv.cond (b := (!decide ((v_.N.tmod 1000) = 0))) rfl (fun hc10 => ?_) (fun hc10 => ?_)
    · replace h := ifT hc10 h
      refine Sv.seq ?_
      refine Sv.region ?_
      refine un (a1 rfl ?_)
      refine dnil ?_
      refine Sv.ret ?_
      replace h := Option.some.inj h
      subst h
      exact ⟨_, .refl _, _, rfl, ⟨upd (fun _ => none) 0 (some (B false)), (fun _ => none), 0⟩, (B false), weak_canon [] rfl List.nodup_nil (Nat.le_refl _) (fun b h => absurd h (Nat.not_lt_zero _)) (.cons rfl (avAs_free rfl) .nil) .nil, rfl, rfl, rfl, rfl⟩
    · replace h := ifF hc10 h
      refine Sv.skip ?_
      exact Sv.weak (weak_canon [0] rfl (by decide) (by decide) (fun b h => absurd h (Nat.not_lt_zero _)) (.cons rfl (avAs_free rfl) (.cons rfl (avAs_free rfl) (.cons rfl (.c (.ref rfl (by decide))) .nil))) (.box (by decide) rfl (blkAs_cells (.cons (.same rfl) (.cons (.same rfl) .nil))) .nil)) (prop_Fits_j5_ok h)
  · replace h := ifF hc9 h
    refine Sv.skip ?_
    exact Sv.weak (weak_canon [0] rfl (by decide) (by decide) (fun b h => absurd h (Nat.not_lt_zero _)) (.cons rfl (avAs_free rfl) (.cons rfl (avAs_free rfl) (.cons rfl (.c (.ref rfl (by decide))) .nil))) (.box (by decide) rfl (blkAs_cells (.cons (.same rfl) (.cons (.same rfl) .nil))) .nil)) (prop_Fits_j5_ok h)
noncomputable def prop_Fits_j2 (p_ : Int) (v_ : TVal) (low : Int) : Option Bool :=
  if decide (p_ = 37) then
    prop_Fits_j5 v_ 64 16777216
  else
    if decide (p_ = 34) then
      prop_Fits_j5 v_ low 1000
    else
      if decide (p_ = 31) then
        prop_Fits_j6 v_ low (decide (p_ = 31))
      else
        prop_Fits_j6 v_ low (decide (p_ = 53))
theorem prop_Fits_j2_ok {mL : Int} {p_ : Int} {v_ : TVal} {low : Int} {o : Bool} (h : prop_Fits_j2 p_ v_ low = some o) :
    Sv Tryd.prog (GG mL) 0 a8_c1 (Ends a8.results 0 (prop_Fits_post o)) ⟨(upd (upd (upd (upd (fun _ => none) 0 (some (I p_))) 3 (some (.c (.ref 0 2 0 0)))) 6 (some (I low))) 7 (some (I 16777216))), (upd (fun _ => none) 0 (some (.cells 2 [[cI v_.Kind, cI v_.N]]))), 1⟩ := by
  unfold prop_Fits_j2 at h
  refine Sv.seq ?_
  refine Sv.seq ?_
  refine Sv.region ?_
  refine un (a1 rfl ?_)
  refine dnil ?_
  refine Sv.block ?_
  refine Sv.seq ?_
  refine Sv.region ?_
  refine un (a1 (v := (B (decide (p_ = 37)))) rfl ?_)
  refine un (a1 rfl ?_)
  refine dnil ?_
  refine Sv.cond (b := decide (p_ = 37)) rfl (fun hc7 => ?_) (fun hc7 => ?_)
  · replace h := ifT hc7 h
    refine Sv.region ?_
    refine un (a1 rfl ?_)
    refine dnil ?_
    exact Sv.weak (weak_canon [0] rfl (by decide) (by decide) (fun b h => absurd h (Nat.not_lt_zero _)) (.cons rfl (avAs_free rfl) (.cons rfl (avAs_free rfl) (.cons rfl (.c (.ref rfl (by decide))) .nil))) (.box (by decide) rfl (blkAs_cells (.cons (.same rfl) (.cons (.same rfl) .nil))) .nil)) (prop_Fits_j5_ok h)
  · replace h := ifF hc7 h
    refine Sv.seq ?_
    refine Sv.region ?_
    refine un (a1 (v := (B (decide (p_ = 34)))) rfl ?_)
    refine un (a1 rfl ?_)
    refine dnil ?_
    refine Sv.cond (b := decide (p_ = 34)) rfl (fun hc8 => ?_) (fun hc8 => ?_)
    · replace h := ifT hc8 h
      refine Sv.region ?_
      refine un (a1 rfl ?_)
      refine dnil ?_
      exact Sv.weak (weak_canon [0] rfl (by decide) (by decide) (fun b h => absurd h (Nat.not_lt_zero _)) (.cons rfl (avAs_free rfl) (.cons rfl (avAs_free rfl) (.cons rfl (.c (.ref rfl (by decide))) .nil))) (.box (by decide) rfl (blkAs_cells (.cons (.same rfl) (.cons (.same rfl) .nil))) .nil)) (prop_Fits_j5_ok h)
    · replace h := ifF hc8 h
      refine Sv.seq ?_
      refine Sv.seq ?_
      refine Sv.region ?_
      refine un (a1 (v := (B (decide (p_ = 31)))) rfl ?_)
      refine un (a1 rfl ?_)
      refine dnil ?_
      refine Sv.cond (b := decide (p_ = 31)) rfl (fun hc11 => ?_) (fun hc11 => ?_)
      · replace h := ifT hc11 h
        refine Sv.skip ?_
        exact Sv.weak (weak_canon [0] rfl (by decide) (by decide) (fun b h => absurd h (Nat.not_lt_zero _)) (.cons rfl (avAs_free rfl) (.cons rfl (avAs_free rfl) (.cons rfl (avAs_free rfl) (.cons rfl (.c (.ref rfl (by decide))) .nil)))) (.box (by decide) rfl (blkAs_cells (.cons (.same rfl) (.cons (.same rfl) .nil))) .nil)) (prop_Fits_j6_ok h)
      · replace h := ifF hc11 h
        refine Sv.region ?_
        refine un (a1 (v := (B (decide (p_ = 53)))) rfl ?_)
        refine un (a1 rfl ?_)
        refine dnil ?_
        exact Sv.weak (weak_canon [0] rfl (by decide) (by decide) (fun b h => absurd h (Nat.not_lt_zero _)) (.cons rfl (avAs_free rfl) (.cons rfl (avAs_free rfl) (.cons rfl (avAs_free rfl) (.cons rfl (.c (.ref rfl (by decide))) .nil)))) (.box (by decide) rfl (blkAs_cells (.cons (.same rfl) (.cons (.same rfl) .nil))) .nil)) (prop_Fits_j6_ok h)
abbrev prop_Fits_q2 (mL : Int) (o : Bool) : AExit → St → Prop := AThen (Sv Tryd.prog (GG mL) 0 a8_c4 (Ends a8.results 0 (prop_Fits_post o))) (Ends a8.results 0 (prop_Fits_post o))
noncomputable def prop_Fits_j1 (p_ : Int) (v_ : TVal) (v20 : Bool) : Option Bool :=
  if v20 then
    some false
  else
    (prop_at p_).bind fun r_ =>
    if decide (v_.Kind = 1) then
      (prop_key r_ v_.N).bind fun r_1 =>
      some (!decide (r_1 = []))
    else
      if decide (v_.Kind = 6) then
        some (decide (v_.N = 0))
      else
        if decide (v_.Kind = 5) then
          some ((decide (0 ≤ v_.N)) && (decide (v_.N < 4294967296)))
        else
          if r_.f_above then
            prop_Fits_j2 p_ v_ 0
          else
            prop_Fits_j2 p_ v_ (-16777216)
theorem prop_Fits_j1_ok {mL : Int} {p_ : Int} {v_ : TVal} {v20 : Bool} {o : Bool} (h : prop_Fits_j1 p_ v_ v20 = some o) :
    Sv Tryd.prog (GG mL) 0 a8_c0 (prop_Fits_q2 mL o) ⟨(upd (upd (upd (fun _ => none) 0 (some (I p_))) 3 (some (.c (.ref 0 2 0 0)))) 20 (some (B v20))), (upd (fun _ => none) 0 (some (.cells 2 [[cI v_.Kind, cI v_.N]]))), 1⟩ := by
  unfold prop_Fits_j1 at h
  refine Sv.cond (b := v20) rfl (fun hc1 => ?_) (fun hc1 => ?_)
  · replace h := ifT hc1 h
    refine Sv.seq ?_
    refine Sv.region ?_
    refine un (a1 rfl ?_)
    refine dnil ?_
    refine Sv.ret ?_
    replace h := Option.some.inj h
    subst h
    exact ⟨_, .refl _, _, rfl, ⟨upd (fun _ => none) 0 (some (B false)), (fun _ => none), 0⟩, (B false), weak_canon [] rfl List.nodup_nil (Nat.le_refl _) (fun b h => absurd h (Nat.not_lt_zero _)) (.cons rfl (avAs_free rfl) .nil) .nil, rfl, rfl, rfl, rfl⟩
  · replace h := ifF hc1 h
    refine Sv.skip ?_
    refine Sv.seq ?_
    refine Sv.region ?_
    refine un (a1 rfl ?_)
    obtain ⟨r_, hr1, h⟩ := bnd h
    refine un (ac_pure (prop_at_ok hr1) rfl rfl rfl ?_)
    refine un (a2v (v := (.c (.ref 1 5 0 0))) (h' := upd _ 1 (some (.cells 5 [[.str [], .str [], .str [], .str [], cB false]]))) (n' := 2) rfl rfl (fun h => by cases h) ?_)
    refine un (a2n (h' := upd _ 1 (some (.cells 5 [[.str r_.f_name, .str r_.f_kinds, .str r_.f_keys, .str r_.f_auto, cB r_.f_above]]))) (n' := 2) rfl rfl (fun h => by cases h) ?_)
    refine dnil ?_
    refine Sv.seq ?_
    refine Sv.seq ?_
    refine Sv.region ?_
    refine un (a1 (v := (.c (.ref 0 2 0 0))) rfl ?_)
    refine un (a1 (v := (I v_.Kind)) rfl ?_)
    refine dnil ?_
    refine Sv.block ?_
    refine Sv.seq ?_
    refine Sv.region ?_
    refine un (a1 (v := (B (decide (v_.Kind = 1)))) rfl ?_)
    refine un (a1 rfl ?_)
    refine dnil ?_
    refine Sv.cond (b := decide (v_.Kind = 1)) rfl (fun hc2 => ?_) (fun hc2 => ?_)
    · replace h := ifT hc2 h
      refine Sv.seq ?_
      refine Sv.region ?_
      refine un (a1 (v := (.agg [.str r_.f_name, .str r_.f_kinds, .str r_.f_keys, .str r_.f_auto, cB r_.f_above])) rfl ?_)
      refine un (a1 (v := (.c (.ref 0 2 0 1))) rfl ?_)
      refine un (a1 (v := (I v_.N)) rfl ?_)
      obtain ⟨r_1, hr2, h⟩ := bnd h
      refine un (ac_pure (prop_key_ok hr2) rfl rfl rfl ?_)
      refine un (a1 (v := (B (!decide (r_1 = [])))) rfl ?_)
      refine un (a1 rfl ?_)
      refine dnil ?_
      refine Sv.ret ?_
      replace h := Option.some.inj h
      subst h
      exact ⟨_, .refl _, _, rfl, ⟨upd (fun _ => none) 0 (some (B (!decide (r_1 = [])))), (fun _ => none), 0⟩, (B (!decide (r_1 = []))), weak_canon [] rfl List.nodup_nil (Nat.le_refl _) (fun b h => absurd h (Nat.not_lt_zero _)) (.cons rfl (avAs_free rfl) .nil) .nil, rfl, rfl, rfl, rfl⟩
    · replace h := ifF hc2 h
      refine Sv.seq ?_
      refine Sv.region ?_
      refine un (a1 (v := (B (decide (v_.Kind = 6)))) rfl ?_)
      refine un (a1 rfl ?_)
      refine dnil ?_
      refine Sv.cond (b := decide (v_.Kind = 6)) rfl (fun hc3 => ?_) (fun hc3 => ?_)
      · replace h := ifT hc3 h
        refine Sv.seq ?_
        refine Sv.region ?_
        refine un (a1 (v := (.c (.ref 0 2 0 1))) rfl ?_)
        refine un (a1 (v := (I v_.N)) rfl ?_)
        refine un (a1 (v := (B (decide (v_.N = 0)))) rfl ?_)
        refine un (a1 rfl ?_)
        refine dnil ?_
        refine Sv.ret ?_
        replace h := Option.some.inj h
        subst h
        exact ⟨_, .refl _, _, rfl, ⟨upd (fun _ => none) 0 (some (B (decide (v_.N = 0)))), (fun _ => none), 0⟩, (B (decide (v_.N = 0))), weak_canon [] rfl List.nodup_nil (Nat.le_refl _) (fun b h => absurd h (Nat.not_lt_zero _)) (.cons rfl (avAs_free rfl) .nil) .nil, rfl, rfl, rfl, rfl⟩
      · replace h := ifF hc3 h
        refine Sv.seq ?_
        refine Sv.region ?_
        refine un (a1 (v := (B (decide (v_.Kind = 5)))) rfl ?_)
        refine un (a1 rfl ?_)
        refine dnil ?_
        refine Sv.cond (b := decide (v_.Kind = 5)) rfl (fun hc4 => ?_) (fun hc4 => ?_)
        · replace h := ifT hc4 h
          refine Sv.seq ?_
          refine Sv.region ?_
          refine un (a1 (v := (.c (.ref 0 2 0 1))) rfl ?_)
          refine un (a1 (v := (I v_.N)) rfl ?_)
          refine un (a1 (v := (B (decide (0 ≤ v_.N)))) rfl ?_)
          refine un (a1 rfl ?_)
          refine gjoin 4 (d := 46) (v := (B ((decide (0 ≤ v_.N)) && (decide (v_.N < 4294967296))))) (fun X hX => ?_) ?_
          · refine split2 (fun hc5 => ?_) (fun hc5 => ?_)
            · refine gt rfl (a1 (v := (.c (.ref 0 2 0 1))) rfl ?_)
              refine gt rfl (a1 (v := (I v_.N)) rfl ?_)
              refine gt rfl (a1 (v := (B (decide (v_.N < 4294967296)))) rfl ?_)
              refine un (a1 (v := (B (decide (v_.N < 4294967296)))) rfl ?_)
              refine dnil ?_
              exact hX _ (.putEq (by rw [hc5]; rfl) (.skip _ _ (.skip _ _ (.skip _ _ (.putEq (by rw [hc5]) (.refl _)) rfl) rfl) rfl))
            · refine gs rfl rfl ?_
              refine gs rfl rfl ?_
              refine gs rfl rfl ?_
              refine un (a1 (v := (B false)) rfl ?_)
              refine dnil ?_
              exact hX _ (.putEq (by rw [hc5]; rfl) (.skip _ _ (.skip _ _ (.skip _ _ (.putEq (by rw [hc5]) (.refl _)) rfl) rfl) rfl))
          refine un (a1 rfl ?_)
          refine dnil ?_
          refine Sv.ret ?_
          replace h := Option.some.inj h
          subst h
          exact ⟨_, .refl _, _, rfl, ⟨upd (fun _ => none) 0 (some (B ((decide (0 ≤ v_.N)) && (decide (v_.N < 4294967296))))), (fun _ => none), 0⟩, (B ((decide (0 ≤ v_.N)) && (decide (v_.N < 4294967296)))), weak_canon [] rfl List.nodup_nil (Nat.le_refl _) (fun b h => absurd h (Nat.not_lt_zero _)) (.cons rfl (avAs_free rfl) .nil) .nil, rfl, rfl, rfl, rfl⟩
        · replace h := ifF hc4 h
          refine Sv.skip ?_
          refine Sv.seq ?_
          refine Sv.region ?_
          refine un (a1 rfl ?_)
          refine un (a1 rfl ?_)
          refine dnil ?_
          refine Sv.seq ?_
          refine Sv.seq ?_
          refine Sv.region ?_
          refine un (a1 (v := (.c (.ref 1 5 0 4))) rfl ?_)
          refine un (a1 (v := (B r_.f_above)) rfl ?_)
          refine dnil ?_
          refine Sv.cond (b := r_.f_above) rfl (fun hc12 => ?_) (fun hc12 => ?_)
          · replace h := ifT hc12 h
            refine Sv.region ?_
            refine un (a1 rfl ?_)
            refine dnil ?_
            exact Sv.weak (weak_canon [0] rfl (by decide) (by decide) (fun b h => absurd h (Nat.not_lt_zero _)) (.cons rfl (avAs_free rfl) (.cons rfl (avAs_free rfl) (.cons rfl (.c (.ref rfl (by decide))) (.cons rfl (avAs_free rfl) .nil)))) (.box (by decide) rfl (blkAs_cells (.cons (.same rfl) (.cons (.same rfl) .nil))) .nil)) (prop_Fits_j2_ok h)
          · replace h := ifF hc12 h
            refine Sv.skip ?_
            exact Sv.weak (weak_canon [0] rfl (by decide) (by decide) (fun b h => absurd h (Nat.not_lt_zero _)) (.cons rfl (avAs_free rfl) (.cons rfl (avAs_free rfl) (.cons rfl (.c (.ref rfl (by decide))) (.cons rfl (avAs_free rfl) .nil)))) (.box (by decide) rfl (blkAs_cells (.cons (.same rfl) (.cons (.same rfl) .nil))) .nil)) (prop_Fits_j2_ok h)
/-- clerestory/prop.Fits -/
noncomputable def prop_Fits (p_ : Int) (v_ : TVal) : Option Bool :=
  if (!(prop_in p_)) then
    prop_Fits_j1 p_ v_ true
  else
    (prop_at p_).bind fun r_2 =>
    (prop_letter v_.Kind).bind fun r_3 =>
    (strings_Contains r_2.f_kinds r_3).bind fun r_4 =>
    prop_Fits_j1 p_ v_ (!r_4)
theorem prop_Fits_ok {mL : Int} {p_ : Int} {v_ : TVal} {r : Bool} (h : prop_Fits p_ v_ = some r) : CPure Tryd.prog (GG mL) 8 [(I p_), (.agg [cI v_.Kind, cI v_.N])] (B r) := by
  refine acalls_of_sv hmix c8 (R := prop_Fits_post r) ?_
  unfold prop_Fits at h
  refine Sv.seq ?_
  refine Sv.region ?_
  refine un (a2v (v := (.c (.ref 0 2 0 0))) (h' := upd _ 0 (some (.cells 2 [[cI v_.Kind, cI v_.N]]))) (n' := 1) rfl rfl (fun h => by cases h) ?_)
  refine un (a1 rfl ?_)
  refine dnil ?_
  refine Sv.seq ?_
  refine Sv.seq ?_
  refine Sv.drawn ?_
  refine un (a1 rfl ?_)
  refine un (ac_pure (prop_in_ok (mL := mL) p_) rfl rfl rfl ?_)
  refine un (a1 (v := (B (!(prop_in p_)))) rfl ?_)
  refine un (a1 rfl ?_)
  refine split2 (fun hc13 => ?_) (fun hc13 => ?_)
  · replace h := ifT hc13 h
    refine gs rfl rfl ?_
    refine gs rfl rfl ?_
    refine gs rfl rfl ?_
    refine gs rfl rfl ?_
    refine gs rfl rfl ?_
    refine gs rfl rfl ?_
    refine gs rfl rfl ?_
    refine gs rfl rfl ?_
    refine un (a1 (v := (B true)) rfl ?_)
    refine dnil ?_
    exact Sv.weak (weak_canon [0] rfl (by decide) (by decide) (fun b h => absurd h (Nat.not_lt_zero _)) (.cons rfl (avAs_free rfl) (.cons rfl (.c (.ref rfl (by decide))) (.cons rfl (avAs_free rfl) .nil))) (.box (by decide) rfl (blkAs_cells (.cons (.same rfl) (.cons (.same rfl) .nil))) .nil)) (prop_Fits_j1_ok h)
  · replace h := ifF hc13 h
    refine gt rfl (a1 rfl ?_)
    refine gt rfl (a1 (v := (.c (.ref 0 2 0 0))) rfl ?_)
    refine gt rfl (a1 (v := (I v_.Kind)) rfl ?_)
    obtain ⟨r_2, hr3, h⟩ := bnd h
    refine gt rfl (ac_pure (prop_at_ok hr3) rfl rfl rfl ?_)
    refine gt rfl (a1 (v := (S r_2.f_kinds)) rfl ?_)
    obtain ⟨r_3, hr4, h⟩ := bnd h
    refine gt rfl (ac_pure (prop_letter_ok hr4) rfl rfl rfl ?_)
    obtain ⟨r_4, hr5, h⟩ := bnd h
    refine gt rfl (ac_pure (strings_Contains_ok hr5) rfl rfl rfl ?_)
    refine gt rfl (a1 (v := (B (!r_4))) rfl ?_)
    refine un (a1 (v := (B (!r_4))) rfl ?_)
    refine dnil ?_
    exact Sv.weak (weak_canon [0] rfl (by decide) (by decide) (fun b h => absurd h (Nat.not_lt_zero _)) (.cons rfl (avAs_free rfl) (.cons rfl (.c (.ref rfl (by decide))) (.cons rfl (avAs_free rfl) .nil))) (.box (by decide) rfl (blkAs_cells (.cons (.same rfl) (.cons (.same rfl) .nil))) .nil)) (prop_Fits_j1_ok h)
def a88 : AFunc := ⟨1, [(.tmp 2)], (.seq (.region [⟨(some 2), (.mov (.const (.c (.str [])))), none⟩])
 (.seq (.seq (.region [⟨(some 3), (.mov (.tmp 0)), none⟩, ⟨(some 4), (.bin .lss (.tmp 3) (.const (.c (.val (.int .i64 10))))), none⟩])
 (.cond (.tmp 4) (.seq (.region [⟨(some 5), (.mov (.tmp 0)), none⟩, ⟨(some 6), (.mov (.tmp 0)), none⟩, ⟨(some 7), (.bin .add (.tmp 6) (.const (.c (.val (.int .i64 1))))), none⟩, ⟨(some 8), (.slStr (.const (.c (.str [48, 49, 50, 51, 52, 53, 54, 55, 56, 57, 97, 98, 99, 100, 101, 102, 103, 104, 105, 106, 107, 108, 109, 110, 111, 112, 113, 114, 115, 116, 117, 118, 119, 120, 121, 122]))) (some (.tmp 5)) (some (.tmp 7))), none⟩, ⟨(some 2), (.mov (.tmp 8)), none⟩])
 .ret) .skip))
 (.seq (.region [⟨(some 9), (.mov (.tmp 0)), none⟩, ⟨(some 10), (.bin .mul (.tmp 9) (.const (.c (.val (.int .i64 2))))), none⟩, ⟨(some 11), (.mov (.tmp 0)), none⟩, ⟨(some 12), (.bin .mul (.tmp 11) (.const (.c (.val (.int .i64 2))))), none⟩, ⟨(some 13), (.bin .add (.tmp 12) (.const (.c (.val (.int .i64 2))))), none⟩, ⟨(some 14), (.slStr (.const (.c (.str [48, 48, 48, 49, 48, 50, 48, 51, 48, 52, 48, 53, 48, 54, 48, 55, 48, 56, 48, 57, 49, 48, 49, 49, 49, 50, 49, 51, 49, 52, 49, 53, 49, 54, 49, 55, 49, 56, 49, 57, 50, 48, 50, 49, 50, 50, 50, 51, 50, 52, 50, 53, 50, 54, 50, 55, 50, 56, 50, 57, 51, 48, 51, 49, 51, 50, 51, 51, 51, 52, 51, 53, 51, 54, 51, 55, 51, 56, 51, 57, 52, 48, 52, 49, 52, 50, 52, 51, 52, 52, 52, 53, 52, 54, 52, 55, 52, 56, 52, 57, 53, 48, 53, 49, 53, 50, 53, 51, 53, 52, 53, 53, 53, 54, 53, 55, 53, 56, 53, 57, 54, 48, 54, 49, 54, 50, 54, 51, 54, 52, 54, 53, 54, 54, 54, 55, 54, 56, 54, 57, 55, 48, 55, 49, 55, 50, 55, 51, 55, 52, 55, 53, 55, 54, 55, 55, 55, 56, 55, 57, 56, 48, 56, 49, 56, 50, 56, 51, 56, 52, 56, 53, 56, 54, 56, 55, 56, 56, 56, 57, 57, 48, 57, 49, 57, 50, 57, 51, 57, 52, 57, 53, 57, 54, 57, 55, 57, 56, 57, 57]))) (some (.tmp 10)) (some (.tmp 13))), none⟩, ⟨(some 2), (.mov (.tmp 14)), none⟩])
 .ret)))⟩
set_option maxRecDepth 100000 in
theorem c88 : compFunc Tryd.prog 88 = some a88 := by kernel_rfl
def internal_strconv_small_post (r : (List UInt8)) : AV → Heap → Nat → Prop := fun v h' n' => v = (S r) ∧ (h' = (fun _ => none)) ∧ n' = 0
/-- internal/strconv.small -/
noncomputable def internal_strconv_small (i_ : Int) : Option (List UInt8) :=
  if decide (i_ < 10) then
    (sub? [48, 49, 50, 51, 52, 53, 54, 55, 56, 57, 97, 98, 99, 100, 101, 102, 103, 104, 105, 106, 107, 108, 109, 110, 111, 112, 113, 114, 115, 116, 117, 118, 119, 120, 121, 122] i_ (wi (i_ + 1))).bind fun r_ =>
    some r_
  else
    (sub? [48, 48, 48, 49, 48, 50, 48, 51, 48, 52, 48, 53, 48, 54, 48, 55, 48, 56, 48, 57, 49, 48, 49, 49, 49, 50, 49, 51, 49, 52, 49, 53, 49, 54, 49, 55, 49, 56, 49, 57, 50, 48, 50, 49, 50, 50, 50, 51, 50, 52, 50, 53, 50, 54, 50, 55, 50, 56, 50, 57, 51, 48, 51, 49, 51, 50, 51, 51, 51, 52, 51, 53, 51, 54, 51, 55, 51, 56, 51, 57, 52, 48, 52, 49, 52, 50, 52, 51, 52, 52, 52, 53, 52, 54, 52, 55, 52, 56, 52, 57, 53, 48, 53, 49, 53, 50, 53, 51, 53, 52, 53, 53, 53, 54, 53, 55, 53, 56, 53, 57, 54, 48, 54, 49, 54, 50, 54, 51, 54, 52, 54, 53, 54, 54, 54, 55, 54, 56, 54, 57, 55, 48, 55, 49, 55, 50, 55, 51, 55, 52, 55, 53, 55, 54, 55, 55, 55, 56, 55, 57, 56, 48, 56, 49, 56, 50, 56, 51, 56, 52, 56, 53, 56, 54, 56, 55, 56, 56, 56, 57, 57, 48, 57, 49, 57, 50, 57, 51, 57, 52, 57, 53, 57, 54, 57, 55, 57, 56, 57, 57] (wi (i_ * 2)) (wi ((wi (i_ * 2)) + 2))).bind fun r_1 =>
    some r_1
theorem internal_strconv_small_ok {mL : Int} {i_ : Int} {r : (List UInt8)} (h : internal_strconv_small i_ = some r) : CPure Tryd.prog (GG mL) 88 [(I i_)] (S r) := by
  refine acalls_of_sv hmix c88 (R := internal_strconv_small_post r) ?_
  unfold internal_strconv_small at h
  refine Sv.seq ?_
  refine Sv.region ?_
  refine un (a1 rfl ?_)
  refine dnil ?_
  refine Sv.seq ?_
  refine Sv.seq ?_
  refine Sv.region ?_
  refine un (a1 rfl ?_)
  refine un (a1 (v := (B (decide (i_ < 10)))) rfl ?_)
  refine dnil ?_
  refine Sv.cond (b := decide (i_ < 10)) rfl (fun hc1 => ?_) (fun hc1 => ?_)
  · replace h := ifT hc1 h
    refine Sv.seq ?_
    refine Sv.region ?_
    refine un (a1 rfl ?_)
    refine un (a1 rfl ?_)
    refine un (a1 (v := (I (wi (i_ + 1)))) rfl ?_)
    obtain ⟨r_, hx1, h⟩ := bnd h
    refine un (a1 (v := (S r_)) (s_slStr rfl rfl rfl hx1) ?_)
    refine un (a1 rfl ?_)
    refine dnil ?_
    refine Sv.ret ?_
    replace h := Option.some.inj h
    subst h
    exact ⟨_, .refl _, _, rfl, ⟨upd (fun _ => none) 0 (some (S r_)), (fun _ => none), 0⟩, (S r_), weak_canon [] rfl List.nodup_nil (Nat.le_refl _) (fun b h => absurd h (Nat.not_lt_zero _)) (.cons rfl (avAs_free rfl) .nil) .nil, rfl, rfl, rfl, rfl⟩
  · replace h := ifF hc1 h
    refine Sv.skip ?_
    refine Sv.seq ?_
    refine Sv.region ?_
    refine un (a1 rfl ?_)
    refine un (a1 (v := (I (wi (i_ * 2)))) rfl ?_)
    refine un (a1 rfl ?_)
    refine un (a1 (v := (I (wi (i_ * 2)))) rfl ?_)
    refine un (a1 (v := (I (wi ((wi (i_ * 2)) + 2)))) rfl ?_)
    obtain ⟨r_1, hx2, h⟩ := bnd h
    refine un (a1 (v := (S r_1)) (s_slStr rfl rfl rfl hx2) ?_)
    refine un (a1 rfl ?_)
    refine dnil ?_
    refine Sv.ret ?_
    replace h := Option.some.inj h
    subst h
    exact ⟨_, .refl _, _, rfl, ⟨upd (fun _ => none) 0 (some (S r_1)), (fun _ => none), 0⟩, (S r_1), weak_canon [] rfl List.nodup_nil (Nat.le_refl _) (fun b h => absurd h (Nat.not_lt_zero _)) (.cons rfl (avAs_free rfl) .nil) .nil, rfl, rfl, rfl, rfl⟩
def a115_c2 : ACode := (.seq (.region [⟨(some 19), (.mov (.tmp 2)), none⟩, ⟨(some 20), (.mov (.tmp 0)), none⟩, ⟨(some 21), (.conv .u8 (.tmp 20)), none⟩, ⟨(some 22), (.idxS (.const (.c (.str [0, 1, 2, 2, 3, 3, 3, 3, 4, 4, 4, 4, 4, 4, 4, 4, 5, 5, 5, 5, 5, 5, 5, 5, 5, 5, 5, 5, 5, 5, 5, 5, 6, 6, 6, 6, 6, 6, 6, 6, 6, 6, 6, 6, 6, 6, 6, 6, 6, 6, 6, 6, 6, 6, 6, 6, 6, 6, 6, 6, 6, 6, 6, 6, 7, 7, 7, 7, 7, 7, 7, 7, 7, 7, 7, 7, 7, 7, 7, 7, 7, 7, 7, 7, 7, 7, 7, 7, 7, 7, 7, 7, 7, 7, 7, 7, 7, 7, 7, 7, 7, 7, 7, 7, 7, 7, 7, 7, 7, 7, 7, 7, 7, 7, 7, 7, 7, 7, 7, 7, 7, 7, 7, 7, 7, 7, 7, 7, 8, 8, 8, 8, 8, 8, 8, 8, 8, 8, 8, 8, 8, 8, 8, 8, 8, 8, 8, 8, 8, 8, 8, 8, 8, 8, 8, 8, 8, 8, 8, 8, 8, 8, 8, 8, 8, 8, 8, 8, 8, 8, 8, 8, 8, 8, 8, 8, 8, 8, 8, 8, 8, 8, 8, 8, 8, 8, 8, 8, 8, 8, 8, 8, 8, 8, 8, 8, 8, 8, 8, 8, 8, 8, 8, 8, 8, 8, 8, 8, 8, 8, 8, 8, 8, 8, 8, 8, 8, 8, 8, 8, 8, 8, 8, 8, 8, 8, 8, 8, 8, 8, 8, 8, 8, 8, 8, 8, 8, 8, 8, 8, 8, 8, 8, 8, 8, 8, 8, 8, 8, 8, 8, 8, 8, 8, 8, 8]))) (.tmp 21)), none⟩, ⟨(some 23), (.conv .i64 (.tmp 22)), none⟩, ⟨(some 24), (.bin .add (.tmp 19) (.tmp 23)), none⟩, ⟨(some 2), (.mov (.tmp 24)), none⟩])
 .ret)
def a115_c1 : ACode := (.seq (.seq (.region [⟨(some 13), (.mov (.tmp 0)), none⟩, ⟨(some 14), (.bin .geq (.tmp 13) (.const (.c (.val (.int .u64 256))))), none⟩])
 (.cond (.tmp 14) (.seq (.region [⟨(some 15), (.mov (.tmp 0)), none⟩, ⟨(some 16), (.bin .shr (.tmp 15) (.const (.c (.val (.int .u64 8))))), none⟩, ⟨(some 0), (.mov (.tmp 16)), none⟩])
 (.region [⟨(some 17), (.mov (.tmp 2)), none⟩, ⟨(some 18), (.bin .add (.tmp 17) (.const (.c (.val (.int .i64 8))))), none⟩, ⟨(some 2), (.mov (.tmp 18)), none⟩])) .skip))
 a115_c2)
def a115_c0 : ACode := (.seq (.seq (.region [⟨(some 7), (.mov (.tmp 0)), none⟩, ⟨(some 8), (.bin .geq (.tmp 7) (.const (.c (.val (.int .u64 65536))))), none⟩])
 (.cond (.tmp 8) (.seq (.region [⟨(some 9), (.mov (.tmp 0)), none⟩, ⟨(some 10), (.bin .shr (.tmp 9) (.const (.c (.val (.int .u64 16))))), none⟩, ⟨(some 0), (.mov (.tmp 10)), none⟩])
 (.region [⟨(some 11), (.mov (.tmp 2)), none⟩, ⟨(some 12), (.bin .add (.tmp 11) (.const (.c (.val (.int .i64 16))))), none⟩, ⟨(some 2), (.mov (.tmp 12)), none⟩])) .skip))
 a115_c1)
def a115 : AFunc := ⟨1, [(.tmp 2)], (.seq (.region [⟨(some 2), (.mov (.const (.c (.val (.int .i64 0))))), none⟩])
 (.seq (.seq (.region [⟨(some 3), (.mov (.tmp 0)), none⟩, ⟨(some 4), (.bin .geq (.tmp 3) (.const (.c (.val (.int .u64 4294967296))))), none⟩])
 (.cond (.tmp 4) (.seq (.region [⟨(some 5), (.mov (.tmp 0)), none⟩, ⟨(some 6), (.bin .shr (.tmp 5) (.const (.c (.val (.int .u64 32))))), none⟩, ⟨(some 0), (.mov (.tmp 6)), none⟩])
 (.region [⟨(some 2), (.mov (.const (.c (.val (.int .i64 32))))), none⟩])) .skip))
 a115_c0))⟩
set_option maxRecDepth 100000 in
theorem c115 : compFunc Tryd.prog 115 = some a115 := by kernel_rfl
def math_bits_Len64_post (r : Int) : AV → Heap → Nat → Prop := fun v h' n' => v = (I r) ∧ (h' = (fun _ => none)) ∧ n' = 0
noncomputable def math_bits_Len64_j3 (x_3 : Int) (n_2 : Int) : Option Int :=
  (at? ([0, 1, 2, 2, 3, 3, 3, 3, 4, 4, 4, 4, 4, 4, 4, 4, 5, 5, 5, 5, 5, 5, 5, 5, 5, 5, 5, 5, 5, 5, 5, 5, 6, 6, 6, 6, 6, 6, 6, 6, 6, 6, 6, 6, 6, 6, 6, 6, 6, 6, 6, 6, 6, 6, 6, 6, 6, 6, 6, 6, 6, 6, 6, 6, 7, 7, 7, 7, 7, 7, 7, 7, 7, 7, 7, 7, 7, 7, 7, 7, 7, 7, 7, 7, 7, 7, 7, 7, 7, 7, 7, 7, 7, 7, 7, 7, 7, 7, 7, 7, 7, 7, 7, 7, 7, 7, 7, 7, 7, 7, 7, 7, 7, 7, 7, 7, 7, 7, 7, 7, 7, 7, 7, 7, 7, 7, 7, 7, 8, 8, 8, 8, 8, 8, 8, 8, 8, 8, 8, 8, 8, 8, 8, 8, 8, 8, 8, 8, 8, 8, 8, 8, 8, 8, 8, 8, 8, 8, 8, 8, 8, 8, 8, 8, 8, 8, 8, 8, 8, 8, 8, 8, 8, 8, 8, 8, 8, 8, 8, 8, 8, 8, 8, 8, 8, 8, 8, 8, 8, 8, 8, 8, 8, 8, 8, 8, 8, 8, 8, 8, 8, 8, 8, 8, 8, 8, 8, 8, 8, 8, 8, 8, 8, 8, 8, 8, 8, 8, 8, 8, 8, 8, 8, 8, 8, 8, 8, 8, 8, 8, 8, 8, 8, 8, 8, 8, 8, 8, 8, 8, 8, 8, 8, 8, 8, 8, 8, 8, 8, 8, 8, 8, 8, 8, 8, 8] : List UInt8) (wr .u8 x_3)).bind fun c_ =>
  some (wi (n_2 + (wr .i64 (c_.toNat : Int))))
theorem math_bits_Len64_j3_ok {mL : Int} {x_3 : Int} {n_2 : Int} {o : Int} (h : math_bits_Len64_j3 x_3 n_2 = some o) :
    Sv Tryd.prog (GG mL) 0 a115_c2 (Ends a115.results 0 (math_bits_Len64_post o)) ⟨(upd (upd (fun _ => none) 0 (some (.c (.val (.int .u64 x_3))))) 2 (some (I n_2))), (fun _ => none), 0⟩ := by
  unfold math_bits_Len64_j3 at h
  refine Sv.seq ?_
  refine Sv.region ?_
  refine un (a1 rfl ?_)
  refine un (a1 rfl ?_)
  refine un (a1 (v := (.c (.val (.int .u8 (wr .u8 x_3))))) rfl ?_)
  obtain ⟨c_, hx1, h⟩ := bnd h
  refine un (a1 (v := (.c (.val (.int .u8 (c_.toNat : Int))))) (s_idxS rfl rfl hx1) ?_)
  refine un (a1 (v := (I (wr .i64 (c_.toNat : Int)))) rfl ?_)
  refine un (a1 (v := (I (wi (n_2 + (wr .i64 (c_.toNat : Int)))))) rfl ?_)
  refine un (a1 rfl ?_)
  refine dnil ?_
  refine Sv.ret ?_
  replace h := Option.some.inj h
  subst h
  exact ⟨_, .refl _, _, rfl, ⟨upd (fun _ => none) 0 (some (I (wi (n_2 + (wr .i64 (c_.toNat : Int)))))), (fun _ => none), 0⟩, (I (wi (n_2 + (wr .i64 (c_.toNat : Int))))), weak_canon [] rfl List.nodup_nil (Nat.le_refl _) (fun b h => absurd h (Nat.not_lt_zero _)) (.cons rfl (avAs_free rfl) .nil) .nil, rfl, rfl, rfl, rfl⟩
noncomputable def math_bits_Len64_j2 (x_2 : Int) (n_1 : Int) : Option Int :=
  if decide (256 ≤ x_2) then
    math_bits_Len64_j3 (shr .u64 x_2 8) (wi (n_1 + 8))
  else
    math_bits_Len64_j3 x_2 n_1
theorem math_bits_Len64_j2_ok {mL : Int} {x_2 : Int} {n_1 : Int} {o : Int} (h : math_bits_Len64_j2 x_2 n_1 = some o) :
    Sv Tryd.prog (GG mL) 0 a115_c1 (Ends a115.results 0 (math_bits_Len64_post o)) ⟨(upd (upd (fun _ => none) 0 (some (.c (.val (.int .u64 x_2))))) 2 (some (I n_1))), (fun _ => none), 0⟩ := by
  unfold math_bits_Len64_j2 at h
  refine Sv.seq ?_
  refine Sv.seq ?_
  refine Sv.region ?_
  refine un (a1 rfl ?_)
  refine un (a1 (v := (B (decide (256 ≤ x_2)))) rfl ?_)
  refine dnil ?_
  refine Sv.cond (b := decide (256 ≤ x_2)) rfl (fun hc1 => ?_) (fun hc1 => ?_)
  · replace h := ifT hc1 h
    refine Sv.seq ?_
    refine Sv.region ?_
    refine un (a1 rfl ?_)
    refine un (a1 (v := (.c (.val (.int .u64 (shr .u64 x_2 8))))) rfl ?_)
    refine un (a1 rfl ?_)
    refine dnil ?_
    refine Sv.region ?_
    refine un (a1 rfl ?_)
    refine un (a1 (v := (I (wi (n_1 + 8)))) rfl ?_)
    refine un (a1 rfl ?_)
    refine dnil ?_
    exact Sv.weak (weak_canon [] rfl (by decide) (by decide) (fun b h => absurd h (Nat.not_lt_zero _)) (.cons rfl (avAs_free rfl) (.cons rfl (avAs_free rfl) .nil)) .nil) (math_bits_Len64_j3_ok h)
  · replace h := ifF hc1 h
    refine Sv.skip ?_
    exact Sv.weak (weak_canon [] rfl (by decide) (by decide) (fun b h => absurd h (Nat.not_lt_zero _)) (.cons rfl (avAs_free rfl) (.cons rfl (avAs_free rfl) .nil)) .nil) (math_bits_Len64_j3_ok h)
noncomputable def math_bits_Len64_j1 (x_1 : Int) (n_ : Int) : Option Int :=
  if decide (65536 ≤ x_1) then
    math_bits_Len64_j2 (shr .u64 x_1 16) (wi (n_ + 16))
  else
    math_bits_Len64_j2 x_1 n_
theorem math_bits_Len64_j1_ok {mL : Int} {x_1 : Int} {n_ : Int} {o : Int} (h : math_bits_Len64_j1 x_1 n_ = some o) :
    Sv Tryd.prog (GG mL) 0 a115_c0 (Ends a115.results 0 (math_bits_Len64_post o)) ⟨(upd (upd (fun _ => none) 0 (some (.c (.val (.int .u64 x_1))))) 2 (some (I n_))), (fun _ => none), 0⟩ := by
  unfold math_bits_Len64_j1 at h
  refine Sv.seq ?_
  refine Sv.seq ?_
  refine Sv.region ?_
  refine un (a1 rfl ?_)
  refine un (a1 (v := (B (decide (65536 ≤ x_1)))) rfl ?_)
  refine dnil ?_
  refine Sv.cond (b := decide (65536 ≤ x_1)) rfl (fun hc2 => ?_) (fun hc2 => ?_)
  · replace h := ifT hc2 h
    refine Sv.seq ?_
    refine Sv.region ?_
    refine un (a1 rfl ?_)
    refine un (a1 (v := (.c (.val (.int .u64 (shr .u64 x_1 16))))) rfl ?_)
    refine un (a1 rfl ?_)
    refine dnil ?_
    refine Sv.region ?_
    refine un (a1 rfl ?_)
    refine un (a1 (v := (I (wi (n_ + 16)))) rfl ?_)
    refine un (a1 rfl ?_)
    refine dnil ?_
    exact Sv.weak (weak_canon [] rfl (by decide) (by decide) (fun b h => absurd h (Nat.not_lt_zero _)) (.cons rfl (avAs_free rfl) (.cons rfl (avAs_free rfl) .nil)) .nil) (math_bits_Len64_j2_ok h)
  · replace h := ifF hc2 h
    refine Sv.skip ?_
    exact Sv.weak (weak_canon [] rfl (by decide) (by decide) (fun b h => absurd h (Nat.not_lt_zero _)) (.cons rfl (avAs_free rfl) (.cons rfl (avAs_free rfl) .nil)) .nil) (math_bits_Len64_j2_ok h)
/-- math/bits.Len64 -/
noncomputable def math_bits_Len64 (x_ : Int) : Option Int :=
  if decide (4294967296 ≤ x_) then
    math_bits_Len64_j1 (shr .u64 x_ 32) 32
  else
    math_bits_Len64_j1 x_ 0
theorem math_bits_Len64_ok {mL : Int} {x_ : Int} {r : Int} (h : math_bits_Len64 x_ = some r) : CPure Tryd.prog (GG mL) 115 [(.c (.val (.int .u64 x_)))] (I r) := by
  refine acalls_of_sv hmix c115 (R := math_bits_Len64_post r) ?_
  unfold math_bits_Len64 at h
  refine Sv.seq ?_
  refine Sv.region ?_
  refine un (a1 rfl ?_)
  refine dnil ?_
  refine Sv.seq ?_
  refine Sv.seq ?_
  refine Sv.region ?_
  refine un (a1 rfl ?_)
  refine un (a1 (v := (B (decide (4294967296 ≤ x_)))) rfl ?_)
  refine dnil ?_
  refine Sv.cond (b := decide (4294967296 ≤ x_)) rfl (fun hc3 => ?_) (fun hc3 => ?_)
  · replace h := ifT hc3 h
    refine Sv.seq ?_
    refine Sv.region ?_
    refine un (a1 rfl ?_)
    refine un (a1 (v := (.c (.val (.int .u64 (shr .u64 x_ 32))))) rfl ?_)
    refine un (a1 rfl ?_)
    refine dnil ?_
    refine Sv.region ?_
    refine un (a1 rfl ?_)
    refine dnil ?_
    exact Sv.weak (weak_canon [] rfl (by decide) (by decide) (fun b h => absurd h (Nat.not_lt_zero _)) (.cons rfl (avAs_free rfl) (.cons rfl (avAs_free rfl) .nil)) .nil) (math_bits_Len64_j1_ok h)
  · replace h := ifF hc3 h
    refine Sv.skip ?_
    exact Sv.weak (weak_canon [] rfl (by decide) (by decide) (fun b h => absurd h (Nat.not_lt_zero _)) (.cons rfl (avAs_free rfl) (.cons rfl (avAs_free rfl) .nil)) .nil) (math_bits_Len64_j1_ok h)
def a114 : AFunc := ⟨1, [(.tmp 2)], (.seq (.region [⟨(some 2), (.mov (.const (.c (.val (.int .i64 0))))), none⟩])
 (.seq (.region [⟨(some 3), (.mov (.tmp 0)), none⟩, ⟨(some 4), (.bin .mul (.tmp 3) (.const (.c (.val (.int .i64 78913))))), none⟩, ⟨(some 5), (.bin .shr (.tmp 4) (.const (.c (.val (.int .u64 18))))), none⟩, ⟨(some 2), (.mov (.tmp 5)), none⟩])
 .ret))⟩
set_option maxRecDepth 100000 in
theorem c114 : compFunc Tryd.prog 114 = some a114 := by kernel_rfl
def internal_strconv_log10Pow2_post (r : Int) : AV → Heap → Nat → Prop := fun v h' n' => v = (I r) ∧ (h' = (fun _ => none)) ∧ n' = 0
/-- internal/strconv.log10Pow2 -/
def internal_strconv_log10Pow2 (x_ : Int) : Int :=
  (shr .i64 (wi (x_ * 78913)) 18)
theorem internal_strconv_log10Pow2_ok {mL : Int} (x_ : Int) : CPure Tryd.prog (GG mL) 114 [(I x_)] (I (internal_strconv_log10Pow2 x_)) := by
  generalize h : internal_strconv_log10Pow2 x_ = o
  refine acalls_of_sv hmix c114 (R := internal_strconv_log10Pow2_post o) ?_
  unfold internal_strconv_log10Pow2 at h
  refine Sv.seq ?_
  refine Sv.region ?_
  refine un (a1 rfl ?_)
  refine dnil ?_
  refine Sv.seq ?_
  refine Sv.region ?_
  refine un (a1 rfl ?_)
  refine un (a1 (v := (I (wi (x_ * 78913)))) rfl ?_)
  refine un (a1 (v := (I (shr .i64 (wi (x_ * 78913)) 18))) rfl ?_)
  refine un (a1 rfl ?_)
  refine dnil ?_
  refine Sv.ret ?_
  subst h
  exact ⟨_, .refl _, _, rfl, ⟨upd (fun _ => none) 0 (some (I (shr .i64 (wi (x_ * 78913)) 18))), (fun _ => none), 0⟩, (I (shr .i64 (wi (x_ * 78913)) 18)), weak_canon [] rfl List.nodup_nil (Nat.le_refl _) (fun b h => absurd h (Nat.not_lt_zero _)) (.cons rfl (avAs_free rfl) .nil) .nil, rfl, rfl, rfl, rfl⟩
def a116 : AFunc := ⟨1, [(.tmp 2)], (.seq (.region [⟨(some 2), (.mov (.const (.c (.val (.int .i64 0))))), none⟩])
 (.seq (.seq (.region [⟨(some 3), (.mov (.tmp 0)), none⟩])
 (.cond (.tmp 3) (.seq (.region [⟨(some 2), (.mov (.const (.c (.val (.int .i64 1))))), none⟩])
 .ret) .skip))
 (.seq (.region [⟨(some 2), (.mov (.const (.c (.val (.int .i64 0))))), none⟩])
 .ret)))⟩
set_option maxRecDepth 100000 in
theorem c116 : compFunc Tryd.prog 116 = some a116 := by kernel_rfl
def internal_strconv_bool2_int_post (r : Int) : AV → Heap → Nat → Prop := fun v h' n' => v = (I r) ∧ (h' = (fun _ => none)) ∧ n' = 0
/-- internal/strconv.bool2(int) -/
def internal_strconv_bool2_int (b_ : Bool) : Int :=
  if b_ then
    1
  else
    0
theorem internal_strconv_bool2_int_ok {mL : Int} (b_ : Bool) : CPure Tryd.prog (GG mL) 116 [(B b_)] (I (internal_strconv_bool2_int b_)) := by
  generalize h : internal_strconv_bool2_int b_ = o
  refine acalls_of_sv hmix c116 (R := internal_strconv_bool2_int_post o) ?_
  unfold internal_strconv_bool2_int at h
  refine Sv.seq ?_
  refine Sv.region ?_
  refine un (a1 rfl ?_)
  refine dnil ?_
  refine Sv.seq ?_
  refine Sv.seq ?_
  refine Sv.region ?_
  refine un (a1 rfl ?_)
  refine dnil ?_
  refine Sv.cond (b := b_) rfl (fun hc1 => ?_) (fun hc1 => ?_)
  · replace h := ifT hc1 h
    refine Sv.seq ?_
    refine Sv.region ?_
    refine un (a1 rfl ?_)
    refine dnil ?_
    refine Sv.ret ?_
    subst h
    exact ⟨_, .refl _, _, rfl, ⟨upd (fun _ => none) 0 (some (I 1)), (fun _ => none), 0⟩, (I 1), weak_canon [] rfl List.nodup_nil (Nat.le_refl _) (fun b h => absurd h (Nat.not_lt_zero _)) (.cons rfl (avAs_free rfl) .nil) .nil, rfl, rfl, rfl, rfl⟩
  · replace h := ifF hc1 h
    refine Sv.skip ?_
    refine Sv.seq ?_
    refine Sv.region ?_
    refine un (a1 rfl ?_)
    refine dnil ?_
    refine Sv.ret ?_
    subst h
    exact ⟨_, .refl _, _, rfl, ⟨upd (fun _ => none) 0 (some (I 0)), (fun _ => none), 0⟩, (I 0), weak_canon [] rfl List.nodup_nil (Nat.le_refl _) (fun b h => absurd h (Nat.not_lt_zero _)) (.cons rfl (avAs_free rfl) .nil) .nil, rfl, rfl, rfl, rfl⟩
def a89 : AFunc := ⟨1, [(.tmp 2)], (.seq (.region [⟨(some 2), (.mov (.const (.c (.val (.int .i64 0))))), none⟩])
 (.seq (.region [⟨(some 4), (.mov (.tmp 0)), none⟩, ⟨(some 5), (.call 115 [(.tmp 4)]), none⟩, ⟨(some 6), (.call 114 [(.tmp 5)]), none⟩, ⟨(some 3), (.mov (.tmp 6)), none⟩])
 (.seq (.region [⟨(some 7), (.mov (.tmp 3)), none⟩, ⟨(some 8), (.mov (.tmp 0)), none⟩, ⟨(some 9), (.mov (.tmp 3)), none⟩, ⟨(some 10), (.iaddrA 20 1 (.glob 1) (.tmp 9)), none⟩, ⟨(some 11), (.load false 1 (.tmp 10)), none⟩, ⟨(some 12), (.bin .geq (.tmp 8) (.tmp 11)), none⟩, ⟨(some 13), (.call 116 [(.tmp 12)]), none⟩, ⟨(some 14), (.bin .add (.tmp 7) (.tmp 13)), none⟩, ⟨(some 2), (.mov (.tmp 14)), none⟩])
 .ret)))⟩
set_option maxRecDepth 100000 in
theorem c89 : compFunc Tryd.prog 89 = some a89 := by kernel_rfl
def internal_strconv_numDigits_post (r : Int) : AV → Heap → Nat → Prop := fun v h' n' => v = (I r) ∧ (h' = (fun _ => none)) ∧ n' = 0
def internal_strconv_numDigits_t0 : List Int := [1, 10, 100, 1000, 10000, 100000, 1000000, 10000000, 100000000, 1000000000, 10000000000, 100000000000, 1000000000000, 10000000000000, 100000000000000, 1000000000000000, 10000000000000000, 100000000000000000, 1000000000000000000, 10000000000000000000]
/-- internal/strconv.numDigits -/
noncomputable def internal_strconv_numDigits (d_ : Int) : Option Int :=
  (math_bits_Len64 d_).bind fun r_ =>
  (at? internal_strconv_numDigits_t0 (internal_strconv_log10Pow2 r_)).bind fun x_ =>
  letIn (wi ((internal_strconv_log10Pow2 r_) + (internal_strconv_bool2_int (decide (x_ ≤ d_))))) fun v14 : Int =>
  some v14
theorem internal_strconv_numDigits_ok {mL : Int} {d_ : Int} {r : Int} (h : internal_strconv_numDigits d_ = some r) : CPure Tryd.prog (GG mL) 89 [(.c (.val (.int .u64 d_)))] (I r) := by
  refine acalls_of_sv hmix c89 (R := internal_strconv_numDigits_post r) ?_
  unfold internal_strconv_numDigits at h
  refine Sv.seq ?_
  refine Sv.region ?_
  refine un (a1 rfl ?_)
  refine dnil ?_
  refine Sv.seq ?_
  refine Sv.region ?_
  refine un (a1 rfl ?_)
  obtain ⟨r_, hr1, h⟩ := bnd h
  refine un (ac_pure (math_bits_Len64_ok hr1) rfl rfl rfl ?_)
  refine un (ac_pure (internal_strconv_log10Pow2_ok (mL := mL) r_) rfl rfl rfl ?_)
  refine un (a1 rfl ?_)
  refine dnil ?_
  refine Sv.seq ?_
  refine Sv.region ?_
  refine un (a1 rfl ?_)
  refine un (a1 rfl ?_)
  refine un (a1 rfl ?_)
  obtain ⟨x_, hx1, h⟩ := bnd h
  refine un (a1 (v := (.c (.rop (List.drop ((internal_strconv_log10Pow2 r_).toNat * 1) g1_c)))) (s_iaddrAr (L := internal_strconv_numDigits_t0) rfl rfl rfl hx1) ?_)
  refine un (a1 (v := (.c (.val (.int .u64 x_)))) (s_loadAr (o2 := 0) (v := fun q => (.c (.val (.int .u64 q)))) rfl (.cons rfl (.cons rfl (.cons rfl (.cons rfl (.cons rfl (.cons rfl (.cons rfl (.cons rfl (.cons rfl (.cons rfl (.cons rfl (.cons rfl (.cons rfl (.cons rfl (.cons rfl (.cons rfl (.cons rfl (.cons rfl (.cons rfl (.cons rfl .nil)))))))))))))))))))) hx1) ?_)
  refine un (a1 (v := (B (decide (x_ ≤ d_)))) rfl ?_)
  refine un (ac_pure (internal_strconv_bool2_int_ok (mL := mL) (decide (x_ ≤ d_))) rfl rfl rfl ?_)
  obtain ⟨v14, hv14⟩ : ∃ v14 : Int, v14 = (wi ((internal_strconv_log10Pow2 r_) + (internal_strconv_bool2_int (decide (x_ ≤ d_))))) := ⟨_, rfl⟩
  replace h := letAt hv14 h
  refine un (a1 (v := (I v14)) (by rw [hv14]; rfl) ?_)
  clear hv14
  refine un (a1 rfl ?_)
  refine dnil ?_
  refine Sv.ret ?_
  replace h := Option.some.inj h
  subst h
  exact ⟨_, .refl _, _, rfl, ⟨upd (fun _ => none) 0 (some (I v14)), (fun _ => none), 0⟩, (I v14), weak_canon [] rfl List.nodup_nil (Nat.le_refl _) (fun b h => absurd h (Nat.not_lt_zero _)) (.cons rfl (avAs_free rfl) .nil) .nil, rfl, rfl, rfl, rfl⟩
end Go.Proofs.YtmpdhpfimmahfaaDoorBv
