/- Printed by a program of mine (bgen.py): plain functions, and the walks that show that the code comes to what they answer. -/
import Derived.Test.YtagfmlkihindaaaDoorRows
import Derived.Test.YtagfmlkihindaaaDoorBv22
import Derived.Test.YtagfmlkihindaaaDoorBv30
import Derived.Test.YtagfmlkihindaaaDoorShelf
import Derived.Test.YtagfmlkihindaaaDoorBld
import Derived.Test.YtagfmlkihindaaaDoorBv33
namespace Go.Proofs.YtagfmlkihindaaaDoorBv
open Go
set_option linter.unusedVariables false
set_option maxRecDepth 100000
theorem hmix : Tryd.prog.follows .mixedOrders = true := by kernel_rfl
structure Tunit where
  f_c : Int
  f_triple : Bool
def e_Tunit (x : Tunit) : List Cel := [.val (.int .u8 x.f_c), cB x.f_triple]
def g6_c : List Cel := [.val (.int .u8 240), .val (.int .u8 240), .val (.int .u8 240), .val (.int .u8 240), .val (.int .u8 240), .val (.int .u8 240), .val (.int .u8 240), .val (.int .u8 240), .val (.int .u8 240), .val (.int .u8 240), .val (.int .u8 240), .val (.int .u8 240), .val (.int .u8 240), .val (.int .u8 240), .val (.int .u8 240), .val (.int .u8 240), .val (.int .u8 240), .val (.int .u8 240), .val (.int .u8 240), .val (.int .u8 240), .val (.int .u8 240), .val (.int .u8 240), .val (.int .u8 240), .val (.int .u8 240), .val (.int .u8 240), .val (.int .u8 240), .val (.int .u8 240), .val (.int .u8 240), .val (.int .u8 240), .val (.int .u8 240), .val (.int .u8 240), .val (.int .u8 240), .val (.int .u8 240), .val (.int .u8 240), .val (.int .u8 240), .val (.int .u8 240), .val (.int .u8 240), .val (.int .u8 240), .val (.int .u8 240), .val (.int .u8 240), .val (.int .u8 240), .val (.int .u8 240), .val (.int .u8 240), .val (.int .u8 240), .val (.int .u8 240), .val (.int .u8 240), .val (.int .u8 240), .val (.int .u8 240), .val (.int .u8 240), .val (.int .u8 240), .val (.int .u8 240), .val (.int .u8 240), .val (.int .u8 240), .val (.int .u8 240), .val (.int .u8 240), .val (.int .u8 240), .val (.int .u8 240), .val (.int .u8 240), .val (.int .u8 240), .val (.int .u8 240), .val (.int .u8 240), .val (.int .u8 240), .val (.int .u8 240), .val (.int .u8 240), .val (.int .u8 240), .val (.int .u8 240), .val (.int .u8 240), .val (.int .u8 240), .val (.int .u8 240), .val (.int .u8 240), .val (.int .u8 240), .val (.int .u8 240), .val (.int .u8 240), .val (.int .u8 240), .val (.int .u8 240), .val (.int .u8 240), .val (.int .u8 240), .val (.int .u8 240), .val (.int .u8 240), .val (.int .u8 240), .val (.int .u8 240), .val (.int .u8 240), .val (.int .u8 240), .val (.int .u8 240), .val (.int .u8 240), .val (.int .u8 240), .val (.int .u8 240), .val (.int .u8 240), .val (.int .u8 240), .val (.int .u8 240), .val (.int .u8 240), .val (.int .u8 240), .val (.int .u8 240), .val (.int .u8 240), .val (.int .u8 240), .val (.int .u8 240), .val (.int .u8 240), .val (.int .u8 240), .val (.int .u8 240), .val (.int .u8 240), .val (.int .u8 240), .val (.int .u8 240), .val (.int .u8 240), .val (.int .u8 240), .val (.int .u8 240), .val (.int .u8 240), .val (.int .u8 240), .val (.int .u8 240), .val (.int .u8 240), .val (.int .u8 240), .val (.int .u8 240), .val (.int .u8 240), .val (.int .u8 240), .val (.int .u8 240), .val (.int .u8 240), .val (.int .u8 240), .val (.int .u8 240), .val (.int .u8 240), .val (.int .u8 240), .val (.int .u8 240), .val (.int .u8 240), .val (.int .u8 240), .val (.int .u8 240), .val (.int .u8 240), .val (.int .u8 240), .val (.int .u8 240), .val (.int .u8 240), .val (.int .u8 240), .val (.int .u8 241), .val (.int .u8 241), .val (.int .u8 241), .val (.int .u8 241), .val (.int .u8 241), .val (.int .u8 241), .val (.int .u8 241), .val (.int .u8 241), .val (.int .u8 241), .val (.int .u8 241), .val (.int .u8 241), .val (.int .u8 241), .val (.int .u8 241), .val (.int .u8 241), .val (.int .u8 241), .val (.int .u8 241), .val (.int .u8 241), .val (.int .u8 241), .val (.int .u8 241), .val (.int .u8 241), .val (.int .u8 241), .val (.int .u8 241), .val (.int .u8 241), .val (.int .u8 241), .val (.int .u8 241), .val (.int .u8 241), .val (.int .u8 241), .val (.int .u8 241), .val (.int .u8 241), .val (.int .u8 241), .val (.int .u8 241), .val (.int .u8 241), .val (.int .u8 241), .val (.int .u8 241), .val (.int .u8 241), .val (.int .u8 241), .val (.int .u8 241), .val (.int .u8 241), .val (.int .u8 241), .val (.int .u8 241), .val (.int .u8 241), .val (.int .u8 241), .val (.int .u8 241), .val (.int .u8 241), .val (.int .u8 241), .val (.int .u8 241), .val (.int .u8 241), .val (.int .u8 241), .val (.int .u8 241), .val (.int .u8 241), .val (.int .u8 241), .val (.int .u8 241), .val (.int .u8 241), .val (.int .u8 241), .val (.int .u8 241), .val (.int .u8 241), .val (.int .u8 241), .val (.int .u8 241), .val (.int .u8 241), .val (.int .u8 241), .val (.int .u8 241), .val (.int .u8 241), .val (.int .u8 241), .val (.int .u8 241), .val (.int .u8 241), .val (.int .u8 241), .val (.int .u8 2), .val (.int .u8 2), .val (.int .u8 2), .val (.int .u8 2), .val (.int .u8 2), .val (.int .u8 2), .val (.int .u8 2), .val (.int .u8 2), .val (.int .u8 2), .val (.int .u8 2), .val (.int .u8 2), .val (.int .u8 2), .val (.int .u8 2), .val (.int .u8 2), .val (.int .u8 2), .val (.int .u8 2), .val (.int .u8 2), .val (.int .u8 2), .val (.int .u8 2), .val (.int .u8 2), .val (.int .u8 2), .val (.int .u8 2), .val (.int .u8 2), .val (.int .u8 2), .val (.int .u8 2), .val (.int .u8 2), .val (.int .u8 2), .val (.int .u8 2), .val (.int .u8 2), .val (.int .u8 2), .val (.int .u8 19), .val (.int .u8 3), .val (.int .u8 3), .val (.int .u8 3), .val (.int .u8 3), .val (.int .u8 3), .val (.int .u8 3), .val (.int .u8 3), .val (.int .u8 3), .val (.int .u8 3), .val (.int .u8 3), .val (.int .u8 3), .val (.int .u8 3), .val (.int .u8 35), .val (.int .u8 3), .val (.int .u8 3), .val (.int .u8 52), .val (.int .u8 4), .val (.int .u8 4), .val (.int .u8 4), .val (.int .u8 68), .val (.int .u8 241), .val (.int .u8 241), .val (.int .u8 241), .val (.int .u8 241), .val (.int .u8 241), .val (.int .u8 241), .val (.int .u8 241), .val (.int .u8 241), .val (.int .u8 241), .val (.int .u8 241), .val (.int .u8 241)]
def g7_c : List Cel := [.val (.int .u8 128), .val (.int .u8 191), .val (.int .u8 160), .val (.int .u8 191), .val (.int .u8 128), .val (.int .u8 159), .val (.int .u8 144), .val (.int .u8 191), .val (.int .u8 128), .val (.int .u8 143), .val (.int .u8 0), .val (.int .u8 0), .val (.int .u8 0), .val (.int .u8 0), .val (.int .u8 0), .val (.int .u8 0), .val (.int .u8 0), .val (.int .u8 0), .val (.int .u8 0), .val (.int .u8 0), .val (.int .u8 0), .val (.int .u8 0), .val (.int .u8 0), .val (.int .u8 0), .val (.int .u8 0), .val (.int .u8 0), .val (.int .u8 0), .val (.int .u8 0), .val (.int .u8 0), .val (.int .u8 0), .val (.int .u8 0), .val (.int .u8 0)]
/-- what the listed package variables hold -/
def GG (mL : Int) : Glob := fun g => if g = 2 then [.val (.int .i64 mL)] else if g = 6 then g6_c else if g = 7 then g7_c else []
noncomputable abbrev strings_IndexByte (s_ : (List UInt8)) (c_ : Int) : Option Int := indexByte? s_ c_
/-- strings.IndexByte, by the contract of the shelf -/
theorem strings_IndexByte_ok {mL : Int} {s_ : (List UInt8)} {c_ : Int} {r : Int} (h : strings_IndexByte s_ c_ = some r) : CPure Tryd.prog (GG mL) 100 [(S s_), (.c (.val (.int .u8 c_)))] (I r) := indexByte_ok Tryd.lays137 h
def a91_c0 : ACode := (.seq (.region [⟨(some 11), (.mov (.tmp 0)), none⟩, ⟨(some 12), (.call 100 [(.const (.c (.str [48, 49, 50, 51, 52, 53, 54, 55, 56, 57, 65, 66, 67, 68, 69, 70]))), (.tmp 11)]), none⟩, ⟨(some 2), (.mov (.tmp 12)), none⟩])
 .ret)
def a91 : AFunc := ⟨1, [(.tmp 2)], (.seq (.region [⟨(some 2), (.mov (.const (.c (.val (.int .i64 0))))), none⟩])
 (.seq (.seq (.region [⟨(some 3), (.mov (.tmp 0)), none⟩, ⟨(some 4), (.bin .geq (.tmp 3) (.const (.c (.val (.int .u8 97))))), none⟩, ⟨(some 5), (.mov (.tmp 4)), none⟩, ⟨(some 6), (.mov (.tmp 0)), (some (5, true))⟩, ⟨(some 7), (.bin .leq (.tmp 6) (.const (.c (.val (.int .u8 102))))), (some (5, true))⟩, ⟨(some 8), (.pick (.tmp 5) (.tmp 7) (.const (.c (.val (.bool false))))), none⟩])
 (.cond (.tmp 8) (.region [⟨(some 9), (.mov (.tmp 0)), none⟩, ⟨(some 10), (.bin .sub (.tmp 9) (.const (.c (.val (.int .u8 32))))), none⟩, ⟨(some 0), (.mov (.tmp 10)), none⟩]) .skip))
 a91_c0))⟩
set_option maxRecDepth 100000 in
theorem c91 : compFunc Tryd.prog 91 = some a91 := by kernel_rfl
def url_value_post (r : Int) : AV → Heap → Nat → Prop := fun v h' n' => v = (I r) ∧ (h' = (fun _ => none)) ∧ n' = 0
noncomputable def url_value_j1 (c_1 : Int) : Option Int :=
  (strings_IndexByte [48, 49, 50, 51, 52, 53, 54, 55, 56, 57, 65, 66, 67, 68, 69, 70] c_1).bind fun r_ =>
  some r_
theorem url_value_j1_ok {mL : Int} {c_1 : Int} {o : Int} (h : url_value_j1 c_1 = some o) :
    Sv Tryd.prog (GG mL) 0 a91_c0 (Ends a91.results 0 (url_value_post o)) ⟨(upd (fun _ => none) 0 (some (.c (.val (.int .u8 c_1))))), (fun _ => none), 0⟩ := by
  unfold url_value_j1 at h
  refine Sv.seq ?_
  refine Sv.region ?_
  refine un (a1 rfl ?_)
  obtain ⟨r_, hr1, h⟩ := bnd h
  refine un (ac_pure (strings_IndexByte_ok hr1) rfl rfl rfl ?_)
  refine un (a1 rfl ?_)
  refine dnil ?_
  refine Sv.ret ?_
  replace h := Option.some.inj h
  subst h
  exact ⟨_, .refl _, _, rfl, ⟨upd (fun _ => none) 0 (some (I r_)), (fun _ => none), 0⟩, (I r_), weak_canon [] rfl List.nodup_nil (Nat.le_refl _) (fun b h => absurd h (Nat.not_lt_zero _)) (.cons rfl (avAs_free rfl) .nil) .nil, rfl, rfl, rfl, rfl⟩
/-- clerestory/url.value -/
noncomputable def url_value (c_ : Int) : Option Int :=
  if ((decide (97 ≤ c_)) && (decide (c_ ≤ 102))) then
    url_value_j1 (wr .u8 (c_ - 32))
  else
    url_value_j1 c_
theorem url_value_ok {mL : Int} {c_ : Int} {r : Int} (h : url_value c_ = some r) : CPure Tryd.prog (GG mL) 91 [(.c (.val (.int .u8 c_)))] (I r) := by
  refine acalls_of_sv hmix c91 (R := url_value_post r) ?_
  unfold url_value at h
  refine Sv.seq ?_
  refine Sv.region ?_
  refine un (a1 rfl ?_)
  refine dnil ?_
  refine Sv.seq ?_
  refine Sv.seq ?_
  refine Sv.region ?_
  refine un (a1 rfl ?_)
  refine un (a1 (v := (B (decide (97 ≤ c_)))) rfl ?_)
  refine un (a1 rfl ?_)
  refine gjoin 3 (d := 8) (v := (B ((decide (97 ≤ c_)) && (decide (c_ ≤ 102))))) (fun X hX => ?_) ?_
  · refine split2 (fun hc1 => ?_) (fun hc1 => ?_)
    · refine gt rfl (a1 rfl ?_)
      refine gt rfl (a1 (v := (B (decide (c_ ≤ 102)))) rfl ?_)
      refine un (a1 (v := (B (decide (c_ ≤ 102)))) rfl ?_)
      refine dnil ?_
      exact hX _ (.putEq (by rw [hc1]; rfl) (.skip _ _ (.skip _ _ (.putEq (by rw [hc1]) (.refl _)) rfl) rfl))
    · refine gs rfl rfl ?_
      refine gs rfl rfl ?_
      refine un (a1 (v := (B false)) rfl ?_)
      refine dnil ?_
      exact hX _ (.putEq (by rw [hc1]; rfl) (.skip _ _ (.skip _ _ (.putEq (by rw [hc1]) (.refl _)) rfl) rfl))
  refine dnil ?_
  refine Sv.cond (b := ((decide (97 ≤ c_)) && (decide (c_ ≤ 102)))) rfl (fun hc2 => ?_) (fun hc2 => ?_)
  · replace h := ifT hc2 h
    refine Sv.region ?_
    refine un (a1 rfl ?_)
    refine un (a1 (v := (.c (.val (.int .u8 (wr .u8 (c_ - 32)))))) rfl ?_)
    refine un (a1 rfl ?_)
    refine dnil ?_
    exact Sv.weak (weak_canon [] rfl (by decide) (by decide) (fun b h => absurd h (Nat.not_lt_zero _)) (.cons rfl (avAs_free rfl) .nil) .nil) (url_value_j1_ok h)
  · replace h := ifF hc2 h
    refine Sv.skip ?_
    exact Sv.weak (weak_canon [] rfl (by decide) (by decide) (fun b h => absurd h (Nat.not_lt_zero _)) (.cons rfl (avAs_free rfl) .nil) .nil) (url_value_j1_ok h)
def a40_c0 : ACode := (.cond (.tmp 23) (.seq (.region [⟨(some 2), (.mov (.const (.c (.val (.int .u8 0))))), none⟩, ⟨(some 3), (.mov (.const (.c (.val (.int .i64 0))))), none⟩])
 .ret) .skip)
def a40_c1 : ACode := (.seq (.drawn (.fin [(⟨(some 24), (.mov (.tmp 0)), none⟩, (0, 0)), (⟨(some 25), (.idxS (.tmp 24) (.const (.c (.val (.int .i64 1))))), none⟩, (0, 1)), (⟨(some 28), (.mov (.tmp 0)), none⟩, (0, 4)), (⟨(some 29), (.idxS (.tmp 28) (.const (.c (.val (.int .i64 2))))), none⟩, (0, 5)), (⟨(some 26), (.call 91 [(.tmp 25)]), none⟩, (2, 2)), (⟨(some 27), (.bin .shl (.tmp 26) (.const (.c (.val (.int .u64 4))))), none⟩, (0, 3)), (⟨(some 30), (.call 91 [(.tmp 29)]), none⟩, (2, 6)), (⟨(some 31), (.bin .or (.tmp 27) (.tmp 30)), none⟩, (0, 7)), (⟨(some 32), (.conv .u8 (.tmp 31)), none⟩, (0, 8)), (⟨(some 2), (.mov (.tmp 32)), none⟩, (0, 9)), (⟨(some 3), (.mov (.const (.c (.val (.int .i64 3))))), none⟩, (0, 10))]))
 .ret)
def a40 : AFunc := ⟨1, [(.tmp 2), (.tmp 3)], (.seq (.region [⟨(some 2), (.mov (.const (.c (.val (.int .u8 0))))), none⟩, ⟨(some 3), (.mov (.const (.c (.val (.int .i64 0))))), none⟩])
 (.seq (.seq (.region [⟨(some 4), (.mov (.tmp 0)), none⟩, ⟨(some 5), (.idxS (.tmp 4) (.const (.c (.val (.int .i64 0))))), none⟩, ⟨(some 6), (.bin .neq (.tmp 5) (.const (.c (.val (.int .u8 37))))), none⟩])
 (.cond (.tmp 6) (.seq (.region [⟨(some 7), (.mov (.tmp 0)), none⟩, ⟨(some 8), (.idxS (.tmp 7) (.const (.c (.val (.int .i64 0))))), none⟩, ⟨(some 2), (.mov (.tmp 8)), none⟩, ⟨(some 3), (.mov (.const (.c (.val (.int .i64 1))))), none⟩])
 .ret) .skip))
 (.seq (.seq (.region [⟨(some 9), (.mov (.tmp 0)), none⟩, ⟨(some 10), (.lenS (.tmp 9)), none⟩, ⟨(some 11), (.bin .lss (.tmp 10) (.const (.c (.val (.int .i64 3))))), none⟩, ⟨(some 12), (.mov (.tmp 11)), none⟩, ⟨(some 13), (.mov (.tmp 0)), (some (12, false))⟩, ⟨(some 14), (.idxS (.tmp 13) (.const (.c (.val (.int .i64 1))))), (some (12, false))⟩, ⟨(some 15), (.call 91 [(.tmp 14)]), (some (12, false))⟩, ⟨(some 16), (.bin .lss (.tmp 15) (.const (.c (.val (.int .i64 0))))), (some (12, false))⟩, ⟨(some 17), (.pick (.tmp 12) (.const (.c (.val (.bool true)))) (.tmp 16)), none⟩, ⟨(some 18), (.mov (.tmp 17)), none⟩, ⟨(some 19), (.mov (.tmp 0)), (some (18, false))⟩, ⟨(some 20), (.idxS (.tmp 19) (.const (.c (.val (.int .i64 2))))), (some (18, false))⟩, ⟨(some 21), (.call 91 [(.tmp 20)]), (some (18, false))⟩, ⟨(some 22), (.bin .lss (.tmp 21) (.const (.c (.val (.int .i64 0))))), (some (18, false))⟩, ⟨(some 23), (.pick (.tmp 18) (.const (.c (.val (.bool true)))) (.tmp 22)), none⟩])
 a40_c0)
 a40_c1)))⟩
set_option maxRecDepth 100000 in
theorem c40 : compFunc Tryd.prog 40 = some a40 := by kernel_rfl
def url_read_post (r : (Int × Int)) : AV → Heap → Nat → Prop := fun v h' n' => v = (.tup [(.c (.val (.int .u8 r.1))), (I r.2)]) ∧ (h' = (fun _ => none)) ∧ n' = 0
abbrev url_read_q0 (mL : Int) (o : (Int × Int)) : AExit → St → Prop := AThen (Sv Tryd.prog (GG mL) 0 a40_c1 (Ends a40.results 0 (url_read_post o))) (Ends a40.results 0 (url_read_post o))
noncomputable def url_read_j1 (s_ : (List UInt8)) (v23 : Bool) : Option (Int × Int) :=
  if v23 then
    some (0, 0)
  else
    (at? s_ 1).bind fun c_2 =>
    (at? s_ 2).bind fun c_3 =>
    (url_value (c_2.toNat : Int)).bind fun r_ =>
    (url_value (c_3.toNat : Int)).bind fun r_1 =>
    some ((wr .u8 (bitsV .or .i64 (shl .i64 r_ 4) r_1)), 3)
theorem url_read_j1_ok {mL : Int} {s_ : (List UInt8)} {v23 : Bool} {o : (Int × Int)} (h : url_read_j1 s_ v23 = some o) :
    Sv Tryd.prog (GG mL) 0 a40_c0 (url_read_q0 mL o) ⟨(upd (upd (fun _ => none) 0 (some (S s_))) 23 (some (B v23))), (fun _ => none), 0⟩ := by
  unfold url_read_j1 at h
  refine Sv.cond (b := v23) rfl (fun hc2 => ?_) (fun hc2 => ?_)
  · replace h := ifT hc2 h
    refine Sv.seq ?_
    refine Sv.region ?_
    refine un (a1 rfl ?_)
    refine un (a1 rfl ?_)
    refine dnil ?_
    refine Sv.ret ?_
    replace h := Option.some.inj h
    subst h
    exact ⟨_, .refl _, _, rfl, ⟨upd (fun _ => none) 0 (some (.tup [(.c (.val (.int .u8 0))), (I 0)])), (fun _ => none), 0⟩, (.tup [(.c (.val (.int .u8 0))), (I 0)]), weak_canon [] rfl List.nodup_nil (Nat.le_refl _) (fun b h => absurd h (Nat.not_lt_zero _)) (.cons rfl (avAs_tup (.cons (avAs_free rfl) (.cons (avAs_free rfl) .nil))) .nil) .nil, rfl, rfl, rfl, rfl⟩
  · replace h := ifF hc2 h
    refine Sv.skip ?_
    refine Sv.seq ?_
    refine Sv.drawn ?_
    refine un (a1 rfl ?_)
    obtain ⟨c_2, hx3, h⟩ := bnd h
    refine un (a1 (v := (.c (.val (.int .u8 (c_2.toNat : Int))))) (s_idxS rfl rfl hx3) ?_)
    refine un (a1 rfl ?_)
    obtain ⟨c_3, hx4, h⟩ := bnd h
    refine un (a1 (v := (.c (.val (.int .u8 (c_3.toNat : Int))))) (s_idxS rfl rfl hx4) ?_)
    obtain ⟨r_, hr1, h⟩ := bnd h
    refine un (ac_pure (url_value_ok hr1) rfl rfl rfl ?_)
    refine un (a1 (v := (I (shl .i64 r_ 4))) rfl ?_)
    obtain ⟨r_1, hr2, h⟩ := bnd h
    refine un (ac_pure (url_value_ok hr2) rfl rfl rfl ?_)
    refine un (a1 (v := (I (bitsV .or .i64 (shl .i64 r_ 4) r_1))) rfl ?_)
    refine un (a1 (v := (.c (.val (.int .u8 (wr .u8 (bitsV .or .i64 (shl .i64 r_ 4) r_1)))))) rfl ?_)
    refine un (a1 rfl ?_)
    refine un (a1 rfl ?_)
    refine dnil ?_
    refine Sv.ret ?_
    replace h := Option.some.inj h
    subst h
    exact ⟨_, .refl _, _, rfl, ⟨upd (fun _ => none) 0 (some (.tup [(.c (.val (.int .u8 (wr .u8 (bitsV .or .i64 (shl .i64 r_ 4) r_1))))), (I 3)])), (fun _ => none), 0⟩, (.tup [(.c (.val (.int .u8 (wr .u8 (bitsV .or .i64 (shl .i64 r_ 4) r_1))))), (I 3)]), weak_canon [] rfl List.nodup_nil (Nat.le_refl _) (fun b h => absurd h (Nat.not_lt_zero _)) (.cons rfl (avAs_tup (.cons (avAs_free rfl) (.cons (avAs_free rfl) .nil))) .nil) .nil, rfl, rfl, rfl, rfl⟩
/-- clerestory/url.read -/
noncomputable def url_read (s_ : (List UInt8)) : Option (Int × Int) :=
  (at? s_ 0).bind fun c_ =>
  if (!decide ((c_.toNat : Int) = 37)) then
    (at? s_ 0).bind fun c_1 =>
    some ((c_1.toNat : Int), 1)
  else
    if decide ((s_.length : Int) < 3) then
      url_read_j1 s_ true
    else
      (at? s_ 1).bind fun c_4 =>
      (url_value (c_4.toNat : Int)).bind fun r_2 =>
      if decide (r_2 < 0) then
        url_read_j1 s_ true
      else
        (at? s_ 2).bind fun c_5 =>
        (url_value (c_5.toNat : Int)).bind fun r_3 =>
        url_read_j1 s_ (decide (r_3 < 0))
theorem url_read_ok {mL : Int} {s_ : (List UInt8)} {r : (Int × Int)} (h : url_read s_ = some r) : CPure Tryd.prog (GG mL) 40 [(S s_)] (.tup [(.c (.val (.int .u8 r.1))), (I r.2)]) := by
  refine acalls_of_sv hmix c40 (R := url_read_post r) ?_
  unfold url_read at h
  refine Sv.seq ?_
  refine Sv.region ?_
  refine un (a1 rfl ?_)
  refine un (a1 rfl ?_)
  refine dnil ?_
  refine Sv.seq ?_
  refine Sv.seq ?_
  refine Sv.region ?_
  refine un (a1 rfl ?_)
  obtain ⟨c_, hx1, h⟩ := bnd h
  refine un (a1 (v := (.c (.val (.int .u8 (c_.toNat : Int))))) (s_idxS rfl rfl hx1) ?_)
  refine un (a1 (v := (B (!decide ((c_.toNat : Int) = 37)))) rfl ?_)
  refine dnil ?_
  refine Sv.cond (b := (!decide ((c_.toNat : Int) = 37))) rfl (fun hc1 => ?_) (fun hc1 => ?_)
  · replace h := ifT hc1 h
    refine Sv.seq ?_
    refine Sv.region ?_
    refine un (a1 rfl ?_)
    obtain ⟨c_1, hx2, h⟩ := bnd h
    refine un (a1 (v := (.c (.val (.int .u8 (c_1.toNat : Int))))) (s_idxS rfl rfl hx2) ?_)
    refine un (a1 rfl ?_)
    refine un (a1 rfl ?_)
    refine dnil ?_
    refine Sv.ret ?_
    replace h := Option.some.inj h
    subst h
    exact ⟨_, .refl _, _, rfl, ⟨upd (fun _ => none) 0 (some (.tup [(.c (.val (.int .u8 (c_1.toNat : Int)))), (I 1)])), (fun _ => none), 0⟩, (.tup [(.c (.val (.int .u8 (c_1.toNat : Int)))), (I 1)]), weak_canon [] rfl List.nodup_nil (Nat.le_refl _) (fun b h => absurd h (Nat.not_lt_zero _)) (.cons rfl (avAs_tup (.cons (avAs_free rfl) (.cons (avAs_free rfl) .nil))) .nil) .nil, rfl, rfl, rfl, rfl⟩
  · replace h := ifF hc1 h
    refine Sv.skip ?_
    refine Sv.seq ?_
    refine Sv.seq ?_
    refine Sv.region ?_
    refine un (a1 rfl ?_)
    refine un (a1 (v := (I (s_.length : Int))) rfl ?_)
    refine un (a1 (v := (B (decide ((s_.length : Int) < 3)))) rfl ?_)
    refine un (a1 rfl ?_)
    refine split2 (fun hc3 => ?_) (fun hc3 => ?_)
    · replace h := ifT hc3 h
      refine gs rfl rfl ?_
      refine gs rfl rfl ?_
      refine gs rfl rfl ?_
      refine gs rfl rfl ?_
      refine un (a1 (v := (B true)) rfl ?_)
      refine un (a1 rfl ?_)
      refine gs rfl rfl ?_
      refine gs rfl rfl ?_
      refine gs rfl rfl ?_
      refine gs rfl rfl ?_
      refine un (a1 (v := (B true)) rfl ?_)
      refine dnil ?_
      exact Sv.weak (weak_canon [] rfl (by decide) (by decide) (fun b h => absurd h (Nat.not_lt_zero _)) (.cons rfl (avAs_free rfl) (.cons rfl (avAs_free rfl) .nil)) .nil) (url_read_j1_ok h)
    · replace h := ifF hc3 h
      refine gt rfl (a1 rfl ?_)
      obtain ⟨c_4, hx5, h⟩ := bnd h
      refine gt rfl (a1 (v := (.c (.val (.int .u8 (c_4.toNat : Int))))) (s_idxS rfl rfl hx5) ?_)
      obtain ⟨r_2, hr3, h⟩ := bnd h
      refine gt rfl (ac_pure (url_value_ok hr3) rfl rfl rfl ?_)
      refine gt rfl (a1 (v := (B (decide (r_2 < 0)))) rfl ?_)
      refine un (a1 (v := (B (decide (r_2 < 0)))) rfl ?_)
      refine un (a1 rfl ?_)
      refine split2 (fun hc4 => ?_) (fun hc4 => ?_)
      · replace h := ifT hc4 h
        refine gs rfl rfl ?_
        refine gs rfl rfl ?_
        refine gs rfl rfl ?_
        refine gs rfl rfl ?_
        refine un (a1 (v := (B true)) rfl ?_)
        refine dnil ?_
        exact Sv.weak (weak_canon [] rfl (by decide) (by decide) (fun b h => absurd h (Nat.not_lt_zero _)) (.cons rfl (avAs_free rfl) (.cons rfl (avAs_free rfl) .nil)) .nil) (url_read_j1_ok h)
      · replace h := ifF hc4 h
        refine gt rfl (a1 rfl ?_)
        obtain ⟨c_5, hx6, h⟩ := bnd h
        refine gt rfl (a1 (v := (.c (.val (.int .u8 (c_5.toNat : Int))))) (s_idxS rfl rfl hx6) ?_)
        obtain ⟨r_3, hr4, h⟩ := bnd h
        refine gt rfl (ac_pure (url_value_ok hr4) rfl rfl rfl ?_)
        refine gt rfl (a1 (v := (B (decide (r_3 < 0)))) rfl ?_)
        refine un (a1 (v := (B (decide (r_3 < 0)))) rfl ?_)
        refine dnil ?_
        exact Sv.weak (weak_canon [] rfl (by decide) (by decide) (fun b h => absurd h (Nat.not_lt_zero _)) (.cons rfl (avAs_free rfl) (.cons rfl (avAs_free rfl) .nil)) .nil) (url_read_j1_ok h)
def a12_c0 : ACode := (.seq (.seq (.region [⟨(some 7), (.mov (.tmp 0)), none⟩, ⟨(some 8), (.bin .neq (.tmp 7) (.const (.c (.str [])))), none⟩])
 (.cond (.tmp 8) .skip (.exit 0)))
 (.block 1 (.seq (.region [⟨(some 10), (.mov (.tmp 0)), none⟩, ⟨(some 11), (.call 40 [(.tmp 10)]), none⟩, ⟨(some 9), (.mov (.tmp 11)), none⟩, ⟨(some 12), (.ext (.tmp 9) 0), none⟩, ⟨(some 13), (.ext (.tmp 9) 1), none⟩, ⟨(some 5), (.mov (.tmp 12)), none⟩, ⟨(some 6), (.mov (.tmp 13)), none⟩])
 (.seq (.seq (.region [⟨(some 14), (.mov (.tmp 6)), none⟩, ⟨(some 15), (.bin .eql (.tmp 14) (.const (.c (.val (.int .i64 0))))), none⟩])
 (.cond (.tmp 15) (.seq (.region [⟨(some 2), (.mov (.const (.c (.str [])))), none⟩, ⟨(some 3), (.mov (.const (.c (.val (.int .i64 3))))), none⟩])
 .ret) .skip))
 (.seq (.region [⟨(some 16), (.mov (.tmp 4)), none⟩, ⟨(some 17), (.mov (.tmp 5)), none⟩, ⟨(some 18), (.bslice 1 [(.val (.int .u8 0))] 1 [(0, (.tmp 17))]), none⟩, ⟨(some 19), (.app 1 1 (.tmp 16) (.tmp 18)), none⟩, ⟨(some 4), (.mov (.tmp 19)), none⟩])
 (.region [⟨(some 20), (.mov (.tmp 0)), none⟩, ⟨(some 21), (.mov (.tmp 6)), none⟩, ⟨(some 22), (.slStr (.tmp 20) (some (.tmp 21)) none), none⟩, ⟨(some 0), (.mov (.tmp 22)), none⟩]))))))
def a12 : AFunc := ⟨1, [(.tmp 2), (.tmp 3)], (.seq (.region [⟨(some 2), (.mov (.const (.c (.str [])))), none⟩, ⟨(some 3), (.mov (.const (.c (.val (.int .i64 0))))), none⟩])
 (.seq (.region [⟨(some 4), (.mov (.const (.c (.ro true 1 [])))), none⟩])
 (.seq (.block 0 (.loop a12_c0))
 (.seq (.region [⟨(some 23), (.mov (.tmp 4)), none⟩, ⟨(some 24), (.ofBytes (.tmp 23)), none⟩, ⟨(some 2), (.mov (.tmp 24)), none⟩, ⟨(some 3), (.mov (.const (.c (.val (.int .i64 0))))), none⟩])
 .ret))))⟩
set_option maxRecDepth 100000 in
theorem c12 : compFunc Tryd.prog 12 = some a12 := by kernel_rfl
def url_Decode_post (r : ((List UInt8) × Int)) : AV → Heap → Nat → Prop := fun v h' n' => v = (.tup [(S r.1), (I r.2)]) ∧ (h' = (fun _ => none)) ∧ n' = 0
noncomputable def url_Decode_l0 (K0_ : (List Int) → Option ((List UInt8) × Int)) : Nat → (List UInt8) → (List Int) → Option ((List UInt8) × Int)
  | 0, _, _ => none
  | k + 1, s_1, out =>
    if (!decide (s_1 = [])) then
      (url_read s_1).bind fun r_ =>
      if decide (r_.2 = 0) then
        some ([], 3)
      else
        (app? 1 out [r_.1]).bind fun r_1 =>
        (sub? s_1 r_.2 (s_1.length : Int)).bind fun r_2 =>
        (url_Decode_l0 K0_ k) r_2 r_1
    else
      K0_ out
theorem url_Decode_l0_ok {mL : Int} {Q : AExit → St → Prop} {K0_ : (List Int) → Option ((List UInt8) × Int)} {k : Nat} {s_1 : (List UInt8)} {out : (List Int)} {zout : Bool} (hzout : zout = true → out = []) {o : ((List UInt8) × Int)} (h : url_Decode_l0 K0_ k s_1 out = some o)
    (hK0 : ∀ (out1 : (List Int)) (zout1 : Bool) (_ : zout1 = true → out1 = []), K0_ out1 = some o → ∀ s, Weak 0 s ⟨(upd (fun _ => none) 4 (some (lstV zout1 0 1 out1.length))), (upd (fun _ => none) 0 (lstB zout1 1 (out1.map (eK .u8)))), 1⟩ → Q (.exit 0) s)
    (hr : ∀ s, Ends a12.results 0 (url_Decode_post o) .ret s → Q .ret s) :
    Sv Tryd.prog (GG mL) 0 (.loop a12_c0) Q ⟨(upd (upd (fun _ => none) 0 (some (S s_1))) 4 (some (lstV zout 0 1 out.length))), (upd (fun _ => none) 0 (lstB zout 1 (out.map (eK .u8)))), 1⟩ := by
  refine Sv.loop (I := fun k s => ∃ (s_1 : (List UInt8)), ∃ (out : (List Int)), ∃ (zout : Bool), (zout = true → out = []) ∧ url_Decode_l0 K0_ k s_1 out = some o ∧ s = ⟨(upd (upd (fun _ => none) 0 (some (S s_1))) 4 (some (lstV zout 0 1 out.length))), (upd (fun _ => none) 0 (lstB zout 1 (out.map (eK .u8)))), 1⟩) (fun k s hI => ?_) ⟨s_1, out, zout, hzout, h, rfl⟩
  clear h
  clear hzout zout out s_1
  obtain ⟨s_1, out, zout, hzout, h, rfl⟩ := hI
  cases k with
  | zero => cases h
  | succ k =>
  rw [url_Decode_l0] at h
  have hself : ∀ (s_1 : (List UInt8)) (out : (List Int)) (zout : Bool) (_ : zout = true → out = []), (url_Decode_l0 K0_ k) s_1 out = some o → ∀ s, Weak 0 s ⟨(upd (upd (fun _ => none) 0 (some (S s_1))) 4 (some (lstV zout 0 1 out.length))), (upd (fun _ => none) 0 (lstB zout 1 (out.map (eK .u8)))), 1⟩ → (AThen (fun s' => ∃ s'' k', Weak 0 s' s'' ∧ k' < k + 1 ∧ (fun k s => ∃ (s_1 : (List UInt8)), ∃ (out : (List Int)), ∃ (zout : Bool), (zout = true → out = []) ∧ url_Decode_l0 K0_ k s_1 out = some o ∧ s = ⟨(upd (upd (fun _ => none) 0 (some (S s_1))) 4 (some (lstV zout 0 1 out.length))), (upd (fun _ => none) 0 (lstB zout 1 (out.map (eK .u8)))), 1⟩) k' s'') Q) .normal s := fun s_1 out zout hzout h s hw => ⟨_, k, hw, Nat.lt_succ_self k, s_1, out, zout, hzout, h, rfl⟩
  refine Sv.seq ?_
  refine Sv.seq ?_
  refine Sv.region ?_
  refine un (a1 rfl ?_)
  refine un (a1 (v := (B (!decide (s_1 = [])))) rfl ?_)
  refine dnil ?_
  refine Sv.cond (b := (!decide (s_1 = []))) rfl (fun hc1 => ?_) (fun hc1 => ?_)
  · replace h := ifT hc1 h
    refine Sv.skip ?_
    refine Sv.block ?_
    refine Sv.seq ?_
    refine Sv.region ?_
    refine un (a1 rfl ?_)
    obtain ⟨r_, hr1, h⟩ := bnd h
    refine un (ac_pure (url_read_ok hr1) rfl rfl rfl ?_)
    refine un (a1 rfl ?_)
    refine un (a1 (v := (.c (.val (.int .u8 r_.1)))) rfl ?_)
    refine un (a1 (v := (I r_.2)) rfl ?_)
    refine un (a1 rfl ?_)
    refine un (a1 rfl ?_)
    refine dnil ?_
    refine Sv.seq ?_
    refine Sv.seq ?_
    refine Sv.region ?_
    refine un (a1 rfl ?_)
    refine un (a1 (v := (B (decide (r_.2 = 0)))) rfl ?_)
    refine dnil ?_
    refine Sv.cond (b := decide (r_.2 = 0)) rfl (fun hc2 => ?_) (fun hc2 => ?_)
    · replace h := ifT hc2 h
      refine Sv.seq ?_
      refine Sv.region ?_
      refine un (a1 rfl ?_)
      refine un (a1 rfl ?_)
      refine dnil ?_
      refine Sv.ret ?_
      replace h := Option.some.inj h
      subst h
      exact hr _ ⟨_, .refl _, _, rfl, ⟨upd (fun _ => none) 0 (some (.tup [(S []), (I 3)])), (fun _ => none), 0⟩, (.tup [(S []), (I 3)]), weak_canon [] rfl List.nodup_nil (Nat.le_refl _) (fun b h => absurd h (Nat.not_lt_zero _)) (.cons rfl (avAs_tup (.cons (avAs_free rfl) (.cons (avAs_free rfl) .nil))) .nil) .nil, rfl, rfl, rfl, rfl⟩
    · replace h := ifF hc2 h
      refine Sv.skip ?_
      refine Sv.seq ?_
      refine Sv.region ?_
      refine un (a1 rfl ?_)
      refine un (a1 rfl ?_)
      refine un (a2v (v := (lstV false 1 1 [r_.1].length)) (h' := upd _ 1 (lstB false 1 ([r_.1].map (eK .u8)))) (n' := 2) rfl rfl (fun h => by cases h) ?_)
      obtain ⟨r_1, hr2, h⟩ := bnd h
      have hz1 : (zout && [r_.1].isEmpty) = true → r_1 = [] := app_nil (z := zout) (ys := [r_.1]) hzout hr2
      refine un (a2v rfl (s_app (xs := out) (ys := [r_.1]) (e := (eK .u8)) (z := zout) (b := 0) rfl rfl hzout rfl rfl (slc_lst rfl (List.length_map _).symm (map_nil_of (fun h => by cases h))) hr2) (fun h => by cases h) ?_)
      refine un (a1 rfl ?_)
      refine dnil ?_
      refine Sv.region ?_
      refine un (a1 rfl ?_)
      refine un (a1 rfl ?_)
      obtain ⟨r_2, hx1, h⟩ := bnd h
      refine un (a1 (v := (S r_2)) (s_slStr rfl rfl rfl hx1) ?_)
      refine un (a1 rfl ?_)
      refine dnil ?_
      exact hself r_2 r_1 (zout && [r_.1].isEmpty) hz1 h _ (weak_canon [2] rfl (by decide) (by decide) (fun b h => absurd h (Nat.not_lt_zero _)) (.cons rfl (.c (lstC_ren rfl (by decide))) (.cons rfl (avAs_free rfl) .nil)) (.row (by decide) rfl (fr_map fun _ => rfl) .nil))
  · replace h := ifF hc1 h
    refine Sv.exit ?_
    exact hK0 out zout hzout h _ (weak_canon [0] rfl (by decide) (by decide) (fun b h => absurd h (Nat.not_lt_zero _)) (.cons rfl (.c (lstC_ren rfl (by decide))) .nil) (.row (by decide) rfl (fr_map fun _ => rfl) .nil))
/-- clerestory/url.Decode -/
noncomputable def url_Decode (s_ : (List UInt8)) : Option ((List UInt8) × Int) :=
  lim fun kk => url_Decode_l0 (fun (out1 : (List Int)) => 
      some ((byts out1), 0)) kk s_ ([] : List Int)
theorem url_Decode_ok {mL : Int} {s_ : (List UInt8)} {r : ((List UInt8) × Int)} (h : url_Decode s_ = some r) : CPure Tryd.prog (GG mL) 12 [(S s_)] (.tup [(S r.1), (I r.2)]) := by
  refine acalls_of_sv hmix c12 (R := url_Decode_post r) ?_
  unfold url_Decode at h
  refine Sv.seq ?_
  refine Sv.region ?_
  refine un (a1 rfl ?_)
  refine un (a1 rfl ?_)
  refine dnil ?_
  refine Sv.seq ?_
  refine Sv.region ?_
  refine un (a1 rfl ?_)
  refine dnil ?_
  refine Sv.seq ?_
  refine Sv.block ?_
  obtain ⟨kk, h⟩ := lim_some h
  refine Sv.weak (weak_canon [1000] rfl (by decide) (by decide) (fun b h => absurd h (Nat.not_lt_zero _)) (.cons rfl (.c (.same rfl)) (.cons rfl (avAs_free rfl) .nil)) (.non (by decide) .nil)) (url_Decode_l0_ok (fun _ => rfl) h ?_ (fun s hs => hs))
  · intro out1 zout1 hzout1 h _ hw1
    refine Sv.weak hw1 ?_
    refine Sv.seq ?_
    refine Sv.region ?_
    refine un (a1 rfl ?_)
    refine un (a1 (v := (S (byts out1))) (s_ofBytes (xs := out1) rfl (slc_lst rfl (List.length_map _).symm (map_nil_of hzout1))) ?_)
    refine un (a1 rfl ?_)
    refine un (a1 rfl ?_)
    refine dnil ?_
    refine Sv.ret ?_
    replace h := Option.some.inj h
    subst h
    exact ⟨_, .refl _, _, rfl, ⟨upd (fun _ => none) 0 (some (.tup [(S (byts out1)), (I 0)])), (fun _ => none), 0⟩, (.tup [(S (byts out1)), (I 0)]), weak_canon [] rfl List.nodup_nil (Nat.le_refl _) (fun b h => absurd h (Nat.not_lt_zero _)) (.cons rfl (avAs_tup (.cons (avAs_free rfl) (.cons (avAs_free rfl) .nil))) .nil) .nil, rfl, rfl, rfl, rfl⟩
noncomputable abbrev strings_Builder_Grow (l : List UInt8) (x0 : Int) : Option (List UInt8) := bGrow? x0
/-- (*strings.Builder).Grow, by my own walk of it -/
theorem strings_Builder_Grow_ok {mL : Int} {z : Bool} {l : List UInt8} {x0 : Int} {r : List UInt8} (hz : z = true → l = []) (h : strings_Builder_Grow l x0 = some r) : ACalls Tryd.prog (GG mL) 132 [.c (.ref 0 2 0 0), (I x0)] (bldH 99 5 true []) 2 (bPost 99 5 (.tup []) r) := bGrow_ok blays bL4 b165 h
noncomputable abbrev strings_Builder_WriteString (l : List UInt8) (x0 : (List UInt8)) : Option (List UInt8) := bWriteString? l x0
/-- (*strings.Builder).WriteString, by my own walk of it -/
theorem strings_Builder_WriteString_ok {mL : Int} {z : Bool} {l : List UInt8} {x0 : (List UInt8)} {r : List UInt8} (hz : z = true → l = []) (h : strings_Builder_WriteString l x0 = some r) : ACalls Tryd.prog (GG mL) 44 [.c (.ref 0 2 0 0), (S x0)] (bldH 99 5 z l) 2 (bPost 99 5 (.tup [.c (.val (.int .i64 (x0.length : Int))), .c (.val .nilIface)]) r) := bWriteString_ok blays b166 hz h
noncomputable abbrev strings_Builder_WriteByte (l : List UInt8) (x0 : Int) : Option (List UInt8) := bWriteByte? l x0
/-- (*strings.Builder).WriteByte, by my own walk of it -/
theorem strings_Builder_WriteByte_ok {mL : Int} {z : Bool} {l : List UInt8} {x0 : Int} {r : List UInt8} (hz : z = true → l = []) (h : strings_Builder_WriteByte l x0 = some r) : ACalls Tryd.prog (GG mL) 43 [.c (.ref 0 2 0 0), (.c (.val (.int .u8 x0)))] (bldH 99 5 z l) 2 (bPost 99 5 (.c (.val .nilIface)) r) := bWriteByte_ok blays b167 hz h
/-- (*strings.Builder).String, by my own walk of it -/
theorem strings_Builder_String_ok {mL : Int} {z : Bool} {l : List UInt8} (hz : z = true → l = []) : ACalls Tryd.prog (GG mL) 46 [.c (.ref 0 2 0 0)] (bldH 99 5 z l) 2 (fun v h' n' => v = .c (.str l) ∧ h' = (fun _ => none) ∧ n' = 2) := bString_ok bL bX hz
def a133 : AFunc := ⟨2, [(.tmp 4)], (.seq (.region [⟨(some 4), (.mov (.const (.c (.str [])))), none⟩])
 (.seq (.region [⟨(some 5), (.boxB 99), none⟩])
 (.seq (.seq (.region [⟨(some 13), (.mov (.tmp 1)), none⟩, ⟨(some 14), (.rangeS (.tmp 13)), none⟩])
 (.block 0 (.loop (.seq (.region [⟨(some 15), (.nextS (.tmp 14)), none⟩, ⟨(some 16), (.ext (.tmp 15) 0), none⟩])
 (.seq (.cond (.tmp 16) .skip (.exit 0))
 (.block 1 (.seq (.region [⟨(some 17), (.ext (.tmp 15) 1), none⟩, ⟨(some 18), (.ext (.tmp 15) 2), none⟩, ⟨(some 6), (.mov (.tmp 17)), none⟩, ⟨(some 7), (.mov (.tmp 18)), none⟩])
 (.seq (.region [⟨(some 19), (.mov (.tmp 0)), none⟩, ⟨(some 20), (.mov (.tmp 7)), none⟩, ⟨(some 21), (.callv (.tmp 19) [(.tmp 20)]), none⟩, ⟨(some 8), (.mov (.tmp 21)), none⟩])
 (.seq (.seq (.region [⟨(some 22), (.mov (.tmp 8)), none⟩, ⟨(some 23), (.mov (.tmp 7)), none⟩, ⟨(some 24), (.bin .eql (.tmp 22) (.tmp 23)), none⟩, ⟨(some 25), (.mov (.tmp 24)), none⟩, ⟨(some 26), (.mov (.tmp 7)), (some (25, true))⟩, ⟨(some 27), (.bin .neq (.tmp 26) (.const (.c (.val (.int .i32 65533))))), (some (25, true))⟩, ⟨(some 28), (.pick (.tmp 25) (.tmp 27) (.const (.c (.val (.bool false))))), none⟩])
 (.cond (.tmp 28) (.exit 1) .skip))
 (.seq (.region [⟨(some 9), (.mov (.const (.c (.val (.int .i64 0))))), none⟩])
 (.seq (.seq (.region [⟨(some 29), (.mov (.tmp 7)), none⟩, ⟨(some 30), (.bin .eql (.tmp 29) (.const (.c (.val (.int .i32 65533))))), none⟩])
 (.cond (.tmp 30) (.seq (.region [⟨(some 32), (.mov (.tmp 1)), none⟩, ⟨(some 33), (.mov (.tmp 6)), none⟩, ⟨(some 34), (.slStr (.tmp 32) (some (.tmp 33)) none), none⟩, ⟨(some 35), (.call 160 [(.tmp 34)]), none⟩, ⟨(some 31), (.mov (.tmp 35)), none⟩, ⟨(some 36), (.ext (.tmp 31) 0), none⟩, ⟨(some 37), (.ext (.tmp 31) 1), none⟩, ⟨(some 7), (.mov (.tmp 36)), none⟩, ⟨(some 9), (.mov (.tmp 37)), none⟩])
 (.seq (.region [⟨(some 38), (.mov (.tmp 9)), none⟩, ⟨(some 39), (.bin .neq (.tmp 38) (.const (.c (.val (.int .i64 1))))), none⟩, ⟨(some 40), (.mov (.tmp 39)), none⟩, ⟨(some 41), (.mov (.tmp 8)), (some (40, true))⟩, ⟨(some 42), (.mov (.tmp 7)), (some (40, true))⟩, ⟨(some 43), (.bin .eql (.tmp 41) (.tmp 42)), (some (40, true))⟩, ⟨(some 44), (.pick (.tmp 40) (.tmp 43) (.const (.c (.val (.bool false))))), none⟩])
 (.cond (.tmp 44) (.exit 1) .skip))) (.region [⟨(some 45), (.mov (.tmp 7)), none⟩, ⟨(some 46), (.call 161 [(.tmp 45)]), none⟩, ⟨(some 9), (.mov (.tmp 46)), none⟩])))
 (.seq (.region [⟨(some 47), (.mov (.tmp 1)), none⟩, ⟨(some 48), (.lenS (.tmp 47)), none⟩, ⟨(some 49), (.bin .add (.tmp 48) (.const (.c (.val (.int .i64 4))))), none⟩, ⟨(some 50), (.call 132 [(.tmp 5), (.tmp 49)]), none⟩])
 (.seq (.region [⟨(some 51), (.mov (.tmp 1)), none⟩, ⟨(some 52), (.mov (.tmp 6)), none⟩, ⟨(some 53), (.slStr (.tmp 51) none (some (.tmp 52))), none⟩, ⟨(some 54), (.call 44 [(.tmp 5), (.tmp 53)]), none⟩])
 (.seq (.seq (.region [⟨(some 55), (.mov (.tmp 8)), none⟩, ⟨(some 56), (.bin .geq (.tmp 55) (.const (.c (.val (.int .i32 0))))), none⟩])
 (.cond (.tmp 56) (.region [⟨(some 57), (.mov (.tmp 8)), none⟩, ⟨(some 58), (.call 162 [(.tmp 5), (.tmp 57)]), none⟩]) .skip))
 (.seq (.region [⟨(some 59), (.mov (.tmp 1)), none⟩, ⟨(some 60), (.mov (.tmp 6)), none⟩, ⟨(some 61), (.mov (.tmp 9)), none⟩, ⟨(some 62), (.bin .add (.tmp 60) (.tmp 61)), none⟩, ⟨(some 63), (.slStr (.tmp 59) (some (.tmp 62)) none), none⟩, ⟨(some 1), (.mov (.tmp 63)), none⟩])
 (.exit 0))))))))))))))))
 (.seq (.seq (.region [⟨(some 64), (.call 163 [(.tmp 5)]), none⟩, ⟨(some 65), (.bin .eql (.tmp 64) (.const (.c (.val (.int .i64 0))))), none⟩])
 (.cond (.tmp 65) (.seq (.region [⟨(some 66), (.mov (.tmp 1)), none⟩, ⟨(some 4), (.mov (.tmp 66)), none⟩])
 .ret) .skip))
 (.seq (.seq (.region [⟨(some 67), (.mov (.tmp 1)), none⟩, ⟨(some 68), (.rangeS (.tmp 67)), none⟩])
 (.block 2 (.loop (.seq (.region [⟨(some 69), (.nextS (.tmp 68)), none⟩, ⟨(some 70), (.ext (.tmp 69) 0), none⟩])
 (.seq (.cond (.tmp 70) .skip (.exit 2))
 (.block 3 (.seq (.region [⟨(some 71), (.ext (.tmp 69) 2), none⟩, ⟨(some 11), (.mov (.tmp 71)), none⟩])
 (.seq (.region [⟨(some 72), (.mov (.tmp 0)), none⟩, ⟨(some 73), (.mov (.tmp 11)), none⟩, ⟨(some 74), (.callv (.tmp 72) [(.tmp 73)]), none⟩, ⟨(some 12), (.mov (.tmp 74)), none⟩])
 (.seq (.region [⟨(some 75), (.mov (.tmp 12)), none⟩, ⟨(some 76), (.bin .geq (.tmp 75) (.const (.c (.val (.int .i32 0))))), none⟩])
 (.cond (.tmp 76) (.seq (.region [⟨(some 77), (.mov (.tmp 12)), none⟩, ⟨(some 78), (.bin .lss (.tmp 77) (.const (.c (.val (.int .i32 128))))), none⟩])
 (.cond (.tmp 78) (.region [⟨(some 79), (.mov (.tmp 12)), none⟩, ⟨(some 80), (.conv .u8 (.tmp 79)), none⟩, ⟨(some 81), (.call 43 [(.tmp 5), (.tmp 80)]), none⟩]) (.region [⟨(some 82), (.mov (.tmp 12)), none⟩, ⟨(some 83), (.call 162 [(.tmp 5), (.tmp 82)]), none⟩]))) .skip))))))))))
 (.seq (.region [⟨(some 84), (.call 46 [(.tmp 5)]), none⟩, ⟨(some 4), (.mov (.tmp 84)), none⟩])
 .ret))))))⟩
set_option maxRecDepth 100000 in
theorem c133 : compFunc Tryd.prog 133 = some a133 := by kernel_rfl
def strings_Map_post (r : (List UInt8)) : AV → Heap → Nat → Prop := fun v h' n' => v = (S r) ∧ (h' = (fun _ => none)) ∧ n' = 0
/-- strings.Map -/
noncomputable def strings_Map (s_ : (List UInt8)) : Option (List UInt8) :=
  none
theorem strings_Map_ok {mL : Int} {s_ : (List UInt8)} {r : (List UInt8)} (h : strings_Map s_ = some r) : CPure Tryd.prog (GG mL) 133 [(.c (.fn (.func 134) [] [])), (S s_)] (S r) := by
  refine acalls_of_sv hmix c133 (R := strings_Map_post r) ?_
  unfold strings_Map at h
  refine Sv.seq ?_
  refine Sv.region ?_
  refine un (a1 rfl ?_)
  refine dnil ?_
  refine Sv.seq ?_
  refine Sv.region ?_
  refine un (a2v (v := (.c (.ref 1 2 0 0))) (h' := upd _ 1 (some (.bld 99 true 0 ([] : List UInt8).length))) (n' := 2) rfl rfl (fun h => by cases h) ?_)
  refine dnil ?_
  refine Sv.seq ?_
  refine Sv.seq ?_
  refine Sv.region ?_
  refine un (a1 rfl ?_)
  cases h
def a94_c0 : ACode := (.seq (.seq (.region [⟨(some 11), (.mov (.tmp 5)), none⟩, ⟨(some 12), (.mov (.tmp 0)), none⟩, ⟨(some 13), (.lenS (.tmp 12)), none⟩, ⟨(some 14), (.bin .lss (.tmp 11) (.tmp 13)), none⟩])
 (.cond (.tmp 14) .skip (.exit 0)))
 (.seq (.block 1 (.seq (.region [⟨(some 17), (.mov (.tmp 0)), none⟩, ⟨(some 18), (.mov (.tmp 5)), none⟩, ⟨(some 19), (.idxS (.tmp 17) (.tmp 18)), none⟩, ⟨(some 6), (.mov (.tmp 19)), none⟩])
 (.seq (.seq (.region [⟨(some 20), (.mov (.tmp 6)), none⟩, ⟨(some 21), (.bin .geq (.tmp 20) (.const (.c (.val (.int .u8 128))))), none⟩])
 (.cond (.tmp 21) (.seq (.region [⟨(some 3), (.mov (.const (.c (.val (.bool false))))), none⟩])
 (.exit 0)) .skip))
 (.region [⟨(some 22), (.mov (.tmp 4)), none⟩, ⟨(some 23), (.mov (.tmp 22)), none⟩, ⟨(some 24), (.mov (.tmp 6)), (some (23, false))⟩, ⟨(some 25), (.bin .leq (.const (.c (.val (.int .u8 65)))) (.tmp 24)), (some (23, false))⟩, ⟨(some 26), (.mov (.tmp 25)), (some (23, false))⟩, ⟨(some 27), (.mov (.tmp 6)), (some (26, true))⟩, ⟨(some 28), (.bin .leq (.tmp 27) (.const (.c (.val (.int .u8 90))))), (some (26, true))⟩, ⟨(some 29), (.pick (.tmp 26) (.tmp 28) (.const (.c (.val (.bool false))))), (some (23, false))⟩, ⟨(some 30), (.pick (.tmp 23) (.const (.c (.val (.bool true)))) (.tmp 29)), none⟩, ⟨(some 4), (.mov (.tmp 30)), none⟩]))))
 (.region [⟨(some 15), (.mov (.tmp 5)), none⟩, ⟨(some 16), (.bin .add (.tmp 15) (.const (.c (.val (.int .i64 1))))), none⟩, ⟨(some 5), (.mov (.tmp 16)), none⟩])))
def a94_c1 : ACode := (.seq (.region [⟨(some 63), (.mov (.tmp 10)), none⟩, ⟨(some 64), (.call 43 [(.tmp 7), (.tmp 63)]), none⟩])
 (.region [⟨(some 65), (.mov (.tmp 9)), none⟩, ⟨(some 66), (.bin .add (.tmp 65) (.const (.c (.val (.int .i64 1))))), none⟩, ⟨(some 8), (.mov (.tmp 66)), none⟩]))
def a94_c2 : ACode := (.region [⟨(some 42), (.mov (.tmp 9)), none⟩, ⟨(some 43), (.bin .add (.tmp 42) (.const (.c (.val (.int .i64 1))))), none⟩, ⟨(some 9), (.mov (.tmp 43)), none⟩])
def a94_c3 : ACode := (.seq (.seq (.region [⟨(some 38), (.mov (.tmp 9)), none⟩, ⟨(some 39), (.mov (.tmp 0)), none⟩, ⟨(some 40), (.lenS (.tmp 39)), none⟩, ⟨(some 41), (.bin .lss (.tmp 38) (.tmp 40)), none⟩])
 (.cond (.tmp 41) .skip (.exit 2)))
 (.seq (.block 3 (.seq (.region [⟨(some 44), (.mov (.tmp 0)), none⟩, ⟨(some 45), (.mov (.tmp 9)), none⟩, ⟨(some 46), (.idxS (.tmp 44) (.tmp 45)), none⟩, ⟨(some 10), (.mov (.tmp 46)), none⟩])
 (.seq (.region [⟨(some 47), (.mov (.tmp 10)), none⟩, ⟨(some 48), (.bin .leq (.const (.c (.val (.int .u8 65)))) (.tmp 47)), none⟩, ⟨(some 49), (.mov (.tmp 48)), none⟩, ⟨(some 50), (.mov (.tmp 10)), (some (49, true))⟩, ⟨(some 51), (.bin .leq (.tmp 50) (.const (.c (.val (.int .u8 90))))), (some (49, true))⟩, ⟨(some 52), (.pick (.tmp 49) (.tmp 51) (.const (.c (.val (.bool false))))), none⟩])
 (.cond (.tmp 52) (.seq (.region [⟨(some 53), (.mov (.tmp 10)), none⟩, ⟨(some 54), (.bin .add (.tmp 53) (.const (.c (.val (.int .u8 32))))), none⟩, ⟨(some 10), (.mov (.tmp 54)), none⟩])
 (.seq (.seq (.region [⟨(some 55), (.mov (.tmp 8)), none⟩, ⟨(some 56), (.mov (.tmp 9)), none⟩, ⟨(some 57), (.bin .lss (.tmp 55) (.tmp 56)), none⟩])
 (.cond (.tmp 57) (.region [⟨(some 58), (.mov (.tmp 0)), none⟩, ⟨(some 59), (.mov (.tmp 8)), none⟩, ⟨(some 60), (.mov (.tmp 9)), none⟩, ⟨(some 61), (.slStr (.tmp 58) (some (.tmp 59)) (some (.tmp 60))), none⟩, ⟨(some 62), (.call 44 [(.tmp 7), (.tmp 61)]), none⟩]) .skip))
 a94_c1)) .skip))))
 a94_c2))
def a94_c4 : ACode := (.seq (.region [⟨(some 75), (.call 46 [(.tmp 7)]), none⟩, ⟨(some 2), (.mov (.tmp 75)), none⟩])
 .ret)
def a94_c5 : ACode := (.seq (.region [⟨(some 76), (.mov (.tmp 0)), none⟩, ⟨(some 77), (.call 133 [(.const (.c (.fn (.func 134) [] []))), (.tmp 76)]), none⟩, ⟨(some 2), (.mov (.tmp 77)), none⟩])
 .ret)
def a94 : AFunc := ⟨1, [(.tmp 2)], (.seq (.region [⟨(some 2), (.mov (.const (.c (.str [])))), none⟩])
 (.seq (.region [⟨(some 3), (.mov (.const (.c (.val (.bool true))))), none⟩, ⟨(some 4), (.mov (.const (.c (.val (.bool false))))), none⟩])
 (.seq (.seq (.region [⟨(some 5), (.mov (.const (.c (.val (.int .i64 0))))), none⟩])
 (.block 0 (.loop a94_c0)))
 (.seq (.seq (.region [⟨(some 31), (.mov (.tmp 3)), none⟩])
 (.cond (.tmp 31) (.seq (.seq (.region [⟨(some 32), (.mov (.tmp 4)), none⟩, ⟨(some 33), (.un .not (.tmp 32)), none⟩])
 (.cond (.tmp 33) (.seq (.region [⟨(some 34), (.mov (.tmp 0)), none⟩, ⟨(some 2), (.mov (.tmp 34)), none⟩])
 .ret) .skip))
 (.seq (.region [⟨(some 7), (.boxB 99), none⟩])
 (.seq (.region [⟨(some 8), (.mov (.const (.c (.val (.int .i64 0))))), none⟩])
 (.seq (.region [⟨(some 35), (.mov (.tmp 0)), none⟩, ⟨(some 36), (.lenS (.tmp 35)), none⟩, ⟨(some 37), (.call 132 [(.tmp 7), (.tmp 36)]), none⟩])
 (.seq (.seq (.region [⟨(some 9), (.mov (.const (.c (.val (.int .i64 0))))), none⟩])
 (.block 2 (.loop a94_c3)))
 (.seq (.seq (.region [⟨(some 67), (.mov (.tmp 8)), none⟩, ⟨(some 68), (.mov (.tmp 0)), none⟩, ⟨(some 69), (.lenS (.tmp 68)), none⟩, ⟨(some 70), (.bin .lss (.tmp 67) (.tmp 69)), none⟩])
 (.cond (.tmp 70) (.region [⟨(some 71), (.mov (.tmp 0)), none⟩, ⟨(some 72), (.mov (.tmp 8)), none⟩, ⟨(some 73), (.slStr (.tmp 71) (some (.tmp 72)) none), none⟩, ⟨(some 74), (.call 44 [(.tmp 7), (.tmp 73)]), none⟩]) .skip))
 a94_c4)))))) .skip))
 a94_c5))))⟩
set_option maxRecDepth 100000 in
theorem c94 : compFunc Tryd.prog 94 = some a94 := by kernel_rfl
def strings_ToLower_post (r : (List UInt8)) : AV → Heap → Nat → Prop := fun v h' n' => v = (S r) ∧ (h' = (fun _ => none)) ∧ n' = 0
noncomputable def strings_ToLower_l0 (s_ : (List UInt8)) (K0_ : Bool → Bool → Option (List UInt8)) : Nat → Bool → Int → Option (List UInt8)
  | 0, _, _ => none
  | k + 1, hasUpper, i_ =>
    if decide (i_ < (s_.length : Int)) then
      (at? s_ i_).bind fun c_ =>
      if decide (128 ≤ (c_.toNat : Int)) then
        K0_ false hasUpper
      else
        (strings_ToLower_l0 s_ K0_ k) (hasUpper || ((decide (65 ≤ (c_.toNat : Int))) && (decide ((c_.toNat : Int) ≤ 90)))) (wi (i_ + 1))
    else
      K0_ true hasUpper
theorem strings_ToLower_l0_ok {mL : Int} {Q : AExit → St → Prop} {s_ : (List UInt8)} {K0_ : Bool → Bool → Option (List UInt8)} {k : Nat} {hasUpper : Bool} {i_ : Int} {o : (List UInt8)} (h : strings_ToLower_l0 s_ K0_ k hasUpper i_ = some o)
    (hK0 : ∀ (isASCII : Bool) (hasUpper1 : Bool), K0_ isASCII hasUpper1 = some o → ∀ s, Weak 0 s ⟨(upd (upd (upd (fun _ => none) 0 (some (S s_))) 3 (some (B isASCII))) 4 (some (B hasUpper1))), (fun _ => none), 0⟩ → Q (.exit 0) s)
    (hr : ∀ s, Ends a94.results 0 (strings_ToLower_post o) .ret s → Q .ret s) :
    Sv Tryd.prog (GG mL) 0 (.loop a94_c0) Q ⟨(upd (upd (upd (upd (fun _ => none) 0 (some (S s_))) 3 (some (B true))) 4 (some (B hasUpper))) 5 (some (I i_))), (fun _ => none), 0⟩ := by
  refine Sv.loop (I := fun k s => ∃ (hasUpper : Bool), ∃ (i_ : Int), strings_ToLower_l0 s_ K0_ k hasUpper i_ = some o ∧ s = ⟨(upd (upd (upd (upd (fun _ => none) 0 (some (S s_))) 3 (some (B true))) 4 (some (B hasUpper))) 5 (some (I i_))), (fun _ => none), 0⟩) (fun k s hI => ?_) ⟨hasUpper, i_, h, rfl⟩
  clear h
  clear i_ hasUpper
  obtain ⟨hasUpper, i_, h, rfl⟩ := hI
  cases k with
  | zero => cases h
  | succ k =>
  rw [strings_ToLower_l0] at h
  have hself : ∀ (hasUpper : Bool) (i_ : Int), (strings_ToLower_l0 s_ K0_ k) hasUpper i_ = some o → ∀ s, Weak 0 s ⟨(upd (upd (upd (upd (fun _ => none) 0 (some (S s_))) 3 (some (B true))) 4 (some (B hasUpper))) 5 (some (I i_))), (fun _ => none), 0⟩ → (AThen (fun s' => ∃ s'' k', Weak 0 s' s'' ∧ k' < k + 1 ∧ (fun k s => ∃ (hasUpper : Bool), ∃ (i_ : Int), strings_ToLower_l0 s_ K0_ k hasUpper i_ = some o ∧ s = ⟨(upd (upd (upd (upd (fun _ => none) 0 (some (S s_))) 3 (some (B true))) 4 (some (B hasUpper))) 5 (some (I i_))), (fun _ => none), 0⟩) k' s'') Q) .normal s := fun hasUpper i_ h s hw => ⟨_, k, hw, Nat.lt_succ_self k, hasUpper, i_, h, rfl⟩
  refine Sv.seq ?_
  refine Sv.seq ?_
  refine Sv.region ?_
  refine un (a1 rfl ?_)
  refine un (a1 rfl ?_)
  refine un (a1 (v := (I (s_.length : Int))) rfl ?_)
  refine un (a1 (v := (B (decide (i_ < (s_.length : Int))))) rfl ?_)
  refine dnil ?_
  refine Sv.cond (b := decide (i_ < (s_.length : Int))) rfl (fun hc1 => ?_) (fun hc1 => ?_)
  · replace h := ifT hc1 h
    refine Sv.skip ?_
    refine Sv.seq ?_
    refine Sv.block ?_
    refine Sv.seq ?_
    refine Sv.region ?_
    refine un (a1 rfl ?_)
    refine un (a1 rfl ?_)
    obtain ⟨c_, hx1, h⟩ := bnd h
    refine un (a1 (v := (.c (.val (.int .u8 (c_.toNat : Int))))) (s_idxS rfl rfl hx1) ?_)
    refine un (a1 rfl ?_)
    refine dnil ?_
    refine Sv.seq ?_
    refine Sv.seq ?_
    refine Sv.region ?_
    refine un (a1 rfl ?_)
    refine un (a1 (v := (B (decide (128 ≤ (c_.toNat : Int))))) rfl ?_)
    refine dnil ?_
    refine Sv.cond (b := decide (128 ≤ (c_.toNat : Int))) rfl (fun hc2 => ?_) (fun hc2 => ?_)
    · replace h := ifT hc2 h
      refine Sv.seq ?_
      refine Sv.region ?_
      refine un (a1 rfl ?_)
      refine dnil ?_
      refine Sv.exit ?_
      exact hK0 false hasUpper h _ (weak_canon [] rfl (by decide) (by decide) (fun b h => absurd h (Nat.not_lt_zero _)) (.cons rfl (avAs_free rfl) (.cons rfl (avAs_free rfl) (.cons rfl (avAs_free rfl) .nil))) .nil)
    · replace h := ifF hc2 h
      refine Sv.skip ?_
      refine Sv.region ?_
      refine un (a1 rfl ?_)
      refine un (a1 rfl ?_)
      refine gjoin 7 (d := 30) (v := (B (hasUpper || ((decide (65 ≤ (c_.toNat : Int))) && (decide ((c_.toNat : Int) ≤ 90)))))) (fun X hX => ?_) ?_
      · refine split2 (fun hc4 => ?_) (fun hc4 => ?_)
        · refine gs rfl rfl ?_
          refine gs rfl rfl ?_
          refine gs rfl rfl ?_
          refine gu rfl ?_
          refine gu rfl ?_
          refine gs rfl rfl ?_
          refine un (a1 (v := (B true)) rfl ?_)
          refine dnil ?_
          exact hX _ (.putEq (by rw [hc4]; rfl) (.skip _ _ (.skip _ _ (.skip _ _ (.skip _ _ (.skip _ _ (.skip _ _ (.putEq (by rw [hc4]) (.refl _)) rfl) rfl) rfl) rfl) rfl) rfl))
        · refine gt rfl (a1 rfl ?_)
          refine gt rfl (a1 (v := (B (decide (65 ≤ (c_.toNat : Int))))) rfl ?_)
          refine gt rfl (a1 rfl ?_)
          refine gjoin 3 (d := 29) (v := (B ((decide (65 ≤ (c_.toNat : Int))) && (decide ((c_.toNat : Int) ≤ 90))))) (fun X hX => ?_) ?_
          · refine split2 (fun hc3 => ?_) (fun hc3 => ?_)
            · refine gt rfl (a1 rfl ?_)
              refine gt rfl (a1 (v := (B (decide ((c_.toNat : Int) ≤ 90)))) rfl ?_)
              refine gt rfl (a1 (v := (B (decide ((c_.toNat : Int) ≤ 90)))) rfl ?_)
              refine dnil ?_
              exact hX _ (.putEq (by rw [hc3]; rfl) (.skip _ _ (.skip _ _ (.putEq (by rw [hc3]) (.refl _)) rfl) rfl))
            · refine gs rfl rfl ?_
              refine gs rfl rfl ?_
              refine gt rfl (a1 (v := (B false)) rfl ?_)
              refine dnil ?_
              exact hX _ (.putEq (by rw [hc3]; rfl) (.skip _ _ (.skip _ _ (.putEq (by rw [hc3]) (.refl _)) rfl) rfl))
          refine un (a1 (v := (B ((decide (65 ≤ (c_.toNat : Int))) && (decide ((c_.toNat : Int) ≤ 90))))) rfl ?_)
          refine dnil ?_
          exact hX _ (.putEq (by rw [hc4]; rfl) (.skip _ _ (.skip _ _ (.skip _ _ (.skip _ _ (.putEq (by rw [hc4]) (.refl _)) rfl) rfl) rfl) rfl))
      refine un (a1 rfl ?_)
      refine dnil ?_
      refine Sv.region ?_
      refine un (a1 rfl ?_)
      refine un (a1 (v := (I (wi (i_ + 1)))) rfl ?_)
      refine un (a1 rfl ?_)
      refine dnil ?_
      exact hself (hasUpper || ((decide (65 ≤ (c_.toNat : Int))) && (decide ((c_.toNat : Int) ≤ 90)))) (wi (i_ + 1)) h _ (weak_canon [] rfl (by decide) (by decide) (fun b h => absurd h (Nat.not_lt_zero _)) (.cons rfl (avAs_free rfl) (.cons rfl (avAs_free rfl) (.cons rfl (avAs_free rfl) (.cons rfl (avAs_free rfl) .nil)))) .nil)
  · replace h := ifF hc1 h
    refine Sv.exit ?_
    exact hK0 true hasUpper h _ (weak_canon [] rfl (by decide) (by decide) (fun b h => absurd h (Nat.not_lt_zero _)) (.cons rfl (avAs_free rfl) (.cons rfl (avAs_free rfl) (.cons rfl (avAs_free rfl) .nil))) .nil)
noncomputable def strings_ToLower_j11 (i_1 : Int) (s_ : (List UInt8)) (self : (List UInt8) → Int → Int → Option (List UInt8)) (K2_ : (List UInt8) → Int → Option (List UInt8)) (b_2 : (List UInt8)) (pos_2 : Int) : Option (List UInt8) :=
  self b_2 pos_2 (wi (i_1 + 1))
theorem strings_ToLower_j11_ok {mL : Int} {Q : AExit → St → Prop} {i_1 : Int} {s_ : (List UInt8)} {self : (List UInt8) → Int → Int → Option (List UInt8)} {K2_ : (List UInt8) → Int → Option (List UInt8)} {b_2 : (List UInt8)} {pos_2 : Int} {zb_2 : Bool} (hzb_2 : zb_2 = true → b_2 = []) {o : (List UInt8)} (h : strings_ToLower_j11 i_1 s_ self K2_ b_2 pos_2 = some o)
    (hself : ∀ (b_ : (List UInt8)) (pos_ : Int) (i_1 : Int) (zb : Bool) (_ : zb = true → b_ = []), self b_ pos_ i_1 = some o → ∀ s, Weak 0 s ⟨(upd (upd (upd (upd (fun _ => none) 0 (some (S s_))) 7 (some (.c (.ref 0 2 0 0)))) 8 (some (I pos_))) 9 (some (I i_1))), (upd (upd (fun _ => none) 0 (some (.bld 99 zb 1 b_.length))) 1 (bufB zb 5 b_)), 2⟩ → (Q) .normal s)
    (hK2 : ∀ (b_1 : (List UInt8)) (pos_1 : Int) (zb_1 : Bool) (_ : zb_1 = true → b_1 = []), K2_ b_1 pos_1 = some o → ∀ s, Weak 0 s ⟨(upd (upd (upd (fun _ => none) 0 (some (S s_))) 7 (some (.c (.ref 0 2 0 0)))) 8 (some (I pos_1))), (upd (upd (fun _ => none) 0 (some (.bld 99 zb_1 1 b_1.length))) 1 (bufB zb_1 5 b_1)), 2⟩ → Q (.exit 2) s)
    (hr : ∀ s, Ends a94.results 0 (strings_ToLower_post o) .ret s → Q .ret s) :
    Sv Tryd.prog (GG mL) 0 a94_c2 Q ⟨(upd (upd (upd (upd (fun _ => none) 0 (some (S s_))) 7 (some (.c (.ref 0 2 0 0)))) 8 (some (I pos_2))) 9 (some (I i_1))), (upd (upd (fun _ => none) 0 (some (.bld 99 zb_2 1 b_2.length))) 1 (bufB zb_2 5 b_2)), 2⟩ := by
  unfold strings_ToLower_j11 at h
  refine Sv.region ?_
  refine un (a1 rfl ?_)
  refine un (a1 (v := (I (wi (i_1 + 1)))) rfl ?_)
  refine un (a1 rfl ?_)
  refine dnil ?_
  exact hself b_2 pos_2 (wi (i_1 + 1)) zb_2 hzb_2 h _ (weak_canon [0, 1] rfl (by decide) (by decide) (fun b h => absurd h (Nat.not_lt_zero _)) (.cons rfl (avAs_free rfl) (.cons rfl (avAs_free rfl) (.cons rfl (.c (.ref rfl (by decide))) (.cons rfl (avAs_free rfl) .nil)))) (.buf (by decide) rfl (.box (by decide) rfl (.bld rfl (by decide)) .nil)))
abbrev strings_ToLower_q0 (mL : Int) (Q : AExit → St → Prop) : AExit → St → Prop := AThen (Sv Tryd.prog (GG mL) 0 a94_c2 Q) Q
abbrev strings_ToLower_q1 (mL : Int) (Q : AExit → St → Prop) : AExit → St → Prop := ABlock 3 (strings_ToLower_q0 mL Q)
noncomputable def strings_ToLower_j12 (c_1 : UInt8) (i_1 : Int) (s_ : (List UInt8)) (self : (List UInt8) → Int → Int → Option (List UInt8)) (K2_ : (List UInt8) → Int → Option (List UInt8)) (b_3 : (List UInt8)) : Option (List UInt8) :=
  (strings_Builder_WriteByte b_3 (wr .u8 ((c_1.toNat : Int) + 32))).bind fun r_1 =>
  strings_ToLower_j11 i_1 s_ self K2_ r_1 (wi (i_1 + 1))
theorem strings_ToLower_j12_ok {mL : Int} {Q : AExit → St → Prop} {c_1 : UInt8} {i_1 : Int} {s_ : (List UInt8)} {self : (List UInt8) → Int → Int → Option (List UInt8)} {K2_ : (List UInt8) → Int → Option (List UInt8)} {b_3 : (List UInt8)} {zb_3 : Bool} (hzb_3 : zb_3 = true → b_3 = []) {o : (List UInt8)} (h : strings_ToLower_j12 c_1 i_1 s_ self K2_ b_3 = some o)
    (hself : ∀ (b_ : (List UInt8)) (pos_ : Int) (i_1 : Int) (zb : Bool) (_ : zb = true → b_ = []), self b_ pos_ i_1 = some o → ∀ s, Weak 0 s ⟨(upd (upd (upd (upd (fun _ => none) 0 (some (S s_))) 7 (some (.c (.ref 0 2 0 0)))) 8 (some (I pos_))) 9 (some (I i_1))), (upd (upd (fun _ => none) 0 (some (.bld 99 zb 1 b_.length))) 1 (bufB zb 5 b_)), 2⟩ → (Q) .normal s)
    (hK2 : ∀ (b_1 : (List UInt8)) (pos_1 : Int) (zb_1 : Bool) (_ : zb_1 = true → b_1 = []), K2_ b_1 pos_1 = some o → ∀ s, Weak 0 s ⟨(upd (upd (upd (fun _ => none) 0 (some (S s_))) 7 (some (.c (.ref 0 2 0 0)))) 8 (some (I pos_1))), (upd (upd (fun _ => none) 0 (some (.bld 99 zb_1 1 b_1.length))) 1 (bufB zb_1 5 b_1)), 2⟩ → Q (.exit 2) s)
    (hr : ∀ s, Ends a94.results 0 (strings_ToLower_post o) .ret s → Q .ret s) :
    Sv Tryd.prog (GG mL) 0 a94_c1 (strings_ToLower_q1 mL Q) ⟨(upd (upd (upd (upd (fun _ => none) 0 (some (S s_))) 7 (some (.c (.ref 0 2 0 0)))) 9 (some (I i_1))) 10 (some (.c (.val (.int .u8 (wr .u8 ((c_1.toNat : Int) + 32))))))), (upd (upd (fun _ => none) 0 (some (.bld 99 zb_3 1 b_3.length))) 1 (bufB zb_3 5 b_3)), 2⟩ := by
  unfold strings_ToLower_j12 at h
  refine Sv.seq ?_
  refine Sv.region ?_
  refine un (a1 rfl ?_)
  obtain ⟨r_1, hr2, h⟩ := bnd h
  refine un (ac_gen (bs := [0, 1]) («as» := [(.c (.ref 0 2 0 0)), (.c (.val (.int .u8 (wr .u8 ((c_1.toNat : Int) + 32)))))]) (h2 := _) (h1 := (upd (upd (fun _ => none) 0 (some (.bld 99 zb_3 1 b_3.length))) 1 (bufB zb_3 5 b_3))) (strings_Builder_WriteByte_ok (z := zb_3) (l := b_3) hzb_3 hr2) rfl (.cons (.c (.ref rfl (by decide))) (.cons (avAs_free rfl) .nil)) (hsub_refl _) (.cons rfl (.cons rfl (.nil _))) (fun h => by cases h) (by decide) (by decide) (.cons (.c (.ref rfl (by decide))) (.cons (avAs_free rfl) .nil)) (.buf (by decide) rfl (.box (by decide) rfl (.bld rfl (by decide)) .nil)) ?_)
  rintro _ _ _ hn ⟨z_1, hz_1, rfl, rfl, rfl⟩
  refine ⟨.inl rfl, (upd (upd (rem [0, 1] _) 0 (some (.bld 99 z_1 2 r_1.length))) 2 (bufB z_1 5 r_1)), fun hbd => (m3_cons (m3_buf rfl) (m3_cons (m3_box rfl rfl) (m3_rem (in_cons (by decide) (in_cons (by decide) (in_nil _))) (.cons (by decide) (.cons (by decide) .nil)) hbd))), (.c (.val .nilIface)), 3, (by cases z_1 <;> rfl), rfl, ?_⟩
  refine dnil ?_
  refine Sv.region ?_
  refine un (a1 rfl ?_)
  refine un (a1 (v := (I (wi (i_1 + 1)))) rfl ?_)
  refine un (a1 rfl ?_)
  refine dnil ?_
  exact Sv.weak (weak_canon [0, 2] rfl (by decide) (by decide) (fun b h => absurd h (Nat.not_lt_zero _)) (.cons rfl (avAs_free rfl) (.cons rfl (avAs_free rfl) (.cons rfl (.c (.ref rfl (by decide))) (.cons rfl (avAs_free rfl) .nil)))) (.buf (by decide) rfl (.box (by decide) rfl (.bld rfl (by decide)) .nil))) (strings_ToLower_j11_ok hz_1 h hself hK2 hr)
noncomputable def strings_ToLower_l1 (s_ : (List UInt8)) (K2_ : (List UInt8) → Int → Option (List UInt8)) : Nat → (List UInt8) → Int → Int → Option (List UInt8)
  | 0, _, _, _ => none
  | k + 1, b_, pos_, i_1 =>
    if decide (i_1 < (s_.length : Int)) then
      (at? s_ i_1).bind fun c_1 =>
      if ((decide (65 ≤ (c_1.toNat : Int))) && (decide ((c_1.toNat : Int) ≤ 90))) then
        if decide (pos_ < i_1) then
          (sub? s_ pos_ i_1).bind fun r_2 =>
          (strings_Builder_WriteString b_ r_2).bind fun r_3 =>
          strings_ToLower_j12 c_1 i_1 s_ (strings_ToLower_l1 s_ K2_ k) K2_ r_3
        else
          strings_ToLower_j12 c_1 i_1 s_ (strings_ToLower_l1 s_ K2_ k) K2_ b_
      else
        strings_ToLower_j11 i_1 s_ (strings_ToLower_l1 s_ K2_ k) K2_ b_ pos_
    else
      K2_ b_ pos_
theorem strings_ToLower_l1_ok {mL : Int} {Q : AExit → St → Prop} {s_ : (List UInt8)} {K2_ : (List UInt8) → Int → Option (List UInt8)} {k : Nat} {b_ : (List UInt8)} {pos_ : Int} {i_1 : Int} {zb : Bool} (hzb : zb = true → b_ = []) {o : (List UInt8)} (h : strings_ToLower_l1 s_ K2_ k b_ pos_ i_1 = some o)
    (hK2 : ∀ (b_1 : (List UInt8)) (pos_1 : Int) (zb_1 : Bool) (_ : zb_1 = true → b_1 = []), K2_ b_1 pos_1 = some o → ∀ s, Weak 0 s ⟨(upd (upd (upd (fun _ => none) 0 (some (S s_))) 7 (some (.c (.ref 0 2 0 0)))) 8 (some (I pos_1))), (upd (upd (fun _ => none) 0 (some (.bld 99 zb_1 1 b_1.length))) 1 (bufB zb_1 5 b_1)), 2⟩ → Q (.exit 2) s)
    (hr : ∀ s, Ends a94.results 0 (strings_ToLower_post o) .ret s → Q .ret s) :
    Sv Tryd.prog (GG mL) 0 (.loop a94_c3) Q ⟨(upd (upd (upd (upd (fun _ => none) 0 (some (S s_))) 7 (some (.c (.ref 0 2 0 0)))) 8 (some (I pos_))) 9 (some (I i_1))), (upd (upd (fun _ => none) 0 (some (.bld 99 zb 1 b_.length))) 1 (bufB zb 5 b_)), 2⟩ := by
  refine Sv.loop (I := fun k s => ∃ (b_ : (List UInt8)), ∃ (pos_ : Int), ∃ (i_1 : Int), ∃ (zb : Bool), (zb = true → b_ = []) ∧ strings_ToLower_l1 s_ K2_ k b_ pos_ i_1 = some o ∧ s = ⟨(upd (upd (upd (upd (fun _ => none) 0 (some (S s_))) 7 (some (.c (.ref 0 2 0 0)))) 8 (some (I pos_))) 9 (some (I i_1))), (upd (upd (fun _ => none) 0 (some (.bld 99 zb 1 b_.length))) 1 (bufB zb 5 b_)), 2⟩) (fun k s hI => ?_) ⟨b_, pos_, i_1, zb, hzb, h, rfl⟩
  clear h
  clear hzb zb i_1 pos_ b_
  obtain ⟨b_, pos_, i_1, zb, hzb, h, rfl⟩ := hI
  cases k with
  | zero => cases h
  | succ k =>
  rw [strings_ToLower_l1] at h
  have hself : ∀ (b_ : (List UInt8)) (pos_ : Int) (i_1 : Int) (zb : Bool) (_ : zb = true → b_ = []), (strings_ToLower_l1 s_ K2_ k) b_ pos_ i_1 = some o → ∀ s, Weak 0 s ⟨(upd (upd (upd (upd (fun _ => none) 0 (some (S s_))) 7 (some (.c (.ref 0 2 0 0)))) 8 (some (I pos_))) 9 (some (I i_1))), (upd (upd (fun _ => none) 0 (some (.bld 99 zb 1 b_.length))) 1 (bufB zb 5 b_)), 2⟩ → (AThen (fun s' => ∃ s'' k', Weak 0 s' s'' ∧ k' < k + 1 ∧ (fun k s => ∃ (b_ : (List UInt8)), ∃ (pos_ : Int), ∃ (i_1 : Int), ∃ (zb : Bool), (zb = true → b_ = []) ∧ strings_ToLower_l1 s_ K2_ k b_ pos_ i_1 = some o ∧ s = ⟨(upd (upd (upd (upd (fun _ => none) 0 (some (S s_))) 7 (some (.c (.ref 0 2 0 0)))) 8 (some (I pos_))) 9 (some (I i_1))), (upd (upd (fun _ => none) 0 (some (.bld 99 zb 1 b_.length))) 1 (bufB zb 5 b_)), 2⟩) k' s'') Q) .normal s := fun b_ pos_ i_1 zb hzb h s hw => ⟨_, k, hw, Nat.lt_succ_self k, b_, pos_, i_1, zb, hzb, h, rfl⟩
  refine Sv.seq ?_
  refine Sv.seq ?_
  refine Sv.region ?_
  refine un (a1 rfl ?_)
  refine un (a1 rfl ?_)
  refine un (a1 (v := (I (s_.length : Int))) rfl ?_)
  refine un (a1 (v := (B (decide (i_1 < (s_.length : Int))))) rfl ?_)
  refine dnil ?_
  refine Sv.cond (b := decide (i_1 < (s_.length : Int))) rfl (fun hc7 => ?_) (fun hc7 => ?_)
  · replace h := ifT hc7 h
    refine Sv.skip ?_
    refine Sv.seq ?_
    refine Sv.block ?_
    refine Sv.seq ?_
    refine Sv.region ?_
    refine un (a1 rfl ?_)
    refine un (a1 rfl ?_)
    obtain ⟨c_1, hx2, h⟩ := bnd h
    refine un (a1 (v := (.c (.val (.int .u8 (c_1.toNat : Int))))) (s_idxS rfl rfl hx2) ?_)
    refine un (a1 rfl ?_)
    refine dnil ?_
    refine Sv.seq ?_
    refine Sv.region ?_
    refine un (a1 rfl ?_)
    refine un (a1 (v := (B (decide (65 ≤ (c_1.toNat : Int))))) rfl ?_)
    refine un (a1 rfl ?_)
    refine gjoin 3 (d := 52) (v := (B ((decide (65 ≤ (c_1.toNat : Int))) && (decide ((c_1.toNat : Int) ≤ 90))))) (fun X hX => ?_) ?_
    · refine split2 (fun hc8 => ?_) (fun hc8 => ?_)
      · refine gt rfl (a1 rfl ?_)
        refine gt rfl (a1 (v := (B (decide ((c_1.toNat : Int) ≤ 90)))) rfl ?_)
        refine un (a1 (v := (B (decide ((c_1.toNat : Int) ≤ 90)))) rfl ?_)
        refine dnil ?_
        exact hX _ (.putEq (by rw [hc8]; rfl) (.skip _ _ (.skip _ _ (.putEq (by rw [hc8]) (.refl _)) rfl) rfl))
      · refine gs rfl rfl ?_
        refine gs rfl rfl ?_
        refine un (a1 (v := (B false)) rfl ?_)
        refine dnil ?_
        exact hX _ (.putEq (by rw [hc8]; rfl) (.skip _ _ (.skip _ _ (.putEq (by rw [hc8]) (.refl _)) rfl) rfl))
    refine dnil ?_
    refine Sv.cond (b := ((decide (65 ≤ (c_1.toNat : Int))) && (decide ((c_1.toNat : Int) ≤ 90)))) rfl (fun hc9 => ?_) (fun hc9 => ?_)
    · replace h := ifT hc9 h
      refine Sv.seq ?_
      refine Sv.region ?_
      refine un (a1 rfl ?_)
      refine un (a1 (v := (.c (.val (.int .u8 (wr .u8 ((c_1.toNat : Int) + 32)))))) rfl ?_)
      refine un (a1 rfl ?_)
      refine dnil ?_
      refine Sv.seq ?_
      refine Sv.seq ?_
      refine Sv.region ?_
      refine un (a1 rfl ?_)
      refine un (a1 rfl ?_)
      refine un (a1 (v := (B (decide (pos_ < i_1)))) rfl ?_)
      refine dnil ?_
      refine Sv.cond (b := decide (pos_ < i_1)) rfl (fun hc10 => ?_) (fun hc10 => ?_)
      · replace h := ifT hc10 h
        refine Sv.region ?_
        refine un (a1 rfl ?_)
        refine un (a1 rfl ?_)
        refine un (a1 rfl ?_)
        obtain ⟨r_2, hx3, h⟩ := bnd h
        refine un (a1 (v := (S r_2)) (s_slStr rfl rfl rfl hx3) ?_)
        obtain ⟨r_3, hr3, h⟩ := bnd h
        refine un (ac_gen (bs := [0, 1]) («as» := [(.c (.ref 0 2 0 0)), (S r_2)]) (h2 := _) (h1 := (upd (upd (fun _ => none) 0 (some (.bld 99 zb 1 b_.length))) 1 (bufB zb 5 b_))) (strings_Builder_WriteString_ok (z := zb) (l := b_) hzb hr3) rfl (.cons (.c (.ref rfl (by decide))) (.cons (avAs_free rfl) .nil)) (hsub_refl _) (.cons rfl (.cons rfl (.nil _))) (fun h => by cases h) (by decide) (by decide) (.cons (.c (.ref rfl (by decide))) (.cons (avAs_free rfl) .nil)) (.buf (by decide) rfl (.box (by decide) rfl (.bld rfl (by decide)) .nil)) ?_)
        rintro _ _ _ hn ⟨z_2, hz_2, rfl, rfl, rfl⟩
        refine ⟨.inl rfl, (upd (upd (rem [0, 1] _) 0 (some (.bld 99 z_2 2 r_3.length))) 2 (bufB z_2 5 r_3)), fun hbd => (m3_cons (m3_buf rfl) (m3_cons (m3_box rfl rfl) (m3_rem (in_cons (by decide) (in_cons (by decide) (in_nil _))) (.cons (by decide) (.cons (by decide) .nil)) hbd))), (.tup [(I (r_2.length : Int)), (.c (.val .nilIface))]), 3, (by cases z_2 <;> rfl), rfl, ?_⟩
        refine dnil ?_
        exact Sv.weak (weak_canon [0, 2] rfl (by decide) (by decide) (fun b h => absurd h (Nat.not_lt_zero _)) (.cons rfl (avAs_free rfl) (.cons rfl (avAs_free rfl) (.cons rfl (.c (.ref rfl (by decide))) (.cons rfl (avAs_free rfl) .nil)))) (.buf (by decide) rfl (.box (by decide) rfl (.bld rfl (by decide)) .nil))) (strings_ToLower_j12_ok hz_2 h hself hK2 hr)
      · replace h := ifF hc10 h
        refine Sv.skip ?_
        exact Sv.weak (weak_canon [0, 1] rfl (by decide) (by decide) (fun b h => absurd h (Nat.not_lt_zero _)) (.cons rfl (avAs_free rfl) (.cons rfl (avAs_free rfl) (.cons rfl (.c (.ref rfl (by decide))) (.cons rfl (avAs_free rfl) .nil)))) (.buf (by decide) rfl (.box (by decide) rfl (.bld rfl (by decide)) .nil))) (strings_ToLower_j12_ok hzb h hself hK2 hr)
    · replace h := ifF hc9 h
      refine Sv.skip ?_
      exact Sv.weak (weak_canon [0, 1] rfl (by decide) (by decide) (fun b h => absurd h (Nat.not_lt_zero _)) (.cons rfl (avAs_free rfl) (.cons rfl (avAs_free rfl) (.cons rfl (.c (.ref rfl (by decide))) (.cons rfl (avAs_free rfl) .nil)))) (.buf (by decide) rfl (.box (by decide) rfl (.bld rfl (by decide)) .nil))) (strings_ToLower_j11_ok hzb h hself hK2 hr)
  · replace h := ifF hc7 h
    refine Sv.exit ?_
    exact hK2 b_ pos_ zb hzb h _ (weak_canon [0, 1] rfl (by decide) (by decide) (fun b h => absurd h (Nat.not_lt_zero _)) (.cons rfl (avAs_free rfl) (.cons rfl (.c (.ref rfl (by decide))) (.cons rfl (avAs_free rfl) .nil))) (.buf (by decide) rfl (.box (by decide) rfl (.bld rfl (by decide)) .nil)))
abbrev strings_ToLower_q2 (mL : Int) (o : (List UInt8)) : AExit → St → Prop := AThen (Sv Tryd.prog (GG mL) 0 a94_c5 (Ends a94.results 0 (strings_ToLower_post o))) (Ends a94.results 0 (strings_ToLower_post o))
noncomputable def strings_ToLower_j13 (b_4 : (List UInt8)) : Option (List UInt8) :=
  some b_4
theorem strings_ToLower_j13_ok {mL : Int} {b_4 : (List UInt8)} {zb_4 : Bool} (hzb_4 : zb_4 = true → b_4 = []) {o : (List UInt8)} (h : strings_ToLower_j13 b_4 = some o) :
    Sv Tryd.prog (GG mL) 0 a94_c4 (strings_ToLower_q2 mL o) ⟨(upd (fun _ => none) 7 (some (.c (.ref 0 2 0 0)))), (upd (upd (fun _ => none) 0 (some (.bld 99 zb_4 1 b_4.length))) 1 (bufB zb_4 5 b_4)), 2⟩ := by
  unfold strings_ToLower_j13 at h
  refine Sv.seq ?_
  refine Sv.region ?_
  refine un (ac_gen (bs := [0, 1]) («as» := [(.c (.ref 0 2 0 0))]) (h2 := _) (h1 := (upd (upd (fun _ => none) 0 (some (.bld 99 zb_4 1 b_4.length))) 1 (bufB zb_4 5 b_4))) (strings_Builder_String_ok (z := zb_4) (l := b_4) hzb_4) rfl (.cons (.c (.ref rfl (by decide))) .nil) (hsub_refl _) (.cons rfl (.cons rfl (.nil _))) (fun h => by cases h) (by decide) (by decide) (.cons (.c (.ref rfl (by decide))) .nil) (.buf (by decide) rfl (.box (by decide) rfl (.bld rfl (by decide)) .nil)) ?_)
  rintro _ _ _ hn ⟨rfl, rfl, rfl⟩
  refine ⟨.inl rfl, (rem [0, 1] _), fun hbd => (m3_rem (in_cons (by decide) (in_cons (by decide) (in_nil _))) (.nil) hbd), (S b_4), 2, rfl, rfl, ?_⟩
  refine un (a1 rfl ?_)
  refine dnil ?_
  refine Sv.ret ?_
  replace h := Option.some.inj h
  subst h
  exact ⟨_, .refl _, _, rfl, ⟨upd (fun _ => none) 0 (some (S b_4)), (fun _ => none), 0⟩, (S b_4), weak_canon [] rfl List.nodup_nil (Nat.le_refl _) (fun b h => absurd h (Nat.not_lt_zero _)) (.cons rfl (avAs_free rfl) .nil) .nil, rfl, rfl, rfl, rfl⟩
/-- strings.ToLower -/
noncomputable def strings_ToLower (s_ : (List UInt8)) : Option (List UInt8) :=
  lim fun kk1 => strings_ToLower_l0 s_ (fun (isASCII : Bool) (hasUpper1 : Bool) => 
      if isASCII then
        if (!hasUpper1) then
          some s_
        else
          (strings_Builder_Grow ([] : List UInt8) (s_.length : Int)).bind fun r_ =>
          lim fun kk => strings_ToLower_l1 s_ (fun (b_1 : (List UInt8)) (pos_1 : Int) => 
              if decide (pos_1 < (s_.length : Int)) then
                (sub? s_ pos_1 (s_.length : Int)).bind fun r_4 =>
                (strings_Builder_WriteString b_1 r_4).bind fun r_5 =>
                strings_ToLower_j13 r_5
              else
                strings_ToLower_j13 b_1) kk r_ 0 0
      else
        (strings_Map s_).bind fun r_6 =>
        some r_6) kk1 false 0
theorem strings_ToLower_ok {mL : Int} {s_ : (List UInt8)} {r : (List UInt8)} (h : strings_ToLower s_ = some r) : CPure Tryd.prog (GG mL) 94 [(S s_)] (S r) := by
  refine acalls_of_sv hmix c94 (R := strings_ToLower_post r) ?_
  unfold strings_ToLower at h
  refine Sv.seq ?_
  refine Sv.region ?_
  refine un (a1 rfl ?_)
  refine dnil ?_
  refine Sv.seq ?_
  refine Sv.region ?_
  refine un (a1 rfl ?_)
  refine un (a1 rfl ?_)
  refine dnil ?_
  refine Sv.seq ?_
  refine Sv.seq ?_
  refine Sv.region ?_
  refine un (a1 rfl ?_)
  refine dnil ?_
  refine Sv.block ?_
  obtain ⟨kk1, h⟩ := lim_some h
  refine Sv.weak (weak_canon [] rfl (by decide) (by decide) (fun b h => absurd h (Nat.not_lt_zero _)) (.cons rfl (avAs_free rfl) (.cons rfl (avAs_free rfl) (.cons rfl (avAs_free rfl) (.cons rfl (avAs_free rfl) .nil)))) .nil) (strings_ToLower_l0_ok h ?_ (fun s hs => hs))
  · intro isASCII hasUpper1 h _ hw1
    refine Sv.weak hw1 ?_
    refine Sv.seq ?_
    refine Sv.seq ?_
    refine Sv.region ?_
    refine un (a1 rfl ?_)
    refine dnil ?_
    refine Sv.cond (b := isASCII) rfl (fun hc5 => ?_) (fun hc5 => ?_)
    · replace h := ifT hc5 h
      refine Sv.seq ?_
      refine Sv.seq ?_
      refine Sv.region ?_
      refine un (a1 rfl ?_)
      refine un (a1 (v := (B (!hasUpper1))) rfl ?_)
      refine dnil ?_
      refine Sv.cond (b := (!hasUpper1)) rfl (fun hc6 => ?_) (fun hc6 => ?_)
      · replace h := ifT hc6 h
        refine Sv.seq ?_
        refine Sv.region ?_
        refine un (a1 rfl ?_)
        refine un (a1 rfl ?_)
        refine dnil ?_
        refine Sv.ret ?_
        replace h := Option.some.inj h
        subst h
        exact ⟨_, .refl _, _, rfl, ⟨upd (fun _ => none) 0 (some (S s_)), (fun _ => none), 0⟩, (S s_), weak_canon [] rfl List.nodup_nil (Nat.le_refl _) (fun b h => absurd h (Nat.not_lt_zero _)) (.cons rfl (avAs_free rfl) .nil) .nil, rfl, rfl, rfl, rfl⟩
      · replace h := ifF hc6 h
        refine Sv.skip ?_
        refine Sv.seq ?_
        refine Sv.region ?_
        refine un (a2v (v := (.c (.ref 1 2 0 0))) (h' := upd _ 1 (some (.bld 99 true 0 ([] : List UInt8).length))) (n' := 2) rfl rfl (fun h => by cases h) ?_)
        refine dnil ?_
        refine Sv.seq ?_
        refine Sv.region ?_
        refine un (a1 rfl ?_)
        refine dnil ?_
        refine Sv.seq ?_
        refine Sv.region ?_
        refine un (a1 rfl ?_)
        refine un (a1 (v := (I (s_.length : Int))) rfl ?_)
        obtain ⟨r_, hr1, h⟩ := bnd h
        refine un (ac_gen (bs := [1, 0]) («as» := [(.c (.ref 1 2 0 0)), (I (s_.length : Int))]) (h2 := _) (h1 := (upd (fun _ => none) 1 (some (.bld 99 true 0 ([] : List UInt8).length)))) (strings_Builder_Grow_ok (z := true) (l := ([] : List UInt8)) (fun _ => rfl) hr1) rfl (.cons (.c (.ref rfl (by decide))) (.cons (avAs_free rfl) .nil)) (hsub_refl _) (.cons rfl (.nil _)) (fun h => by cases h) (by decide) (by decide) (.cons (.c (.ref rfl (by decide))) (.cons (avAs_free rfl) .nil)) (.nonB (by decide) (.box (by decide) rfl (.bldN (by decide)) .nil)) ?_)
        rintro _ _ _ hn ⟨z_, hz_, rfl, rfl, rfl⟩
        refine ⟨.inl rfl, (upd (upd (rem [1, 0] _) 1 (some (.bld 99 z_ 2 r_.length))) 2 (bufB z_ 5 r_)), fun hbd => (m3_cons (m3_buf rfl) (m3_cons (m3_box rfl rfl) (m3_rem (in_cons (by decide) (in_nil _)) (.cons (by decide) (.cons (by decide) .nil)) hbd))), (.tup []), 3, (by cases z_ <;> rfl), rfl, ?_⟩
        refine dnil ?_
        refine Sv.seq ?_
        refine Sv.seq ?_
        refine Sv.region ?_
        refine un (a1 rfl ?_)
        refine dnil ?_
        refine Sv.block ?_
        obtain ⟨kk, h⟩ := lim_some h
        refine Sv.weak (weak_canon [1, 2] rfl (by decide) (by decide) (fun b h => absurd h (Nat.not_lt_zero _)) (.cons rfl (avAs_free rfl) (.cons rfl (avAs_free rfl) (.cons rfl (.c (.ref rfl (by decide))) (.cons rfl (avAs_free rfl) .nil)))) (.buf (by decide) rfl (.box (by decide) rfl (.bld rfl (by decide)) .nil))) (strings_ToLower_l1_ok hz_ h ?_ (fun s hs => hs))
        · intro b_1 pos_1 zb_1 hzb_1 h _ hw2
          refine Sv.weak hw2 ?_
          refine Sv.seq ?_
          refine Sv.seq ?_
          refine Sv.region ?_
          refine un (a1 rfl ?_)
          refine un (a1 rfl ?_)
          refine un (a1 (v := (I (s_.length : Int))) rfl ?_)
          refine un (a1 (v := (B (decide (pos_1 < (s_.length : Int))))) rfl ?_)
          refine dnil ?_
          refine Sv.cond (b := decide (pos_1 < (s_.length : Int))) rfl (fun hc11 => ?_) (fun hc11 => ?_)
          · replace h := ifT hc11 h
            refine Sv.region ?_
            refine un (a1 rfl ?_)
            refine un (a1 rfl ?_)
            obtain ⟨r_4, hx4, h⟩ := bnd h
            refine un (a1 (v := (S r_4)) (s_slStr rfl rfl rfl hx4) ?_)
            obtain ⟨r_5, hr4, h⟩ := bnd h
            refine un (ac_gen (bs := [0, 1]) («as» := [(.c (.ref 0 2 0 0)), (S r_4)]) (h2 := _) (h1 := (upd (upd (fun _ => none) 0 (some (.bld 99 zb_1 1 b_1.length))) 1 (bufB zb_1 5 b_1))) (strings_Builder_WriteString_ok (z := zb_1) (l := b_1) hzb_1 hr4) rfl (.cons (.c (.ref rfl (by decide))) (.cons (avAs_free rfl) .nil)) (hsub_refl _) (.cons rfl (.cons rfl (.nil _))) (fun h => by cases h) (by decide) (by decide) (.cons (.c (.ref rfl (by decide))) (.cons (avAs_free rfl) .nil)) (.buf (by decide) rfl (.box (by decide) rfl (.bld rfl (by decide)) .nil)) ?_)
            rintro _ _ _ hn ⟨z_3, hz_3, rfl, rfl, rfl⟩
            refine ⟨.inl rfl, (upd (upd (rem [0, 1] _) 0 (some (.bld 99 z_3 2 r_5.length))) 2 (bufB z_3 5 r_5)), fun hbd => (m3_cons (m3_buf rfl) (m3_cons (m3_box rfl rfl) (m3_rem (in_cons (by decide) (in_cons (by decide) (in_nil _))) (.cons (by decide) (.cons (by decide) .nil)) hbd))), (.tup [(I (r_4.length : Int)), (.c (.val .nilIface))]), 3, (by cases z_3 <;> rfl), rfl, ?_⟩
            refine dnil ?_
            exact Sv.weak (weak_canon [0, 2] rfl (by decide) (by decide) (fun b h => absurd h (Nat.not_lt_zero _)) (.cons rfl (.c (.ref rfl (by decide))) .nil) (.buf (by decide) rfl (.box (by decide) rfl (.bld rfl (by decide)) .nil))) (strings_ToLower_j13_ok hz_3 h)
          · replace h := ifF hc11 h
            refine Sv.skip ?_
            exact Sv.weak (weak_canon [0, 1] rfl (by decide) (by decide) (fun b h => absurd h (Nat.not_lt_zero _)) (.cons rfl (.c (.ref rfl (by decide))) .nil) (.buf (by decide) rfl (.box (by decide) rfl (.bld rfl (by decide)) .nil))) (strings_ToLower_j13_ok hzb_1 h)
    · replace h := ifF hc5 h
      refine Sv.skip ?_
      refine Sv.seq ?_
      refine Sv.region ?_
      refine un (a1 rfl ?_)
      obtain ⟨r_6, hr5, h⟩ := bnd h
      refine un (ac_pure (strings_Map_ok hr5) rfl rfl rfl ?_)
      refine un (a1 rfl ?_)
      refine dnil ?_
      refine Sv.ret ?_
      replace h := Option.some.inj h
      subst h
      exact ⟨_, .refl _, _, rfl, ⟨upd (fun _ => none) 0 (some (S r_6)), (fun _ => none), 0⟩, (S r_6), weak_canon [] rfl List.nodup_nil (Nat.le_refl _) (fun b h => absurd h (Nat.not_lt_zero _)) (.cons rfl (avAs_free rfl) .nil) .nil, rfl, rfl, rfl, rfl⟩
noncomputable abbrev strings_Index (s_ : (List UInt8)) (substr_ : (List UInt8)) : Option Int := index? s_ substr_
/-- strings.Index, by the contract of the shelf -/
theorem strings_Index_ok {mL : Int} {s_ : (List UInt8)} {substr_ : (List UInt8)} {r : Int} (h : strings_Index s_ substr_ = some r) : CPure Tryd.prog (GG mL) 93 [(S s_), (S substr_)] (I r) := index_ok (m := mL) Tryd.lays143 rfl h
def a92 : AFunc := ⟨1, [(.tmp 2)], (.seq (.region [⟨(some 2), (.mov (.const (.c (.val (.int .i64 0))))), none⟩])
 (.seq (.region [⟨(some 3), (.mov (.tmp 0)), none⟩, ⟨(some 4), (.bslice 1 [(.val (.int .u8 0))] 1 [(0, (.tmp 3))]), none⟩, ⟨(some 5), (.ofBytes (.tmp 4)), none⟩, ⟨(some 6), (.call 94 [(.tmp 5)]), none⟩, ⟨(some 7), (.call 93 [(.const (.c (.str [48, 49, 50, 51, 52, 53, 54, 55, 56, 57, 97, 98, 99, 100, 101, 102]))), (.tmp 6)]), none⟩, ⟨(some 2), (.mov (.tmp 7)), none⟩])
 .ret))⟩
set_option maxRecDepth 100000 in
theorem c92 : compFunc Tryd.prog 92 = some a92 := by kernel_rfl
def clerestoryref4_units_fn1_post (r : Int) : AV → Heap → Nat → Prop := fun v h' n' => v = (I r) ∧ (h' = (fun _ => none)) ∧ n' = 0
/-- clerestory/clerestoryref4.units$1 -/
noncomputable def clerestoryref4_units_fn1 (c_ : Int) : Option Int :=
  (strings_ToLower (byts [c_])).bind fun r_ =>
  (strings_Index [48, 49, 50, 51, 52, 53, 54, 55, 56, 57, 97, 98, 99, 100, 101, 102] r_).bind fun r_1 =>
  some r_1
theorem clerestoryref4_units_fn1_ok {mL : Int} {c_ : Int} {r : Int} (h : clerestoryref4_units_fn1 c_ = some r) : CPure Tryd.prog (GG mL) 92 [(.c (.val (.int .u8 c_)))] (I r) := by
  refine acalls_of_sv hmix c92 (R := clerestoryref4_units_fn1_post r) ?_
  unfold clerestoryref4_units_fn1 at h
  refine Sv.seq ?_
  refine Sv.region ?_
  refine un (a1 rfl ?_)
  refine dnil ?_
  refine Sv.seq ?_
  refine Sv.region ?_
  refine un (a1 rfl ?_)
  refine un (a2v (v := (lstV false 0 1 [c_].length)) (h' := upd _ 0 (lstB false 1 ([c_].map (eK .u8)))) (n' := 1) rfl rfl (fun h => by cases h) ?_)
  refine un (a1 (v := (S (byts [c_]))) (s_ofBytes (xs := [c_]) rfl (slc_lst rfl (List.length_map _).symm (map_nil_of (fun h => by cases h)))) ?_)
  obtain ⟨r_, hr1, h⟩ := bnd h
  refine un (ac_pure (strings_ToLower_ok hr1) rfl rfl rfl ?_)
  obtain ⟨r_1, hr2, h⟩ := bnd h
  refine un (ac_pure (strings_Index_ok hr2) rfl rfl rfl ?_)
  refine un (a1 rfl ?_)
  refine dnil ?_
  refine Sv.ret ?_
  replace h := Option.some.inj h
  subst h
  exact ⟨_, .refl _, _, rfl, ⟨upd (fun _ => none) 0 (some (I r_1)), (fun _ => none), 0⟩, (I r_1), weak_canon [] rfl List.nodup_nil (Nat.le_refl _) (fun b h => absurd h (Nat.not_lt_zero _)) (.cons rfl (avAs_free rfl) .nil) .nil, rfl, rfl, rfl, rfl⟩
def a41_c0 : ACode := (.cond (.tmp 60) (.seq (.region [⟨(some 2), (.mov (.const (.c (.ro true 2 [])))), none⟩, ⟨(some 3), (.mov (.const (.c (.val (.bool false))))), none⟩])
 .ret) .skip)
def a41_c2 : ACode := (.seq (.drawn (.fin [(⟨(some 61), (.mov (.tmp 4)), none⟩, (0, 0)), (⟨(some 62), (.mov (.tmp 5)), none⟩, (0, 1)), (⟨(some 63), (.mov (.tmp 0)), none⟩, (0, 2)), (⟨(some 64), (.mov (.tmp 6)), none⟩, (0, 3)), (⟨(some 65), (.bin .add (.tmp 64) (.const (.c (.val (.int .i64 1))))), none⟩, (0, 4)), (⟨(some 66), (.idxS (.tmp 63) (.tmp 65)), none⟩, (0, 5)), (⟨(some 69), (.mov (.tmp 5)), none⟩, (0, 8)), (⟨(some 70), (.mov (.tmp 0)), none⟩, (0, 9)), (⟨(some 71), (.mov (.tmp 6)), none⟩, (0, 10)), (⟨(some 72), (.bin .add (.tmp 71) (.const (.c (.val (.int .i64 2))))), none⟩, (0, 11)), (⟨(some 73), (.idxS (.tmp 70) (.tmp 72)), none⟩, (0, 12)), (⟨(some 67), (.callv (.tmp 62) [(.tmp 66)]), none⟩, (2, 6)), (⟨(some 68), (.bin .mul (.const (.c (.val (.int .i64 16)))) (.tmp 67)), none⟩, (0, 7)), (⟨(some 74), (.callv (.tmp 69) [(.tmp 73)]), none⟩, (2, 13)), (⟨(some 75), (.bin .add (.tmp 68) (.tmp 74)), none⟩, (0, 14)), (⟨(some 76), (.conv .u8 (.tmp 75)), none⟩, (0, 15)), (⟨(some 77), (.build [(.val (.int .u8 0)), (.val (.bool false))] [(0, (1, (.tmp 76))), (1, (1, (.const (.c (.val (.bool true))))))]), none⟩, (0, 16)), (⟨(some 78), (.bslice 2 [(.val (.int .u8 0)), (.val (.bool false))] 1 [(0, (.tmp 77))]), none⟩, (2, 17)), (⟨(some 79), (.app 2 2 (.tmp 61) (.tmp 78)), none⟩, (2, 18)), (⟨(some 4), (.mov (.tmp 79)), none⟩, (0, 19))]))
 (.region [⟨(some 80), (.mov (.tmp 6)), none⟩, ⟨(some 81), (.bin .add (.tmp 80) (.const (.c (.val (.int .i64 2))))), none⟩, ⟨(some 6), (.mov (.tmp 81)), none⟩]))
def a41_c1 : ACode := (.region [⟨(some 11), (.mov (.tmp 6)), none⟩, ⟨(some 12), (.bin .add (.tmp 11) (.const (.c (.val (.int .i64 1))))), none⟩, ⟨(some 6), (.mov (.tmp 12)), none⟩])
def a41_c3 : ACode := (.seq (.seq (.region [⟨(some 7), (.mov (.tmp 6)), none⟩, ⟨(some 8), (.mov (.tmp 0)), none⟩, ⟨(some 9), (.lenS (.tmp 8)), none⟩, ⟨(some 10), (.bin .lss (.tmp 7) (.tmp 9)), none⟩])
 (.cond (.tmp 10) .skip (.exit 0)))
 (.seq (.block 1 (.seq (.seq (.region [⟨(some 13), (.mov (.tmp 0)), none⟩, ⟨(some 14), (.mov (.tmp 6)), none⟩, ⟨(some 15), (.idxS (.tmp 13) (.tmp 14)), none⟩, ⟨(some 16), (.bin .neq (.tmp 15) (.const (.c (.val (.int .u8 37))))), none⟩])
 (.cond (.tmp 16) (.seq (.region [⟨(some 17), (.mov (.tmp 4)), none⟩, ⟨(some 18), (.mov (.tmp 0)), none⟩, ⟨(some 19), (.mov (.tmp 6)), none⟩, ⟨(some 20), (.idxS (.tmp 18) (.tmp 19)), none⟩, ⟨(some 21), (.build [(.val (.int .u8 0)), (.val (.bool false))] [(0, (1, (.tmp 20))), (1, (1, (.const (.c (.val (.bool false))))))]), none⟩, ⟨(some 22), (.bslice 2 [(.val (.int .u8 0)), (.val (.bool false))] 1 [(0, (.tmp 21))]), none⟩, ⟨(some 23), (.app 2 2 (.tmp 17) (.tmp 22)), none⟩, ⟨(some 4), (.mov (.tmp 23)), none⟩])
 (.exit 1)) .skip))
 (.seq (.seq (.region [⟨(some 24), (.mov (.tmp 6)), none⟩, ⟨(some 25), (.bin .add (.tmp 24) (.const (.c (.val (.int .i64 2))))), none⟩, ⟨(some 26), (.mov (.tmp 0)), none⟩, ⟨(some 27), (.lenS (.tmp 26)), none⟩, ⟨(some 28), (.bin .geq (.tmp 25) (.tmp 27)), none⟩, ⟨(some 29), (.mov (.tmp 28)), none⟩, ⟨(some 30), (.mov (.tmp 0)), (some (29, false))⟩, ⟨(some 31), (.mov (.tmp 6)), (some (29, false))⟩, ⟨(some 32), (.bin .add (.tmp 31) (.const (.c (.val (.int .i64 1))))), (some (29, false))⟩, ⟨(some 33), (.idxS (.tmp 30) (.tmp 32)), (some (29, false))⟩, ⟨(some 34), (.bin .gtr (.tmp 33) (.const (.c (.val (.int .u8 127))))), (some (29, false))⟩, ⟨(some 35), (.pick (.tmp 29) (.const (.c (.val (.bool true)))) (.tmp 34)), none⟩, ⟨(some 36), (.mov (.tmp 35)), none⟩, ⟨(some 37), (.mov (.tmp 0)), (some (36, false))⟩, ⟨(some 38), (.mov (.tmp 6)), (some (36, false))⟩, ⟨(some 39), (.bin .add (.tmp 38) (.const (.c (.val (.int .i64 2))))), (some (36, false))⟩, ⟨(some 40), (.idxS (.tmp 37) (.tmp 39)), (some (36, false))⟩, ⟨(some 41), (.bin .gtr (.tmp 40) (.const (.c (.val (.int .u8 127))))), (some (36, false))⟩, ⟨(some 42), (.pick (.tmp 36) (.const (.c (.val (.bool true)))) (.tmp 41)), none⟩, ⟨(some 43), (.mov (.tmp 42)), none⟩, ⟨(some 44), (.mov (.tmp 5)), (some (43, false))⟩, ⟨(some 45), (.mov (.tmp 0)), (some (43, false))⟩, ⟨(some 46), (.mov (.tmp 6)), (some (43, false))⟩, ⟨(some 47), (.bin .add (.tmp 46) (.const (.c (.val (.int .i64 1))))), (some (43, false))⟩, ⟨(some 48), (.idxS (.tmp 45) (.tmp 47)), (some (43, false))⟩, ⟨(some 49), (.callv (.tmp 44) [(.tmp 48)]), (some (43, false))⟩, ⟨(some 50), (.bin .lss (.tmp 49) (.const (.c (.val (.int .i64 0))))), (some (43, false))⟩, ⟨(some 51), (.pick (.tmp 43) (.const (.c (.val (.bool true)))) (.tmp 50)), none⟩, ⟨(some 52), (.mov (.tmp 51)), none⟩, ⟨(some 53), (.mov (.tmp 5)), (some (52, false))⟩, ⟨(some 54), (.mov (.tmp 0)), (some (52, false))⟩, ⟨(some 55), (.mov (.tmp 6)), (some (52, false))⟩, ⟨(some 56), (.bin .add (.tmp 55) (.const (.c (.val (.int .i64 2))))), (some (52, false))⟩, ⟨(some 57), (.idxS (.tmp 54) (.tmp 56)), (some (52, false))⟩, ⟨(some 58), (.callv (.tmp 53) [(.tmp 57)]), (some (52, false))⟩, ⟨(some 59), (.bin .lss (.tmp 58) (.const (.c (.val (.int .i64 0))))), (some (52, false))⟩, ⟨(some 60), (.pick (.tmp 52) (.const (.c (.val (.bool true)))) (.tmp 59)), none⟩])
 a41_c0)
 a41_c2)))
 a41_c1))
def a41 : AFunc := ⟨1, [(.tmp 2), (.tmp 3)], (.seq (.region [⟨(some 2), (.mov (.const (.c (.ro true 2 [])))), none⟩, ⟨(some 3), (.mov (.const (.c (.val (.bool false))))), none⟩])
 (.seq (.region [⟨(some 4), (.mov (.const (.c (.ro true 2 [])))), none⟩])
 (.seq (.region [⟨(some 5), (.mov (.const (.c (.fn (.func 92) [] [])))), none⟩])
 (.seq (.seq (.region [⟨(some 6), (.mov (.const (.c (.val (.int .i64 0))))), none⟩])
 (.block 0 (.loop a41_c3)))
 (.seq (.region [⟨(some 82), (.mov (.tmp 4)), none⟩, ⟨(some 2), (.mov (.tmp 82)), none⟩, ⟨(some 3), (.mov (.const (.c (.val (.bool true))))), none⟩])
 .ret)))))⟩
set_option maxRecDepth 100000 in
theorem c41 : compFunc Tryd.prog 41 = some a41 := by kernel_rfl
def clerestoryref4_units_post (r : ((List Tunit) × Bool)) : AV → Heap → Nat → Prop := fun v h' n' => ∃ z0 : Bool, (z0 = true → r.1 = []) ∧ v = (.tup [(lstV z0 0 2 r.1.length), (B r.2)]) ∧ (h' = (upd (fun _ => none) 0 (lstB z0 2 (r.1.map e_Tunit)))) ∧ n' = 1
noncomputable def clerestoryref4_units_j11 (s_ : (List UInt8)) (self : (List Tunit) → Int → Option ((List Tunit) × Bool)) (K0_ : (List Tunit) → Option ((List Tunit) × Bool)) (out2 : (List Tunit)) (k_1 : Int) : Option ((List Tunit) × Bool) :=
  self out2 (wi (k_1 + 1))
theorem clerestoryref4_units_j11_ok {mL : Int} {Q : AExit → St → Prop} {s_ : (List UInt8)} {self : (List Tunit) → Int → Option ((List Tunit) × Bool)} {K0_ : (List Tunit) → Option ((List Tunit) × Bool)} {out2 : (List Tunit)} {k_1 : Int} {zout2 : Bool} (hzout2 : zout2 = true → out2 = []) {o : ((List Tunit) × Bool)} (h : clerestoryref4_units_j11 s_ self K0_ out2 k_1 = some o)
    (hself : ∀ (out : (List Tunit)) (k_ : Int) (zout : Bool) (_ : zout = true → out = []), self out k_ = some o → ∀ s, Weak 0 s ⟨(upd (upd (upd (upd (fun _ => none) 0 (some (S s_))) 4 (some (lstV zout 0 2 out.length))) 5 (some (.c (.fn (.func 92) [] [])))) 6 (some (I k_))), (upd (fun _ => none) 0 (lstB zout 2 (out.map e_Tunit))), 1⟩ → (Q) .normal s)
    (hK0 : ∀ (out1 : (List Tunit)) (zout1 : Bool) (_ : zout1 = true → out1 = []), K0_ out1 = some o → ∀ s, Weak 0 s ⟨(upd (fun _ => none) 4 (some (lstV zout1 0 2 out1.length))), (upd (fun _ => none) 0 (lstB zout1 2 (out1.map e_Tunit))), 1⟩ → Q (.exit 0) s)
    (hr : ∀ s, Ends a41.results 0 (clerestoryref4_units_post o) .ret s → Q .ret s) :
    Sv Tryd.prog (GG mL) 0 a41_c1 Q ⟨(upd (upd (upd (upd (fun _ => none) 0 (some (S s_))) 4 (some (lstV zout2 0 2 out2.length))) 5 (some (.c (.fn (.func 92) [] [])))) 6 (some (I k_1))), (upd (fun _ => none) 0 (lstB zout2 2 (out2.map e_Tunit))), 1⟩ := by
  unfold clerestoryref4_units_j11 at h
  refine Sv.region ?_
  refine un (a1 rfl ?_)
  refine un (a1 (v := (I (wi (k_1 + 1)))) rfl ?_)
  refine un (a1 rfl ?_)
  refine dnil ?_
  exact hself out2 (wi (k_1 + 1)) zout2 hzout2 h _ (weak_canon [0] rfl (by decide) (by decide) (fun b h => absurd h (Nat.not_lt_zero _)) (.cons rfl (avAs_free rfl) (.cons rfl (avAs_free rfl) (.cons rfl (.c (lstC_ren rfl (by decide))) (.cons rfl (avAs_free rfl) .nil)))) (.row (by decide) rfl (fr_map fun _ => rfl) .nil))
abbrev clerestoryref4_units_q0 (mL : Int) (Q : AExit → St → Prop) : AExit → St → Prop := AThen (Sv Tryd.prog (GG mL) 0 a41_c1 Q) Q
abbrev clerestoryref4_units_q1 (mL : Int) (Q : AExit → St → Prop) : AExit → St → Prop := ABlock 1 (clerestoryref4_units_q0 mL Q)
abbrev clerestoryref4_units_q2 (mL : Int) (Q : AExit → St → Prop) : AExit → St → Prop := AThen (Sv Tryd.prog (GG mL) 0 a41_c2 (clerestoryref4_units_q1 mL Q)) (clerestoryref4_units_q1 mL Q)
noncomputable def clerestoryref4_units_j12 (s_ : (List UInt8)) (k_ : Int) (self : (List Tunit) → Int → Option ((List Tunit) × Bool)) (K0_ : (List Tunit) → Option ((List Tunit) × Bool)) (out3 : (List Tunit)) (v60 : Bool) : Option ((List Tunit) × Bool) :=
  if v60 then
    some (([] : List Tunit), false)
  else
    (at? s_ (wi (k_ + 1))).bind fun c_2 =>
    (at? s_ (wi (k_ + 2))).bind fun c_3 =>
    (clerestoryref4_units_fn1 (c_2.toNat : Int)).bind fun r_1 =>
    (clerestoryref4_units_fn1 (c_3.toNat : Int)).bind fun r_2 =>
    (app? 2 out3 [(⟨(wr .u8 (wi ((wi (16 * r_1)) + r_2))), true⟩ : Tunit)]).bind fun r_3 =>
    clerestoryref4_units_j11 s_ self K0_ r_3 (wi (k_ + 2))
theorem clerestoryref4_units_j12_ok {mL : Int} {Q : AExit → St → Prop} {s_ : (List UInt8)} {k_ : Int} {self : (List Tunit) → Int → Option ((List Tunit) × Bool)} {K0_ : (List Tunit) → Option ((List Tunit) × Bool)} {out3 : (List Tunit)} {v60 : Bool} {zout3 : Bool} (hzout3 : zout3 = true → out3 = []) {o : ((List Tunit) × Bool)} (h : clerestoryref4_units_j12 s_ k_ self K0_ out3 v60 = some o)
    (hself : ∀ (out : (List Tunit)) (k_ : Int) (zout : Bool) (_ : zout = true → out = []), self out k_ = some o → ∀ s, Weak 0 s ⟨(upd (upd (upd (upd (fun _ => none) 0 (some (S s_))) 4 (some (lstV zout 0 2 out.length))) 5 (some (.c (.fn (.func 92) [] [])))) 6 (some (I k_))), (upd (fun _ => none) 0 (lstB zout 2 (out.map e_Tunit))), 1⟩ → (Q) .normal s)
    (hK0 : ∀ (out1 : (List Tunit)) (zout1 : Bool) (_ : zout1 = true → out1 = []), K0_ out1 = some o → ∀ s, Weak 0 s ⟨(upd (fun _ => none) 4 (some (lstV zout1 0 2 out1.length))), (upd (fun _ => none) 0 (lstB zout1 2 (out1.map e_Tunit))), 1⟩ → Q (.exit 0) s)
    (hr : ∀ s, Ends a41.results 0 (clerestoryref4_units_post o) .ret s → Q .ret s) :
    Sv Tryd.prog (GG mL) 0 a41_c0 (clerestoryref4_units_q2 mL Q) ⟨(upd (upd (upd (upd (upd (fun _ => none) 0 (some (S s_))) 4 (some (lstV zout3 0 2 out3.length))) 5 (some (.c (.fn (.func 92) [] [])))) 6 (some (I k_))) 60 (some (B v60))), (upd (fun _ => none) 0 (lstB zout3 2 (out3.map e_Tunit))), 1⟩ := by
  unfold clerestoryref4_units_j12 at h
  refine Sv.cond (b := v60) rfl (fun hc3 => ?_) (fun hc3 => ?_)
  · replace h := ifT hc3 h
    refine Sv.seq ?_
    refine Sv.region ?_
    refine un (a1 rfl ?_)
    refine un (a1 rfl ?_)
    refine dnil ?_
    refine Sv.ret ?_
    replace h := Option.some.inj h
    subst h
    exact hr _ ⟨_, .refl _, _, rfl, ⟨upd (fun _ => none) 0 (some (.tup [(lstV true 0 2 ([] : List Tunit).length), (B false)])), (upd (fun _ => none) 0 (lstB true 2 (([] : List Tunit).map e_Tunit))), 1⟩, (.tup [(lstV true 0 2 ([] : List Tunit).length), (B false)]), weak_canon2 [1000] [0] (by decide) (by decide) (fun b h => absurd h (Nat.not_lt_zero _)) (.cons (by decide) .nil) (.cons rfl (avAs_tup (.cons (.c (.same rfl)) (.cons (avAs_free rfl) .nil))) .nil) (.non (by decide) .nil), rfl, true, (fun _ => rfl), rfl, rfl, rfl⟩
  · replace h := ifF hc3 h
    refine Sv.skip ?_
    refine Sv.seq ?_
    refine Sv.drawn ?_
    refine un (a1 rfl ?_)
    refine un (a1 rfl ?_)
    refine un (a1 rfl ?_)
    refine un (a1 rfl ?_)
    refine un (a1 (v := (I (wi (k_ + 1)))) rfl ?_)
    obtain ⟨c_2, hx3, h⟩ := bnd h
    refine un (a1 (v := (.c (.val (.int .u8 (c_2.toNat : Int))))) (s_idxS rfl rfl hx3) ?_)
    refine un (a1 rfl ?_)
    refine un (a1 rfl ?_)
    refine un (a1 rfl ?_)
    refine un (a1 (v := (I (wi (k_ + 2)))) rfl ?_)
    obtain ⟨c_3, hx4, h⟩ := bnd h
    refine un (a1 (v := (.c (.val (.int .u8 (c_3.toNat : Int))))) (s_idxS rfl rfl hx4) ?_)
    obtain ⟨r_1, hr2, h⟩ := bnd h
    refine un (acv_gen (bs := []) («as» := [(.c (.val (.int .u8 (c_2.toNat : Int))))]) (h2 := _) (h1 := (fun _ => none)) rfl (by kernel_rfl) (clerestoryref4_units_fn1_ok hr2) rfl (.cons (avAs_free rfl) .nil) (hsub_refl _) (.nil _) (fun _ => rfl) (by decide) (by decide) (.cons (avAs_free rfl) .nil) .nil ?_)
    rintro _ _ _ hn ⟨rfl, rfl, rfl⟩
    refine ⟨.inl rfl, (rem [] _), fun hbd => (m3_rem (in_nil _) (.nil) hbd), (I r_1), 1, rfl, rfl, ?_⟩
    refine un (a1 (v := (I (wi (16 * r_1)))) rfl ?_)
    obtain ⟨r_2, hr3, h⟩ := bnd h
    refine un (acv_gen (bs := []) («as» := [(.c (.val (.int .u8 (c_3.toNat : Int))))]) (h2 := _) (h1 := (fun _ => none)) rfl (by kernel_rfl) (clerestoryref4_units_fn1_ok hr3) rfl (.cons (avAs_free rfl) .nil) (hsub_refl _) (.nil _) (fun _ => rfl) (by decide) (by decide) (.cons (avAs_free rfl) .nil) .nil ?_)
    rintro _ _ _ hn ⟨rfl, rfl, rfl⟩
    refine ⟨.inl rfl, (rem [] _), fun hbd => (m3_rem (in_nil _) (.nil) hbd), (I r_2), 1, rfl, rfl, ?_⟩
    refine un (a1 (v := (I (wi ((wi (16 * r_1)) + r_2)))) rfl ?_)
    refine un (a1 (v := (.c (.val (.int .u8 (wr .u8 (wi ((wi (16 * r_1)) + r_2))))))) rfl ?_)
    refine un (a1 (v := (.agg [.val (.int .u8 (wr .u8 (wi ((wi (16 * r_1)) + r_2)))), cB true])) rfl ?_)
    refine un (a2v (v := (lstV false 1 2 [(⟨(wr .u8 (wi ((wi (16 * r_1)) + r_2))), true⟩ : Tunit)].length)) (h' := upd _ 1 (lstB false 2 ([(⟨(wr .u8 (wi ((wi (16 * r_1)) + r_2))), true⟩ : Tunit)].map e_Tunit))) (n' := 2) rfl rfl (fun h => by cases h) ?_)
    obtain ⟨r_3, hr4, h⟩ := bnd h
    have hz2 : (zout3 && [(⟨(wr .u8 (wi ((wi (16 * r_1)) + r_2))), true⟩ : Tunit)].isEmpty) = true → r_3 = [] := app_nil (z := zout3) (ys := [(⟨(wr .u8 (wi ((wi (16 * r_1)) + r_2))), true⟩ : Tunit)]) hzout3 hr4
    refine un (a2v rfl (s_app (xs := out3) (ys := [(⟨(wr .u8 (wi ((wi (16 * r_1)) + r_2))), true⟩ : Tunit)]) (e := e_Tunit) (z := zout3) (b := 0) rfl rfl hzout3 rfl rfl (slc_lst rfl (List.length_map _).symm (map_nil_of (fun h => by cases h))) hr4) (fun h => by cases h) ?_)
    refine un (a1 rfl ?_)
    refine dnil ?_
    refine Sv.region ?_
    refine un (a1 rfl ?_)
    refine un (a1 (v := (I (wi (k_ + 2)))) rfl ?_)
    refine un (a1 rfl ?_)
    refine dnil ?_
    exact Sv.weak (weak_canon [2] rfl (by decide) (by decide) (fun b h => absurd h (Nat.not_lt_zero _)) (.cons rfl (avAs_free rfl) (.cons rfl (avAs_free rfl) (.cons rfl (.c (lstC_ren rfl (by decide))) (.cons rfl (avAs_free rfl) .nil)))) (.row (by decide) rfl (fr_map fun _ => rfl) .nil)) (clerestoryref4_units_j11_ok hz2 h hself hK0 hr)
noncomputable def clerestoryref4_units_l0 (s_ : (List UInt8)) (K0_ : (List Tunit) → Option ((List Tunit) × Bool)) : Nat → (List Tunit) → Int → Option ((List Tunit) × Bool)
  | 0, _, _ => none
  | k + 1, out, k_ =>
    if decide (k_ < (s_.length : Int)) then
      (at? s_ k_).bind fun c_ =>
      if (!decide ((c_.toNat : Int) = 37)) then
        (at? s_ k_).bind fun c_1 =>
        (app? 2 out [(⟨(c_1.toNat : Int), false⟩ : Tunit)]).bind fun r_ =>
        clerestoryref4_units_j11 s_ (clerestoryref4_units_l0 s_ K0_ k) K0_ r_ k_
      else
        if decide ((s_.length : Int) ≤ (wi (k_ + 2))) then
          clerestoryref4_units_j12 s_ k_ (clerestoryref4_units_l0 s_ K0_ k) K0_ out true
        else
          (at? s_ (wi (k_ + 1))).bind fun c_4 =>
          if decide (127 < (c_4.toNat : Int)) then
            clerestoryref4_units_j12 s_ k_ (clerestoryref4_units_l0 s_ K0_ k) K0_ out true
          else
            (at? s_ (wi (k_ + 2))).bind fun c_5 =>
            if decide (127 < (c_5.toNat : Int)) then
              clerestoryref4_units_j12 s_ k_ (clerestoryref4_units_l0 s_ K0_ k) K0_ out true
            else
              (at? s_ (wi (k_ + 1))).bind fun c_6 =>
              (clerestoryref4_units_fn1 (c_6.toNat : Int)).bind fun r_4 =>
              if decide (r_4 < 0) then
                clerestoryref4_units_j12 s_ k_ (clerestoryref4_units_l0 s_ K0_ k) K0_ out true
              else
                (at? s_ (wi (k_ + 2))).bind fun c_7 =>
                (clerestoryref4_units_fn1 (c_7.toNat : Int)).bind fun r_5 =>
                clerestoryref4_units_j12 s_ k_ (clerestoryref4_units_l0 s_ K0_ k) K0_ out (decide (r_5 < 0))
    else
      K0_ out
theorem clerestoryref4_units_l0_ok {mL : Int} {Q : AExit → St → Prop} {s_ : (List UInt8)} {K0_ : (List Tunit) → Option ((List Tunit) × Bool)} {k : Nat} {out : (List Tunit)} {k_ : Int} {zout : Bool} (hzout : zout = true → out = []) {o : ((List Tunit) × Bool)} (h : clerestoryref4_units_l0 s_ K0_ k out k_ = some o)
    (hK0 : ∀ (out1 : (List Tunit)) (zout1 : Bool) (_ : zout1 = true → out1 = []), K0_ out1 = some o → ∀ s, Weak 0 s ⟨(upd (fun _ => none) 4 (some (lstV zout1 0 2 out1.length))), (upd (fun _ => none) 0 (lstB zout1 2 (out1.map e_Tunit))), 1⟩ → Q (.exit 0) s)
    (hr : ∀ s, Ends a41.results 0 (clerestoryref4_units_post o) .ret s → Q .ret s) :
    Sv Tryd.prog (GG mL) 0 (.loop a41_c3) Q ⟨(upd (upd (upd (upd (fun _ => none) 0 (some (S s_))) 4 (some (lstV zout 0 2 out.length))) 5 (some (.c (.fn (.func 92) [] [])))) 6 (some (I k_))), (upd (fun _ => none) 0 (lstB zout 2 (out.map e_Tunit))), 1⟩ := by
  refine Sv.loop (I := fun k s => ∃ (out : (List Tunit)), ∃ (k_ : Int), ∃ (zout : Bool), (zout = true → out = []) ∧ clerestoryref4_units_l0 s_ K0_ k out k_ = some o ∧ s = ⟨(upd (upd (upd (upd (fun _ => none) 0 (some (S s_))) 4 (some (lstV zout 0 2 out.length))) 5 (some (.c (.fn (.func 92) [] [])))) 6 (some (I k_))), (upd (fun _ => none) 0 (lstB zout 2 (out.map e_Tunit))), 1⟩) (fun k s hI => ?_) ⟨out, k_, zout, hzout, h, rfl⟩
  clear h
  clear hzout zout k_ out
  obtain ⟨out, k_, zout, hzout, h, rfl⟩ := hI
  cases k with
  | zero => cases h
  | succ k =>
  rw [clerestoryref4_units_l0] at h
  have hself : ∀ (out : (List Tunit)) (k_ : Int) (zout : Bool) (_ : zout = true → out = []), (clerestoryref4_units_l0 s_ K0_ k) out k_ = some o → ∀ s, Weak 0 s ⟨(upd (upd (upd (upd (fun _ => none) 0 (some (S s_))) 4 (some (lstV zout 0 2 out.length))) 5 (some (.c (.fn (.func 92) [] [])))) 6 (some (I k_))), (upd (fun _ => none) 0 (lstB zout 2 (out.map e_Tunit))), 1⟩ → (AThen (fun s' => ∃ s'' k', Weak 0 s' s'' ∧ k' < k + 1 ∧ (fun k s => ∃ (out : (List Tunit)), ∃ (k_ : Int), ∃ (zout : Bool), (zout = true → out = []) ∧ clerestoryref4_units_l0 s_ K0_ k out k_ = some o ∧ s = ⟨(upd (upd (upd (upd (fun _ => none) 0 (some (S s_))) 4 (some (lstV zout 0 2 out.length))) 5 (some (.c (.fn (.func 92) [] [])))) 6 (some (I k_))), (upd (fun _ => none) 0 (lstB zout 2 (out.map e_Tunit))), 1⟩) k' s'') Q) .normal s := fun out k_ zout hzout h s hw => ⟨_, k, hw, Nat.lt_succ_self k, out, k_, zout, hzout, h, rfl⟩
  refine Sv.seq ?_
  refine Sv.seq ?_
  refine Sv.region ?_
  refine un (a1 rfl ?_)
  refine un (a1 rfl ?_)
  refine un (a1 (v := (I (s_.length : Int))) rfl ?_)
  refine un (a1 (v := (B (decide (k_ < (s_.length : Int))))) rfl ?_)
  refine dnil ?_
  refine Sv.cond (b := decide (k_ < (s_.length : Int))) rfl (fun hc1 => ?_) (fun hc1 => ?_)
  · replace h := ifT hc1 h
    refine Sv.skip ?_
    refine Sv.seq ?_
    refine Sv.block ?_
    refine Sv.seq ?_
    refine Sv.seq ?_
    refine Sv.region ?_
    refine un (a1 rfl ?_)
    refine un (a1 rfl ?_)
    obtain ⟨c_, hx1, h⟩ := bnd h
    refine un (a1 (v := (.c (.val (.int .u8 (c_.toNat : Int))))) (s_idxS rfl rfl hx1) ?_)
    refine un (a1 (v := (B (!decide ((c_.toNat : Int) = 37)))) rfl ?_)
    refine dnil ?_
    refine Sv.cond (b := (!decide ((c_.toNat : Int) = 37))) rfl (fun hc2 => ?_) (fun hc2 => ?_)
    · replace h := ifT hc2 h
      refine Sv.seq ?_
      refine Sv.region ?_
      refine un (a1 rfl ?_)
      refine un (a1 rfl ?_)
      refine un (a1 rfl ?_)
      obtain ⟨c_1, hx2, h⟩ := bnd h
      refine un (a1 (v := (.c (.val (.int .u8 (c_1.toNat : Int))))) (s_idxS rfl rfl hx2) ?_)
      refine un (a1 (v := (.agg [.val (.int .u8 (c_1.toNat : Int)), cB false])) rfl ?_)
      refine un (a2v (v := (lstV false 1 2 [(⟨(c_1.toNat : Int), false⟩ : Tunit)].length)) (h' := upd _ 1 (lstB false 2 ([(⟨(c_1.toNat : Int), false⟩ : Tunit)].map e_Tunit))) (n' := 2) rfl rfl (fun h => by cases h) ?_)
      obtain ⟨r_, hr1, h⟩ := bnd h
      have hz1 : (zout && [(⟨(c_1.toNat : Int), false⟩ : Tunit)].isEmpty) = true → r_ = [] := app_nil (z := zout) (ys := [(⟨(c_1.toNat : Int), false⟩ : Tunit)]) hzout hr1
      refine un (a2v rfl (s_app (xs := out) (ys := [(⟨(c_1.toNat : Int), false⟩ : Tunit)]) (e := e_Tunit) (z := zout) (b := 0) rfl rfl hzout rfl rfl (slc_lst rfl (List.length_map _).symm (map_nil_of (fun h => by cases h))) hr1) (fun h => by cases h) ?_)
      refine un (a1 rfl ?_)
      refine dnil ?_
      refine Sv.exit ?_
      exact Sv.weak (weak_canon [2] rfl (by decide) (by decide) (fun b h => absurd h (Nat.not_lt_zero _)) (.cons rfl (avAs_free rfl) (.cons rfl (avAs_free rfl) (.cons rfl (.c (lstC_ren rfl (by decide))) (.cons rfl (avAs_free rfl) .nil)))) (.row (by decide) rfl (fr_map fun _ => rfl) .nil)) (clerestoryref4_units_j11_ok hz1 h hself hK0 hr)
    · replace h := ifF hc2 h
      refine Sv.skip ?_
      refine Sv.seq ?_
      refine Sv.seq ?_
      refine Sv.region ?_
      refine un (a1 rfl ?_)
      refine un (a1 (v := (I (wi (k_ + 2)))) rfl ?_)
      refine un (a1 rfl ?_)
      refine un (a1 (v := (I (s_.length : Int))) rfl ?_)
      refine un (a1 (v := (B (decide ((s_.length : Int) ≤ (wi (k_ + 2)))))) rfl ?_)
      refine un (a1 rfl ?_)
      refine split2 (fun hc4 => ?_) (fun hc4 => ?_)
      · replace h := ifT hc4 h
        refine gs rfl rfl ?_
        refine gs rfl rfl ?_
        refine gs rfl rfl ?_
        refine gs rfl rfl ?_
        refine gs rfl rfl ?_
        refine un (a1 (v := (B true)) rfl ?_)
        refine un (a1 rfl ?_)
        refine gs rfl rfl ?_
        refine gs rfl rfl ?_
        refine gs rfl rfl ?_
        refine gs rfl rfl ?_
        refine gs rfl rfl ?_
        refine un (a1 (v := (B true)) rfl ?_)
        refine un (a1 rfl ?_)
        refine gs rfl rfl ?_
        refine gs rfl rfl ?_
        refine gs rfl rfl ?_
        refine gs rfl rfl ?_
        refine gs rfl rfl ?_
        refine gs rfl rfl ?_
        refine gs rfl rfl ?_
        refine un (a1 (v := (B true)) rfl ?_)
        refine un (a1 rfl ?_)
        refine gs rfl rfl ?_
        refine gs rfl rfl ?_
        refine gs rfl rfl ?_
        refine gs rfl rfl ?_
        refine gs rfl rfl ?_
        refine gs rfl rfl ?_
        refine gs rfl rfl ?_
        refine un (a1 (v := (B true)) rfl ?_)
        refine dnil ?_
        exact Sv.weak (weak_canon [0] rfl (by decide) (by decide) (fun b h => absurd h (Nat.not_lt_zero _)) (.cons rfl (avAs_free rfl) (.cons rfl (avAs_free rfl) (.cons rfl (avAs_free rfl) (.cons rfl (.c (lstC_ren rfl (by decide))) (.cons rfl (avAs_free rfl) .nil))))) (.row (by decide) rfl (fr_map fun _ => rfl) .nil)) (clerestoryref4_units_j12_ok hzout h hself hK0 hr)
      · replace h := ifF hc4 h
        refine gt rfl (a1 rfl ?_)
        refine gt rfl (a1 rfl ?_)
        refine gt rfl (a1 (v := (I (wi (k_ + 1)))) rfl ?_)
        obtain ⟨c_4, hx5, h⟩ := bnd h
        refine gt rfl (a1 (v := (.c (.val (.int .u8 (c_4.toNat : Int))))) (s_idxS rfl rfl hx5) ?_)
        refine gt rfl (a1 (v := (B (decide (127 < (c_4.toNat : Int))))) rfl ?_)
        refine un (a1 (v := (B (decide (127 < (c_4.toNat : Int))))) rfl ?_)
        refine un (a1 rfl ?_)
        refine split2 (fun hc5 => ?_) (fun hc5 => ?_)
        · replace h := ifT hc5 h
          refine gs rfl rfl ?_
          refine gs rfl rfl ?_
          refine gs rfl rfl ?_
          refine gs rfl rfl ?_
          refine gs rfl rfl ?_
          refine un (a1 (v := (B true)) rfl ?_)
          refine un (a1 rfl ?_)
          refine gs rfl rfl ?_
          refine gs rfl rfl ?_
          refine gs rfl rfl ?_
          refine gs rfl rfl ?_
          refine gs rfl rfl ?_
          refine gs rfl rfl ?_
          refine gs rfl rfl ?_
          refine un (a1 (v := (B true)) rfl ?_)
          refine un (a1 rfl ?_)
          refine gs rfl rfl ?_
          refine gs rfl rfl ?_
          refine gs rfl rfl ?_
          refine gs rfl rfl ?_
          refine gs rfl rfl ?_
          refine gs rfl rfl ?_
          refine gs rfl rfl ?_
          refine un (a1 (v := (B true)) rfl ?_)
          refine dnil ?_
          exact Sv.weak (weak_canon [0] rfl (by decide) (by decide) (fun b h => absurd h (Nat.not_lt_zero _)) (.cons rfl (avAs_free rfl) (.cons rfl (avAs_free rfl) (.cons rfl (avAs_free rfl) (.cons rfl (.c (lstC_ren rfl (by decide))) (.cons rfl (avAs_free rfl) .nil))))) (.row (by decide) rfl (fr_map fun _ => rfl) .nil)) (clerestoryref4_units_j12_ok hzout h hself hK0 hr)
        · replace h := ifF hc5 h
          refine gt rfl (a1 rfl ?_)
          refine gt rfl (a1 rfl ?_)
          refine gt rfl (a1 (v := (I (wi (k_ + 2)))) rfl ?_)
          obtain ⟨c_5, hx6, h⟩ := bnd h
          refine gt rfl (a1 (v := (.c (.val (.int .u8 (c_5.toNat : Int))))) (s_idxS rfl rfl hx6) ?_)
          refine gt rfl (a1 (v := (B (decide (127 < (c_5.toNat : Int))))) rfl ?_)
          refine un (a1 (v := (B (decide (127 < (c_5.toNat : Int))))) rfl ?_)
          refine un (a1 rfl ?_)
          refine split2 (fun hc6 => ?_) (fun hc6 => ?_)
          · replace h := ifT hc6 h
            refine gs rfl rfl ?_
            refine gs rfl rfl ?_
            refine gs rfl rfl ?_
            refine gs rfl rfl ?_
            refine gs rfl rfl ?_
            refine gs rfl rfl ?_
            refine gs rfl rfl ?_
            refine un (a1 (v := (B true)) rfl ?_)
            refine un (a1 rfl ?_)
            refine gs rfl rfl ?_
            refine gs rfl rfl ?_
            refine gs rfl rfl ?_
            refine gs rfl rfl ?_
            refine gs rfl rfl ?_
            refine gs rfl rfl ?_
            refine gs rfl rfl ?_
            refine un (a1 (v := (B true)) rfl ?_)
            refine dnil ?_
            exact Sv.weak (weak_canon [0] rfl (by decide) (by decide) (fun b h => absurd h (Nat.not_lt_zero _)) (.cons rfl (avAs_free rfl) (.cons rfl (avAs_free rfl) (.cons rfl (avAs_free rfl) (.cons rfl (.c (lstC_ren rfl (by decide))) (.cons rfl (avAs_free rfl) .nil))))) (.row (by decide) rfl (fr_map fun _ => rfl) .nil)) (clerestoryref4_units_j12_ok hzout h hself hK0 hr)
          · replace h := ifF hc6 h
            refine gt rfl (a1 rfl ?_)
            refine gt rfl (a1 rfl ?_)
            refine gt rfl (a1 rfl ?_)
            refine gt rfl (a1 (v := (I (wi (k_ + 1)))) rfl ?_)
            obtain ⟨c_6, hx7, h⟩ := bnd h
            refine gt rfl (a1 (v := (.c (.val (.int .u8 (c_6.toNat : Int))))) (s_idxS rfl rfl hx7) ?_)
            obtain ⟨r_4, hr5, h⟩ := bnd h
            refine gt rfl (acv_gen (bs := []) («as» := [(.c (.val (.int .u8 (c_6.toNat : Int))))]) (h2 := _) (h1 := (fun _ => none)) rfl (by kernel_rfl) (clerestoryref4_units_fn1_ok hr5) rfl (.cons (avAs_free rfl) .nil) (hsub_refl _) (.nil _) (fun _ => rfl) (by decide) (by decide) (.cons (avAs_free rfl) .nil) .nil ?_)
            rintro _ _ _ hn ⟨rfl, rfl, rfl⟩
            refine ⟨.inl rfl, (rem [] _), fun hbd => (m3_rem (in_nil _) (.nil) hbd), (I r_4), 1, rfl, rfl, ?_⟩
            refine gt rfl (a1 (v := (B (decide (r_4 < 0)))) rfl ?_)
            refine un (a1 (v := (B (decide (r_4 < 0)))) rfl ?_)
            refine un (a1 rfl ?_)
            refine split2 (fun hc7 => ?_) (fun hc7 => ?_)
            · replace h := ifT hc7 h
              refine gs rfl rfl ?_
              refine gs rfl rfl ?_
              refine gs rfl rfl ?_
              refine gs rfl rfl ?_
              refine gs rfl rfl ?_
              refine gs rfl rfl ?_
              refine gs rfl rfl ?_
              refine un (a1 (v := (B true)) rfl ?_)
              refine dnil ?_
              exact Sv.weak (weak_canon [0] rfl (by decide) (by decide) (fun b h => absurd h (Nat.not_lt_zero _)) (.cons rfl (avAs_free rfl) (.cons rfl (avAs_free rfl) (.cons rfl (avAs_free rfl) (.cons rfl (.c (lstC_ren rfl (by decide))) (.cons rfl (avAs_free rfl) .nil))))) (.row (by decide) rfl (fr_map fun _ => rfl) .nil)) (clerestoryref4_units_j12_ok hzout h hself hK0 hr)
            · replace h := ifF hc7 h
              refine gt rfl (a1 rfl ?_)
              refine gt rfl (a1 rfl ?_)
              refine gt rfl (a1 rfl ?_)
              refine gt rfl (a1 (v := (I (wi (k_ + 2)))) rfl ?_)
              obtain ⟨c_7, hx8, h⟩ := bnd h
              refine gt rfl (a1 (v := (.c (.val (.int .u8 (c_7.toNat : Int))))) (s_idxS rfl rfl hx8) ?_)
              obtain ⟨r_5, hr6, h⟩ := bnd h
              refine gt rfl (acv_gen (bs := []) («as» := [(.c (.val (.int .u8 (c_7.toNat : Int))))]) (h2 := _) (h1 := (fun _ => none)) rfl (by kernel_rfl) (clerestoryref4_units_fn1_ok hr6) rfl (.cons (avAs_free rfl) .nil) (hsub_refl _) (.nil _) (fun _ => rfl) (by decide) (by decide) (.cons (avAs_free rfl) .nil) .nil ?_)
              rintro _ _ _ hn ⟨rfl, rfl, rfl⟩
              refine ⟨.inl rfl, (rem [] _), fun hbd => (m3_rem (in_nil _) (.nil) hbd), (I r_5), 1, rfl, rfl, ?_⟩
              refine gt rfl (a1 (v := (B (decide (r_5 < 0)))) rfl ?_)
              refine un (a1 (v := (B (decide (r_5 < 0)))) rfl ?_)
              refine dnil ?_
              exact Sv.weak (weak_canon [0] rfl (by decide) (by decide) (fun b h => absurd h (Nat.not_lt_zero _)) (.cons rfl (avAs_free rfl) (.cons rfl (avAs_free rfl) (.cons rfl (avAs_free rfl) (.cons rfl (.c (lstC_ren rfl (by decide))) (.cons rfl (avAs_free rfl) .nil))))) (.row (by decide) rfl (fr_map fun _ => rfl) .nil)) (clerestoryref4_units_j12_ok hzout h hself hK0 hr)
  · replace h := ifF hc1 h
    refine Sv.exit ?_
    exact hK0 out zout hzout h _ (weak_canon [0] rfl (by decide) (by decide) (fun b h => absurd h (Nat.not_lt_zero _)) (.cons rfl (.c (lstC_ren rfl (by decide))) .nil) (.row (by decide) rfl (fr_map fun _ => rfl) .nil))
/-- clerestory/clerestoryref4.units -/
noncomputable def clerestoryref4_units (s_ : (List UInt8)) : Option ((List Tunit) × Bool) :=
  lim fun kk => clerestoryref4_units_l0 s_ (fun (out1 : (List Tunit)) => 
      some (out1, true)) kk ([] : List Tunit) 0
theorem clerestoryref4_units_ok {mL : Int} {s_ : (List UInt8)} {r : ((List Tunit) × Bool)} (h : clerestoryref4_units s_ = some r) : ACalls Tryd.prog (GG mL) 41 [(S s_)] (fun _ => none) 0 (clerestoryref4_units_post r) := by
  refine acalls_of_sv hmix c41 (R := clerestoryref4_units_post r) ?_
  unfold clerestoryref4_units at h
  refine Sv.seq ?_
  refine Sv.region ?_
  refine un (a1 rfl ?_)
  refine un (a1 rfl ?_)
  refine dnil ?_
  refine Sv.seq ?_
  refine Sv.region ?_
  refine un (a1 rfl ?_)
  refine dnil ?_
  refine Sv.seq ?_
  refine Sv.region ?_
  refine un (a1 rfl ?_)
  refine dnil ?_
  refine Sv.seq ?_
  refine Sv.seq ?_
  refine Sv.region ?_
  refine un (a1 rfl ?_)
  refine dnil ?_
  refine Sv.block ?_
  obtain ⟨kk, h⟩ := lim_some h
  refine Sv.weak (weak_canon [1000] rfl (by decide) (by decide) (fun b h => absurd h (Nat.not_lt_zero _)) (.cons rfl (avAs_free rfl) (.cons rfl (avAs_free rfl) (.cons rfl (.c (.same rfl)) (.cons rfl (avAs_free rfl) .nil)))) (.non (by decide) .nil)) (clerestoryref4_units_l0_ok (fun _ => rfl) h ?_ (fun s hs => hs))
  · intro out1 zout1 hzout1 h _ hw1
    refine Sv.weak hw1 ?_
    refine Sv.seq ?_
    refine Sv.region ?_
    refine un (a1 rfl ?_)
    refine un (a1 rfl ?_)
    refine un (a1 rfl ?_)
    refine dnil ?_
    refine Sv.ret ?_
    replace h := Option.some.inj h
    subst h
    exact ⟨_, .refl _, _, rfl, ⟨upd (fun _ => none) 0 (some (.tup [(lstV zout1 0 2 out1.length), (B true)])), (upd (fun _ => none) 0 (lstB zout1 2 (out1.map e_Tunit))), 1⟩, (.tup [(lstV zout1 0 2 out1.length), (B true)]), weak_canon2 [0] [0] (by decide) (by decide) (fun b h => absurd h (Nat.not_lt_zero _)) (.cons (by decide) .nil) (.cons rfl (avAs_tup (.cons (.c (lstC_ren rfl (by decide))) (.cons (avAs_free rfl) .nil))) .nil) (.row (by decide) rfl (fr_map fun _ => rfl) .nil), rfl, zout1, hzout1, rfl, rfl, rfl⟩
def a13_c0 : ACode := (.seq (.region [⟨(some 17), (.bin .lss (.tmp 16) (.tmp 15)), none⟩])
 (.seq (.cond (.tmp 17) .skip (.exit 0))
 (.seq (.block 1 (.seq (.region [⟨(some 18), (.iaddr 2 (.tmp 14) (.tmp 16)), none⟩, ⟨(some 19), (.load true 2 (.tmp 18)), none⟩, ⟨(some 8), (.box (.const (.agg [(.val (.int .u8 0)), (.val (.bool false))]))), none⟩, ⟨none, (.store 2 (.tmp 8) (.tmp 19)), none⟩])
 (.region [⟨(some 20), (.mov (.tmp 6)), none⟩, ⟨(some 21), (.faddr 0 (.tmp 8)), none⟩, ⟨(some 22), (.load false 1 (.tmp 21)), none⟩, ⟨(some 23), (.bslice 1 [(.val (.int .u8 0))] 1 [(0, (.tmp 22))]), none⟩, ⟨(some 24), (.app 1 1 (.tmp 20) (.tmp 23)), none⟩, ⟨(some 6), (.mov (.tmp 24)), none⟩])))
 (.region [⟨(some 25), (.bin .add (.tmp 16) (.const (.c (.val (.int .i64 1))))), none⟩, ⟨(some 16), (.mov (.tmp 25)), none⟩]))))
def a13 : AFunc := ⟨1, [(.tmp 2), (.tmp 3)], (.seq (.region [⟨(some 2), (.mov (.const (.c (.str [])))), none⟩, ⟨(some 3), (.mov (.const (.c (.val (.bool false))))), none⟩])
 (.seq (.region [⟨(some 10), (.mov (.tmp 0)), none⟩, ⟨(some 11), (.call 41 [(.tmp 10)]), none⟩, ⟨(some 9), (.mov (.tmp 11)), none⟩, ⟨(some 12), (.ext (.tmp 9) 0), none⟩, ⟨(some 13), (.ext (.tmp 9) 1), none⟩, ⟨(some 4), (.mov (.tmp 12)), none⟩, ⟨(some 5), (.mov (.tmp 13)), none⟩])
 (.seq (.region [⟨(some 6), (.mov (.const (.c (.ro true 1 [])))), none⟩])
 (.seq (.seq (.region [⟨(some 14), (.mov (.tmp 4)), none⟩, ⟨(some 15), (.len (.tmp 14)), none⟩, ⟨(some 16), (.mov (.const (.c (.val (.int .i64 0))))), none⟩])
 (.block 0 (.loop a13_c0)))
 (.seq (.region [⟨(some 26), (.mov (.tmp 6)), none⟩, ⟨(some 27), (.ofBytes (.tmp 26)), none⟩, ⟨(some 28), (.mov (.tmp 5)), none⟩, ⟨(some 2), (.mov (.tmp 27)), none⟩, ⟨(some 3), (.mov (.tmp 28)), none⟩])
 .ret)))))⟩
set_option maxRecDepth 100000 in
theorem c13 : compFunc Tryd.prog 13 = some a13 := by kernel_rfl
def clerestoryref4_Decoded_post (r : ((List UInt8) × Bool)) : AV → Heap → Nat → Prop := fun v h' n' => v = (.tup [(S r.1), (B r.2)]) ∧ (h' = (fun _ => none)) ∧ n' = 0
noncomputable def clerestoryref4_Decoded_l0 (r_ : ((List Tunit) × Bool)) (K0_ : (List Int) → Option ((List UInt8) × Bool)) : Nat → (List Int) → (List Tunit) → Int → Option ((List UInt8) × Bool)
  | 0, _, _, _ => none
  | k + 1, out, v14, v16 =>
    if decide (v16 < (r_.1.length : Int)) then
      (at? v14 v16).bind fun x_ =>
      (app? 1 out [x_.f_c]).bind fun r_1 =>
      (clerestoryref4_Decoded_l0 r_ K0_ k) r_1 v14 (wi (v16 + 1))
    else
      K0_ out
theorem clerestoryref4_Decoded_l0_ok {mL : Int} {Q : AExit → St → Prop} {r_ : ((List Tunit) × Bool)} {K0_ : (List Int) → Option ((List UInt8) × Bool)} {k : Nat} {out : (List Int)} {v14 : (List Tunit)} {v16 : Int} {zout : Bool} (hzout : zout = true → out = []) {zv14 : Bool} (hzv14 : zv14 = true → v14 = []) {o : ((List UInt8) × Bool)} (h : clerestoryref4_Decoded_l0 r_ K0_ k out v14 v16 = some o)
    (hK0 : ∀ (out1 : (List Int)) (zout1 : Bool) (_ : zout1 = true → out1 = []), K0_ out1 = some o → ∀ s, Weak 0 s ⟨(upd (upd (fun _ => none) 5 (some (B r_.2))) 6 (some (lstV zout1 0 1 out1.length))), (upd (fun _ => none) 0 (lstB zout1 1 (out1.map (eK .u8)))), 1⟩ → Q (.exit 0) s)
    (hr : ∀ s, Ends a13.results 0 (clerestoryref4_Decoded_post o) .ret s → Q .ret s) :
    Sv Tryd.prog (GG mL) 0 (.loop a13_c0) Q ⟨(upd (upd (upd (upd (upd (fun _ => none) 5 (some (B r_.2))) 6 (some (lstV zout 0 1 out.length))) 14 (some (lstV zv14 1 2 v14.length))) 15 (some (I (r_.1.length : Int)))) 16 (some (I v16))), (upd (upd (fun _ => none) 0 (lstB zout 1 (out.map (eK .u8)))) 1 (lstB zv14 2 (v14.map e_Tunit))), 2⟩ := by
  refine Sv.loop (I := fun k s => ∃ (out : (List Int)), ∃ (v14 : (List Tunit)), ∃ (v16 : Int), ∃ (zout : Bool), (zout = true → out = []) ∧ ∃ (zv14 : Bool), (zv14 = true → v14 = []) ∧ clerestoryref4_Decoded_l0 r_ K0_ k out v14 v16 = some o ∧ s = ⟨(upd (upd (upd (upd (upd (fun _ => none) 5 (some (B r_.2))) 6 (some (lstV zout 0 1 out.length))) 14 (some (lstV zv14 1 2 v14.length))) 15 (some (I (r_.1.length : Int)))) 16 (some (I v16))), (upd (upd (fun _ => none) 0 (lstB zout 1 (out.map (eK .u8)))) 1 (lstB zv14 2 (v14.map e_Tunit))), 2⟩) (fun k s hI => ?_) ⟨out, v14, v16, zout, hzout, zv14, hzv14, h, rfl⟩
  clear h
  clear hzv14 hzout zv14 zout v16 v14 out
  obtain ⟨out, v14, v16, zout, hzout, zv14, hzv14, h, rfl⟩ := hI
  cases k with
  | zero => cases h
  | succ k =>
  rw [clerestoryref4_Decoded_l0] at h
  have hself : ∀ (out : (List Int)) (v14 : (List Tunit)) (v16 : Int) (zout : Bool) (_ : zout = true → out = []) (zv14 : Bool) (_ : zv14 = true → v14 = []), (clerestoryref4_Decoded_l0 r_ K0_ k) out v14 v16 = some o → ∀ s, Weak 0 s ⟨(upd (upd (upd (upd (upd (fun _ => none) 5 (some (B r_.2))) 6 (some (lstV zout 0 1 out.length))) 14 (some (lstV zv14 1 2 v14.length))) 15 (some (I (r_.1.length : Int)))) 16 (some (I v16))), (upd (upd (fun _ => none) 0 (lstB zout 1 (out.map (eK .u8)))) 1 (lstB zv14 2 (v14.map e_Tunit))), 2⟩ → (AThen (fun s' => ∃ s'' k', Weak 0 s' s'' ∧ k' < k + 1 ∧ (fun k s => ∃ (out : (List Int)), ∃ (v14 : (List Tunit)), ∃ (v16 : Int), ∃ (zout : Bool), (zout = true → out = []) ∧ ∃ (zv14 : Bool), (zv14 = true → v14 = []) ∧ clerestoryref4_Decoded_l0 r_ K0_ k out v14 v16 = some o ∧ s = ⟨(upd (upd (upd (upd (upd (fun _ => none) 5 (some (B r_.2))) 6 (some (lstV zout 0 1 out.length))) 14 (some (lstV zv14 1 2 v14.length))) 15 (some (I (r_.1.length : Int)))) 16 (some (I v16))), (upd (upd (fun _ => none) 0 (lstB zout 1 (out.map (eK .u8)))) 1 (lstB zv14 2 (v14.map e_Tunit))), 2⟩) k' s'') Q) .normal s := fun out v14 v16 zout hzout zv14 hzv14 h s hw => ⟨_, k, hw, Nat.lt_succ_self k, out, v14, v16, zout, hzout, zv14, hzv14, h, rfl⟩
  refine Sv.seq ?_
  refine Sv.region ?_
  refine un (a1 (v := (B (decide (v16 < (r_.1.length : Int))))) rfl ?_)
  refine dnil ?_
  refine Sv.seq ?_
  refine Sv.cond (b := decide (v16 < (r_.1.length : Int))) rfl (fun hc1 => ?_) (fun hc1 => ?_)
  · replace h := ifT hc1 h
    refine Sv.skip ?_
    refine Sv.seq ?_
    refine Sv.block ?_
    refine Sv.seq ?_
    refine Sv.region ?_
    obtain ⟨x_, hx1, h⟩ := bnd h
    refine un (a1 (v := (.c (.ref 1 2 v16.toNat 0))) (s_iaddrL rfl rfl hzv14 hx1) ?_)
    refine un (a1 (v := (.agg [.val (.int .u8 x_.f_c), cB x_.f_triple])) (s_loadL (z := zv14) (e := e_Tunit) rfl rfl hzv14 hx1 rfl rfl) ?_)
    refine un (a2v (v := (.c (.ref 2 2 0 0))) (h' := upd _ 2 (some (.cells 2 [[.val (.int .u8 0), cB false]]))) (n' := 3) rfl rfl (fun h => by cases h) ?_)
    refine un (a2n (h' := upd _ 2 (some (.cells 2 [[.val (.int .u8 x_.f_c), cB x_.f_triple]]))) (n' := 3) rfl rfl (fun h => by cases h) ?_)
    refine dnil ?_
    refine Sv.region ?_
    refine un (a1 rfl ?_)
    refine un (a1 (v := (.c (.ref 2 2 0 0))) rfl ?_)
    refine un (a1 (v := (.c (.val (.int .u8 x_.f_c)))) rfl ?_)
    refine un (a2v (v := (lstV false 3 1 [x_.f_c].length)) (h' := upd _ 3 (lstB false 1 ([x_.f_c].map (eK .u8)))) (n' := 4) rfl rfl (fun h => by cases h) ?_)
    obtain ⟨r_1, hr2, h⟩ := bnd h
    have hz1 : (zout && [x_.f_c].isEmpty) = true → r_1 = [] := app_nil (z := zout) (ys := [x_.f_c]) hzout hr2
    refine un (a2v rfl (s_app (xs := out) (ys := [x_.f_c]) (e := (eK .u8)) (z := zout) (b := 0) rfl rfl hzout rfl rfl (slc_lst rfl (List.length_map _).symm (map_nil_of (fun h => by cases h))) hr2) (fun h => by cases h) ?_)
    refine un (a1 rfl ?_)
    refine dnil ?_
    refine Sv.region ?_
    refine un (a1 (v := (I (wi (v16 + 1)))) rfl ?_)
    refine un (a1 rfl ?_)
    refine dnil ?_
    exact hself r_1 v14 (wi (v16 + 1)) (zout && [x_.f_c].isEmpty) hz1 zv14 hzv14 h _ (weak_canon [4, 1] rfl (by decide) (by decide) (fun b h => absurd h (Nat.not_lt_zero _)) (.cons rfl (avAs_free rfl) (.cons rfl (avAs_free rfl) (.cons rfl (.c (lstC_ren rfl (by decide))) (.cons rfl (.c (lstC_ren rfl (by decide))) (.cons rfl (avAs_free rfl) .nil))))) (.row (by decide) rfl (fr_map fun _ => rfl) (.row (by decide) rfl (fr_map fun _ => rfl) .nil)))
  · replace h := ifF hc1 h
    refine Sv.exit ?_
    exact hK0 out zout hzout h _ (weak_canon [0] rfl (by decide) (by decide) (fun b h => absurd h (Nat.not_lt_zero _)) (.cons rfl (.c (lstC_ren rfl (by decide))) (.cons rfl (avAs_free rfl) .nil)) (.row (by decide) rfl (fr_map fun _ => rfl) .nil))
/-- clerestory/clerestoryref4.Decoded -/
noncomputable def clerestoryref4_Decoded (s_ : (List UInt8)) : Option ((List UInt8) × Bool) :=
  (clerestoryref4_units s_).bind fun r_ =>
  lim fun kk => clerestoryref4_Decoded_l0 r_ (fun (out1 : (List Int)) => 
      some ((byts out1), r_.2)) kk ([] : List Int) r_.1 0
theorem clerestoryref4_Decoded_ok {mL : Int} {s_ : (List UInt8)} {r : ((List UInt8) × Bool)} (h : clerestoryref4_Decoded s_ = some r) : CPure Tryd.prog (GG mL) 13 [(S s_)] (.tup [(S r.1), (B r.2)]) := by
  refine acalls_of_sv hmix c13 (R := clerestoryref4_Decoded_post r) ?_
  unfold clerestoryref4_Decoded at h
  refine Sv.seq ?_
  refine Sv.region ?_
  refine un (a1 rfl ?_)
  refine un (a1 rfl ?_)
  refine dnil ?_
  refine Sv.seq ?_
  refine Sv.region ?_
  refine un (a1 rfl ?_)
  obtain ⟨r_, hr1, h⟩ := bnd h
  refine un (ac_gen (bs := []) («as» := [(S s_)]) (h2 := _) (h1 := (fun _ => none)) (clerestoryref4_units_ok hr1) rfl (.cons (avAs_free rfl) .nil) (hsub_refl _) (.nil _) (fun _ => rfl) (by decide) (by decide) (.cons (avAs_free rfl) .nil) .nil ?_)
  rintro _ _ _ hn ⟨z_, hz_, rfl, rfl, rfl⟩
  refine ⟨.inl rfl, (upd (rem [] _) 0 (lstB z_ 2 (r_.1.map e_Tunit))), fun hbd => (m3_cons (m3_row rfl (fr_map fun _ => rfl)) (m3_rem (in_nil _) (.cons (by decide) .nil) hbd)), (.tup [(lstV z_ 0 2 r_.1.length), (B r_.2)]), 1, (by cases z_ <;> rfl), rfl, ?_⟩
  refine un (a1 rfl ?_)
  refine un (a1 (v := (lstV z_ 0 2 r_.1.length)) rfl ?_)
  refine un (a1 (v := (B r_.2)) rfl ?_)
  refine un (a1 rfl ?_)
  refine un (a1 rfl ?_)
  refine dnil ?_
  refine Sv.seq ?_
  refine Sv.region ?_
  refine un (a1 rfl ?_)
  refine dnil ?_
  refine Sv.seq ?_
  refine Sv.seq ?_
  refine Sv.region ?_
  refine un (a1 rfl ?_)
  refine un (a1 (v := (I (r_.1.length : Int))) (s_lenL rfl (len_nil_of hz_)) ?_)
  refine un (a1 rfl ?_)
  refine dnil ?_
  refine Sv.block ?_
  obtain ⟨kk, h⟩ := lim_some h
  refine Sv.weak (weak_canon [1000, 0] rfl (by decide) (by decide) (fun b h => absurd h (Nat.not_lt_zero _)) (.cons rfl (avAs_free rfl) (.cons rfl (avAs_free rfl) (.cons rfl (.c (lstC_ren rfl (by decide))) (.cons rfl (.c (.same rfl)) (.cons rfl (avAs_free rfl) .nil))))) (.row (by decide) rfl (fr_map fun _ => rfl) (.non (by decide) .nil))) (clerestoryref4_Decoded_l0_ok (fun _ => rfl) hz_ h ?_ (fun s hs => hs))
  · intro out1 zout1 hzout1 h _ hw1
    refine Sv.weak hw1 ?_
    refine Sv.seq ?_
    refine Sv.region ?_
    refine un (a1 rfl ?_)
    refine un (a1 (v := (S (byts out1))) (s_ofBytes (xs := out1) rfl (slc_lst rfl (List.length_map _).symm (map_nil_of hzout1))) ?_)
    refine un (a1 rfl ?_)
    refine un (a1 rfl ?_)
    refine un (a1 rfl ?_)
    refine dnil ?_
    refine Sv.ret ?_
    replace h := Option.some.inj h
    subst h
    exact ⟨_, .refl _, _, rfl, ⟨upd (fun _ => none) 0 (some (.tup [(S (byts out1)), (B r_.2)])), (fun _ => none), 0⟩, (.tup [(S (byts out1)), (B r_.2)]), weak_canon [] rfl List.nodup_nil (Nat.le_refl _) (fun b h => absurd h (Nat.not_lt_zero _)) (.cons rfl (avAs_tup (.cons (avAs_free rfl) (.cons (avAs_free rfl) .nil))) .nil) .nil, rfl, rfl, rfl, rfl⟩
def a95 : AFunc := ⟨1, [(.tmp 2)], (.seq (.region [⟨(some 2), (.mov (.const (.c (.val (.bool false))))), none⟩])
 (.seq (.region [⟨(some 3), (.mov (.tmp 0)), none⟩, ⟨(some 4), (.bin .geq (.tmp 3) (.const (.c (.val (.int .u8 97))))), none⟩, ⟨(some 5), (.mov (.tmp 4)), none⟩, ⟨(some 6), (.mov (.tmp 0)), (some (5, true))⟩, ⟨(some 7), (.bin .leq (.tmp 6) (.const (.c (.val (.int .u8 122))))), (some (5, true))⟩, ⟨(some 8), (.pick (.tmp 5) (.tmp 7) (.const (.c (.val (.bool false))))), none⟩, ⟨(some 9), (.mov (.tmp 8)), none⟩, ⟨(some 10), (.mov (.tmp 0)), (some (9, false))⟩, ⟨(some 11), (.bin .geq (.tmp 10) (.const (.c (.val (.int .u8 65))))), (some (9, false))⟩, ⟨(some 12), (.mov (.tmp 11)), (some (9, false))⟩, ⟨(some 13), (.mov (.tmp 0)), (some (12, true))⟩, ⟨(some 14), (.bin .leq (.tmp 13) (.const (.c (.val (.int .u8 90))))), (some (12, true))⟩, ⟨(some 15), (.pick (.tmp 12) (.tmp 14) (.const (.c (.val (.bool false))))), (some (9, false))⟩, ⟨(some 16), (.pick (.tmp 9) (.const (.c (.val (.bool true)))) (.tmp 15)), none⟩, ⟨(some 2), (.mov (.tmp 16)), none⟩])
 .ret))⟩
set_option maxRecDepth 100000 in
theorem c95 : compFunc Tryd.prog 95 = some a95 := by kernel_rfl
def url_letter_post (r : Bool) : AV → Heap → Nat → Prop := fun v h' n' => v = (B r) ∧ (h' = (fun _ => none)) ∧ n' = 0
/-- clerestory/url.letter -/
def url_letter (c_ : Int) : Bool :=
  (((decide (97 ≤ c_)) && (decide (c_ ≤ 122))) || ((decide (65 ≤ c_)) && (decide (c_ ≤ 90))))
theorem url_letter_ok {mL : Int} (c_ : Int) : CPure Tryd.prog (GG mL) 95 [(.c (.val (.int .u8 c_)))] (B (url_letter c_)) := by
  generalize h : url_letter c_ = o
  refine acalls_of_sv hmix c95 (R := url_letter_post o) ?_
  unfold url_letter at h
  refine Sv.seq ?_
  refine Sv.region ?_
  refine un (a1 rfl ?_)
  refine dnil ?_
  refine Sv.seq ?_
  refine Sv.region ?_
  refine un (a1 rfl ?_)
  refine un (a1 (v := (B (decide (97 ≤ c_)))) rfl ?_)
  refine un (a1 rfl ?_)
  refine gjoin 3 (d := 8) (v := (B ((decide (97 ≤ c_)) && (decide (c_ ≤ 122))))) (fun X hX => ?_) ?_
  · refine split2 (fun hc1 => ?_) (fun hc1 => ?_)
    · refine gt rfl (a1 rfl ?_)
      refine gt rfl (a1 (v := (B (decide (c_ ≤ 122)))) rfl ?_)
      refine un (a1 (v := (B (decide (c_ ≤ 122)))) rfl ?_)
      refine dnil ?_
      exact hX _ (.putEq (by rw [hc1]; rfl) (.skip _ _ (.skip _ _ (.putEq (by rw [hc1]) (.refl _)) rfl) rfl))
    · refine gs rfl rfl ?_
      refine gs rfl rfl ?_
      refine un (a1 (v := (B false)) rfl ?_)
      refine dnil ?_
      exact hX _ (.putEq (by rw [hc1]; rfl) (.skip _ _ (.skip _ _ (.putEq (by rw [hc1]) (.refl _)) rfl) rfl))
  refine un (a1 rfl ?_)
  refine gjoin 7 (d := 16) (v := (B (((decide (97 ≤ c_)) && (decide (c_ ≤ 122))) || ((decide (65 ≤ c_)) && (decide (c_ ≤ 90)))))) (fun X hX => ?_) ?_
  · refine split2 (fun hc3 => ?_) (fun hc3 => ?_)
    · refine gs rfl rfl ?_
      refine gs rfl rfl ?_
      refine gs rfl rfl ?_
      refine gu rfl ?_
      refine gu rfl ?_
      refine gs rfl rfl ?_
      refine un (a1 (v := (B true)) rfl ?_)
      refine dnil ?_
      exact hX _ (.putEq (by rw [hc3]; rfl) (.skip _ _ (.skip _ _ (.skip _ _ (.skip _ _ (.skip _ _ (.skip _ _ (.putEq (by rw [hc3]) (.refl _)) rfl) rfl) rfl) rfl) rfl) rfl))
    · refine gt rfl (a1 rfl ?_)
      refine gt rfl (a1 (v := (B (decide (65 ≤ c_)))) rfl ?_)
      refine gt rfl (a1 rfl ?_)
      refine gjoin 3 (d := 15) (v := (B ((decide (65 ≤ c_)) && (decide (c_ ≤ 90))))) (fun X hX => ?_) ?_
      · refine split2 (fun hc2 => ?_) (fun hc2 => ?_)
        · refine gt rfl (a1 rfl ?_)
          refine gt rfl (a1 (v := (B (decide (c_ ≤ 90)))) rfl ?_)
          refine gt rfl (a1 (v := (B (decide (c_ ≤ 90)))) rfl ?_)
          refine dnil ?_
          exact hX _ (.putEq (by rw [hc2]; rfl) (.skip _ _ (.skip _ _ (.putEq (by rw [hc2]) (.refl _)) rfl) rfl))
        · refine gs rfl rfl ?_
          refine gs rfl rfl ?_
          refine gt rfl (a1 (v := (B false)) rfl ?_)
          refine dnil ?_
          exact hX _ (.putEq (by rw [hc2]; rfl) (.skip _ _ (.skip _ _ (.putEq (by rw [hc2]) (.refl _)) rfl) rfl))
      refine un (a1 (v := (B ((decide (65 ≤ c_)) && (decide (c_ ≤ 90))))) rfl ?_)
      refine dnil ?_
      exact hX _ (.putEq (by rw [hc3]; rfl) (.skip _ _ (.skip _ _ (.skip _ _ (.skip _ _ (.putEq (by rw [hc3]) (.refl _)) rfl) rfl) rfl) rfl))
  refine un (a1 rfl ?_)
  refine dnil ?_
  refine Sv.ret ?_
  subst h
  exact ⟨_, .refl _, _, rfl, ⟨upd (fun _ => none) 0 (some (B (((decide (97 ≤ c_)) && (decide (c_ ≤ 122))) || ((decide (65 ≤ c_)) && (decide (c_ ≤ 90)))))), (fun _ => none), 0⟩, (B (((decide (97 ≤ c_)) && (decide (c_ ≤ 122))) || ((decide (65 ≤ c_)) && (decide (c_ ≤ 90))))), weak_canon [] rfl List.nodup_nil (Nat.le_refl _) (fun b h => absurd h (Nat.not_lt_zero _)) (.cons rfl (avAs_free rfl) .nil) .nil, rfl, rfl, rfl, rfl⟩
def a96 : AFunc := ⟨2, [(.tmp 4)], (.seq (.region [⟨(some 4), (.mov (.const (.c (.val (.bool false))))), none⟩])
 (.seq (.region [⟨(some 5), (.mov (.tmp 1)), none⟩, ⟨(some 6), (.mov (.tmp 0)), none⟩, ⟨(some 7), (.call 100 [(.tmp 5), (.tmp 6)]), none⟩, ⟨(some 8), (.bin .geq (.tmp 7) (.const (.c (.val (.int .i64 0))))), none⟩, ⟨(some 4), (.mov (.tmp 8)), none⟩])
 .ret))⟩
set_option maxRecDepth 100000 in
theorem c96 : compFunc Tryd.prog 96 = some a96 := by kernel_rfl
def url_in_post (r : Bool) : AV → Heap → Nat → Prop := fun v h' n' => v = (B r) ∧ (h' = (fun _ => none)) ∧ n' = 0
/-- clerestory/url.in -/
noncomputable def url_in (c_ : Int) (set_ : (List UInt8)) : Option Bool :=
  (strings_IndexByte set_ c_).bind fun r_ =>
  some (decide (0 ≤ r_))
theorem url_in_ok {mL : Int} {c_ : Int} {set_ : (List UInt8)} {r : Bool} (h : url_in c_ set_ = some r) : CPure Tryd.prog (GG mL) 96 [(.c (.val (.int .u8 c_))), (S set_)] (B r) := by
  refine acalls_of_sv hmix c96 (R := url_in_post r) ?_
  unfold url_in at h
  refine Sv.seq ?_
  refine Sv.region ?_
  refine un (a1 rfl ?_)
  refine dnil ?_
  refine Sv.seq ?_
  refine Sv.region ?_
  refine un (a1 rfl ?_)
  refine un (a1 rfl ?_)
  obtain ⟨r_, hr1, h⟩ := bnd h
  refine un (ac_pure (strings_IndexByte_ok hr1) rfl rfl rfl ?_)
  refine un (a1 (v := (B (decide (0 ≤ r_)))) rfl ?_)
  refine un (a1 rfl ?_)
  refine dnil ?_
  refine Sv.ret ?_
  replace h := Option.some.inj h
  subst h
  exact ⟨_, .refl _, _, rfl, ⟨upd (fun _ => none) 0 (some (B (decide (0 ≤ r_)))), (fun _ => none), 0⟩, (B (decide (0 ≤ r_))), weak_canon [] rfl List.nodup_nil (Nat.le_refl _) (fun b h => absurd h (Nat.not_lt_zero _)) (.cons rfl (avAs_free rfl) .nil) .nil, rfl, rfl, rfl, rfl⟩
def a42_c0 : ACode := .ret
def a42 : AFunc := ⟨1, [(.tmp 2)], (.seq (.region [⟨(some 2), (.mov (.const (.c (.val (.bool false))))), none⟩])
 (.seq (.region [⟨(some 3), (.mov (.tmp 0)), none⟩, ⟨(some 4), (.call 95 [(.tmp 3)]), none⟩, ⟨(some 5), (.mov (.tmp 4)), none⟩, ⟨(some 6), (.mov (.tmp 0)), (some (5, false))⟩, ⟨(some 7), (.call 96 [(.tmp 6), (.const (.c (.str [48, 49, 50, 51, 52, 53, 54, 55, 56, 57, 45, 46, 95, 126])))]), (some (5, false))⟩, ⟨(some 8), (.pick (.tmp 5) (.const (.c (.val (.bool true)))) (.tmp 7)), none⟩, ⟨(some 2), (.mov (.tmp 8)), none⟩])
 a42_c0))⟩
set_option maxRecDepth 100000 in
theorem c42 : compFunc Tryd.prog 42 = some a42 := by kernel_rfl
def url_plain_post (r : Bool) : AV → Heap → Nat → Prop := fun v h' n' => v = (B r) ∧ (h' = (fun _ => none)) ∧ n' = 0
noncomputable def url_plain_j1 (v2 : Bool) : Option Bool :=
  some v2
theorem url_plain_j1_ok {mL : Int} {v2 : Bool} {o : Bool} (h : url_plain_j1 v2 = some o) :
    Sv Tryd.prog (GG mL) 0 a42_c0 (Ends a42.results 0 (url_plain_post o)) ⟨(upd (fun _ => none) 2 (some (B v2))), (fun _ => none), 0⟩ := by
  unfold url_plain_j1 at h
  refine Sv.ret ?_
  replace h := Option.some.inj h
  subst h
  exact ⟨_, .refl _, _, rfl, ⟨upd (fun _ => none) 0 (some (B v2)), (fun _ => none), 0⟩, (B v2), weak_canon [] rfl List.nodup_nil (Nat.le_refl _) (fun b h => absurd h (Nat.not_lt_zero _)) (.cons rfl (avAs_free rfl) .nil) .nil, rfl, rfl, rfl, rfl⟩
/-- clerestory/url.plain -/
noncomputable def url_plain (c_ : Int) : Option Bool :=
  if (url_letter c_) then
    url_plain_j1 true
  else
    (url_in c_ [48, 49, 50, 51, 52, 53, 54, 55, 56, 57, 45, 46, 95, 126]).bind fun r_ =>
    url_plain_j1 r_
theorem url_plain_ok {mL : Int} {c_ : Int} {r : Bool} (h : url_plain c_ = some r) : CPure Tryd.prog (GG mL) 42 [(.c (.val (.int .u8 c_)))] (B r) := by
  refine acalls_of_sv hmix c42 (R := url_plain_post r) ?_
  unfold url_plain at h
  refine Sv.seq ?_
  refine Sv.region ?_
  refine un (a1 rfl ?_)
  refine dnil ?_
  refine Sv.seq ?_
  refine Sv.region ?_
  refine un (a1 rfl ?_)
  refine un (ac_pure (url_letter_ok (mL := mL) c_) rfl rfl rfl ?_)
  refine un (a1 rfl ?_)
  refine split2 (fun hc1 => ?_) (fun hc1 => ?_)
  · replace h := ifT hc1 h
    refine gs rfl rfl ?_
    refine gs rfl rfl ?_
    refine un (a1 (v := (B true)) rfl ?_)
    refine un (a1 rfl ?_)
    refine dnil ?_
    exact Sv.weak (weak_canon [] rfl (by decide) (by decide) (fun b h => absurd h (Nat.not_lt_zero _)) (.cons rfl (avAs_free rfl) .nil) .nil) (url_plain_j1_ok h)
  · replace h := ifF hc1 h
    refine gt rfl (a1 rfl ?_)
    obtain ⟨r_, hr1, h⟩ := bnd h
    refine gt rfl (ac_pure (url_in_ok hr1) rfl rfl rfl ?_)
    refine un (a1 (v := (B r_)) rfl ?_)
    refine un (a1 rfl ?_)
    refine dnil ?_
    exact Sv.weak (weak_canon [] rfl (by decide) (by decide) (fun b h => absurd h (Nat.not_lt_zero _)) (.cons rfl (avAs_free rfl) .nil) .nil) (url_plain_j1_ok h)
def a45 : AFunc := ⟨1, [(.tmp 2)], (.seq (.region [⟨(some 2), (.mov (.const (.c (.str [])))), none⟩])
 (.seq (.drawn (.fin [(⟨(some 3), (.mov (.tmp 0)), none⟩, (0, 0)), (⟨(some 4), (.bin .shr (.tmp 3) (.const (.c (.val (.int .u64 4))))), none⟩, (0, 1)), (⟨(some 5), (.mov (.tmp 0)), none⟩, (0, 2)), (⟨(some 6), (.bin .shr (.tmp 5) (.const (.c (.val (.int .u64 4))))), none⟩, (0, 3)), (⟨(some 7), (.bin .add (.tmp 6) (.const (.c (.val (.int .u8 1))))), none⟩, (0, 4)), (⟨(some 8), (.slStr (.const (.c (.str [48, 49, 50, 51, 52, 53, 54, 55, 56, 57, 65, 66, 67, 68, 69, 70]))) (some (.tmp 4)) (some (.tmp 7))), none⟩, (0, 5)), (⟨(some 9), (.bin .add (.const (.c (.str [37]))) (.tmp 8)), none⟩, (0, 6)), (⟨(some 10), (.mov (.tmp 0)), none⟩, (0, 7)), (⟨(some 11), (.bin .and (.tmp 10) (.const (.c (.val (.int .u8 15))))), none⟩, (0, 8)), (⟨(some 12), (.mov (.tmp 0)), none⟩, (0, 9)), (⟨(some 13), (.bin .and (.tmp 12) (.const (.c (.val (.int .u8 15))))), none⟩, (0, 10)), (⟨(some 14), (.bin .add (.tmp 13) (.const (.c (.val (.int .u8 1))))), none⟩, (0, 11)), (⟨(some 15), (.slStr (.const (.c (.str [48, 49, 50, 51, 52, 53, 54, 55, 56, 57, 65, 66, 67, 68, 69, 70]))) (some (.tmp 11)) (some (.tmp 14))), none⟩, (0, 12)), (⟨(some 16), (.bin .add (.tmp 9) (.tmp 15)), none⟩, (0, 13)), (⟨(some 2), (.mov (.tmp 16)), none⟩, (0, 14))]))
 .ret))⟩
set_option maxRecDepth 100000 in
theorem c45 : compFunc Tryd.prog 45 = some a45 := by kernel_rfl
def url_triple_post (r : (List UInt8)) : AV → Heap → Nat → Prop := fun v h' n' => v = (S r) ∧ (h' = (fun _ => none)) ∧ n' = 0
/-- clerestory/url.triple -/
noncomputable def url_triple (c_ : Int) : Option (List UInt8) :=
  (sub? [48, 49, 50, 51, 52, 53, 54, 55, 56, 57, 65, 66, 67, 68, 69, 70] (shr .u8 c_ 4) (wr .u8 ((shr .u8 c_ 4) + 1))).bind fun r_ =>
  (cat? [37] r_).bind fun r_1 =>
  (sub? [48, 49, 50, 51, 52, 53, 54, 55, 56, 57, 65, 66, 67, 68, 69, 70] (bitsV .and .u8 c_ 15) (wr .u8 ((bitsV .and .u8 c_ 15) + 1))).bind fun r_2 =>
  (cat? r_1 r_2).bind fun r_3 =>
  some r_3
theorem url_triple_ok {mL : Int} {c_ : Int} {r : (List UInt8)} (h : url_triple c_ = some r) : CPure Tryd.prog (GG mL) 45 [(.c (.val (.int .u8 c_)))] (S r) := by
  refine acalls_of_sv hmix c45 (R := url_triple_post r) ?_
  unfold url_triple at h
  refine Sv.seq ?_
  refine Sv.region ?_
  refine un (a1 rfl ?_)
  refine dnil ?_
  refine Sv.seq ?_
  refine Sv.drawn ?_
  refine un (a1 rfl ?_)
  refine un (a1 (v := (.c (.val (.int .u8 (shr .u8 c_ 4))))) rfl ?_)
  refine un (a1 rfl ?_)
  refine un (a1 (v := (.c (.val (.int .u8 (shr .u8 c_ 4))))) rfl ?_)
  refine un (a1 (v := (.c (.val (.int .u8 (wr .u8 ((shr .u8 c_ 4) + 1)))))) rfl ?_)
  obtain ⟨r_, hx1, h⟩ := bnd h
  refine un (a1 (v := (S r_)) (s_slStr rfl rfl rfl hx1) ?_)
  obtain ⟨r_1, hx2, h⟩ := bnd h
  refine un (a1 (v := (S r_1)) (s_cat rfl rfl hx2) ?_)
  refine un (a1 rfl ?_)
  refine un (a1 (v := (.c (.val (.int .u8 (bitsV .and .u8 c_ 15))))) rfl ?_)
  refine un (a1 rfl ?_)
  refine un (a1 (v := (.c (.val (.int .u8 (bitsV .and .u8 c_ 15))))) rfl ?_)
  refine un (a1 (v := (.c (.val (.int .u8 (wr .u8 ((bitsV .and .u8 c_ 15) + 1)))))) rfl ?_)
  obtain ⟨r_2, hx3, h⟩ := bnd h
  refine un (a1 (v := (S r_2)) (s_slStr rfl rfl rfl hx3) ?_)
  obtain ⟨r_3, hx4, h⟩ := bnd h
  refine un (a1 (v := (S r_3)) (s_cat rfl rfl hx4) ?_)
  refine un (a1 rfl ?_)
  refine dnil ?_
  refine Sv.ret ?_
  replace h := Option.some.inj h
  subst h
  exact ⟨_, .refl _, _, rfl, ⟨upd (fun _ => none) 0 (some (S r_3)), (fun _ => none), 0⟩, (S r_3), weak_canon [] rfl List.nodup_nil (Nat.le_refl _) (fun b h => absurd h (Nat.not_lt_zero _)) (.cons rfl (avAs_free rfl) .nil) .nil, rfl, rfl, rfl, rfl⟩
def a14_c0 : ACode := (.region [⟨(some 23), (.bin .add (.tmp 7) (.const (.c (.val (.int .i64 1))))), none⟩, ⟨(some 7), (.mov (.tmp 23)), none⟩])
def a14_c1 : ACode := (.seq (.region [⟨(some 8), (.bin .lss (.tmp 7) (.tmp 6)), none⟩])
 (.seq (.cond (.tmp 8) .skip (.exit 0))
 (.seq (.block 1 (.seq (.region [⟨(some 9), (.mov (.tmp 7)), none⟩, ⟨(some 4), (.mov (.tmp 9)), none⟩])
 (.seq (.region [⟨(some 10), (.mov (.tmp 0)), none⟩, ⟨(some 11), (.mov (.tmp 4)), none⟩, ⟨(some 12), (.idxS (.tmp 10) (.tmp 11)), none⟩, ⟨(some 13), (.call 42 [(.tmp 12)]), none⟩])
 (.cond (.tmp 13) (.region [⟨(some 14), (.mov (.tmp 0)), none⟩, ⟨(some 15), (.mov (.tmp 4)), none⟩, ⟨(some 16), (.idxS (.tmp 14) (.tmp 15)), none⟩, ⟨(some 17), (.call 43 [(.tmp 3), (.tmp 16)]), none⟩]) (.region [⟨(some 18), (.mov (.tmp 0)), none⟩, ⟨(some 19), (.mov (.tmp 4)), none⟩, ⟨(some 20), (.idxS (.tmp 18) (.tmp 19)), none⟩, ⟨(some 21), (.call 45 [(.tmp 20)]), none⟩, ⟨(some 22), (.call 44 [(.tmp 3), (.tmp 21)]), none⟩])))))
 a14_c0)))
def a14 : AFunc := ⟨1, [(.tmp 2)], (.seq (.region [⟨(some 2), (.mov (.const (.c (.str [])))), none⟩])
 (.seq (.region [⟨(some 3), (.boxB 99), none⟩])
 (.seq (.seq (.region [⟨(some 5), (.mov (.tmp 0)), none⟩, ⟨(some 6), (.lenS (.tmp 5)), none⟩, ⟨(some 7), (.mov (.const (.c (.val (.int .i64 0))))), none⟩])
 (.block 0 (.loop a14_c1)))
 (.seq (.region [⟨(some 24), (.call 46 [(.tmp 3)]), none⟩, ⟨(some 2), (.mov (.tmp 24)), none⟩])
 .ret))))⟩
set_option maxRecDepth 100000 in
theorem c14 : compFunc Tryd.prog 14 = some a14 := by kernel_rfl
def url_Encode_post (r : (List UInt8)) : AV → Heap → Nat → Prop := fun v h' n' => v = (S r) ∧ (h' = (fun _ => none)) ∧ n' = 0
noncomputable def url_Encode_j3 (v7 : Int) (s_ : (List UInt8)) (self : (List UInt8) → Int → Option (List UInt8)) (K0_ : (List UInt8) → Option (List UInt8)) (out2 : (List UInt8)) : Option (List UInt8) :=
  self out2 (wi (v7 + 1))
theorem url_Encode_j3_ok {mL : Int} {Q : AExit → St → Prop} {v7 : Int} {s_ : (List UInt8)} {self : (List UInt8) → Int → Option (List UInt8)} {K0_ : (List UInt8) → Option (List UInt8)} {out2 : (List UInt8)} {zout2 : Bool} (hzout2 : zout2 = true → out2 = []) {o : (List UInt8)} (h : url_Encode_j3 v7 s_ self K0_ out2 = some o)
    (hself : ∀ (out : (List UInt8)) (v7 : Int) (zout : Bool) (_ : zout = true → out = []), self out v7 = some o → ∀ s, Weak 0 s ⟨(upd (upd (upd (upd (fun _ => none) 0 (some (S s_))) 3 (some (.c (.ref 0 2 0 0)))) 6 (some (I (s_.length : Int)))) 7 (some (I v7))), (upd (upd (fun _ => none) 0 (some (.bld 99 zout 1 out.length))) 1 (bufB zout 5 out)), 2⟩ → (Q) .normal s)
    (hK0 : ∀ (out1 : (List UInt8)) (zout1 : Bool) (_ : zout1 = true → out1 = []), K0_ out1 = some o → ∀ s, Weak 0 s ⟨(upd (fun _ => none) 3 (some (.c (.ref 0 2 0 0)))), (upd (upd (fun _ => none) 0 (some (.bld 99 zout1 1 out1.length))) 1 (bufB zout1 5 out1)), 2⟩ → Q (.exit 0) s)
    (hr : ∀ s, Ends a14.results 0 (url_Encode_post o) .ret s → Q .ret s) :
    Sv Tryd.prog (GG mL) 0 a14_c0 Q ⟨(upd (upd (upd (upd (fun _ => none) 0 (some (S s_))) 3 (some (.c (.ref 0 2 0 0)))) 6 (some (I (s_.length : Int)))) 7 (some (I v7))), (upd (upd (fun _ => none) 0 (some (.bld 99 zout2 1 out2.length))) 1 (bufB zout2 5 out2)), 2⟩ := by
  unfold url_Encode_j3 at h
  refine Sv.region ?_
  refine un (a1 (v := (I (wi (v7 + 1)))) rfl ?_)
  refine un (a1 rfl ?_)
  refine dnil ?_
  exact hself out2 (wi (v7 + 1)) zout2 hzout2 h _ (weak_canon [0, 1] rfl (by decide) (by decide) (fun b h => absurd h (Nat.not_lt_zero _)) (.cons rfl (avAs_free rfl) (.cons rfl (avAs_free rfl) (.cons rfl (.c (.ref rfl (by decide))) (.cons rfl (avAs_free rfl) .nil)))) (.buf (by decide) rfl (.box (by decide) rfl (.bld rfl (by decide)) .nil)))
noncomputable def url_Encode_l0 (s_ : (List UInt8)) (K0_ : (List UInt8) → Option (List UInt8)) : Nat → (List UInt8) → Int → Option (List UInt8)
  | 0, _, _ => none
  | k + 1, out, v7 =>
    if decide (v7 < (s_.length : Int)) then
      (at? s_ v7).bind fun c_ =>
      (url_plain (c_.toNat : Int)).bind fun r_ =>
      if r_ then
        (at? s_ v7).bind fun c_1 =>
        (strings_Builder_WriteByte out (c_1.toNat : Int)).bind fun r_1 =>
        url_Encode_j3 v7 s_ (url_Encode_l0 s_ K0_ k) K0_ r_1
      else
        (at? s_ v7).bind fun c_2 =>
        (url_triple (c_2.toNat : Int)).bind fun r_2 =>
        (strings_Builder_WriteString out r_2).bind fun r_3 =>
        url_Encode_j3 v7 s_ (url_Encode_l0 s_ K0_ k) K0_ r_3
    else
      K0_ out
theorem url_Encode_l0_ok {mL : Int} {Q : AExit → St → Prop} {s_ : (List UInt8)} {K0_ : (List UInt8) → Option (List UInt8)} {k : Nat} {out : (List UInt8)} {v7 : Int} {zout : Bool} (hzout : zout = true → out = []) {o : (List UInt8)} (h : url_Encode_l0 s_ K0_ k out v7 = some o)
    (hK0 : ∀ (out1 : (List UInt8)) (zout1 : Bool) (_ : zout1 = true → out1 = []), K0_ out1 = some o → ∀ s, Weak 0 s ⟨(upd (fun _ => none) 3 (some (.c (.ref 0 2 0 0)))), (upd (upd (fun _ => none) 0 (some (.bld 99 zout1 1 out1.length))) 1 (bufB zout1 5 out1)), 2⟩ → Q (.exit 0) s)
    (hr : ∀ s, Ends a14.results 0 (url_Encode_post o) .ret s → Q .ret s) :
    Sv Tryd.prog (GG mL) 0 (.loop a14_c1) Q ⟨(upd (upd (upd (upd (fun _ => none) 0 (some (S s_))) 3 (some (.c (.ref 0 2 0 0)))) 6 (some (I (s_.length : Int)))) 7 (some (I v7))), (upd (upd (fun _ => none) 0 (some (.bld 99 zout 1 out.length))) 1 (bufB zout 5 out)), 2⟩ := by
  refine Sv.loop (I := fun k s => ∃ (out : (List UInt8)), ∃ (v7 : Int), ∃ (zout : Bool), (zout = true → out = []) ∧ url_Encode_l0 s_ K0_ k out v7 = some o ∧ s = ⟨(upd (upd (upd (upd (fun _ => none) 0 (some (S s_))) 3 (some (.c (.ref 0 2 0 0)))) 6 (some (I (s_.length : Int)))) 7 (some (I v7))), (upd (upd (fun _ => none) 0 (some (.bld 99 zout 1 out.length))) 1 (bufB zout 5 out)), 2⟩) (fun k s hI => ?_) ⟨out, v7, zout, hzout, h, rfl⟩
  clear h
  clear hzout zout v7 out
  obtain ⟨out, v7, zout, hzout, h, rfl⟩ := hI
  cases k with
  | zero => cases h
  | succ k =>
  rw [url_Encode_l0] at h
  have hself : ∀ (out : (List UInt8)) (v7 : Int) (zout : Bool) (_ : zout = true → out = []), (url_Encode_l0 s_ K0_ k) out v7 = some o → ∀ s, Weak 0 s ⟨(upd (upd (upd (upd (fun _ => none) 0 (some (S s_))) 3 (some (.c (.ref 0 2 0 0)))) 6 (some (I (s_.length : Int)))) 7 (some (I v7))), (upd (upd (fun _ => none) 0 (some (.bld 99 zout 1 out.length))) 1 (bufB zout 5 out)), 2⟩ → (AThen (fun s' => ∃ s'' k', Weak 0 s' s'' ∧ k' < k + 1 ∧ (fun k s => ∃ (out : (List UInt8)), ∃ (v7 : Int), ∃ (zout : Bool), (zout = true → out = []) ∧ url_Encode_l0 s_ K0_ k out v7 = some o ∧ s = ⟨(upd (upd (upd (upd (fun _ => none) 0 (some (S s_))) 3 (some (.c (.ref 0 2 0 0)))) 6 (some (I (s_.length : Int)))) 7 (some (I v7))), (upd (upd (fun _ => none) 0 (some (.bld 99 zout 1 out.length))) 1 (bufB zout 5 out)), 2⟩) k' s'') Q) .normal s := fun out v7 zout hzout h s hw => ⟨_, k, hw, Nat.lt_succ_self k, out, v7, zout, hzout, h, rfl⟩
  refine Sv.seq ?_
  refine Sv.region ?_
  refine un (a1 (v := (B (decide (v7 < (s_.length : Int))))) rfl ?_)
  refine dnil ?_
  refine Sv.seq ?_
  refine Sv.cond (b := decide (v7 < (s_.length : Int))) rfl (fun hc1 => ?_) (fun hc1 => ?_)
  · replace h := ifT hc1 h
    refine Sv.skip ?_
    refine Sv.seq ?_
    refine Sv.block ?_
    refine Sv.seq ?_
    refine Sv.region ?_
    refine un (a1 rfl ?_)
    refine un (a1 rfl ?_)
    refine dnil ?_
    refine Sv.seq ?_
    refine Sv.region ?_
    refine un (a1 rfl ?_)
    refine un (a1 rfl ?_)
    obtain ⟨c_, hx1, h⟩ := bnd h
    refine un (a1 (v := (.c (.val (.int .u8 (c_.toNat : Int))))) (s_idxS rfl rfl hx1) ?_)
    obtain ⟨r_, hr1, h⟩ := bnd h
    refine un (ac_pure (url_plain_ok hr1) rfl rfl rfl ?_)
    refine dnil ?_
    refine Sv.cond (b := r_) rfl (fun hc2 => ?_) (fun hc2 => ?_)
    · replace h := ifT hc2 h
      refine Sv.region ?_
      refine un (a1 rfl ?_)
      refine un (a1 rfl ?_)
      obtain ⟨c_1, hx2, h⟩ := bnd h
      refine un (a1 (v := (.c (.val (.int .u8 (c_1.toNat : Int))))) (s_idxS rfl rfl hx2) ?_)
      obtain ⟨r_1, hr2, h⟩ := bnd h
      refine un (ac_gen (bs := [0, 1]) («as» := [(.c (.ref 0 2 0 0)), (.c (.val (.int .u8 (c_1.toNat : Int))))]) (h2 := _) (h1 := (upd (upd (fun _ => none) 0 (some (.bld 99 zout 1 out.length))) 1 (bufB zout 5 out))) (strings_Builder_WriteByte_ok (z := zout) (l := out) hzout hr2) rfl (.cons (.c (.ref rfl (by decide))) (.cons (avAs_free rfl) .nil)) (hsub_refl _) (.cons rfl (.cons rfl (.nil _))) (fun h => by cases h) (by decide) (by decide) (.cons (.c (.ref rfl (by decide))) (.cons (avAs_free rfl) .nil)) (.buf (by decide) rfl (.box (by decide) rfl (.bld rfl (by decide)) .nil)) ?_)
      rintro _ _ _ hn ⟨z_, hz_, rfl, rfl, rfl⟩
      refine ⟨.inl rfl, (upd (upd (rem [0, 1] _) 0 (some (.bld 99 z_ 2 r_1.length))) 2 (bufB z_ 5 r_1)), fun hbd => (m3_cons (m3_buf rfl) (m3_cons (m3_box rfl rfl) (m3_rem (in_cons (by decide) (in_cons (by decide) (in_nil _))) (.cons (by decide) (.cons (by decide) .nil)) hbd))), (.c (.val .nilIface)), 3, (by cases z_ <;> rfl), rfl, ?_⟩
      refine dnil ?_
      exact Sv.weak (weak_canon [0, 2] rfl (by decide) (by decide) (fun b h => absurd h (Nat.not_lt_zero _)) (.cons rfl (avAs_free rfl) (.cons rfl (avAs_free rfl) (.cons rfl (.c (.ref rfl (by decide))) (.cons rfl (avAs_free rfl) .nil)))) (.buf (by decide) rfl (.box (by decide) rfl (.bld rfl (by decide)) .nil))) (url_Encode_j3_ok hz_ h hself hK0 hr)
    · replace h := ifF hc2 h
      refine Sv.region ?_
      refine un (a1 rfl ?_)
      refine un (a1 rfl ?_)
      obtain ⟨c_2, hx3, h⟩ := bnd h
      refine un (a1 (v := (.c (.val (.int .u8 (c_2.toNat : Int))))) (s_idxS rfl rfl hx3) ?_)
      obtain ⟨r_2, hr3, h⟩ := bnd h
      refine un (ac_pure (url_triple_ok hr3) rfl rfl rfl ?_)
      obtain ⟨r_3, hr4, h⟩ := bnd h
      refine un (ac_gen (bs := [0, 1]) («as» := [(.c (.ref 0 2 0 0)), (S r_2)]) (h2 := _) (h1 := (upd (upd (fun _ => none) 0 (some (.bld 99 zout 1 out.length))) 1 (bufB zout 5 out))) (strings_Builder_WriteString_ok (z := zout) (l := out) hzout hr4) rfl (.cons (.c (.ref rfl (by decide))) (.cons (avAs_free rfl) .nil)) (hsub_refl _) (.cons rfl (.cons rfl (.nil _))) (fun h => by cases h) (by decide) (by decide) (.cons (.c (.ref rfl (by decide))) (.cons (avAs_free rfl) .nil)) (.buf (by decide) rfl (.box (by decide) rfl (.bld rfl (by decide)) .nil)) ?_)
      rintro _ _ _ hn ⟨z_1, hz_1, rfl, rfl, rfl⟩
      refine ⟨.inl rfl, (upd (upd (rem [0, 1] _) 0 (some (.bld 99 z_1 2 r_3.length))) 2 (bufB z_1 5 r_3)), fun hbd => (m3_cons (m3_buf rfl) (m3_cons (m3_box rfl rfl) (m3_rem (in_cons (by decide) (in_cons (by decide) (in_nil _))) (.cons (by decide) (.cons (by decide) .nil)) hbd))), (.tup [(I (r_2.length : Int)), (.c (.val .nilIface))]), 3, (by cases z_1 <;> rfl), rfl, ?_⟩
      refine dnil ?_
      exact Sv.weak (weak_canon [0, 2] rfl (by decide) (by decide) (fun b h => absurd h (Nat.not_lt_zero _)) (.cons rfl (avAs_free rfl) (.cons rfl (avAs_free rfl) (.cons rfl (.c (.ref rfl (by decide))) (.cons rfl (avAs_free rfl) .nil)))) (.buf (by decide) rfl (.box (by decide) rfl (.bld rfl (by decide)) .nil))) (url_Encode_j3_ok hz_1 h hself hK0 hr)
  · replace h := ifF hc1 h
    refine Sv.exit ?_
    exact hK0 out zout hzout h _ (weak_canon [0, 1] rfl (by decide) (by decide) (fun b h => absurd h (Nat.not_lt_zero _)) (.cons rfl (.c (.ref rfl (by decide))) .nil) (.buf (by decide) rfl (.box (by decide) rfl (.bld rfl (by decide)) .nil)))
/-- clerestory/url.Encode -/
noncomputable def url_Encode (s_ : (List UInt8)) : Option (List UInt8) :=
  lim fun kk => url_Encode_l0 s_ (fun (out1 : (List UInt8)) => 
      some out1) kk ([] : List UInt8) 0
theorem url_Encode_ok {mL : Int} {s_ : (List UInt8)} {r : (List UInt8)} (h : url_Encode s_ = some r) : CPure Tryd.prog (GG mL) 14 [(S s_)] (S r) := by
  refine acalls_of_sv hmix c14 (R := url_Encode_post r) ?_
  unfold url_Encode at h
  refine Sv.seq ?_
  refine Sv.region ?_
  refine un (a1 rfl ?_)
  refine dnil ?_
  refine Sv.seq ?_
  refine Sv.region ?_
  refine un (a2v (v := (.c (.ref 1 2 0 0))) (h' := upd _ 1 (some (.bld 99 true 0 ([] : List UInt8).length))) (n' := 2) rfl rfl (fun h => by cases h) ?_)
  refine dnil ?_
  refine Sv.seq ?_
  refine Sv.seq ?_
  refine Sv.region ?_
  refine un (a1 rfl ?_)
  refine un (a1 (v := (I (s_.length : Int))) rfl ?_)
  refine un (a1 rfl ?_)
  refine dnil ?_
  refine Sv.block ?_
  obtain ⟨kk, h⟩ := lim_some h
  refine Sv.weak (weak_canon [1, 1000] rfl (by decide) (by decide) (fun b h => absurd h (Nat.not_lt_zero _)) (.cons rfl (avAs_free rfl) (.cons rfl (avAs_free rfl) (.cons rfl (.c (.ref rfl (by decide))) (.cons rfl (avAs_free rfl) .nil)))) (.nonB (by decide) (.box (by decide) rfl (.bldN (by decide)) .nil))) (url_Encode_l0_ok (fun _ => rfl) h ?_ (fun s hs => hs))
  · intro out1 zout1 hzout1 h _ hw1
    refine Sv.weak hw1 ?_
    refine Sv.seq ?_
    refine Sv.region ?_
    refine un (ac_gen (bs := [0, 1]) («as» := [(.c (.ref 0 2 0 0))]) (h2 := _) (h1 := (upd (upd (fun _ => none) 0 (some (.bld 99 zout1 1 out1.length))) 1 (bufB zout1 5 out1))) (strings_Builder_String_ok (z := zout1) (l := out1) hzout1) rfl (.cons (.c (.ref rfl (by decide))) .nil) (hsub_refl _) (.cons rfl (.cons rfl (.nil _))) (fun h => by cases h) (by decide) (by decide) (.cons (.c (.ref rfl (by decide))) .nil) (.buf (by decide) rfl (.box (by decide) rfl (.bld rfl (by decide)) .nil)) ?_)
    rintro _ _ _ hn ⟨rfl, rfl, rfl⟩
    refine ⟨.inl rfl, (rem [0, 1] _), fun hbd => (m3_rem (in_cons (by decide) (in_cons (by decide) (in_nil _))) (.nil) hbd), (S out1), 2, rfl, rfl, ?_⟩
    refine un (a1 rfl ?_)
    refine dnil ?_
    refine Sv.ret ?_
    replace h := Option.some.inj h
    subst h
    exact ⟨_, .refl _, _, rfl, ⟨upd (fun _ => none) 0 (some (S out1)), (fun _ => none), 0⟩, (S out1), weak_canon [] rfl List.nodup_nil (Nat.le_refl _) (fun b h => absurd h (Nat.not_lt_zero _)) (.cons rfl (avAs_free rfl) .nil) .nil, rfl, rfl, rfl, rfl⟩
noncomputable abbrev strings_Contains (s_ : (List UInt8)) (substr_ : (List UInt8)) : Option Bool := contains1? s_ substr_
/-- strings.Contains, by the contract of the shelf -/
theorem strings_Contains_ok {mL : Int} {s_ : (List UInt8)} {substr_ : (List UInt8)} {r : Bool} (h : strings_Contains s_ substr_ = some r) : CPure Tryd.prog (GG mL) 98 [(S s_), (S substr_)] (B r) := contains1_ok Tryd.lays144 h
def a47 : AFunc := ⟨1, [(.tmp 2)], (.seq (.region [⟨(some 2), (.mov (.const (.c (.val (.bool false))))), none⟩])
 (.seq (.region [⟨(some 3), (.mov (.tmp 0)), none⟩, ⟨(some 4), (.bslice 1 [(.val (.int .u8 0))] 1 [(0, (.tmp 3))]), none⟩, ⟨(some 5), (.ofBytes (.tmp 4)), none⟩, ⟨(some 6), (.call 98 [(.const (.c (.str [97, 98, 99, 100, 101, 102, 103, 104, 105, 106, 107, 108, 109, 110, 111, 112, 113, 114, 115, 116, 117, 118, 119, 120, 121, 122, 65, 66, 67, 68, 69, 70, 71, 72, 73, 74, 75, 76, 77, 78, 79, 80, 81, 82, 83, 84, 85, 86, 87, 88, 89, 90, 48, 49, 50, 51, 52, 53, 54, 55, 56, 57, 45, 46, 95, 126]))), (.tmp 5)]), none⟩, ⟨(some 7), (.mov (.tmp 6)), none⟩, ⟨(some 8), (.mov (.tmp 0)), (some (7, true))⟩, ⟨(some 9), (.bin .lss (.tmp 8) (.const (.c (.val (.int .u8 128))))), (some (7, true))⟩, ⟨(some 10), (.pick (.tmp 7) (.tmp 9) (.const (.c (.val (.bool false))))), none⟩, ⟨(some 2), (.mov (.tmp 10)), none⟩])
 .ret))⟩
set_option maxRecDepth 100000 in
theorem c47 : compFunc Tryd.prog 47 = some a47 := by kernel_rfl
def clerestoryref4_isPlain_post (r : Bool) : AV → Heap → Nat → Prop := fun v h' n' => v = (B r) ∧ (h' = (fun _ => none)) ∧ n' = 0
/-- clerestory/clerestoryref4.isPlain -/
noncomputable def clerestoryref4_isPlain (c_ : Int) : Option Bool :=
  (strings_Contains [97, 98, 99, 100, 101, 102, 103, 104, 105, 106, 107, 108, 109, 110, 111, 112, 113, 114, 115, 116, 117, 118, 119, 120, 121, 122, 65, 66, 67, 68, 69, 70, 71, 72, 73, 74, 75, 76, 77, 78, 79, 80, 81, 82, 83, 84, 85, 86, 87, 88, 89, 90, 48, 49, 50, 51, 52, 53, 54, 55, 56, 57, 45, 46, 95, 126] (byts [c_])).bind fun r_ =>
  some (r_ && (decide (c_ < 128)))
theorem clerestoryref4_isPlain_ok {mL : Int} {c_ : Int} {r : Bool} (h : clerestoryref4_isPlain c_ = some r) : CPure Tryd.prog (GG mL) 47 [(.c (.val (.int .u8 c_)))] (B r) := by
  refine acalls_of_sv hmix c47 (R := clerestoryref4_isPlain_post r) ?_
  unfold clerestoryref4_isPlain at h
  refine Sv.seq ?_
  refine Sv.region ?_
  refine un (a1 rfl ?_)
  refine dnil ?_
  refine Sv.seq ?_
  refine Sv.region ?_
  refine un (a1 rfl ?_)
  refine un (a2v (v := (lstV false 0 1 [c_].length)) (h' := upd _ 0 (lstB false 1 ([c_].map (eK .u8)))) (n' := 1) rfl rfl (fun h => by cases h) ?_)
  refine un (a1 (v := (S (byts [c_]))) (s_ofBytes (xs := [c_]) rfl (slc_lst rfl (List.length_map _).symm (map_nil_of (fun h => by cases h)))) ?_)
  obtain ⟨r_, hr1, h⟩ := bnd h
  refine un (ac_pure (strings_Contains_ok hr1) rfl rfl rfl ?_)
  refine un (a1 rfl ?_)
  refine gjoin 3 (d := 10) (v := (B (r_ && (decide (c_ < 128))))) (fun X hX => ?_) ?_
  · refine split2 (fun hc1 => ?_) (fun hc1 => ?_)
    · refine gt rfl (a1 rfl ?_)
      refine gt rfl (a1 (v := (B (decide (c_ < 128)))) rfl ?_)
      refine un (a1 (v := (B (decide (c_ < 128)))) rfl ?_)
      refine dnil ?_
      exact hX _ (.putEq (by rw [hc1]; rfl) (.skip _ _ (.skip _ _ (.putEq (by rw [hc1]) (.refl _)) rfl) rfl))
    · refine gs rfl rfl ?_
      refine gs rfl rfl ?_
      refine un (a1 (v := (B false)) rfl ?_)
      refine dnil ?_
      exact hX _ (.putEq (by rw [hc1]; rfl) (.skip _ _ (.skip _ _ (.putEq (by rw [hc1]) (.refl _)) rfl) rfl))
  refine un (a1 rfl ?_)
  refine dnil ?_
  refine Sv.ret ?_
  replace h := Option.some.inj h
  subst h
  exact ⟨_, .refl _, _, rfl, ⟨upd (fun _ => none) 0 (some (B (r_ && (decide (c_ < 128))))), (fun _ => none), 0⟩, (B (r_ && (decide (c_ < 128)))), weak_canon [] rfl List.nodup_nil (Nat.le_refl _) (fun b h => absurd h (Nat.not_lt_zero _)) (.cons rfl (avAs_free rfl) .nil) .nil, rfl, rfl, rfl, rfl⟩
def a15_c0 : ACode := (.region [⟨(some 39), (.bin .add (.tmp 10) (.const (.c (.val (.int .i64 1))))), none⟩, ⟨(some 10), (.mov (.tmp 39)), none⟩])
def a15_c1 : ACode := (.seq (.region [⟨(some 11), (.bin .lss (.tmp 10) (.tmp 9)), none⟩])
 (.seq (.cond (.tmp 11) .skip (.exit 0))
 (.seq (.block 1 (.seq (.region [⟨(some 12), (.iaddr 1 (.tmp 8) (.tmp 10)), none⟩, ⟨(some 13), (.load false 1 (.tmp 12)), none⟩, ⟨(some 5), (.mov (.tmp 13)), none⟩])
 (.seq (.region [⟨(some 14), (.mov (.tmp 5)), none⟩, ⟨(some 15), (.call 47 [(.tmp 14)]), none⟩])
 (.cond (.tmp 15) (.region [⟨(some 16), (.mov (.tmp 3)), none⟩, ⟨(some 17), (.mov (.tmp 5)), none⟩, ⟨(some 18), (.bslice 1 [(.val (.int .u8 0))] 1 [(0, (.tmp 17))]), none⟩, ⟨(some 19), (.ofBytes (.tmp 18)), none⟩, ⟨(some 20), (.bin .add (.tmp 16) (.tmp 19)), none⟩, ⟨(some 3), (.mov (.tmp 20)), none⟩]) (.seq (.region [⟨(some 6), (.mov (.const (.c (.str [48, 49, 50, 51, 52, 53, 54, 55, 56, 57, 65, 66, 67, 68, 69, 70])))), none⟩])
 (.drawn (.fin [(⟨(some 21), (.mov (.tmp 3)), none⟩, (0, 0)), (⟨(some 22), (.mov (.tmp 6)), none⟩, (0, 1)), (⟨(some 23), (.mov (.tmp 5)), none⟩, (0, 2)), (⟨(some 24), (.bin .quo (.tmp 23) (.const (.c (.val (.int .u8 16))))), none⟩, (0, 3)), (⟨(some 25), (.mov (.tmp 5)), none⟩, (0, 4)), (⟨(some 26), (.bin .quo (.tmp 25) (.const (.c (.val (.int .u8 16))))), none⟩, (0, 5)), (⟨(some 27), (.bin .add (.tmp 26) (.const (.c (.val (.int .u8 1))))), none⟩, (0, 6)), (⟨(some 28), (.slStr (.tmp 22) (some (.tmp 24)) (some (.tmp 27))), none⟩, (0, 7)), (⟨(some 29), (.bin .add (.const (.c (.str [37]))) (.tmp 28)), none⟩, (0, 8)), (⟨(some 30), (.mov (.tmp 6)), none⟩, (0, 9)), (⟨(some 31), (.mov (.tmp 5)), none⟩, (0, 10)), (⟨(some 32), (.bin .rem (.tmp 31) (.const (.c (.val (.int .u8 16))))), none⟩, (0, 11)), (⟨(some 33), (.mov (.tmp 5)), none⟩, (0, 12)), (⟨(some 34), (.bin .rem (.tmp 33) (.const (.c (.val (.int .u8 16))))), none⟩, (0, 13)), (⟨(some 35), (.bin .add (.tmp 34) (.const (.c (.val (.int .u8 1))))), none⟩, (0, 14)), (⟨(some 36), (.slStr (.tmp 30) (some (.tmp 32)) (some (.tmp 35))), none⟩, (0, 15)), (⟨(some 37), (.bin .add (.tmp 29) (.tmp 36)), none⟩, (0, 16)), (⟨(some 38), (.bin .add (.tmp 21) (.tmp 37)), none⟩, (0, 17)), (⟨(some 3), (.mov (.tmp 38)), none⟩, (0, 18))])))))))
 a15_c0)))
def a15 : AFunc := ⟨1, [(.tmp 2)], (.seq (.region [⟨(some 2), (.mov (.const (.c (.str [])))), none⟩])
 (.seq (.region [⟨(some 3), (.mov (.const (.c (.str [])))), none⟩])
 (.seq (.seq (.region [⟨(some 7), (.mov (.tmp 0)), none⟩, ⟨(some 8), (.toBytes (.tmp 7)), none⟩, ⟨(some 9), (.len (.tmp 8)), none⟩, ⟨(some 10), (.mov (.const (.c (.val (.int .i64 0))))), none⟩])
 (.block 0 (.loop a15_c1)))
 (.seq (.region [⟨(some 40), (.mov (.tmp 3)), none⟩, ⟨(some 2), (.mov (.tmp 40)), none⟩])
 .ret))))⟩
set_option maxRecDepth 100000 in
theorem c15 : compFunc Tryd.prog 15 = some a15 := by kernel_rfl
def clerestoryref4_Encoded_post (r : (List UInt8)) : AV → Heap → Nat → Prop := fun v h' n' => v = (S r) ∧ (h' = (fun _ => none)) ∧ n' = 0
noncomputable def clerestoryref4_Encoded_j3 (v10 : Int) (s_ : (List UInt8)) (self : (List UInt8) → (List Int) → Int → Option (List UInt8)) (K0_ : (List UInt8) → Option (List UInt8)) (out2 : (List UInt8)) (v81 : (List Int)) : Option (List UInt8) :=
  self out2 v81 (wi (v10 + 1))
theorem clerestoryref4_Encoded_j3_ok {mL : Int} {Q : AExit → St → Prop} {v10 : Int} {s_ : (List UInt8)} {self : (List UInt8) → (List Int) → Int → Option (List UInt8)} {K0_ : (List UInt8) → Option (List UInt8)} {out2 : (List UInt8)} {v81 : (List Int)} {zv81 : Bool} (hzv81 : zv81 = true → v81 = []) {o : (List UInt8)} (h : clerestoryref4_Encoded_j3 v10 s_ self K0_ out2 v81 = some o)
    (hself : ∀ (out : (List UInt8)) (v8 : (List Int)) (v10 : Int) (zv8 : Bool) (_ : zv8 = true → v8 = []), self out v8 v10 = some o → ∀ s, Weak 0 s ⟨(upd (upd (upd (upd (fun _ => none) 3 (some (S out))) 8 (some (lstV zv8 0 1 v8.length))) 9 (some (I ((ints s_).length : Int)))) 10 (some (I v10))), (upd (fun _ => none) 0 (lstB zv8 1 (v8.map (eK .u8)))), 1⟩ → (Q) .normal s)
    (hK0 : ∀ (out1 : (List UInt8)), K0_ out1 = some o → ∀ s, Weak 0 s ⟨(upd (fun _ => none) 3 (some (S out1))), (fun _ => none), 0⟩ → Q (.exit 0) s)
    (hr : ∀ s, Ends a15.results 0 (clerestoryref4_Encoded_post o) .ret s → Q .ret s) :
    Sv Tryd.prog (GG mL) 0 a15_c0 Q ⟨(upd (upd (upd (upd (fun _ => none) 3 (some (S out2))) 8 (some (lstV zv81 0 1 v81.length))) 9 (some (I ((ints s_).length : Int)))) 10 (some (I v10))), (upd (fun _ => none) 0 (lstB zv81 1 (v81.map (eK .u8)))), 1⟩ := by
  unfold clerestoryref4_Encoded_j3 at h
  refine Sv.region ?_
  refine un (a1 (v := (I (wi (v10 + 1)))) rfl ?_)
  refine un (a1 rfl ?_)
  refine dnil ?_
  exact hself out2 v81 (wi (v10 + 1)) zv81 hzv81 h _ (weak_canon [0] rfl (by decide) (by decide) (fun b h => absurd h (Nat.not_lt_zero _)) (.cons rfl (avAs_free rfl) (.cons rfl (avAs_free rfl) (.cons rfl (.c (lstC_ren rfl (by decide))) (.cons rfl (avAs_free rfl) .nil)))) (.row (by decide) rfl (fr_map fun _ => rfl) .nil))
noncomputable def clerestoryref4_Encoded_l0 (s_ : (List UInt8)) (K0_ : (List UInt8) → Option (List UInt8)) : Nat → (List UInt8) → (List Int) → Int → Option (List UInt8)
  | 0, _, _, _ => none
  | k + 1, out, v8, v10 =>
    if decide (v10 < ((ints s_).length : Int)) then
      (at? v8 v10).bind fun x_ =>
      (clerestoryref4_isPlain x_).bind fun r_ =>
      if r_ then
        (cat? out (byts [x_])).bind fun r_1 =>
        clerestoryref4_Encoded_j3 v10 s_ (clerestoryref4_Encoded_l0 s_ K0_ k) K0_ r_1 v8
      else
        (sub? [48, 49, 50, 51, 52, 53, 54, 55, 56, 57, 65, 66, 67, 68, 69, 70] (wr .u8 (x_.tdiv 16)) (wr .u8 ((wr .u8 (x_.tdiv 16)) + 1))).bind fun r_2 =>
        (cat? [37] r_2).bind fun r_3 =>
        (sub? [48, 49, 50, 51, 52, 53, 54, 55, 56, 57, 65, 66, 67, 68, 69, 70] (x_.tmod 16) (wr .u8 ((x_.tmod 16) + 1))).bind fun r_4 =>
        (cat? r_3 r_4).bind fun r_5 =>
        (cat? out r_5).bind fun r_6 =>
        clerestoryref4_Encoded_j3 v10 s_ (clerestoryref4_Encoded_l0 s_ K0_ k) K0_ r_6 v8
    else
      K0_ out
theorem clerestoryref4_Encoded_l0_ok {mL : Int} {Q : AExit → St → Prop} {s_ : (List UInt8)} {K0_ : (List UInt8) → Option (List UInt8)} {k : Nat} {out : (List UInt8)} {v8 : (List Int)} {v10 : Int} {zv8 : Bool} (hzv8 : zv8 = true → v8 = []) {o : (List UInt8)} (h : clerestoryref4_Encoded_l0 s_ K0_ k out v8 v10 = some o)
    (hK0 : ∀ (out1 : (List UInt8)), K0_ out1 = some o → ∀ s, Weak 0 s ⟨(upd (fun _ => none) 3 (some (S out1))), (fun _ => none), 0⟩ → Q (.exit 0) s)
    (hr : ∀ s, Ends a15.results 0 (clerestoryref4_Encoded_post o) .ret s → Q .ret s) :
    Sv Tryd.prog (GG mL) 0 (.loop a15_c1) Q ⟨(upd (upd (upd (upd (fun _ => none) 3 (some (S out))) 8 (some (lstV zv8 0 1 v8.length))) 9 (some (I ((ints s_).length : Int)))) 10 (some (I v10))), (upd (fun _ => none) 0 (lstB zv8 1 (v8.map (eK .u8)))), 1⟩ := by
  refine Sv.loop (I := fun k s => ∃ (out : (List UInt8)), ∃ (v8 : (List Int)), ∃ (v10 : Int), ∃ (zv8 : Bool), (zv8 = true → v8 = []) ∧ clerestoryref4_Encoded_l0 s_ K0_ k out v8 v10 = some o ∧ s = ⟨(upd (upd (upd (upd (fun _ => none) 3 (some (S out))) 8 (some (lstV zv8 0 1 v8.length))) 9 (some (I ((ints s_).length : Int)))) 10 (some (I v10))), (upd (fun _ => none) 0 (lstB zv8 1 (v8.map (eK .u8)))), 1⟩) (fun k s hI => ?_) ⟨out, v8, v10, zv8, hzv8, h, rfl⟩
  clear h
  clear hzv8 zv8 v10 v8 out
  obtain ⟨out, v8, v10, zv8, hzv8, h, rfl⟩ := hI
  cases k with
  | zero => cases h
  | succ k =>
  rw [clerestoryref4_Encoded_l0] at h
  have hself : ∀ (out : (List UInt8)) (v8 : (List Int)) (v10 : Int) (zv8 : Bool) (_ : zv8 = true → v8 = []), (clerestoryref4_Encoded_l0 s_ K0_ k) out v8 v10 = some o → ∀ s, Weak 0 s ⟨(upd (upd (upd (upd (fun _ => none) 3 (some (S out))) 8 (some (lstV zv8 0 1 v8.length))) 9 (some (I ((ints s_).length : Int)))) 10 (some (I v10))), (upd (fun _ => none) 0 (lstB zv8 1 (v8.map (eK .u8)))), 1⟩ → (AThen (fun s' => ∃ s'' k', Weak 0 s' s'' ∧ k' < k + 1 ∧ (fun k s => ∃ (out : (List UInt8)), ∃ (v8 : (List Int)), ∃ (v10 : Int), ∃ (zv8 : Bool), (zv8 = true → v8 = []) ∧ clerestoryref4_Encoded_l0 s_ K0_ k out v8 v10 = some o ∧ s = ⟨(upd (upd (upd (upd (fun _ => none) 3 (some (S out))) 8 (some (lstV zv8 0 1 v8.length))) 9 (some (I ((ints s_).length : Int)))) 10 (some (I v10))), (upd (fun _ => none) 0 (lstB zv8 1 (v8.map (eK .u8)))), 1⟩) k' s'') Q) .normal s := fun out v8 v10 zv8 hzv8 h s hw => ⟨_, k, hw, Nat.lt_succ_self k, out, v8, v10, zv8, hzv8, h, rfl⟩
  refine Sv.seq ?_
  refine Sv.region ?_
  refine un (a1 (v := (B (decide (v10 < ((ints s_).length : Int))))) rfl ?_)
  refine dnil ?_
  refine Sv.seq ?_
  refine Sv.cond (b := decide (v10 < ((ints s_).length : Int))) rfl (fun hc1 => ?_) (fun hc1 => ?_)
  · replace h := ifT hc1 h
    refine Sv.skip ?_
    refine Sv.seq ?_
    refine Sv.block ?_
    refine Sv.seq ?_
    refine Sv.region ?_
    obtain ⟨x_, hx1, h⟩ := bnd h
    refine un (a1 (v := (.c (.ref 0 1 v10.toNat 0))) (s_iaddrL rfl rfl hzv8 hx1) ?_)
    refine un (a1 (v := (.c (.val (.int .u8 x_)))) (s_loadL (z := zv8) (e := (eK .u8)) rfl rfl hzv8 hx1 rfl rfl) ?_)
    refine un (a1 rfl ?_)
    refine dnil ?_
    refine Sv.seq ?_
    refine Sv.region ?_
    refine un (a1 rfl ?_)
    obtain ⟨r_, hr1, h⟩ := bnd h
    refine un (ac_pure (clerestoryref4_isPlain_ok hr1) rfl rfl rfl ?_)
    refine dnil ?_
    refine Sv.cond (b := r_) rfl (fun hc2 => ?_) (fun hc2 => ?_)
    · replace h := ifT hc2 h
      refine Sv.region ?_
      refine un (a1 rfl ?_)
      refine un (a1 rfl ?_)
      refine un (a2v (v := (lstV false 1 1 [x_].length)) (h' := upd _ 1 (lstB false 1 ([x_].map (eK .u8)))) (n' := 2) rfl rfl (fun h => by cases h) ?_)
      refine un (a1 (v := (S (byts [x_]))) (s_ofBytes (xs := [x_]) rfl (slc_lst rfl (List.length_map _).symm (map_nil_of (fun h => by cases h)))) ?_)
      obtain ⟨r_1, hx2, h⟩ := bnd h
      refine un (a1 (v := (S r_1)) (s_cat rfl rfl hx2) ?_)
      refine un (a1 rfl ?_)
      refine dnil ?_
      exact Sv.weak (weak_canon [0] rfl (by decide) (by decide) (fun b h => absurd h (Nat.not_lt_zero _)) (.cons rfl (avAs_free rfl) (.cons rfl (avAs_free rfl) (.cons rfl (.c (lstC_ren rfl (by decide))) (.cons rfl (avAs_free rfl) .nil)))) (.row (by decide) rfl (fr_map fun _ => rfl) .nil)) (clerestoryref4_Encoded_j3_ok hzv8 h hself hK0 hr)
    · replace h := ifF hc2 h
      refine Sv.seq ?_
      refine Sv.region ?_
      refine un (a1 rfl ?_)
      refine dnil ?_
      refine Sv.drawn ?_
      refine un (a1 rfl ?_)
      refine un (a1 rfl ?_)
      refine un (a1 rfl ?_)
      refine un (a1 (v := (.c (.val (.int .u8 (wr .u8 (x_.tdiv 16)))))) rfl ?_)
      refine un (a1 rfl ?_)
      refine un (a1 (v := (.c (.val (.int .u8 (wr .u8 (x_.tdiv 16)))))) rfl ?_)
      refine un (a1 (v := (.c (.val (.int .u8 (wr .u8 ((wr .u8 (x_.tdiv 16)) + 1)))))) rfl ?_)
      obtain ⟨r_2, hx3, h⟩ := bnd h
      refine un (a1 (v := (S r_2)) (s_slStr rfl rfl rfl hx3) ?_)
      obtain ⟨r_3, hx4, h⟩ := bnd h
      refine un (a1 (v := (S r_3)) (s_cat rfl rfl hx4) ?_)
      refine un (a1 rfl ?_)
      refine un (a1 rfl ?_)
      refine un (a1 (v := (.c (.val (.int .u8 (x_.tmod 16))))) rfl ?_)
      refine un (a1 rfl ?_)
      refine un (a1 (v := (.c (.val (.int .u8 (x_.tmod 16))))) rfl ?_)
      refine un (a1 (v := (.c (.val (.int .u8 (wr .u8 ((x_.tmod 16) + 1)))))) rfl ?_)
      obtain ⟨r_4, hx5, h⟩ := bnd h
      refine un (a1 (v := (S r_4)) (s_slStr rfl rfl rfl hx5) ?_)
      obtain ⟨r_5, hx6, h⟩ := bnd h
      refine un (a1 (v := (S r_5)) (s_cat rfl rfl hx6) ?_)
      obtain ⟨r_6, hx7, h⟩ := bnd h
      refine un (a1 (v := (S r_6)) (s_cat rfl rfl hx7) ?_)
      refine un (a1 rfl ?_)
      refine dnil ?_
      exact Sv.weak (weak_canon [0] rfl (by decide) (by decide) (fun b h => absurd h (Nat.not_lt_zero _)) (.cons rfl (avAs_free rfl) (.cons rfl (avAs_free rfl) (.cons rfl (.c (lstC_ren rfl (by decide))) (.cons rfl (avAs_free rfl) .nil)))) (.row (by decide) rfl (fr_map fun _ => rfl) .nil)) (clerestoryref4_Encoded_j3_ok hzv8 h hself hK0 hr)
  · replace h := ifF hc1 h
    refine Sv.exit ?_
    exact hK0 out h _ (weak_canon [] rfl (by decide) (by decide) (fun b h => absurd h (Nat.not_lt_zero _)) (.cons rfl (avAs_free rfl) .nil) .nil)
/-- clerestory/clerestoryref4.Encoded -/
noncomputable def clerestoryref4_Encoded (s_ : (List UInt8)) : Option (List UInt8) :=
  lim fun kk => clerestoryref4_Encoded_l0 s_ (fun (out1 : (List UInt8)) => 
      some out1) kk [] (ints s_) 0
theorem clerestoryref4_Encoded_ok {mL : Int} {s_ : (List UInt8)} {r : (List UInt8)} (h : clerestoryref4_Encoded s_ = some r) : CPure Tryd.prog (GG mL) 15 [(S s_)] (S r) := by
  refine acalls_of_sv hmix c15 (R := clerestoryref4_Encoded_post r) ?_
  unfold clerestoryref4_Encoded at h
  refine Sv.seq ?_
  refine Sv.region ?_
  refine un (a1 rfl ?_)
  refine dnil ?_
  refine Sv.seq ?_
  refine Sv.region ?_
  refine un (a1 rfl ?_)
  refine dnil ?_
  refine Sv.seq ?_
  refine Sv.seq ?_
  refine Sv.region ?_
  refine un (a1 rfl ?_)
  refine un (a2v (v := (lstV false 0 1 (ints s_).length)) (h' := upd _ 0 (lstB false 1 ((ints s_).map (eK .u8)))) (n' := 1) rfl (s_toBytes rfl) (fun h => by cases h) ?_)
  refine un (a1 (v := (I ((ints s_).length : Int))) (s_lenL rfl (len_nil_of (fun h => by cases h))) ?_)
  refine un (a1 rfl ?_)
  refine dnil ?_
  refine Sv.block ?_
  obtain ⟨kk, h⟩ := lim_some h
  refine Sv.weak (weak_canon [0] rfl (by decide) (by decide) (fun b h => absurd h (Nat.not_lt_zero _)) (.cons rfl (avAs_free rfl) (.cons rfl (avAs_free rfl) (.cons rfl (.c (lstC_ren rfl (by decide))) (.cons rfl (avAs_free rfl) .nil)))) (.row (by decide) rfl (fr_map fun _ => rfl) .nil)) (clerestoryref4_Encoded_l0_ok (fun h => by cases h) h ?_ (fun s hs => hs))
  · intro out1 h _ hw1
    refine Sv.weak hw1 ?_
    refine Sv.seq ?_
    refine Sv.region ?_
    refine un (a1 rfl ?_)
    refine un (a1 rfl ?_)
    refine dnil ?_
    refine Sv.ret ?_
    replace h := Option.some.inj h
    subst h
    exact ⟨_, .refl _, _, rfl, ⟨upd (fun _ => none) 0 (some (S out1)), (fun _ => none), 0⟩, (S out1), weak_canon [] rfl List.nodup_nil (Nat.le_refl _) (fun b h => absurd h (Nat.not_lt_zero _)) (.cons rfl (avAs_free rfl) .nil) .nil, rfl, rfl, rfl, rfl⟩
def a4 : AFunc := ⟨1, [(.tmp 2)], (.seq (.region [⟨(some 2), (.mov (.const (.c (.val (.bool false))))), none⟩])
 (.seq (.region [⟨(some 8), (.mov (.tmp 0)), none⟩, ⟨(some 9), (.call 12 [(.tmp 8)]), none⟩, ⟨(some 7), (.mov (.tmp 9)), none⟩, ⟨(some 10), (.ext (.tmp 7) 0), none⟩, ⟨(some 11), (.ext (.tmp 7) 1), none⟩, ⟨(some 3), (.mov (.tmp 10)), none⟩, ⟨(some 4), (.mov (.tmp 11)), none⟩])
 (.seq (.region [⟨(some 13), (.mov (.tmp 0)), none⟩, ⟨(some 14), (.call 13 [(.tmp 13)]), none⟩, ⟨(some 12), (.mov (.tmp 14)), none⟩, ⟨(some 15), (.ext (.tmp 12) 0), none⟩, ⟨(some 16), (.ext (.tmp 12) 1), none⟩, ⟨(some 5), (.mov (.tmp 15)), none⟩, ⟨(some 6), (.mov (.tmp 16)), none⟩])
 (.seq (.seq (.region [⟨(some 17), (.mov (.tmp 0)), none⟩, ⟨(some 18), (.call 14 [(.tmp 17)]), none⟩, ⟨(some 19), (.mov (.tmp 0)), none⟩, ⟨(some 20), (.call 15 [(.tmp 19)]), none⟩, ⟨(some 21), (.bin .neq (.tmp 18) (.tmp 20)), none⟩])
 (.cond (.tmp 21) (.seq (.region [⟨(some 2), (.mov (.const (.c (.val (.bool false))))), none⟩])
 .ret) .skip))
 (.seq (.seq (.region [⟨(some 22), (.mov (.tmp 6)), none⟩, ⟨(some 23), (.un .not (.tmp 22)), none⟩])
 (.cond (.tmp 23) (.seq (.region [⟨(some 24), (.mov (.tmp 3)), none⟩, ⟨(some 25), (.bin .eql (.tmp 24) (.const (.c (.str [])))), none⟩, ⟨(some 26), (.mov (.tmp 25)), none⟩, ⟨(some 27), (.mov (.tmp 4)), (some (26, true))⟩, ⟨(some 28), (.bin .eql (.tmp 27) (.const (.c (.val (.int .i64 3))))), (some (26, true))⟩, ⟨(some 29), (.pick (.tmp 26) (.tmp 28) (.const (.c (.val (.bool false))))), none⟩, ⟨(some 2), (.mov (.tmp 29)), none⟩])
 .ret) .skip))
 (.seq (.region [⟨(some 30), (.mov (.tmp 3)), none⟩, ⟨(some 31), (.mov (.tmp 5)), none⟩, ⟨(some 32), (.bin .eql (.tmp 30) (.tmp 31)), none⟩, ⟨(some 33), (.mov (.tmp 32)), none⟩, ⟨(some 34), (.mov (.tmp 4)), (some (33, true))⟩, ⟨(some 35), (.bin .eql (.tmp 34) (.const (.c (.val (.int .i64 0))))), (some (33, true))⟩, ⟨(some 36), (.pick (.tmp 33) (.tmp 35) (.const (.c (.val (.bool false))))), none⟩, ⟨(some 2), (.mov (.tmp 36)), none⟩])
 .ret))))))⟩
set_option maxRecDepth 100000 in
theorem c4 : compFunc Tryd.prog 4 = some a4 := by kernel_rfl
def clerestorylaw4_UrlCodes_post (r : Bool) : AV → Heap → Nat → Prop := fun v h' n' => v = (B r) ∧ (h' = (fun _ => none)) ∧ n' = 0
/-- clerestory/clerestorylaw4.UrlCodes -/
noncomputable def clerestorylaw4_UrlCodes (s_ : (List UInt8)) : Option Bool :=
  (url_Decode s_).bind fun r_ =>
  (clerestoryref4_Decoded s_).bind fun r_1 =>
  (url_Encode s_).bind fun r_2 =>
  (clerestoryref4_Encoded s_).bind fun r_3 =>
  if (!decide (r_2 = r_3)) then
    some false
  else
    if (!r_1.2) then
      some ((decide (r_.1 = [])) && (decide (r_.2 = 3)))
    else
      some ((decide (r_.1 = r_1.1)) && (decide (r_.2 = 0)))
theorem clerestorylaw4_UrlCodes_ok {mL : Int} {s_ : (List UInt8)} {r : Bool} (h : clerestorylaw4_UrlCodes s_ = some r) : CPure Tryd.prog (GG mL) 4 [(S s_)] (B r) := by
  refine acalls_of_sv hmix c4 (R := clerestorylaw4_UrlCodes_post r) ?_
  unfold clerestorylaw4_UrlCodes at h
  refine Sv.seq ?_
  refine Sv.region ?_
  refine un (a1 rfl ?_)
  refine dnil ?_
  refine Sv.seq ?_
  refine Sv.region ?_
  refine un (a1 rfl ?_)
  obtain ⟨r_, hr1, h⟩ := bnd h
  refine un (ac_pure (url_Decode_ok hr1) rfl rfl rfl ?_)
  refine un (a1 rfl ?_)
  refine un (a1 (v := (S r_.1)) rfl ?_)
  refine un (a1 (v := (I r_.2)) rfl ?_)
  refine un (a1 rfl ?_)
  refine un (a1 rfl ?_)
  refine dnil ?_
  refine Sv.seq ?_
  refine Sv.region ?_
  refine un (a1 rfl ?_)
  obtain ⟨r_1, hr2, h⟩ := bnd h
  refine un (ac_pure (clerestoryref4_Decoded_ok hr2) rfl rfl rfl ?_)
  refine un (a1 rfl ?_)
  refine un (a1 (v := (S r_1.1)) rfl ?_)
  refine un (a1 (v := (B r_1.2)) rfl ?_)
  refine un (a1 rfl ?_)
  refine un (a1 rfl ?_)
  refine dnil ?_
  refine Sv.seq ?_
  refine Sv.seq ?_
  refine Sv.region ?_
  refine un (a1 rfl ?_)
  obtain ⟨r_2, hr3, h⟩ := bnd h
  refine un (ac_pure (url_Encode_ok hr3) rfl rfl rfl ?_)
  refine un (a1 rfl ?_)
  obtain ⟨r_3, hr4, h⟩ := bnd h
  refine un (ac_pure (clerestoryref4_Encoded_ok hr4) rfl rfl rfl ?_)
  refine un (a1 (v := (B (!decide (r_2 = r_3)))) rfl ?_)
  refine dnil ?_
  refine Sv.cond (b := (!decide (r_2 = r_3))) rfl (fun hc1 => ?_) (fun hc1 => ?_)
  · replace h := ifT hc1 h
    refine Sv.seq ?_
    refine Sv.region ?_
    refine un (a1 rfl ?_)
    refine dnil ?_
    refine Sv.ret ?_
    replace h := Option.some.inj h
    subst h
    exact ⟨_, .refl _, _, rfl, ⟨upd (fun _ => none) 0 (some (B false)), (fun _ => none), 0⟩, (B false), weak_canon [] rfl List.nodup_nil (Nat.le_refl _) (fun b h => absurd h (Nat.not_lt_zero _)) (.cons rfl (avAs_free rfl) .nil) .nil, rfl, rfl, rfl, rfl⟩
  · replace h := ifF hc1 h
    refine Sv.skip ?_
    refine Sv.seq ?_
    refine Sv.seq ?_
    refine Sv.region ?_
    refine un (a1 rfl ?_)
    refine un (a1 (v := (B (!r_1.2))) rfl ?_)
    refine dnil ?_
    refine Sv.cond (b := (!r_1.2)) rfl (fun hc2 => ?_) (fun hc2 => ?_)
    · replace h := ifT hc2 h
      refine Sv.seq ?_
      refine Sv.region ?_
      refine un (a1 rfl ?_)
      refine un (a1 (v := (B (decide (r_.1 = [])))) rfl ?_)
      refine un (a1 rfl ?_)
      refine gjoin 3 (d := 29) (v := (B ((decide (r_.1 = [])) && (decide (r_.2 = 3))))) (fun X hX => ?_) ?_
      · refine split2 (fun hc3 => ?_) (fun hc3 => ?_)
        · refine gt rfl (a1 rfl ?_)
          refine gt rfl (a1 (v := (B (decide (r_.2 = 3)))) rfl ?_)
          refine un (a1 (v := (B (decide (r_.2 = 3)))) rfl ?_)
          refine dnil ?_
          exact hX _ (.putEq (by rw [hc3]; rfl) (.skip _ _ (.skip _ _ (.putEq (by rw [hc3]) (.refl _)) rfl) rfl))
        · refine gs rfl rfl ?_
          refine gs rfl rfl ?_
          refine un (a1 (v := (B false)) rfl ?_)
          refine dnil ?_
          exact hX _ (.putEq (by rw [hc3]; rfl) (.skip _ _ (.skip _ _ (.putEq (by rw [hc3]) (.refl _)) rfl) rfl))
      refine un (a1 rfl ?_)
      refine dnil ?_
      refine Sv.ret ?_
      replace h := Option.some.inj h
      subst h
      exact ⟨_, .refl _, _, rfl, ⟨upd (fun _ => none) 0 (some (B ((decide (r_.1 = [])) && (decide (r_.2 = 3))))), (fun _ => none), 0⟩, (B ((decide (r_.1 = [])) && (decide (r_.2 = 3)))), weak_canon [] rfl List.nodup_nil (Nat.le_refl _) (fun b h => absurd h (Nat.not_lt_zero _)) (.cons rfl (avAs_free rfl) .nil) .nil, rfl, rfl, rfl, rfl⟩
    · replace h := ifF hc2 h
      refine Sv.skip ?_
      refine Sv.seq ?_
      refine Sv.region ?_
      refine un (a1 rfl ?_)
      refine un (a1 rfl ?_)
      refine un (a1 (v := (B (decide (r_.1 = r_1.1)))) rfl ?_)
      refine un (a1 rfl ?_)
      refine gjoin 3 (d := 36) (v := (B ((decide (r_.1 = r_1.1)) && (decide (r_.2 = 0))))) (fun X hX => ?_) ?_
      · refine split2 (fun hc4 => ?_) (fun hc4 => ?_)
        · refine gt rfl (a1 rfl ?_)
          refine gt rfl (a1 (v := (B (decide (r_.2 = 0)))) rfl ?_)
          refine un (a1 (v := (B (decide (r_.2 = 0)))) rfl ?_)
          refine dnil ?_
          exact hX _ (.putEq (by rw [hc4]; rfl) (.skip _ _ (.skip _ _ (.putEq (by rw [hc4]) (.refl _)) rfl) rfl))
        · refine gs rfl rfl ?_
          refine gs rfl rfl ?_
          refine un (a1 (v := (B false)) rfl ?_)
          refine dnil ?_
          exact hX _ (.putEq (by rw [hc4]; rfl) (.skip _ _ (.skip _ _ (.putEq (by rw [hc4]) (.refl _)) rfl) rfl))
      refine un (a1 rfl ?_)
      refine dnil ?_
      refine Sv.ret ?_
      replace h := Option.some.inj h
      subst h
      exact ⟨_, .refl _, _, rfl, ⟨upd (fun _ => none) 0 (some (B ((decide (r_.1 = r_1.1)) && (decide (r_.2 = 0))))), (fun _ => none), 0⟩, (B ((decide (r_.1 = r_1.1)) && (decide (r_.2 = 0)))), weak_canon [] rfl List.nodup_nil (Nat.le_refl _) (fun b h => absurd h (Nat.not_lt_zero _)) (.cons rfl (avAs_free rfl) .nil) .nil, rfl, rfl, rfl, rfl⟩
end Go.Proofs.YtagfmlkihindaaaDoorBv
