/- Printed by a program of mine (bgen.py): plain functions, and the walks that show that the code comes to what they answer. -/
import Derived.Test.YtmpdhpfimmahfaaDoorGColorOvers0
namespace Go.Proofs.YtmpdhpfimmahfaaDoorBv
open Go
set_option linter.unusedVariables false
set_option maxRecDepth 100000
def a39_c2 : ACode := (.cond (.tmp 49) (.seq (.region [⟨(some 2), (.mov (.const (.c (.val (.int .i64 0))))), none⟩, ⟨(some 3), (.mov (.const (.c (.val (.bool false))))), none⟩])
 .ret) .skip)
def a39_c4 : ACode := (.region [⟨(some 50), (.mov (.tmp 5)), none⟩, ⟨(some 51), (.bin .shl (.tmp 50) (.const (.c (.val (.int .u64 8))))), none⟩, ⟨(some 52), (.mov (.tmp 8)), none⟩, ⟨(some 53), (.bin .or (.tmp 51) (.tmp 52)), none⟩, ⟨(some 5), (.mov (.tmp 53)), none⟩])
def a39_c1 : ACode := (.seq (.region [⟨(some 30), (.mov (.tmp 7)), none⟩, ⟨(some 31), (.call 63 [(.tmp 30)]), none⟩, ⟨(some 29), (.mov (.tmp 31)), none⟩, ⟨(some 32), (.ext (.tmp 29) 0), none⟩, ⟨(some 33), (.ext (.tmp 29) 1), none⟩, ⟨(some 8), (.mov (.tmp 32)), none⟩, ⟨(some 9), (.mov (.tmp 33)), none⟩])
 (.seq (.seq (.region [⟨(some 34), (.mov (.tmp 9)), none⟩, ⟨(some 35), (.eqi true (.tmp 34)), none⟩, ⟨(some 36), (.mov (.tmp 35)), none⟩, ⟨(some 37), (.mov (.tmp 8)), (some (36, false))⟩, ⟨(some 38), (.bin .lss (.tmp 37) (.const (.c (.val (.int .i64 0))))), (some (36, false))⟩, ⟨(some 39), (.pick (.tmp 36) (.const (.c (.val (.bool true)))) (.tmp 38)), none⟩, ⟨(some 40), (.mov (.tmp 39)), none⟩, ⟨(some 41), (.mov (.tmp 8)), (some (40, false))⟩, ⟨(some 42), (.bin .gtr (.tmp 41) (.const (.c (.val (.int .i64 255))))), (some (40, false))⟩, ⟨(some 43), (.pick (.tmp 40) (.const (.c (.val (.bool true)))) (.tmp 42)), none⟩, ⟨(some 44), (.mov (.tmp 43)), none⟩, ⟨(some 45), (.mov (.tmp 8)), (some (44, false))⟩, ⟨(some 46), (.call 52 [(.tmp 45)]), (some (44, false))⟩, ⟨(some 47), (.mov (.tmp 7)), (some (44, false))⟩, ⟨(some 48), (.bin .neq (.tmp 46) (.tmp 47)), (some (44, false))⟩, ⟨(some 49), (.pick (.tmp 44) (.const (.c (.val (.bool true)))) (.tmp 48)), none⟩])
 a39_c2)
 a39_c4))
def a39_c3 : ACode := (.region [⟨(some 54), (.bin .add (.tmp 20) (.const (.c (.val (.int .i64 1))))), none⟩, ⟨(some 20), (.mov (.tmp 54)), none⟩])
def a39_c5 : ACode := (.seq (.region [⟨(some 21), (.bin .lss (.tmp 20) (.tmp 19)), none⟩])
 (.seq (.cond (.tmp 21) .skip (.exit 0))
 (.seq (.block 1 (.seq (.region [⟨(some 22), (.mov (.tmp 20)), none⟩, ⟨(some 23), (.iaddr 1 (.tmp 18) (.tmp 20)), none⟩, ⟨(some 24), (.load false 1 (.tmp 23)), none⟩, ⟨(some 6), (.mov (.tmp 22)), none⟩, ⟨(some 7), (.mov (.tmp 24)), none⟩])
 (.seq (.seq (.region [⟨(some 25), (.mov (.tmp 6)), none⟩, ⟨(some 26), (.bin .gtr (.tmp 25) (.const (.c (.val (.int .i64 0))))), none⟩])
 (.cond (.tmp 26) (.region [⟨(some 27), (.mov (.tmp 7)), none⟩, ⟨(some 28), (.call 62 [(.tmp 27), (.const (.c (.str [32])))]), none⟩, ⟨(some 7), (.mov (.tmp 28)), none⟩]) .skip))
 a39_c1)))
 a39_c3)))
def a39_c0 : ACode := (.seq (.region [⟨(some 5), (.mov (.const (.c (.val (.int .i64 0))))), none⟩])
 (.seq (.seq (.region [⟨(some 18), (.mov (.tmp 4)), none⟩, ⟨(some 19), (.len (.tmp 18)), none⟩, ⟨(some 20), (.mov (.const (.c (.val (.int .i64 0))))), none⟩])
 (.block 0 (.loop a39_c5)))
 (.seq (.region [⟨(some 55), (.mov (.tmp 5)), none⟩, ⟨(some 56), (.mov (.tmp 4)), none⟩, ⟨(some 57), (.len (.tmp 56)), none⟩, ⟨(some 58), (.bin .eql (.tmp 57) (.const (.c (.val (.int .i64 4))))), none⟩, ⟨(some 2), (.mov (.tmp 55)), none⟩, ⟨(some 3), (.mov (.tmp 58)), none⟩])
 .ret)))
def a39 : AFunc := ⟨1, [(.tmp 2), (.tmp 3)], (.seq (.region [⟨(some 2), (.mov (.const (.c (.val (.int .i64 0))))), none⟩, ⟨(some 3), (.mov (.const (.c (.val (.bool false))))), none⟩])
 (.seq (.region [⟨(some 10), (.mov (.tmp 0)), none⟩, ⟨(some 11), (.call 51 [(.tmp 10), (.const (.c (.str [44])))]), none⟩, ⟨(some 4), (.mov (.tmp 11)), none⟩])
 (.seq (.seq (.region [⟨(some 12), (.mov (.tmp 4)), none⟩, ⟨(some 13), (.len (.tmp 12)), none⟩, ⟨(some 14), (.bin .eql (.tmp 13) (.const (.c (.val (.int .i64 3))))), none⟩])
 (.cond (.tmp 14) (.region [⟨(some 15), (.mov (.tmp 4)), none⟩, ⟨(some 16), (.bslice 1 [(.str [])] 1 [(0, (.const (.c (.str [50, 53, 53]))))]), none⟩, ⟨(some 17), (.app 1 16 (.tmp 15) (.tmp 16)), none⟩, ⟨(some 4), (.mov (.tmp 17)), none⟩]) .skip))
 a39_c0)))⟩
set_option maxRecDepth 100000 in
theorem c39 : compFunc Tryd.prog 39 = some a39 := by kernel_rfl
def color_parts_post (r : (Int × Bool)) : AV → Heap → Nat → Prop := fun v h' n' => v = (.tup [(I r.1), (B r.2)]) ∧ (h' = (fun _ => none)) ∧ n' = 0
abbrev color_parts_q0 (mL : Int) (Q : AExit → St → Prop) : AExit → St → Prop := AThen (Sv Tryd.prog (GG mL) 0 a39_c3 Q) Q
abbrev color_parts_q1 (mL : Int) (Q : AExit → St → Prop) : AExit → St → Prop := ABlock 1 (color_parts_q0 mL Q)
abbrev color_parts_q2 (mL : Int) (Q : AExit → St → Prop) : AExit → St → Prop := AThen (Sv Tryd.prog (GG mL) 0 a39_c4 (color_parts_q1 mL Q)) (color_parts_q1 mL Q)
noncomputable def color_parts_j7 (c_ : Int) (r_1 : (Int × Bool)) (v20 : Int) (l_ : (List (List UInt8))) (self : (List (List UInt8)) → Int → Int → Option (Int × Bool)) (K0_ : (List (List UInt8)) → Int → Option (Int × Bool)) (l_4 : (List (List UInt8))) (v49 : Bool) : Option (Int × Bool) :=
  if v49 then
    some (0, false)
  else
    self l_4 (bitsV .or .i64 (shl .i64 c_ 8) r_1.1) (wi (v20 + 1))
theorem color_parts_j7_ok {mL : Int} {Q : AExit → St → Prop} {c_ : Int} {r_1 : (Int × Bool)} {v20 : Int} {l_ : (List (List UInt8))} {self : (List (List UInt8)) → Int → Int → Option (Int × Bool)} {K0_ : (List (List UInt8)) → Int → Option (Int × Bool)} {l_4 : (List (List UInt8))} {v49 : Bool} {zl_4 : Bool} (hzl_4 : zl_4 = true → l_4 = []) {o : (Int × Bool)} (h : color_parts_j7 c_ r_1 v20 l_ self K0_ l_4 v49 = some o)
    (hself : ∀ (l_1 : (List (List UInt8))) (c_ : Int) (v20 : Int) (zl_1 : Bool) (_ : zl_1 = true → l_1 = []), self l_1 c_ v20 = some o → ∀ s, Weak 0 s ⟨(upd (upd (upd (upd (upd (fun _ => none) 4 (some (lstV zl_1 0 1 l_1.length))) 5 (some (I c_))) 18 (some (lstV zl_1 0 1 l_1.length))) 19 (some (I (l_.length : Int)))) 20 (some (I v20))), (upd (fun _ => none) 0 (lstB zl_1 1 (l_1.map eStr))), 1⟩ → (Q) .normal s)
    (hK0 : ∀ (l_2 : (List (List UInt8))) (c_1 : Int) (zl_2 : Bool) (_ : zl_2 = true → l_2 = []), K0_ l_2 c_1 = some o → ∀ s, Weak 0 s ⟨(upd (upd (fun _ => none) 4 (some (lstV zl_2 0 1 l_2.length))) 5 (some (I c_1))), (upd (fun _ => none) 0 (lstB zl_2 1 (l_2.map eStr))), 1⟩ → Q (.exit 0) s)
    (hr : ∀ s, Ends a39.results 0 (color_parts_post o) .ret s → Q .ret s) :
    Sv Tryd.prog (GG mL) 0 a39_c2 (color_parts_q2 mL Q) ⟨(upd (upd (upd (upd (upd (upd (upd (fun _ => none) 4 (some (lstV zl_4 0 1 l_4.length))) 5 (some (I c_))) 8 (some (I r_1.1))) 18 (some (lstV zl_4 0 1 l_4.length))) 19 (some (I (l_.length : Int)))) 20 (some (I v20))) 49 (some (B v49))), (upd (fun _ => none) 0 (lstB zl_4 1 (l_4.map eStr))), 1⟩ := by
  unfold color_parts_j7 at h
  refine Sv.cond (b := v49) rfl (fun hc2 => ?_) (fun hc2 => ?_)
  · replace h := ifT hc2 h
    refine Sv.seq ?_
    refine Sv.region ?_
    refine un (a1 rfl ?_)
    refine un (a1 rfl ?_)
    refine dnil ?_
    refine Sv.ret ?_
    replace h := Option.some.inj h
    subst h
    exact hr _ ⟨_, .refl _, _, rfl, ⟨upd (fun _ => none) 0 (some (.tup [(I 0), (B false)])), (fun _ => none), 0⟩, (.tup [(I 0), (B false)]), weak_canon [] rfl List.nodup_nil (Nat.le_refl _) (fun b h => absurd h (Nat.not_lt_zero _)) (.cons rfl (avAs_tup (.cons (avAs_free rfl) (.cons (avAs_free rfl) .nil))) .nil) .nil, rfl, rfl, rfl, rfl⟩
  · replace h := ifF hc2 h
    refine Sv.skip ?_
    refine Sv.region ?_
    refine un (a1 rfl ?_)
    refine un (a1 (v := (I (shl .i64 c_ 8))) rfl ?_)
    refine un (a1 rfl ?_)
    refine un (a1 (v := (I (bitsV .or .i64 (shl .i64 c_ 8) r_1.1))) rfl ?_)
    refine un (a1 rfl ?_)
    refine dnil ?_
    refine Sv.region ?_
    refine un (a1 (v := (I (wi (v20 + 1)))) rfl ?_)
    refine un (a1 rfl ?_)
    refine dnil ?_
    exact hself l_4 (bitsV .or .i64 (shl .i64 c_ 8) r_1.1) (wi (v20 + 1)) zl_4 hzl_4 h _ (weak_canon [0] rfl (by decide) (by decide) (fun b h => absurd h (Nat.not_lt_zero _)) (.cons rfl (avAs_free rfl) (.cons rfl (avAs_free rfl) (.cons rfl (.c (lstC_ren rfl (by decide))) (.cons rfl (avAs_free rfl) (.cons rfl (.c (lstC_ren rfl (by decide))) .nil))))) (.row (by decide) rfl (fr_map fun _ => rfl) .nil))
noncomputable def color_parts_j6 (c_ : Int) (v20 : Int) (l_ : (List (List UInt8))) (self : (List (List UInt8)) → Int → Int → Option (Int × Bool)) (K0_ : (List (List UInt8)) → Int → Option (Int × Bool)) (l_3 : (List (List UInt8))) (w_ : (List UInt8)) : Option (Int × Bool) :=
  (strconv_Atoi w_).bind fun r_1 =>
  if ((r_1.2 || (decide (r_1.1 < 0))) || (decide (255 < r_1.1))) then
    color_parts_j7 c_ r_1 v20 l_ self K0_ l_3 true
  else
    (strconv_Itoa r_1.1).bind fun r_2 =>
    color_parts_j7 c_ r_1 v20 l_ self K0_ l_3 (!decide (r_2 = w_))
theorem color_parts_j6_ok {mL : Int} {Q : AExit → St → Prop} {c_ : Int} {v20 : Int} {l_ : (List (List UInt8))} {self : (List (List UInt8)) → Int → Int → Option (Int × Bool)} {K0_ : (List (List UInt8)) → Int → Option (Int × Bool)} {l_3 : (List (List UInt8))} {w_ : (List UInt8)} {zl_3 : Bool} (hzl_3 : zl_3 = true → l_3 = []) {o : (Int × Bool)} (h : color_parts_j6 c_ v20 l_ self K0_ l_3 w_ = some o)
    (hself : ∀ (l_1 : (List (List UInt8))) (c_ : Int) (v20 : Int) (zl_1 : Bool) (_ : zl_1 = true → l_1 = []), self l_1 c_ v20 = some o → ∀ s, Weak 0 s ⟨(upd (upd (upd (upd (upd (fun _ => none) 4 (some (lstV zl_1 0 1 l_1.length))) 5 (some (I c_))) 18 (some (lstV zl_1 0 1 l_1.length))) 19 (some (I (l_.length : Int)))) 20 (some (I v20))), (upd (fun _ => none) 0 (lstB zl_1 1 (l_1.map eStr))), 1⟩ → (Q) .normal s)
    (hK0 : ∀ (l_2 : (List (List UInt8))) (c_1 : Int) (zl_2 : Bool) (_ : zl_2 = true → l_2 = []), K0_ l_2 c_1 = some o → ∀ s, Weak 0 s ⟨(upd (upd (fun _ => none) 4 (some (lstV zl_2 0 1 l_2.length))) 5 (some (I c_1))), (upd (fun _ => none) 0 (lstB zl_2 1 (l_2.map eStr))), 1⟩ → Q (.exit 0) s)
    (hr : ∀ s, Ends a39.results 0 (color_parts_post o) .ret s → Q .ret s) :
    Sv Tryd.prog (GG mL) 0 a39_c1 (color_parts_q1 mL Q) ⟨(upd (upd (upd (upd (upd (upd (fun _ => none) 4 (some (lstV zl_3 0 1 l_3.length))) 5 (some (I c_))) 7 (some (S w_))) 18 (some (lstV zl_3 0 1 l_3.length))) 19 (some (I (l_.length : Int)))) 20 (some (I v20))), (upd (fun _ => none) 0 (lstB zl_3 1 (l_3.map eStr))), 1⟩ := by
  unfold color_parts_j6 at h
  refine Sv.seq ?_
  refine Sv.region ?_
  refine un (a1 rfl ?_)
  obtain ⟨r_1, hr2, h⟩ := bnd h
  refine un (ac_pure (strconv_Atoi_ok hr2) rfl rfl (by simp only [AV.free, freeL, List.all_cons, List.all_nil, errC_free, ierrC_free] <;> rfl) ?_)
  refine un (a1 rfl ?_)
  refine un (a1 (v := (I r_1.1)) rfl ?_)
  refine un (a1 (v := (.c (errC r_1.2))) rfl ?_)
  refine un (a1 rfl ?_)
  refine un (a1 rfl ?_)
  refine dnil ?_
  refine Sv.seq ?_
  refine Sv.seq ?_
  refine Sv.region ?_
  refine un (a1 rfl ?_)
  refine un (a1 (v := (B r_1.2)) (s_eqe (neg := true) (b := r_1.2) rfl) ?_)
  refine un (a1 rfl ?_)
  refine gjoin 3 (d := 39) (v := (B (r_1.2 || (decide (r_1.1 < 0))))) (fun X hX => ?_) ?_
  · refine split2 (fun hc3 => ?_) (fun hc3 => ?_)
    · refine gs rfl rfl ?_
      refine gs rfl rfl ?_
      refine un (a1 (v := (B true)) rfl ?_)
      refine dnil ?_
      exact hX _ (.putEq (by rw [hc3]; rfl) (.skip _ _ (.skip _ _ (.putEq (by rw [hc3]) (.refl _)) rfl) rfl))
    · refine gt rfl (a1 rfl ?_)
      refine gt rfl (a1 (v := (B (decide (r_1.1 < 0)))) rfl ?_)
      refine un (a1 (v := (B (decide (r_1.1 < 0)))) rfl ?_)
      refine dnil ?_
      exact hX _ (.putEq (by rw [hc3]; rfl) (.skip _ _ (.skip _ _ (.putEq (by rw [hc3]) (.refl _)) rfl) rfl))
  refine un (a1 rfl ?_)
  refine gjoin 3 (d := 43) (v := (B ((r_1.2 || (decide (r_1.1 < 0))) || (decide (255 < r_1.1))))) (fun X hX => ?_) ?_
  · refine split2 (fun hc4 => ?_) (fun hc4 => ?_)
    · refine gs rfl rfl ?_
      refine gs rfl rfl ?_
      refine un (a1 (v := (B true)) rfl ?_)
      refine dnil ?_
      exact hX _ (.putEq (by rw [hc4]; rfl) (.skip _ _ (.skip _ _ (.putEq (by rw [hc4]) (.refl _)) rfl) rfl))
    · refine gt rfl (a1 rfl ?_)
      refine gt rfl (a1 (v := (B (decide (255 < r_1.1)))) rfl ?_)
      refine un (a1 (v := (B (decide (255 < r_1.1)))) rfl ?_)
      refine dnil ?_
      exact hX _ (.putEq (by rw [hc4]; rfl) (.skip _ _ (.skip _ _ (.putEq (by rw [hc4]) (.refl _)) rfl) rfl))
  refine un (a1 rfl ?_)
  refine split2 (fun hc5 => ?_) (fun hc5 => ?_)
  · replace h := ifT hc5 h
    refine gs rfl rfl ?_
    refine gs rfl rfl ?_
    refine gs rfl rfl ?_
    refine gs rfl rfl ?_
    refine un (a1 (v := (B true)) rfl ?_)
    refine dnil ?_
    exact Sv.weak (weak_canon [0] rfl (by decide) (by decide) (fun b h => absurd h (Nat.not_lt_zero _)) (.cons rfl (avAs_free rfl) (.cons rfl (avAs_free rfl) (.cons rfl (avAs_free rfl) (.cons rfl (.c (lstC_ren rfl (by decide))) (.cons rfl (avAs_free rfl) (.cons rfl (avAs_free rfl) (.cons rfl (.c (lstC_ren rfl (by decide))) .nil))))))) (.row (by decide) rfl (fr_map fun _ => rfl) .nil)) (color_parts_j7_ok hzl_3 h hself hK0 hr)
  · replace h := ifF hc5 h
    refine gt rfl (a1 rfl ?_)
    obtain ⟨r_2, hr3, h⟩ := bnd h
    refine gt rfl (ac_pure (strconv_Itoa_ok hr3) rfl rfl rfl ?_)
    refine gt rfl (a1 rfl ?_)
    refine gt rfl (a1 (v := (B (!decide (r_2 = w_)))) rfl ?_)
    refine un (a1 (v := (B (!decide (r_2 = w_)))) rfl ?_)
    refine dnil ?_
    exact Sv.weak (weak_canon [0] rfl (by decide) (by decide) (fun b h => absurd h (Nat.not_lt_zero _)) (.cons rfl (avAs_free rfl) (.cons rfl (avAs_free rfl) (.cons rfl (avAs_free rfl) (.cons rfl (.c (lstC_ren rfl (by decide))) (.cons rfl (avAs_free rfl) (.cons rfl (avAs_free rfl) (.cons rfl (.c (lstC_ren rfl (by decide))) .nil))))))) (.row (by decide) rfl (fr_map fun _ => rfl) .nil)) (color_parts_j7_ok hzl_3 h hself hK0 hr)
noncomputable def color_parts_l0 (l_ : (List (List UInt8))) (K0_ : (List (List UInt8)) → Int → Option (Int × Bool)) : Nat → (List (List UInt8)) → Int → Int → Option (Int × Bool)
  | 0, _, _, _ => none
  | k + 1, l_1, c_, v20 =>
    if decide (v20 < (l_.length : Int)) then
      (at? l_1 v20).bind fun x_ =>
      if decide (0 < v20) then
        (strings_TrimPrefix x_ [32]).bind fun r_3 =>
        color_parts_j6 c_ v20 l_ (color_parts_l0 l_ K0_ k) K0_ l_1 r_3
      else
        color_parts_j6 c_ v20 l_ (color_parts_l0 l_ K0_ k) K0_ l_1 x_
    else
      K0_ l_1 c_
theorem color_parts_l0_ok {mL : Int} {Q : AExit → St → Prop} {l_ : (List (List UInt8))} {K0_ : (List (List UInt8)) → Int → Option (Int × Bool)} {k : Nat} {l_1 : (List (List UInt8))} {c_ : Int} {v20 : Int} {zl_1 : Bool} (hzl_1 : zl_1 = true → l_1 = []) {o : (Int × Bool)} (h : color_parts_l0 l_ K0_ k l_1 c_ v20 = some o)
    (hK0 : ∀ (l_2 : (List (List UInt8))) (c_1 : Int) (zl_2 : Bool) (_ : zl_2 = true → l_2 = []), K0_ l_2 c_1 = some o → ∀ s, Weak 0 s ⟨(upd (upd (fun _ => none) 4 (some (lstV zl_2 0 1 l_2.length))) 5 (some (I c_1))), (upd (fun _ => none) 0 (lstB zl_2 1 (l_2.map eStr))), 1⟩ → Q (.exit 0) s)
    (hr : ∀ s, Ends a39.results 0 (color_parts_post o) .ret s → Q .ret s) :
    Sv Tryd.prog (GG mL) 0 (.loop a39_c5) Q ⟨(upd (upd (upd (upd (upd (fun _ => none) 4 (some (lstV zl_1 0 1 l_1.length))) 5 (some (I c_))) 18 (some (lstV zl_1 0 1 l_1.length))) 19 (some (I (l_.length : Int)))) 20 (some (I v20))), (upd (fun _ => none) 0 (lstB zl_1 1 (l_1.map eStr))), 1⟩ := by
  refine Sv.loop (I := fun k s => ∃ (l_1 : (List (List UInt8))), ∃ (c_ : Int), ∃ (v20 : Int), ∃ (zl_1 : Bool), (zl_1 = true → l_1 = []) ∧ color_parts_l0 l_ K0_ k l_1 c_ v20 = some o ∧ s = ⟨(upd (upd (upd (upd (upd (fun _ => none) 4 (some (lstV zl_1 0 1 l_1.length))) 5 (some (I c_))) 18 (some (lstV zl_1 0 1 l_1.length))) 19 (some (I (l_.length : Int)))) 20 (some (I v20))), (upd (fun _ => none) 0 (lstB zl_1 1 (l_1.map eStr))), 1⟩) (fun k s hI => ?_) ⟨l_1, c_, v20, zl_1, hzl_1, h, rfl⟩
  clear h
  clear hzl_1 zl_1 v20 c_ l_1
  obtain ⟨l_1, c_, v20, zl_1, hzl_1, h, rfl⟩ := hI
  cases k with
  | zero => cases h
  | succ k =>
  rw [color_parts_l0] at h
  have hself : ∀ (l_1 : (List (List UInt8))) (c_ : Int) (v20 : Int) (zl_1 : Bool) (_ : zl_1 = true → l_1 = []), (color_parts_l0 l_ K0_ k) l_1 c_ v20 = some o → ∀ s, Weak 0 s ⟨(upd (upd (upd (upd (upd (fun _ => none) 4 (some (lstV zl_1 0 1 l_1.length))) 5 (some (I c_))) 18 (some (lstV zl_1 0 1 l_1.length))) 19 (some (I (l_.length : Int)))) 20 (some (I v20))), (upd (fun _ => none) 0 (lstB zl_1 1 (l_1.map eStr))), 1⟩ → (AThen (fun s' => ∃ s'' k', Weak 0 s' s'' ∧ k' < k + 1 ∧ (fun k s => ∃ (l_1 : (List (List UInt8))), ∃ (c_ : Int), ∃ (v20 : Int), ∃ (zl_1 : Bool), (zl_1 = true → l_1 = []) ∧ color_parts_l0 l_ K0_ k l_1 c_ v20 = some o ∧ s = ⟨(upd (upd (upd (upd (upd (fun _ => none) 4 (some (lstV zl_1 0 1 l_1.length))) 5 (some (I c_))) 18 (some (lstV zl_1 0 1 l_1.length))) 19 (some (I (l_.length : Int)))) 20 (some (I v20))), (upd (fun _ => none) 0 (lstB zl_1 1 (l_1.map eStr))), 1⟩) k' s'') Q) .normal s := fun l_1 c_ v20 zl_1 hzl_1 h s hw => ⟨_, k, hw, Nat.lt_succ_self k, l_1, c_, v20, zl_1, hzl_1, h, rfl⟩
  refine Sv.seq ?_
  refine Sv.region ?_
  refine un (a1 (v := (B (decide (v20 < (l_.length : Int))))) rfl ?_)
  refine dnil ?_
  refine Sv.seq ?_
  refine Sv.cond (b := decide (v20 < (l_.length : Int))) rfl (fun hc1 => ?_) (fun hc1 => ?_)
  · replace h := ifT hc1 h
    refine Sv.skip ?_
    refine Sv.seq ?_
    refine Sv.block ?_
    refine Sv.seq ?_
    refine Sv.region ?_
    refine un (a1 rfl ?_)
    obtain ⟨x_, hx1, h⟩ := bnd h
    refine un (a1 (v := (.c (.ref 0 1 v20.toNat 0))) (s_iaddrL rfl rfl hzl_1 hx1) ?_)
    refine un (a1 (v := (S x_)) (s_loadL (z := zl_1) (e := eStr) rfl rfl hzl_1 hx1 rfl rfl) ?_)
    refine un (a1 rfl ?_)
    refine un (a1 rfl ?_)
    refine dnil ?_
    refine Sv.seq ?_
    refine Sv.seq ?_
    refine Sv.region ?_
    refine un (a1 rfl ?_)
    refine un (a1 (v := (B (decide (0 < v20)))) rfl ?_)
    refine dnil ?_
    refine Sv.cond (b := decide (0 < v20)) rfl (fun hc6 => ?_) (fun hc6 => ?_)
    · replace h := ifT hc6 h
      refine Sv.region ?_
      refine un (a1 rfl ?_)
      obtain ⟨r_3, hr4, h⟩ := bnd h
      refine un (ac_pure (strings_TrimPrefix_ok hr4) rfl rfl rfl ?_)
      refine un (a1 rfl ?_)
      refine dnil ?_
      exact Sv.weak (weak_canon [0] rfl (by decide) (by decide) (fun b h => absurd h (Nat.not_lt_zero _)) (.cons rfl (avAs_free rfl) (.cons rfl (avAs_free rfl) (.cons rfl (.c (lstC_ren rfl (by decide))) (.cons rfl (avAs_free rfl) (.cons rfl (avAs_free rfl) (.cons rfl (.c (lstC_ren rfl (by decide))) .nil)))))) (.row (by decide) rfl (fr_map fun _ => rfl) .nil)) (color_parts_j6_ok hzl_1 h hself hK0 hr)
    · replace h := ifF hc6 h
      refine Sv.skip ?_
      exact Sv.weak (weak_canon [0] rfl (by decide) (by decide) (fun b h => absurd h (Nat.not_lt_zero _)) (.cons rfl (avAs_free rfl) (.cons rfl (avAs_free rfl) (.cons rfl (.c (lstC_ren rfl (by decide))) (.cons rfl (avAs_free rfl) (.cons rfl (avAs_free rfl) (.cons rfl (.c (lstC_ren rfl (by decide))) .nil)))))) (.row (by decide) rfl (fr_map fun _ => rfl) .nil)) (color_parts_j6_ok hzl_1 h hself hK0 hr)
  · replace h := ifF hc1 h
    refine Sv.exit ?_
    exact hK0 l_1 c_ zl_1 hzl_1 h _ (weak_canon [0] rfl (by decide) (by decide) (fun b h => absurd h (Nat.not_lt_zero _)) (.cons rfl (avAs_free rfl) (.cons rfl (.c (lstC_ren rfl (by decide))) .nil)) (.row (by decide) rfl (fr_map fun _ => rfl) .nil))
noncomputable def color_parts_j1 (l_ : (List (List UInt8))) : Option (Int × Bool) :=
  lim fun kk => color_parts_l0 l_ (fun (l_2 : (List (List UInt8))) (c_1 : Int) => 
      some (c_1, decide ((l_2.length : Int) = 4))) kk l_ 0 0
theorem color_parts_j1_ok {mL : Int} {l_ : (List (List UInt8))} {zl : Bool} (hzl : zl = true → l_ = []) {o : (Int × Bool)} (h : color_parts_j1 l_ = some o) :
    Sv Tryd.prog (GG mL) 0 a39_c0 (Ends a39.results 0 (color_parts_post o)) ⟨(upd (fun _ => none) 4 (some (lstV zl 0 1 l_.length))), (upd (fun _ => none) 0 (lstB zl 1 (l_.map eStr))), 1⟩ := by
  unfold color_parts_j1 at h
  refine Sv.seq ?_
  refine Sv.region ?_
  refine un (a1 rfl ?_)
  refine dnil ?_
  refine Sv.seq ?_
  refine Sv.seq ?_
  refine Sv.region ?_
  refine un (a1 rfl ?_)
  refine un (a1 (v := (I (l_.length : Int))) (s_lenL rfl (len_nil_of hzl)) ?_)
  refine un (a1 rfl ?_)
  refine dnil ?_
  refine Sv.block ?_
  obtain ⟨kk, h⟩ := lim_some h
  refine Sv.weak (weak_canon [0] rfl (by decide) (by decide) (fun b h => absurd h (Nat.not_lt_zero _)) (.cons rfl (avAs_free rfl) (.cons rfl (avAs_free rfl) (.cons rfl (.c (lstC_ren rfl (by decide))) (.cons rfl (avAs_free rfl) (.cons rfl (.c (lstC_ren rfl (by decide))) .nil))))) (.row (by decide) rfl (fr_map fun _ => rfl) .nil)) (color_parts_l0_ok hzl h ?_ (fun s hs => hs))
  · intro l_2 c_1 zl_2 hzl_2 h _ hw1
    refine Sv.weak hw1 ?_
    refine Sv.seq ?_
    refine Sv.region ?_
    refine un (a1 rfl ?_)
    refine un (a1 rfl ?_)
    refine un (a1 (v := (I (l_2.length : Int))) (s_lenL rfl (len_nil_of hzl_2)) ?_)
    refine un (a1 (v := (B (decide ((l_2.length : Int) = 4)))) rfl ?_)
    refine un (a1 rfl ?_)
    refine un (a1 rfl ?_)
    refine dnil ?_
    refine Sv.ret ?_
    replace h := Option.some.inj h
    subst h
    exact ⟨_, .refl _, _, rfl, ⟨upd (fun _ => none) 0 (some (.tup [(I c_1), (B (decide ((l_2.length : Int) = 4)))])), (fun _ => none), 0⟩, (.tup [(I c_1), (B (decide ((l_2.length : Int) = 4)))]), weak_canon [] rfl List.nodup_nil (Nat.le_refl _) (fun b h => absurd h (Nat.not_lt_zero _)) (.cons rfl (avAs_tup (.cons (avAs_free rfl) (.cons (avAs_free rfl) .nil))) .nil) .nil, rfl, rfl, rfl, rfl⟩
/-- clerestory/color.parts -/
noncomputable def color_parts (s_ : (List UInt8)) : Option (Int × Bool) :=
  (strings_Split s_ [44]).bind fun r_ =>
  if decide ((r_.length : Int) = 3) then
    (app? 16 r_ ([[50, 53, 53]] : List (List UInt8))).bind fun r_4 =>
    color_parts_j1 r_4
  else
    color_parts_j1 r_
theorem color_parts_ok {mL : Int} {s_ : (List UInt8)} {r : (Int × Bool)} (h : color_parts s_ = some r) : CPure Tryd.prog (GG mL) 39 [(S s_)] (.tup [(I r.1), (B r.2)]) := by
  refine acalls_of_sv hmix c39 (R := color_parts_post r) ?_
  unfold color_parts at h
  refine Sv.seq ?_
  refine Sv.region ?_
  refine un (a1 rfl ?_)
  refine un (a1 rfl ?_)
  refine dnil ?_
  refine Sv.seq ?_
  refine Sv.region ?_
  refine un (a1 rfl ?_)
  obtain ⟨r_, hr1, h⟩ := bnd h
  refine un (ac_gen (bs := []) («as» := [(S s_), (S [44])]) (h2 := _) (h1 := (fun _ => none)) (strings_Split_ok hr1) rfl (.cons (avAs_free rfl) (.cons (avAs_free rfl) .nil)) (hsub_refl _) (.nil _) (fun _ => rfl) (by decide) (by decide) (.cons (avAs_free rfl) (.cons (avAs_free rfl) .nil)) .nil ?_)
  rintro _ _ _ hn ⟨z_, hz_, rfl, rfl, rfl⟩
  refine ⟨.inl rfl, (upd (rem [] _) 0 (lstB z_ 1 (r_.map eStr))), fun hbd => (m3_cons (m3_row rfl (fr_map fun _ => rfl)) (m3_rem (in_nil _) (.cons (by decide) .nil) hbd)), (lstV z_ 0 1 r_.length), 1, (by cases z_ <;> rfl), rfl, ?_⟩
  refine un (a1 rfl ?_)
  refine dnil ?_
  refine Sv.seq ?_
  refine Sv.seq ?_
  refine Sv.region ?_
  refine un (a1 rfl ?_)
  refine un (a1 (v := (I (r_.length : Int))) (s_lenL rfl (len_nil_of hz_)) ?_)
  refine un (a1 (v := (B (decide ((r_.length : Int) = 3)))) rfl ?_)
  refine dnil ?_
  refine Sv.cond (b := decide ((r_.length : Int) = 3)) rfl (fun hc7 => ?_) (fun hc7 => ?_)
  · replace h := ifT hc7 h
    refine Sv.region ?_
    refine un (a1 rfl ?_)
    refine un (a2v (v := (lstV false 1 1 ([[50, 53, 53]] : List (List UInt8)).length)) (h' := upd _ 1 (lstB false 1 (([[50, 53, 53]] : List (List UInt8)).map eStr))) (n' := 2) rfl rfl (fun h => by cases h) ?_)
    obtain ⟨r_4, hr5, h⟩ := bnd h
    have hz1 : (z_ && ([[50, 53, 53]] : List (List UInt8)).isEmpty) = true → r_4 = [] := app_nil (z := z_) (ys := ([[50, 53, 53]] : List (List UInt8))) hz_ hr5
    refine un (a2v rfl (s_app (xs := r_) (ys := ([[50, 53, 53]] : List (List UInt8))) (e := eStr) (z := z_) (b := 0) rfl rfl hz_ rfl rfl (slc_lst rfl (List.length_map _).symm (map_nil_of (fun h => by cases h))) hr5) (fun h => by cases h) ?_)
    refine un (a1 rfl ?_)
    refine dnil ?_
    exact Sv.weak (weak_canon [2] rfl (by decide) (by decide) (fun b h => absurd h (Nat.not_lt_zero _)) (.cons rfl (.c (lstC_ren rfl (by decide))) .nil) (.row (by decide) rfl (fr_map fun _ => rfl) .nil)) (color_parts_j1_ok hz1 h)
  · replace h := ifF hc7 h
    refine Sv.skip ?_
    exact Sv.weak (weak_canon [0] rfl (by decide) (by decide) (fun b h => absurd h (Nat.not_lt_zero _)) (.cons rfl (.c (lstC_ren rfl (by decide))) .nil) (.row (by decide) rfl (fr_map fun _ => rfl) .nil)) (color_parts_j1_ok hz_ h)
def a13_c0 : ACode := (.cond (.tmp 50) (.region [⟨(some 52), (.mov (.tmp 10)), none⟩, ⟨(some 53), (.mov (.tmp 10)), none⟩, ⟨(some 54), (.lenS (.tmp 53)), none⟩, ⟨(some 55), (.bin .sub (.tmp 54) (.const (.c (.val (.int .i64 1))))), none⟩, ⟨(some 56), (.slStr (.tmp 52) none (some (.tmp 55))), none⟩, ⟨(some 57), (.call 39 [(.tmp 56)]), none⟩, ⟨(some 51), (.mov (.tmp 57)), none⟩, ⟨(some 58), (.ext (.tmp 51) 0), none⟩, ⟨(some 59), (.ext (.tmp 51) 1), none⟩, ⟨(some 6), (.mov (.tmp 58)), none⟩, ⟨(some 7), (.mov (.tmp 59)), none⟩]) .skip)
def a13_c1 : ACode := (.seq (.seq (.region [⟨(some 60), (.mov (.tmp 7)), none⟩, ⟨(some 61), (.un .not (.tmp 60)), none⟩])
 (.cond (.tmp 61) (.seq (.region [⟨(some 2), (.mov (.const (.c (.val (.int .i64 0))))), none⟩, ⟨(some 3), (.mov (.const (.c (.val (.int .i64 4))))), none⟩])
 .ret) .skip))
 (.seq (.region [⟨(some 62), (.mov (.tmp 6)), none⟩, ⟨(some 2), (.mov (.tmp 62)), none⟩, ⟨(some 3), (.mov (.const (.c (.val (.int .i64 0))))), none⟩])
 .ret))
def a13 : AFunc := ⟨1, [(.tmp 2), (.tmp 3)], (.seq (.region [⟨(some 2), (.mov (.const (.c (.val (.int .i64 0))))), none⟩, ⟨(some 3), (.mov (.const (.c (.val (.int .i64 0))))), none⟩])
 (.seq (.region [⟨(some 12), (.mov (.tmp 0)), none⟩, ⟨(some 13), (.call 34 [(.tmp 12)]), none⟩, ⟨(some 0), (.mov (.tmp 13)), none⟩])
 (.seq (.seq (.region [⟨(some 14), (.mov (.tmp 0)), none⟩, ⟨(some 15), (.bin .eql (.tmp 14) (.const (.c (.str [116, 114, 97, 110, 115, 112, 97, 114, 101, 110, 116])))), none⟩])
 (.cond (.tmp 15) (.seq (.region [⟨(some 2), (.mov (.const (.c (.val (.int .i64 0))))), none⟩, ⟨(some 3), (.mov (.const (.c (.val (.int .i64 0))))), none⟩])
 .ret) .skip))
 (.seq (.seq (.region [⟨(some 17), (.mov (.tmp 0)), none⟩, ⟨(some 18), (.call 35 [(.tmp 17)]), none⟩, ⟨(some 16), (.mov (.tmp 18)), none⟩, ⟨(some 19), (.ext (.tmp 16) 0), none⟩, ⟨(some 20), (.ext (.tmp 16) 1), none⟩, ⟨(some 4), (.mov (.tmp 19)), none⟩, ⟨(some 5), (.mov (.tmp 20)), none⟩])
 (.seq (.region [⟨(some 21), (.mov (.tmp 5)), none⟩])
 (.cond (.tmp 21) (.seq (.region [⟨(some 22), (.mov (.tmp 4)), none⟩, ⟨(some 23), (.bin .shl (.tmp 22) (.const (.c (.val (.int .u64 8))))), none⟩, ⟨(some 24), (.bin .or (.tmp 23) (.const (.c (.val (.int .i64 255))))), none⟩, ⟨(some 2), (.mov (.tmp 24)), none⟩, ⟨(some 3), (.mov (.const (.c (.val (.int .i64 0))))), none⟩])
 .ret) .skip)))
 (.seq (.region [⟨(some 6), (.mov (.const (.c (.val (.int .i64 0))))), none⟩, ⟨(some 7), (.mov (.const (.c (.val (.bool false))))), none⟩])
 (.seq (.seq (.region [⟨(some 26), (.mov (.tmp 0)), none⟩, ⟨(some 27), (.call 36 [(.tmp 26), (.const (.c (.str [35])))]), none⟩, ⟨(some 25), (.mov (.tmp 27)), none⟩, ⟨(some 28), (.ext (.tmp 25) 0), none⟩, ⟨(some 29), (.ext (.tmp 25) 1), none⟩, ⟨(some 8), (.mov (.tmp 28)), none⟩, ⟨(some 9), (.mov (.tmp 29)), none⟩])
 (.seq (.region [⟨(some 30), (.mov (.tmp 9)), none⟩])
 (.cond (.tmp 30) (.region [⟨(some 32), (.mov (.tmp 8)), none⟩, ⟨(some 33), (.call 37 [(.tmp 32)]), none⟩, ⟨(some 31), (.mov (.tmp 33)), none⟩, ⟨(some 34), (.ext (.tmp 31) 0), none⟩, ⟨(some 35), (.ext (.tmp 31) 1), none⟩, ⟨(some 6), (.mov (.tmp 34)), none⟩, ⟨(some 7), (.mov (.tmp 35)), none⟩]) (.seq (.region [⟨(some 37), (.mov (.tmp 0)), none⟩, ⟨(some 38), (.call 36 [(.tmp 37), (.const (.c (.str [114, 103, 98, 40])))]), none⟩, ⟨(some 36), (.mov (.tmp 38)), none⟩, ⟨(some 39), (.ext (.tmp 36) 0), none⟩, ⟨(some 40), (.ext (.tmp 36) 1), none⟩, ⟨(some 10), (.mov (.tmp 39)), none⟩, ⟨(some 11), (.mov (.tmp 40)), none⟩])
 (.seq (.region [⟨(some 41), (.mov (.tmp 11)), none⟩, ⟨(some 42), (.mov (.tmp 41)), none⟩, ⟨(some 43), (.mov (.tmp 10)), (some (42, true))⟩, ⟨(some 44), (.call 38 [(.tmp 43), (.const (.c (.str [41])))]), (some (42, true))⟩, ⟨(some 45), (.pick (.tmp 42) (.tmp 44) (.const (.c (.val (.bool false))))), none⟩, ⟨(some 46), (.mov (.tmp 45)), none⟩, ⟨(some 47), (.mov (.tmp 10)), (some (46, true))⟩, ⟨(some 48), (.lenS (.tmp 47)), (some (46, true))⟩, ⟨(some 49), (.bin .leq (.tmp 48) (.const (.c (.val (.int .i64 40))))), (some (46, true))⟩, ⟨(some 50), (.pick (.tmp 46) (.tmp 49) (.const (.c (.val (.bool false))))), none⟩])
 a13_c0)))))
 a13_c1))))))⟩
set_option maxRecDepth 100000 in
theorem c13 : compFunc Tryd.prog 13 = some a13 := by kernel_rfl
def color_Read_post (r : (Int × Int)) : AV → Heap → Nat → Prop := fun v h' n' => v = (.tup [(I r.1), (I r.2)]) ∧ (h' = (fun _ => none)) ∧ n' = 0
noncomputable def color_Read_j3 (c_ : Int) (is_ : Bool) : Option (Int × Int) :=
  if (!is_) then
    some (0, 4)
  else
    some (c_, 0)
theorem color_Read_j3_ok {mL : Int} {c_ : Int} {is_ : Bool} {o : (Int × Int)} (h : color_Read_j3 c_ is_ = some o) :
    Sv Tryd.prog (GG mL) 0 a13_c1 (Ends a13.results 0 (color_Read_post o)) ⟨(upd (upd (fun _ => none) 6 (some (I c_))) 7 (some (B is_))), (fun _ => none), 0⟩ := by
  unfold color_Read_j3 at h
  refine Sv.seq ?_
  refine Sv.seq ?_
  refine Sv.region ?_
  refine un (a1 rfl ?_)
  refine un (a1 (v := (B (!is_))) rfl ?_)
  refine dnil ?_
  refine Sv.cond (b := (!is_)) rfl (fun hc3 => ?_) (fun hc3 => ?_)
  · replace h := ifT hc3 h
    refine Sv.seq ?_
    refine Sv.region ?_
    refine un (a1 rfl ?_)
    refine un (a1 rfl ?_)
    refine dnil ?_
    refine Sv.ret ?_
    replace h := Option.some.inj h
    subst h
    exact ⟨_, .refl _, _, rfl, ⟨upd (fun _ => none) 0 (some (.tup [(I 0), (I 4)])), (fun _ => none), 0⟩, (.tup [(I 0), (I 4)]), weak_canon [] rfl List.nodup_nil (Nat.le_refl _) (fun b h => absurd h (Nat.not_lt_zero _)) (.cons rfl (avAs_tup (.cons (avAs_free rfl) (.cons (avAs_free rfl) .nil))) .nil) .nil, rfl, rfl, rfl, rfl⟩
  · replace h := ifF hc3 h
    refine Sv.skip ?_
    refine Sv.seq ?_
    refine Sv.region ?_
    refine un (a1 rfl ?_)
    refine un (a1 rfl ?_)
    refine un (a1 rfl ?_)
    refine dnil ?_
    refine Sv.ret ?_
    replace h := Option.some.inj h
    subst h
    exact ⟨_, .refl _, _, rfl, ⟨upd (fun _ => none) 0 (some (.tup [(I c_), (I 0)])), (fun _ => none), 0⟩, (.tup [(I c_), (I 0)]), weak_canon [] rfl List.nodup_nil (Nat.le_refl _) (fun b h => absurd h (Nat.not_lt_zero _)) (.cons rfl (avAs_tup (.cons (avAs_free rfl) (.cons (avAs_free rfl) .nil))) .nil) .nil, rfl, rfl, rfl, rfl⟩
abbrev color_Read_q0 (mL : Int) (o : (Int × Int)) : AExit → St → Prop := AThen (Sv Tryd.prog (GG mL) 0 a13_c1 (Ends a13.results 0 (color_Read_post o))) (Ends a13.results 0 (color_Read_post o))
noncomputable def color_Read_j4 (r_3 : ((List UInt8) × Bool)) (v50 : Bool) : Option (Int × Int) :=
  if v50 then
    (sub? r_3.1 0 (wi ((r_3.1.length : Int) - 1))).bind fun r_4 =>
    (color_parts r_4).bind fun r_5 =>
    color_Read_j3 r_5.1 r_5.2
  else
    color_Read_j3 0 false
theorem color_Read_j4_ok {mL : Int} {r_3 : ((List UInt8) × Bool)} {v50 : Bool} {o : (Int × Int)} (h : color_Read_j4 r_3 v50 = some o) :
    Sv Tryd.prog (GG mL) 0 a13_c0 (color_Read_q0 mL o) ⟨(upd (upd (upd (upd (fun _ => none) 6 (some (I 0))) 7 (some (B false))) 10 (some (S r_3.1))) 50 (some (B v50))), (fun _ => none), 0⟩ := by
  unfold color_Read_j4 at h
  refine Sv.cond (b := v50) rfl (fun hc5 => ?_) (fun hc5 => ?_)
  · replace h := ifT hc5 h
    refine Sv.region ?_
    refine un (a1 rfl ?_)
    refine un (a1 rfl ?_)
    refine un (a1 (v := (I (r_3.1.length : Int))) rfl ?_)
    refine un (a1 (v := (I (wi ((r_3.1.length : Int) - 1)))) rfl ?_)
    obtain ⟨r_4, hx1, h⟩ := bnd h
    refine un (a1 (v := (S r_4)) (s_slStr rfl rfl rfl hx1) ?_)
    obtain ⟨r_5, hr5, h⟩ := bnd h
    refine un (ac_pure (color_parts_ok hr5) rfl rfl rfl ?_)
    refine un (a1 rfl ?_)
    refine un (a1 (v := (I r_5.1)) rfl ?_)
    refine un (a1 (v := (B r_5.2)) rfl ?_)
    refine un (a1 rfl ?_)
    refine un (a1 rfl ?_)
    refine dnil ?_
    exact Sv.weak (weak_canon [] rfl (by decide) (by decide) (fun b h => absurd h (Nat.not_lt_zero _)) (.cons rfl (avAs_free rfl) (.cons rfl (avAs_free rfl) .nil)) .nil) (color_Read_j3_ok h)
  · replace h := ifF hc5 h
    refine Sv.skip ?_
    exact Sv.weak (weak_canon [] rfl (by decide) (by decide) (fun b h => absurd h (Nat.not_lt_zero _)) (.cons rfl (avAs_free rfl) (.cons rfl (avAs_free rfl) .nil)) .nil) (color_Read_j3_ok h)
/-- clerestory/color.Read -/
noncomputable def color_Read (s_ : (List UInt8)) : Option (Int × Int) :=
  (color_lower s_).bind fun r_ =>
  if decide (r_ = [116, 114, 97, 110, 115, 112, 97, 114, 101, 110, 116]) then
    some (0, 0)
  else
    if (color_named r_).2 then
      some ((bitsV .or .i64 (shl .i64 ((color_named r_).1) 8) 255), 0)
    else
      (strings_CutPrefix r_ [35]).bind fun r_1 =>
      if r_1.2 then
        (color_hex r_1.1).bind fun r_2 =>
        color_Read_j3 r_2.1 r_2.2
      else
        (strings_CutPrefix r_ [114, 103, 98, 40]).bind fun r_3 =>
        if r_3.2 then
          (strings_HasSuffix r_3.1 [41]).bind fun r_6 =>
          color_Read_j4 r_3 (r_6 && (decide ((r_3.1.length : Int) ≤ 40)))
        else
          color_Read_j4 r_3 false
theorem color_Read_ok {mL : Int} {s_ : (List UInt8)} {r : (Int × Int)} (h : color_Read s_ = some r) : CPure Tryd.prog (GG mL) 13 [(S s_)] (.tup [(I r.1), (I r.2)]) := by
  refine acalls_of_sv hmix c13 (R := color_Read_post r) ?_
  unfold color_Read at h
  refine Sv.seq ?_
  refine Sv.region ?_
  refine un (a1 rfl ?_)
  refine un (a1 rfl ?_)
  refine dnil ?_
  refine Sv.seq ?_
  refine Sv.region ?_
  refine un (a1 rfl ?_)
  obtain ⟨r_, hr1, h⟩ := bnd h
  refine un (ac_pure (color_lower_ok hr1) rfl rfl rfl ?_)
  refine un (a1 rfl ?_)
  refine dnil ?_
  refine Sv.seq ?_
  refine Sv.seq ?_
  refine Sv.region ?_
  refine un (a1 rfl ?_)
  refine un (a1 (v := (B (decide (r_ = [116, 114, 97, 110, 115, 112, 97, 114, 101, 110, 116])))) rfl ?_)
  refine dnil ?_
  refine Sv.cond (b := decide (r_ = [116, 114, 97, 110, 115, 112, 97, 114, 101, 110, 116])) rfl (fun hc1 => ?_) (fun hc1 => ?_)
  · replace h := ifT hc1 h
    refine Sv.seq ?_
    refine Sv.region ?_
    refine un (a1 rfl ?_)
    refine un (a1 rfl ?_)
    refine dnil ?_
    refine Sv.ret ?_
    replace h := Option.some.inj h
    subst h
    exact ⟨_, .refl _, _, rfl, ⟨upd (fun _ => none) 0 (some (.tup [(I 0), (I 0)])), (fun _ => none), 0⟩, (.tup [(I 0), (I 0)]), weak_canon [] rfl List.nodup_nil (Nat.le_refl _) (fun b h => absurd h (Nat.not_lt_zero _)) (.cons rfl (avAs_tup (.cons (avAs_free rfl) (.cons (avAs_free rfl) .nil))) .nil) .nil, rfl, rfl, rfl, rfl⟩
  · replace h := ifF hc1 h
    refine Sv.skip ?_
    refine Sv.seq ?_
    refine Sv.seq ?_
    refine Sv.region ?_
    refine un (a1 rfl ?_)
    refine un (ac_pure (color_named_ok (mL := mL) r_) rfl rfl rfl ?_)
    refine un (a1 rfl ?_)
    refine un (a1 (v := (I ((color_named r_).1))) rfl ?_)
    refine un (a1 (v := (B ((color_named r_).2))) rfl ?_)
    refine un (a1 rfl ?_)
    refine un (a1 rfl ?_)
    refine dnil ?_
    refine Sv.seq ?_
    refine Sv.region ?_
    refine un (a1 rfl ?_)
    refine dnil ?_
    refine Sv.cond (b := (color_named r_).2) rfl (fun hc2 => ?_) (fun hc2 => ?_)
    · replace h := ifT hc2 h
      refine Sv.seq ?_
      refine Sv.region ?_
      refine un (a1 rfl ?_)
      refine un (a1 (v := (I (shl .i64 ((color_named r_).1) 8))) rfl ?_)
      refine un (a1 (v := (I (bitsV .or .i64 (shl .i64 ((color_named r_).1) 8) 255))) rfl ?_)
      refine un (a1 rfl ?_)
      refine un (a1 rfl ?_)
      refine dnil ?_
      refine Sv.ret ?_
      replace h := Option.some.inj h
      subst h
      exact ⟨_, .refl _, _, rfl, ⟨upd (fun _ => none) 0 (some (.tup [(I (bitsV .or .i64 (shl .i64 ((color_named r_).1) 8) 255)), (I 0)])), (fun _ => none), 0⟩, (.tup [(I (bitsV .or .i64 (shl .i64 ((color_named r_).1) 8) 255)), (I 0)]), weak_canon [] rfl List.nodup_nil (Nat.le_refl _) (fun b h => absurd h (Nat.not_lt_zero _)) (.cons rfl (avAs_tup (.cons (avAs_free rfl) (.cons (avAs_free rfl) .nil))) .nil) .nil, rfl, rfl, rfl, rfl⟩
    · replace h := ifF hc2 h
      refine Sv.skip ?_
      refine Sv.seq ?_
      refine Sv.region ?_
      refine un (a1 rfl ?_)
      refine un (a1 rfl ?_)
      refine dnil ?_
      refine Sv.seq ?_
      refine Sv.seq ?_
      refine Sv.region ?_
      refine un (a1 rfl ?_)
      obtain ⟨r_1, hr2, h⟩ := bnd h
      refine un (ac_pure (strings_CutPrefix_ok hr2) rfl rfl rfl ?_)
      refine un (a1 rfl ?_)
      refine un (a1 (v := (S r_1.1)) rfl ?_)
      refine un (a1 (v := (B r_1.2)) rfl ?_)
      refine un (a1 rfl ?_)
      refine un (a1 rfl ?_)
      refine dnil ?_
      refine Sv.seq ?_
      refine Sv.region ?_
      refine un (a1 rfl ?_)
      refine dnil ?_
      refine Sv.cond (b := r_1.2) rfl (fun hc4 => ?_) (fun hc4 => ?_)
      · replace h := ifT hc4 h
        refine Sv.region ?_
        refine un (a1 rfl ?_)
        obtain ⟨r_2, hr3, h⟩ := bnd h
        refine un (ac_pure (color_hex_ok hr3) rfl rfl rfl ?_)
        refine un (a1 rfl ?_)
        refine un (a1 (v := (I r_2.1)) rfl ?_)
        refine un (a1 (v := (B r_2.2)) rfl ?_)
        refine un (a1 rfl ?_)
        refine un (a1 rfl ?_)
        refine dnil ?_
        exact Sv.weak (weak_canon [] rfl (by decide) (by decide) (fun b h => absurd h (Nat.not_lt_zero _)) (.cons rfl (avAs_free rfl) (.cons rfl (avAs_free rfl) .nil)) .nil) (color_Read_j3_ok h)
      · replace h := ifF hc4 h
        refine Sv.seq ?_
        refine Sv.region ?_
        refine un (a1 rfl ?_)
        obtain ⟨r_3, hr4, h⟩ := bnd h
        refine un (ac_pure (strings_CutPrefix_ok hr4) rfl rfl rfl ?_)
        refine un (a1 rfl ?_)
        refine un (a1 (v := (S r_3.1)) rfl ?_)
        refine un (a1 (v := (B r_3.2)) rfl ?_)
        refine un (a1 rfl ?_)
        refine un (a1 rfl ?_)
        refine dnil ?_
        refine Sv.seq ?_
        refine Sv.region ?_
        refine un (a1 rfl ?_)
        refine un (a1 rfl ?_)
        refine split2 (fun hc6 => ?_) (fun hc6 => ?_)
        · replace h := ifT hc6 h
          refine gt rfl (a1 rfl ?_)
          obtain ⟨r_6, hr6, h⟩ := bnd h
          refine gt rfl (ac_pure (strings_HasSuffix_ok hr6) rfl rfl rfl ?_)
          refine un (a1 (v := (B r_6)) rfl ?_)
          refine un (a1 rfl ?_)
          refine gjoin 4 (d := 50) (v := (B (r_6 && (decide ((r_3.1.length : Int) ≤ 40))))) (fun X hX => ?_) ?_
          · refine split2 (fun hc7 => ?_) (fun hc7 => ?_)
            · refine gt rfl (a1 rfl ?_)
              refine gt rfl (a1 (v := (I (r_3.1.length : Int))) rfl ?_)
              refine gt rfl (a1 (v := (B (decide ((r_3.1.length : Int) ≤ 40)))) rfl ?_)
              refine un (a1 (v := (B (decide ((r_3.1.length : Int) ≤ 40)))) rfl ?_)
              refine dnil ?_
              exact hX _ (.putEq (by rw [hc7]; rfl) (.skip _ _ (.skip _ _ (.skip _ _ (.putEq (by rw [hc7]) (.refl _)) rfl) rfl) rfl))
            · refine gs rfl rfl ?_
              refine gs rfl rfl ?_
              refine gs rfl rfl ?_
              refine un (a1 (v := (B false)) rfl ?_)
              refine dnil ?_
              exact hX _ (.putEq (by rw [hc7]; rfl) (.skip _ _ (.skip _ _ (.skip _ _ (.putEq (by rw [hc7]) (.refl _)) rfl) rfl) rfl))
          refine dnil ?_
          exact Sv.weak (weak_canon [] rfl (by decide) (by decide) (fun b h => absurd h (Nat.not_lt_zero _)) (.cons rfl (avAs_free rfl) (.cons rfl (avAs_free rfl) (.cons rfl (avAs_free rfl) (.cons rfl (avAs_free rfl) .nil)))) .nil) (color_Read_j4_ok h)
        · replace h := ifF hc6 h
          refine gs rfl rfl ?_
          refine gs rfl rfl ?_
          refine un (a1 (v := (B false)) rfl ?_)
          refine un (a1 rfl ?_)
          refine gs rfl rfl ?_
          refine gs rfl rfl ?_
          refine gs rfl rfl ?_
          refine un (a1 (v := (B false)) rfl ?_)
          refine dnil ?_
          exact Sv.weak (weak_canon [] rfl (by decide) (by decide) (fun b h => absurd h (Nat.not_lt_zero _)) (.cons rfl (avAs_free rfl) (.cons rfl (avAs_free rfl) (.cons rfl (avAs_free rfl) (.cons rfl (avAs_free rfl) .nil)))) .nil) (color_Read_j4_ok h)
def a12 : AFunc := ⟨0, [(.tmp 0)], (.seq (.region [⟨(some 0), (.mov (.const (.c (.val (.bool false))))), none⟩])
 (.seq (.region [⟨(some 4), (.call 13 [(.const (.c (.str [35, 70, 48, 48])))]), none⟩, ⟨(some 3), (.mov (.tmp 4)), none⟩, ⟨(some 5), (.ext (.tmp 3) 0), none⟩, ⟨(some 6), (.ext (.tmp 3) 1), none⟩, ⟨(some 1), (.mov (.tmp 5)), none⟩, ⟨(some 2), (.mov (.tmp 6)), none⟩])
 (.seq (.region [⟨(some 7), (.mov (.tmp 2)), none⟩, ⟨(some 8), (.bin .eql (.tmp 7) (.const (.c (.val (.int .i64 0))))), none⟩, ⟨(some 9), (.mov (.tmp 8)), none⟩, ⟨(some 10), (.mov (.tmp 1)), (some (9, true))⟩, ⟨(some 11), (.bin .eql (.tmp 10) (.const (.c (.val (.int .i64 4278190335))))), (some (9, true))⟩, ⟨(some 12), (.pick (.tmp 9) (.tmp 11) (.const (.c (.val (.bool false))))), none⟩, ⟨(some 0), (.mov (.tmp 12)), none⟩])
 .ret)))⟩
set_option maxRecDepth 100000 in
theorem c12 : compFunc Tryd.prog 12 = some a12 := by kernel_rfl
def clerestorylaw2_red_post (r : Bool) : AV → Heap → Nat → Prop := fun v h' n' => v = (B r) ∧ (h' = (fun _ => none)) ∧ n' = 0
/-- clerestory/clerestorylaw2.red -/
noncomputable def clerestorylaw2_red : Option Bool :=
  (color_Read [35, 70, 48, 48]).bind fun r_ =>
  some ((decide (r_.2 = 0)) && (decide (r_.1 = 4278190335)))
theorem clerestorylaw2_red_ok {mL : Int} {r : Bool} (h : clerestorylaw2_red = some r) : CPure Tryd.prog (GG mL) 12 [] (B r) := by
  refine acalls_of_sv hmix c12 (R := clerestorylaw2_red_post r) ?_
  unfold clerestorylaw2_red at h
  refine Sv.seq ?_
  refine Sv.region ?_
  refine un (a1 rfl ?_)
  refine dnil ?_
  refine Sv.seq ?_
  refine Sv.region ?_
  obtain ⟨r_, hr1, h⟩ := bnd h
  refine un (ac_pure (color_Read_ok hr1) rfl rfl rfl ?_)
  refine un (a1 rfl ?_)
  refine un (a1 (v := (I r_.1)) rfl ?_)
  refine un (a1 (v := (I r_.2)) rfl ?_)
  refine un (a1 rfl ?_)
  refine un (a1 rfl ?_)
  refine dnil ?_
  refine Sv.seq ?_
  refine Sv.region ?_
  refine un (a1 rfl ?_)
  refine un (a1 (v := (B (decide (r_.2 = 0)))) rfl ?_)
  refine un (a1 rfl ?_)
  refine gjoin 3 (d := 12) (v := (B ((decide (r_.2 = 0)) && (decide (r_.1 = 4278190335))))) (fun X hX => ?_) ?_
  · refine split2 (fun hc1 => ?_) (fun hc1 => ?_)
    · refine gt rfl (a1 rfl ?_)
      refine gt rfl (a1 (v := (B (decide (r_.1 = 4278190335)))) rfl ?_)
      refine un (a1 (v := (B (decide (r_.1 = 4278190335)))) rfl ?_)
      refine dnil ?_
      exact hX _ (.putEq (by rw [hc1]; rfl) (.skip _ _ (.skip _ _ (.putEq (by rw [hc1]) (.refl _)) rfl) rfl))
    · refine gs rfl rfl ?_
      refine gs rfl rfl ?_
      refine un (a1 (v := (B false)) rfl ?_)
      refine dnil ?_
      exact hX _ (.putEq (by rw [hc1]; rfl) (.skip _ _ (.skip _ _ (.putEq (by rw [hc1]) (.refl _)) rfl) rfl))
  refine un (a1 rfl ?_)
  refine dnil ?_
  refine Sv.ret ?_
  replace h := Option.some.inj h
  subst h
  exact ⟨_, .refl _, _, rfl, ⟨upd (fun _ => none) 0 (some (B ((decide (r_.2 = 0)) && (decide (r_.1 = 4278190335))))), (fun _ => none), 0⟩, (B ((decide (r_.2 = 0)) && (decide (r_.1 = 4278190335)))), weak_canon [] rfl List.nodup_nil (Nat.le_refl _) (fun b h => absurd h (Nat.not_lt_zero _)) (.cons rfl (avAs_free rfl) .nil) .nil, rfl, rfl, rfl, rfl⟩
def a44 : AFunc := ⟨2, [(.tmp 4)], (.seq (.region [⟨(some 4), (.mov (.const (.c (.val (.int .i64 0))))), none⟩])
 (.seq (.region [⟨(some 5), (.mov (.tmp 0)), none⟩, ⟨(some 6), (.conv .u32 (.tmp 5)), none⟩, ⟨(some 7), (.mov (.tmp 1)), none⟩, ⟨(some 8), (.bin .mul (.const (.c (.val (.int .i64 8)))) (.tmp 7)), none⟩, ⟨(some 9), (.bin .shr (.tmp 6) (.tmp 8)), none⟩, ⟨(some 10), (.bin .and (.tmp 9) (.const (.c (.val (.int .u32 255))))), none⟩, ⟨(some 11), (.conv .i64 (.tmp 10)), none⟩, ⟨(some 4), (.mov (.tmp 11)), none⟩])
 .ret))⟩
set_option maxRecDepth 100000 in
theorem c44 : compFunc Tryd.prog 44 = some a44 := by kernel_rfl
def color_part_post (r : Int) : AV → Heap → Nat → Prop := fun v h' n' => v = (I r) ∧ (h' = (fun _ => none)) ∧ n' = 0
/-- clerestory/color.part -/
noncomputable def color_part (c_ : Int) (at_ : Int) : Option Int :=
  (shr? .u32 (wr .u32 c_) (wi (8 * at_))).bind fun r_ =>
  some (wr .i64 (bitsV .and .u32 r_ 255))
theorem color_part_ok {mL : Int} {c_ : Int} {at_ : Int} {r : Int} (h : color_part c_ at_ = some r) : CPure Tryd.prog (GG mL) 44 [(I c_), (I at_)] (I r) := by
  refine acalls_of_sv hmix c44 (R := color_part_post r) ?_
  unfold color_part at h
  refine Sv.seq ?_
  refine Sv.region ?_
  refine un (a1 rfl ?_)
  refine dnil ?_
  refine Sv.seq ?_
  refine Sv.region ?_
  refine un (a1 rfl ?_)
  refine un (a1 (v := (.c (.val (.int .u32 (wr .u32 c_))))) rfl ?_)
  refine un (a1 rfl ?_)
  refine un (a1 (v := (I (wi (8 * at_)))) rfl ?_)
  obtain ⟨r_, hx1, h⟩ := bnd h
  refine un (a1 (v := (.c (.val (.int .u32 r_)))) (s_shr rfl rfl hx1) ?_)
  refine un (a1 (v := (.c (.val (.int .u32 (bitsV .and .u32 r_ 255))))) rfl ?_)
  refine un (a1 (v := (I (wr .i64 (bitsV .and .u32 r_ 255)))) rfl ?_)
  refine un (a1 rfl ?_)
  refine dnil ?_
  refine Sv.ret ?_
  replace h := Option.some.inj h
  subst h
  exact ⟨_, .refl _, _, rfl, ⟨upd (fun _ => none) 0 (some (I (wr .i64 (bitsV .and .u32 r_ 255)))), (fun _ => none), 0⟩, (I (wr .i64 (bitsV .and .u32 r_ 255))), weak_canon [] rfl List.nodup_nil (Nat.le_refl _) (fun b h => absurd h (Nat.not_lt_zero _)) (.cons rfl (avAs_free rfl) .nil) .nil, rfl, rfl, rfl, rfl⟩
def a17_c0 : ACode := (.seq (.region [⟨(some 28), (.bin .lss (.tmp 27) (.const (.c (.val (.int .i64 3))))), none⟩])
 (.seq (.cond (.tmp 28) .skip (.exit 0))
 (.seq (.block 1 (.seq (.region [⟨(some 29), (.idxA false 3 1 (.tmp 26) (.tmp 27)), none⟩, ⟨(some 10), (.mov (.tmp 29)), none⟩])
 (.seq (.region [⟨(some 30), (.mov (.tmp 0)), none⟩, ⟨(some 31), (.mov (.tmp 10)), none⟩, ⟨(some 32), (.call 44 [(.tmp 30), (.tmp 31)]), none⟩, ⟨(some 33), (.mov (.tmp 5)), none⟩, ⟨(some 34), (.bin .mul (.tmp 32) (.tmp 33)), none⟩, ⟨(some 35), (.bin .mul (.tmp 34) (.const (.c (.val (.int .i64 255))))), none⟩, ⟨(some 36), (.mov (.tmp 1)), none⟩, ⟨(some 37), (.mov (.tmp 10)), none⟩, ⟨(some 38), (.call 44 [(.tmp 36), (.tmp 37)]), none⟩, ⟨(some 39), (.mov (.tmp 6)), none⟩, ⟨(some 40), (.bin .mul (.tmp 38) (.tmp 39)), none⟩, ⟨(some 41), (.mov (.tmp 5)), none⟩, ⟨(some 42), (.bin .sub (.const (.c (.val (.int .i64 255)))) (.tmp 41)), none⟩, ⟨(some 43), (.bin .mul (.tmp 40) (.tmp 42)), none⟩, ⟨(some 44), (.bin .add (.tmp 35) (.tmp 43)), none⟩, ⟨(some 45), (.mov (.tmp 7)), none⟩, ⟨(some 46), (.bin .mul (.tmp 45) (.const (.c (.val (.int .i64 255))))), none⟩, ⟨(some 47), (.bin .quo (.tmp 44) (.tmp 46)), none⟩, ⟨(some 11), (.mov (.tmp 47)), none⟩])
 (.region [⟨(some 48), (.mov (.tmp 8)), none⟩, ⟨(some 49), (.bin .shl (.tmp 48) (.const (.c (.val (.int .u64 8))))), none⟩, ⟨(some 50), (.mov (.tmp 11)), none⟩, ⟨(some 51), (.mm false [(.tmp 50), (.const (.c (.val (.int .i64 255))))]), none⟩, ⟨(some 52), (.bin .or (.tmp 49) (.tmp 51)), none⟩, ⟨(some 8), (.mov (.tmp 52)), none⟩]))))
 (.region [⟨(some 53), (.bin .add (.tmp 27) (.const (.c (.val (.int .i64 1))))), none⟩, ⟨(some 27), (.mov (.tmp 53)), none⟩]))))
def a17 : AFunc := ⟨2, [(.tmp 4)], (.seq (.region [⟨(some 4), (.mov (.const (.c (.val (.int .i64 0))))), none⟩])
 (.seq (.region [⟨(some 12), (.mov (.tmp 0)), none⟩, ⟨(some 13), (.call 44 [(.tmp 12), (.const (.c (.val (.int .i64 0))))]), none⟩, ⟨(some 14), (.mov (.tmp 1)), none⟩, ⟨(some 15), (.call 44 [(.tmp 14), (.const (.c (.val (.int .i64 0))))]), none⟩, ⟨(some 5), (.mov (.tmp 13)), none⟩, ⟨(some 6), (.mov (.tmp 15)), none⟩])
 (.seq (.region [⟨(some 16), (.mov (.tmp 5)), none⟩, ⟨(some 17), (.mov (.tmp 6)), none⟩, ⟨(some 18), (.bin .add (.tmp 16) (.tmp 17)), none⟩, ⟨(some 19), (.mov (.tmp 5)), none⟩, ⟨(some 20), (.mov (.tmp 6)), none⟩, ⟨(some 21), (.bin .mul (.tmp 19) (.tmp 20)), none⟩, ⟨(some 22), (.bin .quo (.tmp 21) (.const (.c (.val (.int .i64 255))))), none⟩, ⟨(some 23), (.bin .sub (.tmp 18) (.tmp 22)), none⟩, ⟨(some 7), (.mov (.tmp 23)), none⟩])
 (.seq (.seq (.region [⟨(some 24), (.mov (.tmp 7)), none⟩, ⟨(some 25), (.bin .eql (.tmp 24) (.const (.c (.val (.int .i64 0))))), none⟩])
 (.cond (.tmp 25) (.seq (.region [⟨(some 4), (.mov (.const (.c (.val (.int .i64 0))))), none⟩])
 .ret) .skip))
 (.seq (.region [⟨(some 8), (.mov (.const (.c (.val (.int .i64 0))))), none⟩])
 (.seq (.seq (.region [⟨(some 26), (.build [(.val (.int .i64 0)), (.val (.int .i64 0)), (.val (.int .i64 0))] [(0, (1, (.const (.c (.val (.int .i64 3)))))), (1, (1, (.const (.c (.val (.int .i64 2)))))), (2, (1, (.const (.c (.val (.int .i64 1))))))]), none⟩, ⟨(some 27), (.mov (.const (.c (.val (.int .i64 0))))), none⟩])
 (.block 0 (.loop a17_c0)))
 (.seq (.region [⟨(some 54), (.mov (.tmp 8)), none⟩, ⟨(some 55), (.bin .shl (.tmp 54) (.const (.c (.val (.int .u64 8))))), none⟩, ⟨(some 56), (.mov (.tmp 7)), none⟩, ⟨(some 57), (.bin .or (.tmp 55) (.tmp 56)), none⟩, ⟨(some 4), (.mov (.tmp 57)), none⟩])
 .ret)))))))⟩
set_option maxRecDepth 100000 in
theorem c17 : compFunc Tryd.prog 17 = some a17 := by kernel_rfl
def color_Over_post (r : Int) : AV → Heap → Nat → Prop := fun v h' n' => v = (I r) ∧ (h' = (fun _ => none)) ∧ n' = 0
noncomputable def color_Over_l0 (top : Int) (under : Int) (r_ : Int) (r_1 : Int) (K0_ : Int → Option Int) : Nat → Int → Int → Option Int
  | 0, _, _ => none
  | k + 1, out, v27 =>
    if decide (v27 < 3) then
      (at? [3, 2, 1] v27).bind fun x_ =>
      (color_part top x_).bind fun r_2 =>
      (color_part under x_).bind fun r_3 =>
      letIn (wi ((wi ((wi (r_2 * r_)) * 255)) + (wi ((wi (r_3 * r_1)) * (wi (255 - r_)))))) fun v44 : Int =>
      (quo? .i64 v44 (wi ((wi ((wi (r_ + r_1)) - (wi ((wi (r_ * r_1)).tdiv 255)))) * 255))).bind fun r_4 =>
      (color_Over_l0 top under r_ r_1 K0_ k) (bitsV .or .i64 (shl .i64 out 8) (mn r_4 255)) (wi (v27 + 1))
    else
      K0_ out
theorem color_Over_l0_ok {mL : Int} {Q : AExit → St → Prop} {top : Int} {under : Int} {r_ : Int} {r_1 : Int} {K0_ : Int → Option Int} {k : Nat} {out : Int} {v27 : Int} {o : Int} (h : color_Over_l0 top under r_ r_1 K0_ k out v27 = some o)
    (hK0 : ∀ (out1 : Int), K0_ out1 = some o → ∀ s, Weak 0 s ⟨(upd (upd (fun _ => none) 7 (some (I (wi ((wi (r_ + r_1)) - (wi ((wi (r_ * r_1)).tdiv 255))))))) 8 (some (I out1))), (fun _ => none), 0⟩ → Q (.exit 0) s)
    (hr : ∀ s, Ends a17.results 0 (color_Over_post o) .ret s → Q .ret s) :
    Sv Tryd.prog (GG mL) 0 (.loop a17_c0) Q ⟨(upd (upd (upd (upd (upd (upd (upd (upd (fun _ => none) 0 (some (I top))) 1 (some (I under))) 5 (some (I r_))) 6 (some (I r_1))) 7 (some (I (wi ((wi (r_ + r_1)) - (wi ((wi (r_ * r_1)).tdiv 255))))))) 8 (some (I out))) 26 (some (.agg [cI 3, cI 2, cI 1]))) 27 (some (I v27))), (fun _ => none), 0⟩ := by
  refine Sv.loop (I := fun k s => ∃ (out : Int), ∃ (v27 : Int), color_Over_l0 top under r_ r_1 K0_ k out v27 = some o ∧ s = ⟨(upd (upd (upd (upd (upd (upd (upd (upd (fun _ => none) 0 (some (I top))) 1 (some (I under))) 5 (some (I r_))) 6 (some (I r_1))) 7 (some (I (wi ((wi (r_ + r_1)) - (wi ((wi (r_ * r_1)).tdiv 255))))))) 8 (some (I out))) 26 (some (.agg [cI 3, cI 2, cI 1]))) 27 (some (I v27))), (fun _ => none), 0⟩) (fun k s hI => ?_) ⟨out, v27, h, rfl⟩
  clear h
  clear v27 out
  obtain ⟨out, v27, h, rfl⟩ := hI
  cases k with
  | zero => cases h
  | succ k =>
  rw [color_Over_l0] at h
  have hself : ∀ (out : Int) (v27 : Int), (color_Over_l0 top under r_ r_1 K0_ k) out v27 = some o → ∀ s, Weak 0 s ⟨(upd (upd (upd (upd (upd (upd (upd (upd (fun _ => none) 0 (some (I top))) 1 (some (I under))) 5 (some (I r_))) 6 (some (I r_1))) 7 (some (I (wi ((wi (r_ + r_1)) - (wi ((wi (r_ * r_1)).tdiv 255))))))) 8 (some (I out))) 26 (some (.agg [cI 3, cI 2, cI 1]))) 27 (some (I v27))), (fun _ => none), 0⟩ → (AThen (fun s' => ∃ s'' k', Weak 0 s' s'' ∧ k' < k + 1 ∧ (fun k s => ∃ (out : Int), ∃ (v27 : Int), color_Over_l0 top under r_ r_1 K0_ k out v27 = some o ∧ s = ⟨(upd (upd (upd (upd (upd (upd (upd (upd (fun _ => none) 0 (some (I top))) 1 (some (I under))) 5 (some (I r_))) 6 (some (I r_1))) 7 (some (I (wi ((wi (r_ + r_1)) - (wi ((wi (r_ * r_1)).tdiv 255))))))) 8 (some (I out))) 26 (some (.agg [cI 3, cI 2, cI 1]))) 27 (some (I v27))), (fun _ => none), 0⟩) k' s'') Q) .normal s := fun out v27 h s hw => ⟨_, k, hw, Nat.lt_succ_self k, out, v27, h, rfl⟩
  refine Sv.seq ?_
  refine Sv.region ?_
  refine un (a1 (v := (B (decide (v27 < 3)))) rfl ?_)
  refine dnil ?_
  refine Sv.seq ?_
  refine Sv.cond (b := decide (v27 < 3)) rfl (fun hc2 => ?_) (fun hc2 => ?_)
  · replace h := ifT hc2 h
    refine Sv.skip ?_
    refine Sv.seq ?_
    refine Sv.block ?_
    refine Sv.seq ?_
    refine Sv.region ?_
    obtain ⟨x_, hx1, h⟩ := bnd h
    refine un (a1 (v := (I x_)) (s_idxA (L := [3, 2, 1]) (v := fun q => (I q)) rfl rfl rfl (.cons rfl (.cons rfl (.cons rfl .nil))) hx1) ?_)
    refine un (a1 rfl ?_)
    refine dnil ?_
    refine Sv.seq ?_
    refine Sv.region ?_
    refine un (a1 rfl ?_)
    refine un (a1 rfl ?_)
    obtain ⟨r_2, hr3, h⟩ := bnd h
    refine un (ac_pure (color_part_ok hr3) rfl rfl rfl ?_)
    refine un (a1 rfl ?_)
    refine un (a1 (v := (I (wi (r_2 * r_)))) rfl ?_)
    refine un (a1 (v := (I (wi ((wi (r_2 * r_)) * 255)))) rfl ?_)
    refine un (a1 rfl ?_)
    refine un (a1 rfl ?_)
    obtain ⟨r_3, hr4, h⟩ := bnd h
    refine un (ac_pure (color_part_ok hr4) rfl rfl rfl ?_)
    refine un (a1 rfl ?_)
    refine un (a1 (v := (I (wi (r_3 * r_1)))) rfl ?_)
    refine un (a1 rfl ?_)
    refine un (a1 (v := (I (wi (255 - r_)))) rfl ?_)
    refine un (a1 (v := (I (wi ((wi (r_3 * r_1)) * (wi (255 - r_)))))) rfl ?_)
    obtain ⟨v44, hv44⟩ : ∃ v44 : Int, v44 = (wi ((wi ((wi (r_2 * r_)) * 255)) + (wi ((wi (r_3 * r_1)) * (wi (255 - r_)))))) := ⟨_, rfl⟩
    replace h := letAt hv44 h
    refine un (a1 (v := (I v44)) (by rw [hv44]; rfl) ?_)
    clear hv44
    refine un (a1 rfl ?_)
    refine un (a1 (v := (I (wi ((wi ((wi (r_ + r_1)) - (wi ((wi (r_ * r_1)).tdiv 255)))) * 255)))) rfl ?_)
    obtain ⟨r_4, hx2, h⟩ := bnd h
    refine un (a1 (v := (I r_4)) (s_quo rfl rfl hx2) ?_)
    refine un (a1 rfl ?_)
    refine dnil ?_
    refine Sv.region ?_
    refine un (a1 rfl ?_)
    refine un (a1 (v := (I (shl .i64 out 8))) rfl ?_)
    refine un (a1 rfl ?_)
    refine un (a1 (v := (I (mn r_4 255))) (s_mn rfl rfl) ?_)
    refine un (a1 (v := (I (bitsV .or .i64 (shl .i64 out 8) (mn r_4 255)))) rfl ?_)
    refine un (a1 rfl ?_)
    refine dnil ?_
    refine Sv.region ?_
    refine un (a1 (v := (I (wi (v27 + 1)))) rfl ?_)
    refine un (a1 rfl ?_)
    refine dnil ?_
    exact hself (bitsV .or .i64 (shl .i64 out 8) (mn r_4 255)) (wi (v27 + 1)) h _ (weak_canon [] rfl (by decide) (by decide) (fun b h => absurd h (Nat.not_lt_zero _)) (.cons rfl (avAs_free rfl) (.cons rfl (avAs_free rfl) (.cons rfl (avAs_free rfl) (.cons rfl (avAs_free rfl) (.cons rfl (avAs_free rfl) (.cons rfl (avAs_free rfl) (.cons rfl (avAs_free rfl) (.cons rfl (avAs_free rfl) .nil)))))))) .nil)
  · replace h := ifF hc2 h
    refine Sv.exit ?_
    exact hK0 out h _ (weak_canon [] rfl (by decide) (by decide) (fun b h => absurd h (Nat.not_lt_zero _)) (.cons rfl (avAs_free rfl) (.cons rfl (avAs_free rfl) .nil)) .nil)
/-- clerestory/color.Over -/
noncomputable def color_Over (top : Int) (under : Int) : Option Int :=
  (color_part top 0).bind fun r_ =>
  (color_part under 0).bind fun r_1 =>
  if decide ((wi ((wi (r_ + r_1)) - (wi ((wi (r_ * r_1)).tdiv 255)))) = 0) then
    some 0
  else
    lim fun kk => color_Over_l0 top under r_ r_1 (fun (out1 : Int) => 
        letIn (bitsV .or .i64 (shl .i64 out1 8) (wi ((wi (r_ + r_1)) - (wi ((wi (r_ * r_1)).tdiv 255))))) fun v57 : Int =>
        some v57) kk 0 0
theorem color_Over_ok {mL : Int} {top : Int} {under : Int} {r : Int} (h : color_Over top under = some r) : CPure Tryd.prog (GG mL) 17 [(I top), (I under)] (I r) := by
  refine acalls_of_sv hmix c17 (R := color_Over_post r) ?_
  unfold color_Over at h
  refine Sv.seq ?_
  refine Sv.region ?_
  refine un (a1 rfl ?_)
  refine dnil ?_
  refine Sv.seq ?_
  refine Sv.region ?_
  refine un (a1 rfl ?_)
  obtain ⟨r_, hr1, h⟩ := bnd h
  refine un (ac_pure (color_part_ok hr1) rfl rfl rfl ?_)
  refine un (a1 rfl ?_)
  obtain ⟨r_1, hr2, h⟩ := bnd h
  refine un (ac_pure (color_part_ok hr2) rfl rfl rfl ?_)
  refine un (a1 rfl ?_)
  refine un (a1 rfl ?_)
  refine dnil ?_
  refine Sv.seq ?_
  refine Sv.region ?_
  refine un (a1 rfl ?_)
  refine un (a1 rfl ?_)
  refine un (a1 (v := (I (wi (r_ + r_1)))) rfl ?_)
  refine un (a1 rfl ?_)
  refine un (a1 rfl ?_)
  refine un (a1 (v := (I (wi (r_ * r_1)))) rfl ?_)
  refine un (a1 (v := (I (wi ((wi (r_ * r_1)).tdiv 255)))) rfl ?_)
  refine un (a1 (v := (I (wi ((wi (r_ + r_1)) - (wi ((wi (r_ * r_1)).tdiv 255)))))) rfl ?_)
  refine un (a1 rfl ?_)
  refine dnil ?_
  refine Sv.seq ?_
  refine Sv.seq ?_
  refine Sv.region ?_
  refine un (a1 rfl ?_)
  refine un (a1 (v := (B (decide ((wi ((wi (r_ + r_1)) - (wi ((wi (r_ * r_1)).tdiv 255)))) = 0)))) rfl ?_)
  refine dnil ?_
  refine Sv.cond (b := decide ((wi ((wi (r_ + r_1)) - (wi ((wi (r_ * r_1)).tdiv 255)))) = 0)) rfl (fun hc1 => ?_) (fun hc1 => ?_)
  · replace h := ifT hc1 h
    refine Sv.seq ?_
    refine Sv.region ?_
    refine un (a1 rfl ?_)
    refine dnil ?_
    refine Sv.ret ?_
    replace h := Option.some.inj h
    subst h
    exact ⟨_, .refl _, _, rfl, ⟨upd (fun _ => none) 0 (some (I 0)), (fun _ => none), 0⟩, (I 0), weak_canon [] rfl List.nodup_nil (Nat.le_refl _) (fun b h => absurd h (Nat.not_lt_zero _)) (.cons rfl (avAs_free rfl) .nil) .nil, rfl, rfl, rfl, rfl⟩
  · replace h := ifF hc1 h
    refine Sv.skip ?_
    refine Sv.seq ?_
    refine Sv.region ?_
    refine un (a1 rfl ?_)
    refine dnil ?_
    refine Sv.seq ?_
    refine Sv.seq ?_
    refine Sv.region ?_
    refine un (a1 (v := (.agg [cI 3, cI 2, cI 1])) rfl ?_)
    refine un (a1 rfl ?_)
    refine dnil ?_
    refine Sv.block ?_
    obtain ⟨kk, h⟩ := lim_some h
    refine Sv.weak (weak_canon [] rfl (by decide) (by decide) (fun b h => absurd h (Nat.not_lt_zero _)) (.cons rfl (avAs_free rfl) (.cons rfl (avAs_free rfl) (.cons rfl (avAs_free rfl) (.cons rfl (avAs_free rfl) (.cons rfl (avAs_free rfl) (.cons rfl (avAs_free rfl) (.cons rfl (avAs_free rfl) (.cons rfl (avAs_free rfl) .nil)))))))) .nil) (color_Over_l0_ok h ?_ (fun s hs => hs))
    · intro out1 h _ hw1
      refine Sv.weak hw1 ?_
      refine Sv.seq ?_
      refine Sv.region ?_
      refine un (a1 rfl ?_)
      refine un (a1 (v := (I (shl .i64 out1 8))) rfl ?_)
      refine un (a1 rfl ?_)
      obtain ⟨v57, hv57⟩ : ∃ v57 : Int, v57 = (bitsV .or .i64 (shl .i64 out1 8) (wi ((wi (r_ + r_1)) - (wi ((wi (r_ * r_1)).tdiv 255))))) := ⟨_, rfl⟩
      replace h := letAt hv57 h
      refine un (a1 (v := (I v57)) (by rw [hv57]; rfl) ?_)
      clear hv57
      refine un (a1 rfl ?_)
      refine dnil ?_
      refine Sv.ret ?_
      replace h := Option.some.inj h
      subst h
      exact ⟨_, .refl _, _, rfl, ⟨upd (fun _ => none) 0 (some (I v57)), (fun _ => none), 0⟩, (I v57), weak_canon [] rfl List.nodup_nil (Nat.le_refl _) (fun b h => absurd h (Nat.not_lt_zero _)) (.cons rfl (avAs_free rfl) .nil) .nil, rfl, rfl, rfl, rfl⟩
def a15 : AFunc := ⟨2, [(.tmp 4)], (.seq (.region [⟨(some 4), (.mov (.const (.c (.val (.int .i64 0))))), none⟩])
 (.seq (.region [⟨(some 5), (.mov (.tmp 0)), none⟩, ⟨(some 6), (.conv .u32 (.tmp 5)), none⟩, ⟨(some 7), (.mov (.tmp 1)), none⟩, ⟨(some 8), (.bin .mul (.const (.c (.val (.int .i64 8)))) (.tmp 7)), none⟩, ⟨(some 9), (.conv .u64 (.tmp 8)), none⟩, ⟨(some 10), (.bin .shr (.tmp 6) (.tmp 9)), none⟩, ⟨(some 11), (.conv .i64 (.tmp 10)), none⟩, ⟨(some 12), (.bin .rem (.tmp 11) (.const (.c (.val (.int .i64 256))))), none⟩, ⟨(some 4), (.mov (.tmp 12)), none⟩])
 .ret))⟩
set_option maxRecDepth 100000 in
theorem c15 : compFunc Tryd.prog 15 = some a15 := by kernel_rfl
def clerestoryref2_Byte_post (r : Int) : AV → Heap → Nat → Prop := fun v h' n' => v = (I r) ∧ (h' = (fun _ => none)) ∧ n' = 0
/-- clerestory/clerestoryref2.Byte -/
noncomputable def clerestoryref2_Byte (c_ : Int) (i_ : Int) : Option Int :=
  (shr? .u32 (wr .u32 c_) (wr .u64 (wi (8 * i_)))).bind fun r_ =>
  some ((wr .i64 r_).tmod 256)
theorem clerestoryref2_Byte_ok {mL : Int} {c_ : Int} {i_ : Int} {r : Int} (h : clerestoryref2_Byte c_ i_ = some r) : CPure Tryd.prog (GG mL) 15 [(I c_), (I i_)] (I r) := by
  refine acalls_of_sv hmix c15 (R := clerestoryref2_Byte_post r) ?_
  unfold clerestoryref2_Byte at h
  refine Sv.seq ?_
  refine Sv.region ?_
  refine un (a1 rfl ?_)
  refine dnil ?_
  refine Sv.seq ?_
  refine Sv.region ?_
  refine un (a1 rfl ?_)
  refine un (a1 (v := (.c (.val (.int .u32 (wr .u32 c_))))) rfl ?_)
  refine un (a1 rfl ?_)
  refine un (a1 (v := (I (wi (8 * i_)))) rfl ?_)
  refine un (a1 (v := (.c (.val (.int .u64 (wr .u64 (wi (8 * i_))))))) rfl ?_)
  obtain ⟨r_, hx1, h⟩ := bnd h
  refine un (a1 (v := (.c (.val (.int .u32 r_)))) (s_shr rfl rfl hx1) ?_)
  refine un (a1 (v := (I (wr .i64 r_))) rfl ?_)
  refine un (a1 (v := (I ((wr .i64 r_).tmod 256))) rfl ?_)
  refine un (a1 rfl ?_)
  refine dnil ?_
  refine Sv.ret ?_
  replace h := Option.some.inj h
  subst h
  exact ⟨_, .refl _, _, rfl, ⟨upd (fun _ => none) 0 (some (I ((wr .i64 r_).tmod 256))), (fun _ => none), 0⟩, (I ((wr .i64 r_).tmod 256)), weak_canon [] rfl List.nodup_nil (Nat.le_refl _) (fun b h => absurd h (Nat.not_lt_zero _)) (.cons rfl (avAs_free rfl) .nil) .nil, rfl, rfl, rfl, rfl⟩
def a18_c0 : ACode := (.seq (.seq (.region [⟨(some 24), (.mov (.tmp 9)), none⟩, ⟨(some 25), (.bin .gtr (.tmp 24) (.const (.c (.val (.int .i64 0))))), none⟩])
 (.cond (.tmp 25) .skip (.exit 0)))
 (.seq (.block 1 (.region [⟨(some 28), (.mov (.tmp 8)), none⟩, ⟨(some 29), (.bin .mul (.const (.c (.val (.int .i64 256)))) (.tmp 28)), none⟩, ⟨(some 30), (.mov (.tmp 0)), none⟩, ⟨(some 31), (.mov (.tmp 9)), none⟩, ⟨(some 32), (.call 15 [(.tmp 30), (.tmp 31)]), none⟩, ⟨(some 33), (.mov (.tmp 5)), none⟩, ⟨(some 34), (.bin .mul (.tmp 32) (.tmp 33)), none⟩, ⟨(some 35), (.bin .mul (.tmp 34) (.const (.c (.val (.int .i64 255))))), none⟩, ⟨(some 36), (.mov (.tmp 1)), none⟩, ⟨(some 37), (.mov (.tmp 9)), none⟩, ⟨(some 38), (.call 15 [(.tmp 36), (.tmp 37)]), none⟩, ⟨(some 39), (.mov (.tmp 6)), none⟩, ⟨(some 40), (.bin .mul (.tmp 38) (.tmp 39)), none⟩, ⟨(some 41), (.mov (.tmp 5)), none⟩, ⟨(some 42), (.bin .sub (.const (.c (.val (.int .i64 255)))) (.tmp 41)), none⟩, ⟨(some 43), (.bin .mul (.tmp 40) (.tmp 42)), none⟩, ⟨(some 44), (.bin .add (.tmp 35) (.tmp 43)), none⟩, ⟨(some 45), (.mov (.tmp 7)), none⟩, ⟨(some 46), (.bin .mul (.tmp 45) (.const (.c (.val (.int .i64 255))))), none⟩, ⟨(some 47), (.bin .quo (.tmp 44) (.tmp 46)), none⟩, ⟨(some 48), (.mm false [(.const (.c (.val (.int .i64 255)))), (.tmp 47)]), none⟩, ⟨(some 49), (.bin .add (.tmp 29) (.tmp 48)), none⟩, ⟨(some 8), (.mov (.tmp 49)), none⟩]))
 (.region [⟨(some 26), (.mov (.tmp 9)), none⟩, ⟨(some 27), (.bin .sub (.tmp 26) (.const (.c (.val (.int .i64 1))))), none⟩, ⟨(some 9), (.mov (.tmp 27)), none⟩])))
def a18 : AFunc := ⟨2, [(.tmp 4)], (.seq (.region [⟨(some 4), (.mov (.const (.c (.val (.int .i64 0))))), none⟩])
 (.seq (.region [⟨(some 10), (.mov (.tmp 0)), none⟩, ⟨(some 11), (.call 15 [(.tmp 10), (.const (.c (.val (.int .i64 0))))]), none⟩, ⟨(some 5), (.mov (.tmp 11)), none⟩])
 (.seq (.region [⟨(some 12), (.mov (.tmp 1)), none⟩, ⟨(some 13), (.call 15 [(.tmp 12), (.const (.c (.val (.int .i64 0))))]), none⟩, ⟨(some 6), (.mov (.tmp 13)), none⟩])
 (.seq (.region [⟨(some 14), (.mov (.tmp 5)), none⟩, ⟨(some 15), (.mov (.tmp 6)), none⟩, ⟨(some 16), (.bin .add (.tmp 14) (.tmp 15)), none⟩, ⟨(some 17), (.mov (.tmp 5)), none⟩, ⟨(some 18), (.mov (.tmp 6)), none⟩, ⟨(some 19), (.bin .mul (.tmp 17) (.tmp 18)), none⟩, ⟨(some 20), (.bin .quo (.tmp 19) (.const (.c (.val (.int .i64 255))))), none⟩, ⟨(some 21), (.bin .sub (.tmp 16) (.tmp 20)), none⟩, ⟨(some 7), (.mov (.tmp 21)), none⟩])
 (.seq (.seq (.region [⟨(some 22), (.mov (.tmp 7)), none⟩, ⟨(some 23), (.bin .eql (.tmp 22) (.const (.c (.val (.int .i64 0))))), none⟩])
 (.cond (.tmp 23) (.seq (.region [⟨(some 4), (.mov (.const (.c (.val (.int .i64 0))))), none⟩])
 .ret) .skip))
 (.seq (.region [⟨(some 8), (.mov (.const (.c (.val (.int .i64 0))))), none⟩])
 (.seq (.seq (.region [⟨(some 9), (.mov (.const (.c (.val (.int .i64 3))))), none⟩])
 (.block 0 (.loop a18_c0)))
 (.seq (.region [⟨(some 50), (.mov (.tmp 8)), none⟩, ⟨(some 51), (.bin .mul (.const (.c (.val (.int .i64 256)))) (.tmp 50)), none⟩, ⟨(some 52), (.mov (.tmp 7)), none⟩, ⟨(some 53), (.bin .add (.tmp 51) (.tmp 52)), none⟩, ⟨(some 4), (.mov (.tmp 53)), none⟩])
 .ret))))))))⟩
set_option maxRecDepth 100000 in
theorem c18 : compFunc Tryd.prog 18 = some a18 := by kernel_rfl
def clerestoryref2_OverOf_post (r : Int) : AV → Heap → Nat → Prop := fun v h' n' => v = (I r) ∧ (h' = (fun _ => none)) ∧ n' = 0
noncomputable def clerestoryref2_OverOf_l0 (top : Int) (under : Int) (r_ : Int) (r_1 : Int) (K0_ : Int → Option Int) : Nat → Int → Int → Option Int
  | 0, _, _ => none
  | k + 1, n_, i_ =>
    if decide (0 < i_) then
      (clerestoryref2_Byte top i_).bind fun r_2 =>
      (clerestoryref2_Byte under i_).bind fun r_3 =>
      letIn (wi ((wi ((wi (r_2 * r_)) * 255)) + (wi ((wi (r_3 * r_1)) * (wi (255 - r_)))))) fun v44 : Int =>
      (quo? .i64 v44 (wi ((wi ((wi (r_ + r_1)) - (wi ((wi (r_ * r_1)).tdiv 255)))) * 255))).bind fun r_4 =>
      (clerestoryref2_OverOf_l0 top under r_ r_1 K0_ k) (wi ((wi (256 * n_)) + (mn 255 r_4))) (wi (i_ - 1))
    else
      K0_ n_
theorem clerestoryref2_OverOf_l0_ok {mL : Int} {Q : AExit → St → Prop} {top : Int} {under : Int} {r_ : Int} {r_1 : Int} {K0_ : Int → Option Int} {k : Nat} {n_ : Int} {i_ : Int} {o : Int} (h : clerestoryref2_OverOf_l0 top under r_ r_1 K0_ k n_ i_ = some o)
    (hK0 : ∀ (n_1 : Int), K0_ n_1 = some o → ∀ s, Weak 0 s ⟨(upd (upd (fun _ => none) 7 (some (I (wi ((wi (r_ + r_1)) - (wi ((wi (r_ * r_1)).tdiv 255))))))) 8 (some (I n_1))), (fun _ => none), 0⟩ → Q (.exit 0) s)
    (hr : ∀ s, Ends a18.results 0 (clerestoryref2_OverOf_post o) .ret s → Q .ret s) :
    Sv Tryd.prog (GG mL) 0 (.loop a18_c0) Q ⟨(upd (upd (upd (upd (upd (upd (upd (fun _ => none) 0 (some (I top))) 1 (some (I under))) 5 (some (I r_))) 6 (some (I r_1))) 7 (some (I (wi ((wi (r_ + r_1)) - (wi ((wi (r_ * r_1)).tdiv 255))))))) 8 (some (I n_))) 9 (some (I i_))), (fun _ => none), 0⟩ := by
  refine Sv.loop (I := fun k s => ∃ (n_ : Int), ∃ (i_ : Int), clerestoryref2_OverOf_l0 top under r_ r_1 K0_ k n_ i_ = some o ∧ s = ⟨(upd (upd (upd (upd (upd (upd (upd (fun _ => none) 0 (some (I top))) 1 (some (I under))) 5 (some (I r_))) 6 (some (I r_1))) 7 (some (I (wi ((wi (r_ + r_1)) - (wi ((wi (r_ * r_1)).tdiv 255))))))) 8 (some (I n_))) 9 (some (I i_))), (fun _ => none), 0⟩) (fun k s hI => ?_) ⟨n_, i_, h, rfl⟩
  clear h
  clear i_ n_
  obtain ⟨n_, i_, h, rfl⟩ := hI
  cases k with
  | zero => cases h
  | succ k =>
  rw [clerestoryref2_OverOf_l0] at h
  have hself : ∀ (n_ : Int) (i_ : Int), (clerestoryref2_OverOf_l0 top under r_ r_1 K0_ k) n_ i_ = some o → ∀ s, Weak 0 s ⟨(upd (upd (upd (upd (upd (upd (upd (fun _ => none) 0 (some (I top))) 1 (some (I under))) 5 (some (I r_))) 6 (some (I r_1))) 7 (some (I (wi ((wi (r_ + r_1)) - (wi ((wi (r_ * r_1)).tdiv 255))))))) 8 (some (I n_))) 9 (some (I i_))), (fun _ => none), 0⟩ → (AThen (fun s' => ∃ s'' k', Weak 0 s' s'' ∧ k' < k + 1 ∧ (fun k s => ∃ (n_ : Int), ∃ (i_ : Int), clerestoryref2_OverOf_l0 top under r_ r_1 K0_ k n_ i_ = some o ∧ s = ⟨(upd (upd (upd (upd (upd (upd (upd (fun _ => none) 0 (some (I top))) 1 (some (I under))) 5 (some (I r_))) 6 (some (I r_1))) 7 (some (I (wi ((wi (r_ + r_1)) - (wi ((wi (r_ * r_1)).tdiv 255))))))) 8 (some (I n_))) 9 (some (I i_))), (fun _ => none), 0⟩) k' s'') Q) .normal s := fun n_ i_ h s hw => ⟨_, k, hw, Nat.lt_succ_self k, n_, i_, h, rfl⟩
  refine Sv.seq ?_
  refine Sv.seq ?_
  refine Sv.region ?_
  refine un (a1 rfl ?_)
  refine un (a1 (v := (B (decide (0 < i_)))) rfl ?_)
  refine dnil ?_
  refine Sv.cond (b := decide (0 < i_)) rfl (fun hc2 => ?_) (fun hc2 => ?_)
  · replace h := ifT hc2 h
    refine Sv.skip ?_
    refine Sv.seq ?_
    refine Sv.block ?_
    refine Sv.region ?_
    refine un (a1 rfl ?_)
    refine un (a1 (v := (I (wi (256 * n_)))) rfl ?_)
    refine un (a1 rfl ?_)
    refine un (a1 rfl ?_)
    obtain ⟨r_2, hr3, h⟩ := bnd h
    refine un (ac_pure (clerestoryref2_Byte_ok hr3) rfl rfl rfl ?_)
    refine un (a1 rfl ?_)
    refine un (a1 (v := (I (wi (r_2 * r_)))) rfl ?_)
    refine un (a1 (v := (I (wi ((wi (r_2 * r_)) * 255)))) rfl ?_)
    refine un (a1 rfl ?_)
    refine un (a1 rfl ?_)
    obtain ⟨r_3, hr4, h⟩ := bnd h
    refine un (ac_pure (clerestoryref2_Byte_ok hr4) rfl rfl rfl ?_)
    refine un (a1 rfl ?_)
    refine un (a1 (v := (I (wi (r_3 * r_1)))) rfl ?_)
    refine un (a1 rfl ?_)
    refine un (a1 (v := (I (wi (255 - r_)))) rfl ?_)
    refine un (a1 (v := (I (wi ((wi (r_3 * r_1)) * (wi (255 - r_)))))) rfl ?_)
    obtain ⟨v44, hv44⟩ : ∃ v44 : Int, v44 = (wi ((wi ((wi (r_2 * r_)) * 255)) + (wi ((wi (r_3 * r_1)) * (wi (255 - r_)))))) := ⟨_, rfl⟩
    replace h := letAt hv44 h
    refine un (a1 (v := (I v44)) (by rw [hv44]; rfl) ?_)
    clear hv44
    refine un (a1 rfl ?_)
    refine un (a1 (v := (I (wi ((wi ((wi (r_ + r_1)) - (wi ((wi (r_ * r_1)).tdiv 255)))) * 255)))) rfl ?_)
    obtain ⟨r_4, hx1, h⟩ := bnd h
    refine un (a1 (v := (I r_4)) (s_quo rfl rfl hx1) ?_)
    refine un (a1 (v := (I (mn 255 r_4))) (s_mn rfl rfl) ?_)
    refine un (a1 (v := (I (wi ((wi (256 * n_)) + (mn 255 r_4))))) rfl ?_)
    refine un (a1 rfl ?_)
    refine dnil ?_
    refine Sv.region ?_
    refine un (a1 rfl ?_)
    refine un (a1 (v := (I (wi (i_ - 1)))) rfl ?_)
    refine un (a1 rfl ?_)
    refine dnil ?_
    exact hself (wi ((wi (256 * n_)) + (mn 255 r_4))) (wi (i_ - 1)) h _ (weak_canon [] rfl (by decide) (by decide) (fun b h => absurd h (Nat.not_lt_zero _)) (.cons rfl (avAs_free rfl) (.cons rfl (avAs_free rfl) (.cons rfl (avAs_free rfl) (.cons rfl (avAs_free rfl) (.cons rfl (avAs_free rfl) (.cons rfl (avAs_free rfl) (.cons rfl (avAs_free rfl) .nil))))))) .nil)
  · replace h := ifF hc2 h
    refine Sv.exit ?_
    exact hK0 n_ h _ (weak_canon [] rfl (by decide) (by decide) (fun b h => absurd h (Nat.not_lt_zero _)) (.cons rfl (avAs_free rfl) (.cons rfl (avAs_free rfl) .nil)) .nil)
/-- clerestory/clerestoryref2.OverOf -/
noncomputable def clerestoryref2_OverOf (top : Int) (under : Int) : Option Int :=
  (clerestoryref2_Byte top 0).bind fun r_ =>
  (clerestoryref2_Byte under 0).bind fun r_1 =>
  if decide ((wi ((wi (r_ + r_1)) - (wi ((wi (r_ * r_1)).tdiv 255)))) = 0) then
    some 0
  else
    lim fun kk => clerestoryref2_OverOf_l0 top under r_ r_1 (fun (n_1 : Int) => 
        letIn (wi ((wi (256 * n_1)) + (wi ((wi (r_ + r_1)) - (wi ((wi (r_ * r_1)).tdiv 255)))))) fun v53 : Int =>
        some v53) kk 0 3
theorem clerestoryref2_OverOf_ok {mL : Int} {top : Int} {under : Int} {r : Int} (h : clerestoryref2_OverOf top under = some r) : CPure Tryd.prog (GG mL) 18 [(I top), (I under)] (I r) := by
  refine acalls_of_sv hmix c18 (R := clerestoryref2_OverOf_post r) ?_
  unfold clerestoryref2_OverOf at h
  refine Sv.seq ?_
  refine Sv.region ?_
  refine un (a1 rfl ?_)
  refine dnil ?_
  refine Sv.seq ?_
  refine Sv.region ?_
  refine un (a1 rfl ?_)
  obtain ⟨r_, hr1, h⟩ := bnd h
  refine un (ac_pure (clerestoryref2_Byte_ok hr1) rfl rfl rfl ?_)
  refine un (a1 rfl ?_)
  refine dnil ?_
  refine Sv.seq ?_
  refine Sv.region ?_
  refine un (a1 rfl ?_)
  obtain ⟨r_1, hr2, h⟩ := bnd h
  refine un (ac_pure (clerestoryref2_Byte_ok hr2) rfl rfl rfl ?_)
  refine un (a1 rfl ?_)
  refine dnil ?_
  refine Sv.seq ?_
  refine Sv.region ?_
  refine un (a1 rfl ?_)
  refine un (a1 rfl ?_)
  refine un (a1 (v := (I (wi (r_ + r_1)))) rfl ?_)
  refine un (a1 rfl ?_)
  refine un (a1 rfl ?_)
  refine un (a1 (v := (I (wi (r_ * r_1)))) rfl ?_)
  refine un (a1 (v := (I (wi ((wi (r_ * r_1)).tdiv 255)))) rfl ?_)
  refine un (a1 (v := (I (wi ((wi (r_ + r_1)) - (wi ((wi (r_ * r_1)).tdiv 255)))))) rfl ?_)
  refine un (a1 rfl ?_)
  refine dnil ?_
  refine Sv.seq ?_
  refine Sv.seq ?_
  refine Sv.region ?_
  refine un (a1 rfl ?_)
  refine un (a1 (v := (B (decide ((wi ((wi (r_ + r_1)) - (wi ((wi (r_ * r_1)).tdiv 255)))) = 0)))) rfl ?_)
  refine dnil ?_
  refine Sv.cond (b := decide ((wi ((wi (r_ + r_1)) - (wi ((wi (r_ * r_1)).tdiv 255)))) = 0)) rfl (fun hc1 => ?_) (fun hc1 => ?_)
  · replace h := ifT hc1 h
    refine Sv.seq ?_
    refine Sv.region ?_
    refine un (a1 rfl ?_)
    refine dnil ?_
    refine Sv.ret ?_
    replace h := Option.some.inj h
    subst h
    exact ⟨_, .refl _, _, rfl, ⟨upd (fun _ => none) 0 (some (I 0)), (fun _ => none), 0⟩, (I 0), weak_canon [] rfl List.nodup_nil (Nat.le_refl _) (fun b h => absurd h (Nat.not_lt_zero _)) (.cons rfl (avAs_free rfl) .nil) .nil, rfl, rfl, rfl, rfl⟩
  · replace h := ifF hc1 h
    refine Sv.skip ?_
    refine Sv.seq ?_
    refine Sv.region ?_
    refine un (a1 rfl ?_)
    refine dnil ?_
    refine Sv.seq ?_
    refine Sv.seq ?_
    refine Sv.region ?_
    refine un (a1 rfl ?_)
    refine dnil ?_
    refine Sv.block ?_
    obtain ⟨kk, h⟩ := lim_some h
    refine Sv.weak (weak_canon [] rfl (by decide) (by decide) (fun b h => absurd h (Nat.not_lt_zero _)) (.cons rfl (avAs_free rfl) (.cons rfl (avAs_free rfl) (.cons rfl (avAs_free rfl) (.cons rfl (avAs_free rfl) (.cons rfl (avAs_free rfl) (.cons rfl (avAs_free rfl) (.cons rfl (avAs_free rfl) .nil))))))) .nil) (clerestoryref2_OverOf_l0_ok h ?_ (fun s hs => hs))
    · intro n_1 h _ hw1
      refine Sv.weak hw1 ?_
      refine Sv.seq ?_
      refine Sv.region ?_
      refine un (a1 rfl ?_)
      refine un (a1 (v := (I (wi (256 * n_1)))) rfl ?_)
      refine un (a1 rfl ?_)
      obtain ⟨v53, hv53⟩ : ∃ v53 : Int, v53 = (wi ((wi (256 * n_1)) + (wi ((wi (r_ + r_1)) - (wi ((wi (r_ * r_1)).tdiv 255)))))) := ⟨_, rfl⟩
      replace h := letAt hv53 h
      refine un (a1 (v := (I v53)) (by rw [hv53]; rfl) ?_)
      clear hv53
      refine un (a1 rfl ?_)
      refine dnil ?_
      refine Sv.ret ?_
      replace h := Option.some.inj h
      subst h
      exact ⟨_, .refl _, _, rfl, ⟨upd (fun _ => none) 0 (some (I v53)), (fun _ => none), 0⟩, (I v53), weak_canon [] rfl List.nodup_nil (Nat.le_refl _) (fun b h => absurd h (Nat.not_lt_zero _)) (.cons rfl (avAs_free rfl) .nil) .nil, rfl, rfl, rfl, rfl⟩
def a6_c0 : ACode := .ret
def a6 : AFunc := ⟨2, [(.tmp 4)], (.seq (.region [⟨(some 4), (.mov (.const (.c (.val (.bool false))))), none⟩])
 (.seq (.region [⟨(some 6), (.call 12 []), none⟩, ⟨(some 5), (.mov (.tmp 6)), none⟩])
 (.seq (.region [⟨(some 7), (.mov (.tmp 5)), none⟩, ⟨(some 8), (.mov (.tmp 7)), none⟩, ⟨(some 9), (.mov (.tmp 0)), (some (8, true))⟩, ⟨(some 10), (.mov (.tmp 1)), (some (8, true))⟩, ⟨(some 11), (.call 17 [(.tmp 9), (.tmp 10)]), (some (8, true))⟩, ⟨(some 12), (.mov (.tmp 0)), (some (8, true))⟩, ⟨(some 13), (.mov (.tmp 1)), (some (8, true))⟩, ⟨(some 14), (.call 18 [(.tmp 12), (.tmp 13)]), (some (8, true))⟩, ⟨(some 15), (.bin .eql (.tmp 11) (.tmp 14)), (some (8, true))⟩, ⟨(some 16), (.pick (.tmp 8) (.tmp 15) (.const (.c (.val (.bool false))))), none⟩, ⟨(some 4), (.mov (.tmp 16)), none⟩])
 a6_c0)))⟩
set_option maxRecDepth 100000 in
theorem c6 : compFunc Tryd.prog 6 = some a6 := by kernel_rfl
def clerestorylaw2_ColorOvers_post (r : Bool) : AV → Heap → Nat → Prop := fun v h' n' => v = (B r) ∧ (h' = (fun _ => none)) ∧ n' = 0
noncomputable def clerestorylaw2_ColorOvers_j1 (v4 : Bool) : Option Bool :=
  some v4
theorem clerestorylaw2_ColorOvers_j1_ok {mL : Int} {v4 : Bool} {o : Bool} (h : clerestorylaw2_ColorOvers_j1 v4 = some o) :
    Sv Tryd.prog (GG mL) 0 a6_c0 (Ends a6.results 0 (clerestorylaw2_ColorOvers_post o)) ⟨(upd (fun _ => none) 4 (some (B v4))), (fun _ => none), 0⟩ := by
  unfold clerestorylaw2_ColorOvers_j1 at h
  refine Sv.ret ?_
  replace h := Option.some.inj h
  subst h
  exact ⟨_, .refl _, _, rfl, ⟨upd (fun _ => none) 0 (some (B v4)), (fun _ => none), 0⟩, (B v4), weak_canon [] rfl List.nodup_nil (Nat.le_refl _) (fun b h => absurd h (Nat.not_lt_zero _)) (.cons rfl (avAs_free rfl) .nil) .nil, rfl, rfl, rfl, rfl⟩
/-- clerestory/clerestorylaw2.ColorOvers -/
noncomputable def clerestorylaw2_ColorOvers (a_ : Int) (b_ : Int) : Option Bool :=
  (clerestorylaw2_red).bind fun r_ =>
  if r_ then
    (color_Over a_ b_).bind fun r_1 =>
    (clerestoryref2_OverOf a_ b_).bind fun r_2 =>
    clerestorylaw2_ColorOvers_j1 (decide (r_1 = r_2))
  else
    clerestorylaw2_ColorOvers_j1 false
theorem clerestorylaw2_ColorOvers_ok {mL : Int} {a_ : Int} {b_ : Int} {r : Bool} (h : clerestorylaw2_ColorOvers a_ b_ = some r) : CPure Tryd.prog (GG mL) 6 [(I a_), (I b_)] (B r) := by
  refine acalls_of_sv hmix c6 (R := clerestorylaw2_ColorOvers_post r) ?_
  unfold clerestorylaw2_ColorOvers at h
  refine Sv.seq ?_
  refine Sv.region ?_
  refine un (a1 rfl ?_)
  refine dnil ?_
  refine Sv.seq ?_
  refine Sv.region ?_
  obtain ⟨r_, hr1, h⟩ := bnd h
  refine un (ac_pure (clerestorylaw2_red_ok hr1) rfl rfl rfl ?_)
  refine un (a1 rfl ?_)
  refine dnil ?_
  refine Sv.seq ?_
  refine Sv.region ?_
  refine un (a1 rfl ?_)
  refine un (a1 rfl ?_)
  refine split2 (fun hc1 => ?_) (fun hc1 => ?_)
  · replace h := ifT hc1 h
    refine gt rfl (a1 rfl ?_)
    refine gt rfl (a1 rfl ?_)
    obtain ⟨r_1, hr2, h⟩ := bnd h
    refine gt rfl (ac_pure (color_Over_ok hr2) rfl rfl rfl ?_)
    refine gt rfl (a1 rfl ?_)
    refine gt rfl (a1 rfl ?_)
    obtain ⟨r_2, hr3, h⟩ := bnd h
    refine gt rfl (ac_pure (clerestoryref2_OverOf_ok hr3) rfl rfl rfl ?_)
    refine gt rfl (a1 (v := (B (decide (r_1 = r_2)))) rfl ?_)
    refine un (a1 (v := (B (decide (r_1 = r_2)))) rfl ?_)
    refine un (a1 rfl ?_)
    refine dnil ?_
    exact Sv.weak (weak_canon [] rfl (by decide) (by decide) (fun b h => absurd h (Nat.not_lt_zero _)) (.cons rfl (avAs_free rfl) .nil) .nil) (clerestorylaw2_ColorOvers_j1_ok h)
  · replace h := ifF hc1 h
    refine gs rfl rfl ?_
    refine gs rfl rfl ?_
    refine gs rfl rfl ?_
    refine gs rfl rfl ?_
    refine gs rfl rfl ?_
    refine gs rfl rfl ?_
    refine gs rfl rfl ?_
    refine un (a1 (v := (B false)) rfl ?_)
    refine un (a1 rfl ?_)
    refine dnil ?_
    exact Sv.weak (weak_canon [] rfl (by decide) (by decide) (fun b h => absurd h (Nat.not_lt_zero _)) (.cons rfl (avAs_free rfl) .nil) .nil) (clerestorylaw2_ColorOvers_j1_ok h)
end Go.Proofs.YtmpdhpfimmahfaaDoorBv
