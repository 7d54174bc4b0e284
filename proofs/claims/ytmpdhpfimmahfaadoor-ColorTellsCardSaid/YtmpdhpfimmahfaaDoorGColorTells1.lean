/- Printed by a program of mine (bgen.py): plain functions, and the walks that show that the code comes to what they answer. -/
import Derived.Test.YtmpdhpfimmahfaaDoorGColorTells0
namespace Go.Proofs.YtmpdhpfimmahfaaDoorBv
open Go
set_option linter.unusedVariables false
set_option linter.unusedSimpArgs false
set_option maxRecDepth 100000
def a39_c2 : ACode := (.cond (.tmp 49) (.seq (.region [⟨(some 2), (.mov (.const (.c (.val (.int .i64 0))))), none⟩, ⟨(some 3), (.mov (.const (.c (.val (.bool false))))), none⟩])
 .ret) .skip)
def a39_c4 : ACode := (.region [⟨(some 50), (.mov (.tmp 5)), none⟩, ⟨(some 51), (.bin .shl (.tmp 50) (.const (.c (.val (.int .u64 8))))), none⟩, ⟨(some 52), (.mov (.tmp 8)), none⟩, ⟨(some 53), (.bin .or (.tmp 51) (.tmp 52)), none⟩, ⟨(some 5), (.mov (.tmp 53)), none⟩])
def a39_c1 : ACode := (.seq (.region [⟨(some 30), (.mov (.tmp 7)), none⟩, ⟨(some 31), (.call 63 [(.tmp 30)]), none⟩, ⟨(some 29), (.mov (.tmp 31)), none⟩, ⟨(some 32), (.ext (.tmp 29) 0), none⟩, ⟨(some 33), (.ext (.tmp 29) 1), none⟩, ⟨(some 8), (.mov (.tmp 32)), none⟩, ⟨(some 9), (.mov (.tmp 33)), none⟩])
 (.seq (.seq (.region [⟨(some 34), (.mov (.tmp 9)), none⟩, ⟨(some 35), (.eqi true (.tmp 34)), none⟩, ⟨(some 36), (.mov (.tmp 35)), none⟩, ⟨(some 37), (.mov (.tmp 8)), (some (36, false))⟩, ⟨(some 38), (.bin .lss (.tmp 37) (.const (.c (.val (.int .i64 0))))), (some (36, false))⟩, ⟨(some 39), (.pick (.tmp 36) (.const (.c (.val (.bool true)))) (.tmp 38)), none⟩, ⟨(some 40), (.mov (.tmp 39)), none⟩, ⟨(some 41), (.mov (.tmp 8)), (some (40, false))⟩, ⟨(some 42), (.bin .gtr (.tmp 41) (.const (.c (.val (.int .i64 255))))), (some (40, false))⟩, ⟨(some 43), (.pick (.tmp 40) (.const (.c (.val (.bool true)))) (.tmp 42)), none⟩, ⟨(some 44), (.mov (.tmp 43)), none⟩, ⟨(some 45), (.mov (.tmp 8)), (some (44, false))⟩, ⟨(some 46), (.call 52 [(.tmp 45)]), (some (44, false))⟩, ⟨(some 47), (.mov (.tmp 7)), (some (44, false))⟩, ⟨(some 48), (.bin .neq (.tmp 46) (.tmp 47)), (some (44, false))⟩, ⟨(some 49), (.pick (.tmp 44) (.const (.c (.val (.bool true)))) (.tmp 48)), none⟩])
 a39_c2)
 a39_c4))
def a39_c3 : ACode := (.region [⟨(some 54), (.bin .add (.tmp 20) (.const (.c (.val (.int .i64 1))))), none⟩, ⟨(some 20), (.mov (.tmp 54)), none⟩])
def a39_c5 : ACode := (.seq (.region [⟨(some 21), (.bin .lss (.tmp 20) (.tmp 19)), none⟩])
 (.seq (.cond (.tmp 21) .skip (.exit 0))
 (.seq (.block 1 (.seq (.region [⟨(some 22), (.mov (.tmp 20)), none⟩, ⟨(some 23), (.iaddr 1 (.tmp 18) (.tmp 20)), none⟩, ⟨(some 24), (.load false 1 (.tmp 23)), none⟩, ⟨(some 6), (.mov (.tmp 22)), none⟩, ⟨(some 7), (.mov (.tmp 24)), none⟩])
 (.seq (.seq (.region [⟨(some 25), (.mov (.tmp 6)), none⟩, ⟨(some 26), (.bin .gtr (.tmp 25) (.const (.c (.val (.int .i64 0))))), none⟩])
 (.cond (.tmp 26) (.region [⟨(some 27), (.mov (.tmp 7)), none⟩, ⟨(some 28), (.call 62 [(.tmp 27), (.const (.c (.str [32])))]), none⟩, ⟨(some 7), (.mov (.tmp 28)), none⟩]) .skip))
 a39_c1)))
 a39_c3)))
def a39_c0 : ACode := (.seq (.region [⟨(some 5), (.mov (.const (.c (.val (.int .i64 0))))), none⟩])
 (.seq (.seq (.region [⟨(some 18), (.mov (.tmp 4)), none⟩, ⟨(some 19), (.len (.tmp 18)), none⟩, ⟨(some 20), (.mov (.const (.c (.val (.int .i64 0))))), none⟩])
 (.block 0 (.loop a39_c5)))
 (.seq (.region [⟨(some 55), (.mov (.tmp 5)), none⟩, ⟨(some 56), (.mov (.tmp 4)), none⟩, ⟨(some 57), (.len (.tmp 56)), none⟩, ⟨(some 58), (.bin .eql (.tmp 57) (.const (.c (.val (.int .i64 4))))), none⟩, ⟨(some 2), (.mov (.tmp 55)), none⟩, ⟨(some 3), (.mov (.tmp 58)), none⟩])
 .ret)))
def a39 : AFunc := ⟨1, [(.tmp 2), (.tmp 3)], (.seq (.region [⟨(some 2), (.mov (.const (.c (.val (.int .i64 0))))), none⟩, ⟨(some 3), (.mov (.const (.c (.val (.bool false))))), none⟩])
 (.seq (.region [⟨(some 10), (.mov (.tmp 0)), none⟩, ⟨(some 11), (.call 51 [(.tmp 10), (.const (.c (.str [44])))]), none⟩, ⟨(some 4), (.mov (.tmp 11)), none⟩])
 (.seq (.seq (.region [⟨(some 12), (.mov (.tmp 4)), none⟩, ⟨(some 13), (.len (.tmp 12)), none⟩, ⟨(some 14), (.bin .eql (.tmp 13) (.const (.c (.val (.int .i64 3))))), none⟩])
 (.cond (.tmp 14) (.region [⟨(some 15), (.mov (.tmp 4)), none⟩, ⟨(some 16), (.bslice 1 [(.str [])] 1 [(0, (.const (.c (.str [50, 53, 53]))))]), none⟩, ⟨(some 17), (.app 1 16 (.tmp 15) (.tmp 16)), none⟩, ⟨(some 4), (.mov (.tmp 17)), none⟩]) .skip))
 a39_c0)))⟩
set_option maxRecDepth 100000 in
theorem c39 : compFunc Tryd.prog 39 = some a39 := by kernel_rfl
def color_parts_post (r : (Int × Bool)) : AV → Heap → Nat → Prop := fun v h' n' => v = (.tup [(I r.1), (B r.2)]) ∧ (h' = (fun _ => none)) ∧ n' = 0
abbrev color_parts_q0 (mL : Int) (Q : AExit → St → Prop) : AExit → St → Prop := AThen (Sv Tryd.prog (GG mL) 0 a39_c3 Q) Q
abbrev color_parts_q1 (mL : Int) (Q : AExit → St → Prop) : AExit → St → Prop := ABlock 1 (color_parts_q0 mL Q)
abbrev color_parts_q2 (mL : Int) (Q : AExit → St → Prop) : AExit → St → Prop := AThen (Sv Tryd.prog (GG mL) 0 a39_c4 (color_parts_q1 mL Q)) (color_parts_q1 mL Q)
noncomputable def color_parts_j7 (c_ : Int) (r_1 : (Int × Bool)) (v20 : Int) (l_ : (List (List UInt8))) (self : (List (List UInt8)) → Int → Int → Option (Int × Bool)) (K0_ : (List (List UInt8)) → Int → Option (Int × Bool)) (l_4 : (List (List UInt8))) (v49 : Bool) : Option (Int × Bool) :=
  if v49 then
    some (0, false)
  else
    self l_4 (bitsV .or .i64 (shl .i64 c_ 8) r_1.1) (wi (v20 + 1))
theorem color_parts_j7_ok {mL : Int} {Q : AExit → St → Prop} {c_ : Int} {r_1 : (Int × Bool)} {v20 : Int} {l_ : (List (List UInt8))} {self : (List (List UInt8)) → Int → Int → Option (Int × Bool)} {K0_ : (List (List UInt8)) → Int → Option (Int × Bool)} {l_4 : (List (List UInt8))} {v49 : Bool} {zl_4 : Bool} (hzl_4 : zl_4 = true → l_4 = []) {o : (Int × Bool)} (h : color_parts_j7 c_ r_1 v20 l_ self K0_ l_4 v49 = some o)
    (hself : ∀ (l_1 : (List (List UInt8))) (c_ : Int) (v20 : Int) (zl_1 : Bool) (_ : zl_1 = true → l_1 = []), self l_1 c_ v20 = some o → ∀ s, Weak 0 s ⟨(upd (upd (upd (upd (upd (fun _ => none) 4 (some (lstV zl_1 0 1 l_1.length))) 5 (some (I c_))) 18 (some (lstV zl_1 0 1 l_1.length))) 19 (some (I (l_.length : Int)))) 20 (some (I v20))), (upd (fun _ => none) 0 (lstB zl_1 1 (l_1.map eStr))), 1⟩ → (Q) .normal s)
    (hK0 : ∀ (l_2 : (List (List UInt8))) (c_1 : Int) (zl_2 : Bool) (_ : zl_2 = true → l_2 = []), K0_ l_2 c_1 = some o → ∀ s, Weak 0 s ⟨(upd (upd (fun _ => none) 4 (some (lstV zl_2 0 1 l_2.length))) 5 (some (I c_1))), (upd (fun _ => none) 0 (lstB zl_2 1 (l_2.map eStr))), 1⟩ → Q (.exit 0) s)
    (hr : ∀ s, Ends a39.results 0 (color_parts_post o) .ret s → Q .ret s) :
    Sv Tryd.prog (GG mL) 0 a39_c2 (color_parts_q2 mL Q) ⟨(upd (upd (upd (upd (upd (upd (upd (fun _ => none) 4 (some (lstV zl_4 0 1 l_4.length))) 5 (some (I c_))) 8 (some (I r_1.1))) 18 (some (lstV zl_4 0 1 l_4.length))) 19 (some (I (l_.length : Int)))) 20 (some (I v20))) 49 (some (B v49))), (upd (fun _ => none) 0 (lstB zl_4 1 (l_4.map eStr))), 1⟩ := by
  unfold color_parts_j7 at h
  refine Sv.cond (b := v49) rfl (fun hc2 => ?_) (fun hc2 => ?_)
  · replace h := ifT hc2 h
    refine Sv.seq ?_
    refine Sv.region ?_
    refine un (a1 rfl ?_)
    refine un (a1 rfl ?_)
    refine dnil ?_
    refine Sv.ret ?_
    replace h := Option.some.inj h
    subst h
    exact hr _ ⟨_, .refl _, _, rfl, ⟨upd (fun _ => none) 0 (some (.tup [(I 0), (B false)])), (fun _ => none), 0⟩, (.tup [(I 0), (B false)]), weak_canon [] rfl List.nodup_nil (Nat.le_refl _) (fun b h => absurd h (Nat.not_lt_zero _)) (.cons rfl (avAs_tup (.cons (avAs_free rfl) (.cons (avAs_free rfl) .nil))) .nil) .nil, rfl, rfl, rfl, rfl⟩
  · replace h := ifF hc2 h
    refine Sv.skip ?_
    refine Sv.region ?_
    refine un (a1 rfl ?_)
    refine un (a1 (v := (I (shl .i64 c_ 8))) rfl ?_)
    refine un (a1 rfl ?_)
    refine un (a1 (v := (I (bitsV .or .i64 (shl .i64 c_ 8) r_1.1))) rfl ?_)
    refine un (a1 rfl ?_)
    refine dnil ?_
    refine Sv.region ?_
    refine un (a1 (v := (I (wi (v20 + 1)))) rfl ?_)
    refine un (a1 rfl ?_)
    refine dnil ?_
    exact hself l_4 (bitsV .or .i64 (shl .i64 c_ 8) r_1.1) (wi (v20 + 1)) zl_4 hzl_4 h _ (weak_canon [0] rfl (by decide) (by decide) (fun b h => absurd h (Nat.not_lt_zero _)) (.cons rfl (avAs_free rfl) (.cons rfl (avAs_free rfl) (.cons rfl (.c (lstC_ren rfl (by decide))) (.cons rfl (avAs_free rfl) (.cons rfl (.c (lstC_ren rfl (by decide))) .nil))))) (.row (by decide) rfl (fr_map fun _ => rfl) .nil))
noncomputable def color_parts_j6 (c_ : Int) (v20 : Int) (l_ : (List (List UInt8))) (self : (List (List UInt8)) → Int → Int → Option (Int × Bool)) (K0_ : (List (List UInt8)) → Int → Option (Int × Bool)) (l_3 : (List (List UInt8))) (w_ : (List UInt8)) : Option (Int × Bool) :=
  (strconv_Atoi w_).bind fun r_1 =>
  if ((r_1.2 || (decide (r_1.1 < 0))) || (decide (255 < r_1.1))) then
    color_parts_j7 c_ r_1 v20 l_ self K0_ l_3 true
  else
    (strconv_Itoa r_1.1).bind fun r_2 =>
    color_parts_j7 c_ r_1 v20 l_ self K0_ l_3 (!decide (r_2 = w_))
theorem color_parts_j6_ok {mL : Int} {Q : AExit → St → Prop} {c_ : Int} {v20 : Int} {l_ : (List (List UInt8))} {self : (List (List UInt8)) → Int → Int → Option (Int × Bool)} {K0_ : (List (List UInt8)) → Int → Option (Int × Bool)} {l_3 : (List (List UInt8))} {w_ : (List UInt8)} {zl_3 : Bool} (hzl_3 : zl_3 = true → l_3 = []) {o : (Int × Bool)} (h : color_parts_j6 c_ v20 l_ self K0_ l_3 w_ = some o)
    (hself : ∀ (l_1 : (List (List UInt8))) (c_ : Int) (v20 : Int) (zl_1 : Bool) (_ : zl_1 = true → l_1 = []), self l_1 c_ v20 = some o → ∀ s, Weak 0 s ⟨(upd (upd (upd (upd (upd (fun _ => none) 4 (some (lstV zl_1 0 1 l_1.length))) 5 (some (I c_))) 18 (some (lstV zl_1 0 1 l_1.length))) 19 (some (I (l_.length : Int)))) 20 (some (I v20))), (upd (fun _ => none) 0 (lstB zl_1 1 (l_1.map eStr))), 1⟩ → (Q) .normal s)
    (hK0 : ∀ (l_2 : (List (List UInt8))) (c_1 : Int) (zl_2 : Bool) (_ : zl_2 = true → l_2 = []), K0_ l_2 c_1 = some o → ∀ s, Weak 0 s ⟨(upd (upd (fun _ => none) 4 (some (lstV zl_2 0 1 l_2.length))) 5 (some (I c_1))), (upd (fun _ => none) 0 (lstB zl_2 1 (l_2.map eStr))), 1⟩ → Q (.exit 0) s)
    (hr : ∀ s, Ends a39.results 0 (color_parts_post o) .ret s → Q .ret s) :
    Sv Tryd.prog (GG mL) 0 a39_c1 (color_parts_q1 mL Q) ⟨(upd (upd (upd (upd (upd (upd (fun _ => none) 4 (some (lstV zl_3 0 1 l_3.length))) 5 (some (I c_))) 7 (some (S w_))) 18 (some (lstV zl_3 0 1 l_3.length))) 19 (some (I (l_.length : Int)))) 20 (some (I v20))), (upd (fun _ => none) 0 (lstB zl_3 1 (l_3.map eStr))), 1⟩ := by
  unfold color_parts_j6 at h
  refine Sv.seq ?_
  refine Sv.region ?_
  refine un (a1 rfl ?_)
  obtain ⟨r_1, hr2, h⟩ := bnd h
  refine un (ac_pure (strconv_Atoi_ok hr2) rfl rfl (by simp only [AV.free, freeL, List.all_cons, List.all_nil, errC_free, ierrC_free] <;> rfl) ?_)
  refine un (a1 rfl ?_)
  refine un (a1 (v := (I r_1.1)) rfl ?_)
  refine un (a1 (v := (.c (errC r_1.2))) rfl ?_)
  refine un (a1 rfl ?_)
  refine un (a1 rfl ?_)
  refine dnil ?_
  refine Sv.seq ?_
  refine Sv.seq ?_
  refine Sv.region ?_
  refine un (a1 rfl ?_)
  refine un (a1 (v := (B r_1.2)) (s_eqe (neg := true) (b := r_1.2) rfl) ?_)
  refine un (a1 rfl ?_)
  refine gjoin 3 (d := 39) (v := (B (r_1.2 || (decide (r_1.1 < 0))))) (fun X hX => ?_) ?_
  · refine split2 (fun hc3 => ?_) (fun hc3 => ?_)
    · refine gs rfl rfl ?_
      refine gs rfl rfl ?_
      refine un (a1 (v := (B true)) rfl ?_)
      refine dnil ?_
      exact hX _ (.putEq (by rw [hc3]; rfl) (.skip _ _ (.skip _ _ (.putEq (by rw [hc3]) (.refl _)) rfl) rfl))
    · refine gt rfl (a1 rfl ?_)
      refine gt rfl (a1 (v := (B (decide (r_1.1 < 0)))) rfl ?_)
      refine un (a1 (v := (B (decide (r_1.1 < 0)))) rfl ?_)
      refine dnil ?_
      exact hX _ (.putEq (by rw [hc3]; rfl) (.skip _ _ (.skip _ _ (.putEq (by rw [hc3]) (.refl _)) rfl) rfl))
  refine un (a1 rfl ?_)
  refine gjoin 3 (d := 43) (v := (B ((r_1.2 || (decide (r_1.1 < 0))) || (decide (255 < r_1.1))))) (fun X hX => ?_) ?_
  · refine split2 (fun hc4 => ?_) (fun hc4 => ?_)
    · refine gs rfl rfl ?_
      refine gs rfl rfl ?_
      refine un (a1 (v := (B true)) rfl ?_)
      refine dnil ?_
      exact hX _ (.putEq (by rw [hc4]; rfl) (.skip _ _ (.skip _ _ (.putEq (by rw [hc4]) (.refl _)) rfl) rfl))
    · refine gt rfl (a1 rfl ?_)
      refine gt rfl (a1 (v := (B (decide (255 < r_1.1)))) rfl ?_)
      refine un (a1 (v := (B (decide (255 < r_1.1)))) rfl ?_)
      refine dnil ?_
      exact hX _ (.putEq (by rw [hc4]; rfl) (.skip _ _ (.skip _ _ (.putEq (by rw [hc4]) (.refl _)) rfl) rfl))
  refine un (a1 rfl ?_)
  refine split2 (fun hc5 => ?_) (fun hc5 => ?_)
  · replace h := ifT hc5 h
    refine gs rfl rfl ?_
    refine gs rfl rfl ?_
    refine gs rfl rfl ?_
    refine gs rfl rfl ?_
    refine un (a1 (v := (B true)) rfl ?_)
    refine dnil ?_
    exact Sv.weak (weak_canon [0] rfl (by decide) (by decide) (fun b h => absurd h (Nat.not_lt_zero _)) (.cons rfl (avAs_free rfl) (.cons rfl (avAs_free rfl) (.cons rfl (avAs_free rfl) (.cons rfl (.c (lstC_ren rfl (by decide))) (.cons rfl (avAs_free rfl) (.cons rfl (avAs_free rfl) (.cons rfl (.c (lstC_ren rfl (by decide))) .nil))))))) (.row (by decide) rfl (fr_map fun _ => rfl) .nil)) (color_parts_j7_ok hzl_3 h hself hK0 hr)
  · replace h := ifF hc5 h
    refine gt rfl (a1 rfl ?_)
    obtain ⟨r_2, hr3, h⟩ := bnd h
    refine gt rfl (ac_pure (strconv_Itoa_ok hr3) rfl rfl rfl ?_)
    refine gt rfl (a1 rfl ?_)
    refine gt rfl (a1 (v := (B (!decide (r_2 = w_)))) rfl ?_)
    refine un (a1 (v := (B (!decide (r_2 = w_)))) rfl ?_)
    refine dnil ?_
    exact Sv.weak (weak_canon [0] rfl (by decide) (by decide) (fun b h => absurd h (Nat.not_lt_zero _)) (.cons rfl (avAs_free rfl) (.cons rfl (avAs_free rfl) (.cons rfl (avAs_free rfl) (.cons rfl (.c (lstC_ren rfl (by decide))) (.cons rfl (avAs_free rfl) (.cons rfl (avAs_free rfl) (.cons rfl (.c (lstC_ren rfl (by decide))) .nil))))))) (.row (by decide) rfl (fr_map fun _ => rfl) .nil)) (color_parts_j7_ok hzl_3 h hself hK0 hr)
noncomputable def color_parts_l0 (l_ : (List (List UInt8))) (K0_ : (List (List UInt8)) → Int → Option (Int × Bool)) : Nat → (List (List UInt8)) → Int → Int → Option (Int × Bool)
  | 0, _, _, _ => none
  | k + 1, l_1, c_, v20 =>
    if decide (v20 < (l_.length : Int)) then
      (at? l_1 v20).bind fun x_ =>
      if decide (0 < v20) then
        (strings_TrimPrefix x_ [32]).bind fun r_3 =>
        color_parts_j6 c_ v20 l_ (color_parts_l0 l_ K0_ k) K0_ l_1 r_3
      else
        color_parts_j6 c_ v20 l_ (color_parts_l0 l_ K0_ k) K0_ l_1 x_
    else
      K0_ l_1 c_
theorem color_parts_l0_ok {mL : Int} {Q : AExit → St → Prop} {l_ : (List (List UInt8))} {K0_ : (List (List UInt8)) → Int → Option (Int × Bool)} {k : Nat} {l_1 : (List (List UInt8))} {c_ : Int} {v20 : Int} {zl_1 : Bool} (hzl_1 : zl_1 = true → l_1 = []) {o : (Int × Bool)} (h : color_parts_l0 l_ K0_ k l_1 c_ v20 = some o)
    (hK0 : ∀ (l_2 : (List (List UInt8))) (c_1 : Int) (zl_2 : Bool) (_ : zl_2 = true → l_2 = []), K0_ l_2 c_1 = some o → ∀ s, Weak 0 s ⟨(upd (upd (fun _ => none) 4 (some (lstV zl_2 0 1 l_2.length))) 5 (some (I c_1))), (upd (fun _ => none) 0 (lstB zl_2 1 (l_2.map eStr))), 1⟩ → Q (.exit 0) s)
    (hr : ∀ s, Ends a39.results 0 (color_parts_post o) .ret s → Q .ret s) :
    Sv Tryd.prog (GG mL) 0 (.loop a39_c5) Q ⟨(upd (upd (upd (upd (upd (fun _ => none) 4 (some (lstV zl_1 0 1 l_1.length))) 5 (some (I c_))) 18 (some (lstV zl_1 0 1 l_1.length))) 19 (some (I (l_.length : Int)))) 20 (some (I v20))), (upd (fun _ => none) 0 (lstB zl_1 1 (l_1.map eStr))), 1⟩ := by
  refine Sv.loop (I := fun k s => ∃ (l_1 : (List (List UInt8))), ∃ (c_ : Int), ∃ (v20 : Int), ∃ (zl_1 : Bool), (zl_1 = true → l_1 = []) ∧ color_parts_l0 l_ K0_ k l_1 c_ v20 = some o ∧ s = ⟨(upd (upd (upd (upd (upd (fun _ => none) 4 (some (lstV zl_1 0 1 l_1.length))) 5 (some (I c_))) 18 (some (lstV zl_1 0 1 l_1.length))) 19 (some (I (l_.length : Int)))) 20 (some (I v20))), (upd (fun _ => none) 0 (lstB zl_1 1 (l_1.map eStr))), 1⟩) (fun k s hI => ?_) ⟨l_1, c_, v20, zl_1, hzl_1, h, rfl⟩
  clear h
  clear hzl_1 zl_1 v20 c_ l_1
  obtain ⟨l_1, c_, v20, zl_1, hzl_1, h, rfl⟩ := hI
  cases k with
  | zero => cases h
  | succ k =>
  rw [color_parts_l0] at h
  have hself : ∀ (l_1 : (List (List UInt8))) (c_ : Int) (v20 : Int) (zl_1 : Bool) (_ : zl_1 = true → l_1 = []), (color_parts_l0 l_ K0_ k) l_1 c_ v20 = some o → ∀ s, Weak 0 s ⟨(upd (upd (upd (upd (upd (fun _ => none) 4 (some (lstV zl_1 0 1 l_1.length))) 5 (some (I c_))) 18 (some (lstV zl_1 0 1 l_1.length))) 19 (some (I (l_.length : Int)))) 20 (some (I v20))), (upd (fun _ => none) 0 (lstB zl_1 1 (l_1.map eStr))), 1⟩ → (AThen (fun s' => ∃ s'' k', Weak 0 s' s'' ∧ k' < k + 1 ∧ (fun k s => ∃ (l_1 : (List (List UInt8))), ∃ (c_ : Int), ∃ (v20 : Int), ∃ (zl_1 : Bool), (zl_1 = true → l_1 = []) ∧ color_parts_l0 l_ K0_ k l_1 c_ v20 = some o ∧ s = ⟨(upd (upd (upd (upd (upd (fun _ => none) 4 (some (lstV zl_1 0 1 l_1.length))) 5 (some (I c_))) 18 (some (lstV zl_1 0 1 l_1.length))) 19 (some (I (l_.length : Int)))) 20 (some (I v20))), (upd (fun _ => none) 0 (lstB zl_1 1 (l_1.map eStr))), 1⟩) k' s'') Q) .normal s := fun l_1 c_ v20 zl_1 hzl_1 h s hw => ⟨_, k, hw, Nat.lt_succ_self k, l_1, c_, v20, zl_1, hzl_1, h, rfl⟩
  refine Sv.seq ?_
  refine Sv.region ?_
  refine un (a1 (v := (B (decide (v20 < (l_.length : Int))))) rfl ?_)
  refine dnil ?_
  refine Sv.seq ?_
  refine Sv.cond (b := decide (v20 < (l_.length : Int))) rfl (fun hc1 => ?_) (fun hc1 => ?_)
  · replace h := ifT hc1 h
    refine Sv.skip ?_
    refine Sv.seq ?_
    refine Sv.block ?_
    refine Sv.seq ?_
    refine Sv.region ?_
    refine un (a1 rfl ?_)
    obtain ⟨x_, hx1, h⟩ := bnd h
    refine un (a1 (v := (.c (.ref 0 1 v20.toNat 0))) (s_iaddrL rfl rfl hzl_1 hx1) ?_)
    refine un (a1 (v := (S x_)) (s_loadL (z := zl_1) (e := eStr) rfl rfl hzl_1 hx1 rfl rfl) ?_)
    refine un (a1 rfl ?_)
    refine un (a1 rfl ?_)
    refine dnil ?_
    refine Sv.seq ?_
    refine Sv.seq ?_
    refine Sv.region ?_
    refine un (a1 rfl ?_)
    refine un (a1 (v := (B (decide (0 < v20)))) rfl ?_)
    refine dnil ?_
    refine Sv.cond (b := decide (0 < v20)) rfl (fun hc6 => ?_) (fun hc6 => ?_)
    · replace h := ifT hc6 h
      refine Sv.region ?_
      refine un (a1 rfl ?_)
      obtain ⟨r_3, hr4, h⟩ := bnd h
      refine un (ac_pure (strings_TrimPrefix_ok hr4) rfl rfl rfl ?_)
      refine un (a1 rfl ?_)
      refine dnil ?_
      exact Sv.weak (weak_canon [0] rfl (by decide) (by decide) (fun b h => absurd h (Nat.not_lt_zero _)) (.cons rfl (avAs_free rfl) (.cons rfl (avAs_free rfl) (.cons rfl (.c (lstC_ren rfl (by decide))) (.cons rfl (avAs_free rfl) (.cons rfl (avAs_free rfl) (.cons rfl (.c (lstC_ren rfl (by decide))) .nil)))))) (.row (by decide) rfl (fr_map fun _ => rfl) .nil)) (color_parts_j6_ok hzl_1 h hself hK0 hr)
    · replace h := ifF hc6 h
      refine Sv.skip ?_
      exact Sv.weak (weak_canon [0] rfl (by decide) (by decide) (fun b h => absurd h (Nat.not_lt_zero _)) (.cons rfl (avAs_free rfl) (.cons rfl (avAs_free rfl) (.cons rfl (.c (lstC_ren rfl (by decide))) (.cons rfl (avAs_free rfl) (.cons rfl (avAs_free rfl) (.cons rfl (.c (lstC_ren rfl (by decide))) .nil)))))) (.row (by decide) rfl (fr_map fun _ => rfl) .nil)) (color_parts_j6_ok hzl_1 h hself hK0 hr)
  · replace h := ifF hc1 h
    refine Sv.exit ?_
    exact hK0 l_1 c_ zl_1 hzl_1 h _ (weak_canon [0] rfl (by decide) (by decide) (fun b h => absurd h (Nat.not_lt_zero _)) (.cons rfl (avAs_free rfl) (.cons rfl (.c (lstC_ren rfl (by decide))) .nil)) (.row (by decide) rfl (fr_map fun _ => rfl) .nil))
noncomputable def color_parts_j1 (l_ : (List (List UInt8))) : Option (Int × Bool) :=
  lim fun kk => color_parts_l0 l_ (fun (l_2 : (List (List UInt8))) (c_1 : Int) => 
      some (c_1, decide ((l_2.length : Int) = 4))) kk l_ 0 0
theorem color_parts_j1_ok {mL : Int} {l_ : (List (List UInt8))} {zl : Bool} (hzl : zl = true → l_ = []) {o : (Int × Bool)} (h : color_parts_j1 l_ = some o) :
    Sv Tryd.prog (GG mL) 0 a39_c0 (Ends a39.results 0 (color_parts_post o)) ⟨(upd (fun _ => none) 4 (some (lstV zl 0 1 l_.length))), (upd (fun _ => none) 0 (lstB zl 1 (l_.map eStr))), 1⟩ := by
  unfold color_parts_j1 at h
  refine Sv.seq ?_
  refine Sv.region ?_
  refine un (a1 rfl ?_)
  refine dnil ?_
  refine Sv.seq ?_
  refine Sv.seq ?_
  refine Sv.region ?_
  refine un (a1 rfl ?_)
  refine un (a1 (v := (I (l_.length : Int))) (s_lenL rfl (len_nil_of hzl)) ?_)
  refine un (a1 rfl ?_)
  refine dnil ?_
  refine Sv.block ?_
  obtain ⟨kk, h⟩ := lim_some h
  refine Sv.weak (weak_canon [0] rfl (by decide) (by decide) (fun b h => absurd h (Nat.not_lt_zero _)) (.cons rfl (avAs_free rfl) (.cons rfl (avAs_free rfl) (.cons rfl (.c (lstC_ren rfl (by decide))) (.cons rfl (avAs_free rfl) (.cons rfl (.c (lstC_ren rfl (by decide))) .nil))))) (.row (by decide) rfl (fr_map fun _ => rfl) .nil)) (color_parts_l0_ok hzl h ?_ (fun s hs => hs))
  · intro l_2 c_1 zl_2 hzl_2 h _ hw1
    refine Sv.weak hw1 ?_
    refine Sv.seq ?_
    refine Sv.region ?_
    refine un (a1 rfl ?_)
    refine un (a1 rfl ?_)
    refine un (a1 (v := (I (l_2.length : Int))) (s_lenL rfl (len_nil_of hzl_2)) ?_)
    refine un (a1 (v := (B (decide ((l_2.length : Int) = 4)))) rfl ?_)
    refine un (a1 rfl ?_)
    refine un (a1 rfl ?_)
    refine dnil ?_
    refine Sv.ret ?_
    replace h := Option.some.inj h
    subst h
    exact ⟨_, .refl _, _, rfl, ⟨upd (fun _ => none) 0 (some (.tup [(I c_1), (B (decide ((l_2.length : Int) = 4)))])), (fun _ => none), 0⟩, (.tup [(I c_1), (B (decide ((l_2.length : Int) = 4)))]), weak_canon [] rfl List.nodup_nil (Nat.le_refl _) (fun b h => absurd h (Nat.not_lt_zero _)) (.cons rfl (avAs_tup (.cons (avAs_free rfl) (.cons (avAs_free rfl) .nil))) .nil) .nil, rfl, rfl, rfl, rfl⟩
/-- clerestory/color.parts -/
noncomputable def color_parts (s_ : (List UInt8)) : Option (Int × Bool) :=
  (strings_Split s_ [44]).bind fun r_ =>
  if decide ((r_.length : Int) = 3) then
    (app? 16 r_ ([[50, 53, 53]] : List (List UInt8))).bind fun r_4 =>
    color_parts_j1 r_4
  else
    color_parts_j1 r_
theorem color_parts_ok {mL : Int} {s_ : (List UInt8)} {r : (Int × Bool)} (h : color_parts s_ = some r) : CPure Tryd.prog (GG mL) 39 [(S s_)] (.tup [(I r.1), (B r.2)]) := by
  refine acalls_of_sv hmix c39 (R := color_parts_post r) ?_
  unfold color_parts at h
  refine Sv.seq ?_
  refine Sv.region ?_
  refine un (a1 rfl ?_)
  refine un (a1 rfl ?_)
  refine dnil ?_
  refine Sv.seq ?_
  refine Sv.region ?_
  refine un (a1 rfl ?_)
  obtain ⟨r_, hr1, h⟩ := bnd h
  refine un (ac_gen (bs := []) («as» := [(S s_), (S [44])]) (h2 := _) (h1 := (fun _ => none)) (strings_Split_ok hr1) rfl (.cons (avAs_free rfl) (.cons (avAs_free rfl) .nil)) (hsub_refl _) (.nil _) (fun _ => rfl) (by decide) (by decide) (.cons (avAs_free rfl) (.cons (avAs_free rfl) .nil)) .nil ?_)
  rintro _ _ _ hn ⟨z_, hz_, rfl, rfl, rfl⟩
  refine ⟨.inl rfl, (upd (rem [] _) 0 (lstB z_ 1 (r_.map eStr))), fun hbd => (m3_cons (m3_row rfl (fr_map fun _ => rfl)) (m3_rem (in_nil _) (.cons (by decide) .nil) hbd)), (lstV z_ 0 1 r_.length), 1, (by cases z_ <;> rfl), rfl, ?_⟩
  refine un (a1 rfl ?_)
  refine dnil ?_
  refine Sv.seq ?_
  refine Sv.seq ?_
  refine Sv.region ?_
  refine un (a1 rfl ?_)
  refine un (a1 (v := (I (r_.length : Int))) (s_lenL rfl (len_nil_of hz_)) ?_)
  refine un (a1 (v := (B (decide ((r_.length : Int) = 3)))) rfl ?_)
  refine dnil ?_
  refine Sv.cond (b := decide ((r_.length : Int) = 3)) rfl (fun hc7 => ?_) (fun hc7 => ?_)
  · replace h := ifT hc7 h
    refine Sv.region ?_
    refine un (a1 rfl ?_)
    refine un (a2v (v := (lstV false 1 1 ([[50, 53, 53]] : List (List UInt8)).length)) (h' := upd _ 1 (lstB false 1 (([[50, 53, 53]] : List (List UInt8)).map eStr))) (n' := 2) rfl rfl (fun h => by cases h) ?_)
    obtain ⟨r_4, hr5, h⟩ := bnd h
    have hz1 : (z_ && ([[50, 53, 53]] : List (List UInt8)).isEmpty) = true → r_4 = [] := app_nil (z := z_) (ys := ([[50, 53, 53]] : List (List UInt8))) hz_ hr5
    refine un (a2v rfl (s_app (xs := r_) (ys := ([[50, 53, 53]] : List (List UInt8))) (e := eStr) (z := z_) (b := 0) rfl rfl hz_ rfl rfl (slc_lst rfl (List.length_map _).symm (map_nil_of (fun h => by cases h))) hr5) (fun h => by cases h) ?_)
    refine un (a1 rfl ?_)
    refine dnil ?_
    exact Sv.weak (weak_canon [2] rfl (by decide) (by decide) (fun b h => absurd h (Nat.not_lt_zero _)) (.cons rfl (.c (lstC_ren rfl (by decide))) .nil) (.row (by decide) rfl (fr_map fun _ => rfl) .nil)) (color_parts_j1_ok hz1 h)
  · replace h := ifF hc7 h
    refine Sv.skip ?_
    exact Sv.weak (weak_canon [0] rfl (by decide) (by decide) (fun b h => absurd h (Nat.not_lt_zero _)) (.cons rfl (.c (lstC_ren rfl (by decide))) .nil) (.row (by decide) rfl (fr_map fun _ => rfl) .nil)) (color_parts_j1_ok hz_ h)
def a13_c0 : ACode := (.cond (.tmp 50) (.region [⟨(some 52), (.mov (.tmp 10)), none⟩, ⟨(some 53), (.mov (.tmp 10)), none⟩, ⟨(some 54), (.lenS (.tmp 53)), none⟩, ⟨(some 55), (.bin .sub (.tmp 54) (.const (.c (.val (.int .i64 1))))), none⟩, ⟨(some 56), (.slStr (.tmp 52) none (some (.tmp 55))), none⟩, ⟨(some 57), (.call 39 [(.tmp 56)]), none⟩, ⟨(some 51), (.mov (.tmp 57)), none⟩, ⟨(some 58), (.ext (.tmp 51) 0), none⟩, ⟨(some 59), (.ext (.tmp 51) 1), none⟩, ⟨(some 6), (.mov (.tmp 58)), none⟩, ⟨(some 7), (.mov (.tmp 59)), none⟩]) .skip)
def a13_c1 : ACode := (.seq (.seq (.region [⟨(some 60), (.mov (.tmp 7)), none⟩, ⟨(some 61), (.un .not (.tmp 60)), none⟩])
 (.cond (.tmp 61) (.seq (.region [⟨(some 2), (.mov (.const (.c (.val (.int .i64 0))))), none⟩, ⟨(some 3), (.mov (.const (.c (.val (.int .i64 4))))), none⟩])
 .ret) .skip))
 (.seq (.region [⟨(some 62), (.mov (.tmp 6)), none⟩, ⟨(some 2), (.mov (.tmp 62)), none⟩, ⟨(some 3), (.mov (.const (.c (.val (.int .i64 0))))), none⟩])
 .ret))
def a13 : AFunc := ⟨1, [(.tmp 2), (.tmp 3)], (.seq (.region [⟨(some 2), (.mov (.const (.c (.val (.int .i64 0))))), none⟩, ⟨(some 3), (.mov (.const (.c (.val (.int .i64 0))))), none⟩])
 (.seq (.region [⟨(some 12), (.mov (.tmp 0)), none⟩, ⟨(some 13), (.call 34 [(.tmp 12)]), none⟩, ⟨(some 0), (.mov (.tmp 13)), none⟩])
 (.seq (.seq (.region [⟨(some 14), (.mov (.tmp 0)), none⟩, ⟨(some 15), (.bin .eql (.tmp 14) (.const (.c (.str [116, 114, 97, 110, 115, 112, 97, 114, 101, 110, 116])))), none⟩])
 (.cond (.tmp 15) (.seq (.region [⟨(some 2), (.mov (.const (.c (.val (.int .i64 0))))), none⟩, ⟨(some 3), (.mov (.const (.c (.val (.int .i64 0))))), none⟩])
 .ret) .skip))
 (.seq (.seq (.region [⟨(some 17), (.mov (.tmp 0)), none⟩, ⟨(some 18), (.call 35 [(.tmp 17)]), none⟩, ⟨(some 16), (.mov (.tmp 18)), none⟩, ⟨(some 19), (.ext (.tmp 16) 0), none⟩, ⟨(some 20), (.ext (.tmp 16) 1), none⟩, ⟨(some 4), (.mov (.tmp 19)), none⟩, ⟨(some 5), (.mov (.tmp 20)), none⟩])
 (.seq (.region [⟨(some 21), (.mov (.tmp 5)), none⟩])
 (.cond (.tmp 21) (.seq (.region [⟨(some 22), (.mov (.tmp 4)), none⟩, ⟨(some 23), (.bin .shl (.tmp 22) (.const (.c (.val (.int .u64 8))))), none⟩, ⟨(some 24), (.bin .or (.tmp 23) (.const (.c (.val (.int .i64 255))))), none⟩, ⟨(some 2), (.mov (.tmp 24)), none⟩, ⟨(some 3), (.mov (.const (.c (.val (.int .i64 0))))), none⟩])
 .ret) .skip)))
 (.seq (.region [⟨(some 6), (.mov (.const (.c (.val (.int .i64 0))))), none⟩, ⟨(some 7), (.mov (.const (.c (.val (.bool false))))), none⟩])
 (.seq (.seq (.region [⟨(some 26), (.mov (.tmp 0)), none⟩, ⟨(some 27), (.call 36 [(.tmp 26), (.const (.c (.str [35])))]), none⟩, ⟨(some 25), (.mov (.tmp 27)), none⟩, ⟨(some 28), (.ext (.tmp 25) 0), none⟩, ⟨(some 29), (.ext (.tmp 25) 1), none⟩, ⟨(some 8), (.mov (.tmp 28)), none⟩, ⟨(some 9), (.mov (.tmp 29)), none⟩])
 (.seq (.region [⟨(some 30), (.mov (.tmp 9)), none⟩])
 (.cond (.tmp 30) (.region [⟨(some 32), (.mov (.tmp 8)), none⟩, ⟨(some 33), (.call 37 [(.tmp 32)]), none⟩, ⟨(some 31), (.mov (.tmp 33)), none⟩, ⟨(some 34), (.ext (.tmp 31) 0), none⟩, ⟨(some 35), (.ext (.tmp 31) 1), none⟩, ⟨(some 6), (.mov (.tmp 34)), none⟩, ⟨(some 7), (.mov (.tmp 35)), none⟩]) (.seq (.region [⟨(some 37), (.mov (.tmp 0)), none⟩, ⟨(some 38), (.call 36 [(.tmp 37), (.const (.c (.str [114, 103, 98, 40])))]), none⟩, ⟨(some 36), (.mov (.tmp 38)), none⟩, ⟨(some 39), (.ext (.tmp 36) 0), none⟩, ⟨(some 40), (.ext (.tmp 36) 1), none⟩, ⟨(some 10), (.mov (.tmp 39)), none⟩, ⟨(some 11), (.mov (.tmp 40)), none⟩])
 (.seq (.region [⟨(some 41), (.mov (.tmp 11)), none⟩, ⟨(some 42), (.mov (.tmp 41)), none⟩, ⟨(some 43), (.mov (.tmp 10)), (some (42, true))⟩, ⟨(some 44), (.call 38 [(.tmp 43), (.const (.c (.str [41])))]), (some (42, true))⟩, ⟨(some 45), (.pick (.tmp 42) (.tmp 44) (.const (.c (.val (.bool false))))), none⟩, ⟨(some 46), (.mov (.tmp 45)), none⟩, ⟨(some 47), (.mov (.tmp 10)), (some (46, true))⟩, ⟨(some 48), (.lenS (.tmp 47)), (some (46, true))⟩, ⟨(some 49), (.bin .leq (.tmp 48) (.const (.c (.val (.int .i64 40))))), (some (46, true))⟩, ⟨(some 50), (.pick (.tmp 46) (.tmp 49) (.const (.c (.val (.bool false))))), none⟩])
 a13_c0)))))
 a13_c1))))))⟩
set_option maxRecDepth 100000 in
theorem c13 : compFunc Tryd.prog 13 = some a13 := by kernel_rfl
def color_Read_post (r : (Int × Int)) : AV → Heap → Nat → Prop := fun v h' n' => v = (.tup [(I r.1), (I r.2)]) ∧ (h' = (fun _ => none)) ∧ n' = 0
noncomputable def color_Read_j3 (c_ : Int) (is_ : Bool) : Option (Int × Int) :=
  if (!is_) then
    some (0, 4)
  else
    some (c_, 0)
theorem color_Read_j3_ok {mL : Int} {c_ : Int} {is_ : Bool} {o : (Int × Int)} (h : color_Read_j3 c_ is_ = some o) :
    Sv Tryd.prog (GG mL) 0 a13_c1 (Ends a13.results 0 (color_Read_post o)) ⟨(upd (upd (fun _ => none) 6 (some (I c_))) 7 (some (B is_))), (fun _ => none), 0⟩ := by
  unfold color_Read_j3 at h
  refine Sv.seq ?_
  refine Sv.seq ?_
  refine Sv.region ?_
  refine un (a1 rfl ?_)
  refine un (a1 (v := (B (!is_))) rfl ?_)
  refine dnil ?_
  refine Sv.cond (b := (!is_)) rfl (fun hc3 => ?_) (fun hc3 => ?_)
  · replace h := ifT hc3 h
    refine Sv.seq ?_
    refine Sv.region ?_
    refine un (a1 rfl ?_)
    refine un (a1 rfl ?_)
    refine dnil ?_
    refine Sv.ret ?_
    replace h := Option.some.inj h
    subst h
    exact ⟨_, .refl _, _, rfl, ⟨upd (fun _ => none) 0 (some (.tup [(I 0), (I 4)])), (fun _ => none), 0⟩, (.tup [(I 0), (I 4)]), weak_canon [] rfl List.nodup_nil (Nat.le_refl _) (fun b h => absurd h (Nat.not_lt_zero _)) (.cons rfl (avAs_tup (.cons (avAs_free rfl) (.cons (avAs_free rfl) .nil))) .nil) .nil, rfl, rfl, rfl, rfl⟩
  · replace h := ifF hc3 h
    refine Sv.skip ?_
    refine Sv.seq ?_
    refine Sv.region ?_
    refine un (a1 rfl ?_)
    refine un (a1 rfl ?_)
    refine un (a1 rfl ?_)
    refine dnil ?_
    refine Sv.ret ?_
    replace h := Option.some.inj h
    subst h
    exact ⟨_, .refl _, _, rfl, ⟨upd (fun _ => none) 0 (some (.tup [(I c_), (I 0)])), (fun _ => none), 0⟩, (.tup [(I c_), (I 0)]), weak_canon [] rfl List.nodup_nil (Nat.le_refl _) (fun b h => absurd h (Nat.not_lt_zero _)) (.cons rfl (avAs_tup (.cons (avAs_free rfl) (.cons (avAs_free rfl) .nil))) .nil) .nil, rfl, rfl, rfl, rfl⟩
abbrev color_Read_q0 (mL : Int) (o : (Int × Int)) : AExit → St → Prop := AThen (Sv Tryd.prog (GG mL) 0 a13_c1 (Ends a13.results 0 (color_Read_post o))) (Ends a13.results 0 (color_Read_post o))
noncomputable def color_Read_j4 (r_3 : ((List UInt8) × Bool)) (v50 : Bool) : Option (Int × Int) :=
  if v50 then
    (sub? r_3.1 0 (wi ((r_3.1.length : Int) - 1))).bind fun r_4 =>
    (color_parts r_4).bind fun r_5 =>
    color_Read_j3 r_5.1 r_5.2
  else
    color_Read_j3 0 false
theorem color_Read_j4_ok {mL : Int} {r_3 : ((List UInt8) × Bool)} {v50 : Bool} {o : (Int × Int)} (h : color_Read_j4 r_3 v50 = some o) :
    Sv Tryd.prog (GG mL) 0 a13_c0 (color_Read_q0 mL o) ⟨(upd (upd (upd (upd (fun _ => none) 6 (some (I 0))) 7 (some (B false))) 10 (some (S r_3.1))) 50 (some (B v50))), (fun _ => none), 0⟩ := by
  unfold color_Read_j4 at h
  refine Sv.cond (b := v50) rfl (fun hc5 => ?_) (fun hc5 => ?_)
  · replace h := ifT hc5 h
    refine Sv.region ?_
    refine un (a1 rfl ?_)
    refine un (a1 rfl ?_)
    refine un (a1 (v := (I (r_3.1.length : Int))) rfl ?_)
    refine un (a1 (v := (I (wi ((r_3.1.length : Int) - 1)))) rfl ?_)
    obtain ⟨r_4, hx1, h⟩ := bnd h
    refine un (a1 (v := (S r_4)) (s_slStr rfl rfl rfl hx1) ?_)
    obtain ⟨r_5, hr5, h⟩ := bnd h
    refine un (ac_pure (color_parts_ok hr5) rfl rfl rfl ?_)
    refine un (a1 rfl ?_)
    refine un (a1 (v := (I r_5.1)) rfl ?_)
    refine un (a1 (v := (B r_5.2)) rfl ?_)
    refine un (a1 rfl ?_)
    refine un (a1 rfl ?_)
    refine dnil ?_
    exact Sv.weak (weak_canon [] rfl (by decide) (by decide) (fun b h => absurd h (Nat.not_lt_zero _)) (.cons rfl (avAs_free rfl) (.cons rfl (avAs_free rfl) .nil)) .nil) (color_Read_j3_ok h)
  · replace h := ifF hc5 h
    refine Sv.skip ?_
    exact Sv.weak (weak_canon [] rfl (by decide) (by decide) (fun b h => absurd h (Nat.not_lt_zero _)) (.cons rfl (avAs_free rfl) (.cons rfl (avAs_free rfl) .nil)) .nil) (color_Read_j3_ok h)
/-- clerestory/color.Read -/
noncomputable def color_Read (s_ : (List UInt8)) : Option (Int × Int) :=
  (color_lower s_).bind fun r_ =>
  if decide (r_ = [116, 114, 97, 110, 115, 112, 97, 114, 101, 110, 116]) then
    some (0, 0)
  else
    if (color_named r_).2 then
      some ((bitsV .or .i64 (shl .i64 ((color_named r_).1) 8) 255), 0)
    else
      (strings_CutPrefix r_ [35]).bind fun r_1 =>
      if r_1.2 then
        (color_hex r_1.1).bind fun r_2 =>
        color_Read_j3 r_2.1 r_2.2
      else
        (strings_CutPrefix r_ [114, 103, 98, 40]).bind fun r_3 =>
        if r_3.2 then
          (strings_HasSuffix r_3.1 [41]).bind fun r_6 =>
          color_Read_j4 r_3 (r_6 && (decide ((r_3.1.length : Int) ≤ 40)))
        else
          color_Read_j4 r_3 false
theorem color_Read_ok {mL : Int} {s_ : (List UInt8)} {r : (Int × Int)} (h : color_Read s_ = some r) : CPure Tryd.prog (GG mL) 13 [(S s_)] (.tup [(I r.1), (I r.2)]) := by
  refine acalls_of_sv hmix c13 (R := color_Read_post r) ?_
  unfold color_Read at h
  refine Sv.seq ?_
  refine Sv.region ?_
  refine un (a1 rfl ?_)
  refine un (a1 rfl ?_)
  refine dnil ?_
  refine Sv.seq ?_
  refine Sv.region ?_
  refine un (a1 rfl ?_)
  obtain ⟨r_, hr1, h⟩ := bnd h
  refine un (ac_pure (color_lower_ok hr1) rfl rfl rfl ?_)
  refine un (a1 rfl ?_)
  refine dnil ?_
  refine Sv.seq ?_
  refine Sv.seq ?_
  refine Sv.region ?_
  refine un (a1 rfl ?_)
  refine un (a1 (v := (B (decide (r_ = [116, 114, 97, 110, 115, 112, 97, 114, 101, 110, 116])))) rfl ?_)
  refine dnil ?_
  refine Sv.cond (b := decide (r_ = [116, 114, 97, 110, 115, 112, 97, 114, 101, 110, 116])) rfl (fun hc1 => ?_) (fun hc1 => ?_)
  · replace h := ifT hc1 h
    refine Sv.seq ?_
    refine Sv.region ?_
    refine un (a1 rfl ?_)
    refine un (a1 rfl ?_)
    refine dnil ?_
    refine Sv.ret ?_
    replace h := Option.some.inj h
    subst h
    exact ⟨_, .refl _, _, rfl, ⟨upd (fun _ => none) 0 (some (.tup [(I 0), (I 0)])), (fun _ => none), 0⟩, (.tup [(I 0), (I 0)]), weak_canon [] rfl List.nodup_nil (Nat.le_refl _) (fun b h => absurd h (Nat.not_lt_zero _)) (.cons rfl (avAs_tup (.cons (avAs_free rfl) (.cons (avAs_free rfl) .nil))) .nil) .nil, rfl, rfl, rfl, rfl⟩
  · replace h := ifF hc1 h
    refine Sv.skip ?_
    refine Sv.seq ?_
    refine Sv.seq ?_
    refine Sv.region ?_
    refine un (a1 rfl ?_)
    refine un (ac_pure (color_named_ok (mL := mL) r_) rfl rfl rfl ?_)
    refine un (a1 rfl ?_)
    refine un (a1 (v := (I ((color_named r_).1))) rfl ?_)
    refine un (a1 (v := (B ((color_named r_).2))) rfl ?_)
    refine un (a1 rfl ?_)
    refine un (a1 rfl ?_)
    refine dnil ?_
    refine Sv.seq ?_
    refine Sv.region ?_
    refine un (a1 rfl ?_)
    refine dnil ?_
    refine Sv.cond (b := (color_named r_).2) rfl (fun hc2 => ?_) (fun hc2 => ?_)
    · replace h := ifT hc2 h
      refine Sv.seq ?_
      refine Sv.region ?_
      refine un (a1 rfl ?_)
      refine un (a1 (v := (I (shl .i64 ((color_named r_).1) 8))) rfl ?_)
      refine un (a1 (v := (I (bitsV .or .i64 (shl .i64 ((color_named r_).1) 8) 255))) rfl ?_)
      refine un (a1 rfl ?_)
      refine un (a1 rfl ?_)
      refine dnil ?_
      refine Sv.ret ?_
      replace h := Option.some.inj h
      subst h
      exact ⟨_, .refl _, _, rfl, ⟨upd (fun _ => none) 0 (some (.tup [(I (bitsV .or .i64 (shl .i64 ((color_named r_).1) 8) 255)), (I 0)])), (fun _ => none), 0⟩, (.tup [(I (bitsV .or .i64 (shl .i64 ((color_named r_).1) 8) 255)), (I 0)]), weak_canon [] rfl List.nodup_nil (Nat.le_refl _) (fun b h => absurd h (Nat.not_lt_zero _)) (.cons rfl (avAs_tup (.cons (avAs_free rfl) (.cons (avAs_free rfl) .nil))) .nil) .nil, rfl, rfl, rfl, rfl⟩
    · replace h := ifF hc2 h
      refine Sv.skip ?_
      refine Sv.seq ?_
      refine Sv.region ?_
      refine un (a1 rfl ?_)
      refine un (a1 rfl ?_)
      refine dnil ?_
      refine Sv.seq ?_
      refine Sv.seq ?_
      refine Sv.region ?_
      refine un (a1 rfl ?_)
      obtain ⟨r_1, hr2, h⟩ := bnd h
      refine un (ac_pure (strings_CutPrefix_ok hr2) rfl rfl rfl ?_)
      refine un (a1 rfl ?_)
      refine un (a1 (v := (S r_1.1)) rfl ?_)
      refine un (a1 (v := (B r_1.2)) rfl ?_)
      refine un (a1 rfl ?_)
      refine un (a1 rfl ?_)
      refine dnil ?_
      refine Sv.seq ?_
      refine Sv.region ?_
      refine un (a1 rfl ?_)
      refine dnil ?_
      refine Sv.cond (b := r_1.2) rfl (fun hc4 => ?_) (fun hc4 => ?_)
      · replace h := ifT hc4 h
        refine Sv.region ?_
        refine un (a1 rfl ?_)
        obtain ⟨r_2, hr3, h⟩ := bnd h
        refine un (ac_pure (color_hex_ok hr3) rfl rfl rfl ?_)
        refine un (a1 rfl ?_)
        refine un (a1 (v := (I r_2.1)) rfl ?_)
        refine un (a1 (v := (B r_2.2)) rfl ?_)
        refine un (a1 rfl ?_)
        refine un (a1 rfl ?_)
        refine dnil ?_
        exact Sv.weak (weak_canon [] rfl (by decide) (by decide) (fun b h => absurd h (Nat.not_lt_zero _)) (.cons rfl (avAs_free rfl) (.cons rfl (avAs_free rfl) .nil)) .nil) (color_Read_j3_ok h)
      · replace h := ifF hc4 h
        refine Sv.seq ?_
        refine Sv.region ?_
        refine un (a1 rfl ?_)
        obtain ⟨r_3, hr4, h⟩ := bnd h
        refine un (ac_pure (strings_CutPrefix_ok hr4) rfl rfl rfl ?_)
        refine un (a1 rfl ?_)
        refine un (a1 (v := (S r_3.1)) rfl ?_)
        refine un (a1 (v := (B r_3.2)) rfl ?_)
        refine un (a1 rfl ?_)
        refine un (a1 rfl ?_)
        refine dnil ?_
        refine Sv.seq ?_
        refine Sv.region ?_
        refine un (a1 rfl ?_)
        refine un (a1 rfl ?_)
        refine split2 (fun hc6 => ?_) (fun hc6 => ?_)
        · replace h := ifT hc6 h
          refine gt rfl (a1 rfl ?_)
          obtain ⟨r_6, hr6, h⟩ := bnd h
          refine gt rfl (ac_pure (strings_HasSuffix_ok hr6) rfl rfl rfl ?_)
          refine un (a1 (v := (B r_6)) rfl ?_)
          refine un (a1 rfl ?_)
          refine gjoin 4 (d := 50) (v := (B (r_6 && (decide ((r_3.1.length : Int) ≤ 40))))) (fun X hX => ?_) ?_
          · refine split2 (fun hc7 => ?_) (fun hc7 => ?_)
            · refine gt rfl (a1 rfl ?_)
              refine gt rfl (a1 (v := (I (r_3.1.length : Int))) rfl ?_)
              refine gt rfl (a1 (v := (B (decide ((r_3.1.length : Int) ≤ 40)))) rfl ?_)
              refine un (a1 (v := (B (decide ((r_3.1.length : Int) ≤ 40)))) rfl ?_)
              refine dnil ?_
              exact hX _ (.putEq (by rw [hc7]; rfl) (.skip _ _ (.skip _ _ (.skip _ _ (.putEq (by rw [hc7]) (.refl _)) rfl) rfl) rfl))
            · refine gs rfl rfl ?_
              refine gs rfl rfl ?_
              refine gs rfl rfl ?_
              refine un (a1 (v := (B false)) rfl ?_)
              refine dnil ?_
              exact hX _ (.putEq (by rw [hc7]; rfl) (.skip _ _ (.skip _ _ (.skip _ _ (.putEq (by rw [hc7]) (.refl _)) rfl) rfl) rfl))
          refine dnil ?_
          exact Sv.weak (weak_canon [] rfl (by decide) (by decide) (fun b h => absurd h (Nat.not_lt_zero _)) (.cons rfl (avAs_free rfl) (.cons rfl (avAs_free rfl) (.cons rfl (avAs_free rfl) (.cons rfl (avAs_free rfl) .nil)))) .nil) (color_Read_j4_ok h)
        · replace h := ifF hc6 h
          refine gs rfl rfl ?_
          refine gs rfl rfl ?_
          refine un (a1 (v := (B false)) rfl ?_)
          refine un (a1 rfl ?_)
          refine gs rfl rfl ?_
          refine gs rfl rfl ?_
          refine gs rfl rfl ?_
          refine un (a1 (v := (B false)) rfl ?_)
          refine dnil ?_
          exact Sv.weak (weak_canon [] rfl (by decide) (by decide) (fun b h => absurd h (Nat.not_lt_zero _)) (.cons rfl (avAs_free rfl) (.cons rfl (avAs_free rfl) (.cons rfl (avAs_free rfl) (.cons rfl (avAs_free rfl) .nil)))) .nil) (color_Read_j4_ok h)
def a12 : AFunc := ⟨0, [(.tmp 0)], (.seq (.region [⟨(some 0), (.mov (.const (.c (.val (.bool false))))), none⟩])
 (.seq (.region [⟨(some 4), (.call 13 [(.const (.c (.str [35, 70, 48, 48])))]), none⟩, ⟨(some 3), (.mov (.tmp 4)), none⟩, ⟨(some 5), (.ext (.tmp 3) 0), none⟩, ⟨(some 6), (.ext (.tmp 3) 1), none⟩, ⟨(some 1), (.mov (.tmp 5)), none⟩, ⟨(some 2), (.mov (.tmp 6)), none⟩])
 (.seq (.region [⟨(some 7), (.mov (.tmp 2)), none⟩, ⟨(some 8), (.bin .eql (.tmp 7) (.const (.c (.val (.int .i64 0))))), none⟩, ⟨(some 9), (.mov (.tmp 8)), none⟩, ⟨(some 10), (.mov (.tmp 1)), (some (9, true))⟩, ⟨(some 11), (.bin .eql (.tmp 10) (.const (.c (.val (.int .i64 4278190335))))), (some (9, true))⟩, ⟨(some 12), (.pick (.tmp 9) (.tmp 11) (.const (.c (.val (.bool false))))), none⟩, ⟨(some 0), (.mov (.tmp 12)), none⟩])
 .ret)))⟩
set_option maxRecDepth 100000 in
theorem c12 : compFunc Tryd.prog 12 = some a12 := by kernel_rfl
def clerestorylaw2_red_post (r : Bool) : AV → Heap → Nat → Prop := fun v h' n' => v = (B r) ∧ (h' = (fun _ => none)) ∧ n' = 0
/-- clerestory/clerestorylaw2.red -/
noncomputable def clerestorylaw2_red : Option Bool :=
  (color_Read [35, 70, 48, 48]).bind fun r_ =>
  some ((decide (r_.2 = 0)) && (decide (r_.1 = 4278190335)))
theorem clerestorylaw2_red_ok {mL : Int} {r : Bool} (h : clerestorylaw2_red = some r) : CPure Tryd.prog (GG mL) 12 [] (B r) := by
  refine acalls_of_sv hmix c12 (R := clerestorylaw2_red_post r) ?_
  unfold clerestorylaw2_red at h
  refine Sv.seq ?_
  refine Sv.region ?_
  refine un (a1 rfl ?_)
  refine dnil ?_
  refine Sv.seq ?_
  refine Sv.region ?_
  obtain ⟨r_, hr1, h⟩ := bnd h
  refine un (ac_pure (color_Read_ok hr1) rfl rfl rfl ?_)
  refine un (a1 rfl ?_)
  refine un (a1 (v := (I r_.1)) rfl ?_)
  refine un (a1 (v := (I r_.2)) rfl ?_)
  refine un (a1 rfl ?_)
  refine un (a1 rfl ?_)
  refine dnil ?_
  refine Sv.seq ?_
  refine Sv.region ?_
  refine un (a1 rfl ?_)
  refine un (a1 (v := (B (decide (r_.2 = 0)))) rfl ?_)
  refine un (a1 rfl ?_)
  refine gjoin 3 (d := 12) (v := (B ((decide (r_.2 = 0)) && (decide (r_.1 = 4278190335))))) (fun X hX => ?_) ?_
  · refine split2 (fun hc1 => ?_) (fun hc1 => ?_)
    · refine gt rfl (a1 rfl ?_)
      refine gt rfl (a1 (v := (B (decide (r_.1 = 4278190335)))) rfl ?_)
      refine un (a1 (v := (B (decide (r_.1 = 4278190335)))) rfl ?_)
      refine dnil ?_
      exact hX _ (.putEq (by rw [hc1]; rfl) (.skip _ _ (.skip _ _ (.putEq (by rw [hc1]) (.refl _)) rfl) rfl))
    · refine gs rfl rfl ?_
      refine gs rfl rfl ?_
      refine un (a1 (v := (B false)) rfl ?_)
      refine dnil ?_
      exact hX _ (.putEq (by rw [hc1]; rfl) (.skip _ _ (.skip _ _ (.putEq (by rw [hc1]) (.refl _)) rfl) rfl))
  refine un (a1 rfl ?_)
  refine dnil ?_
  refine Sv.ret ?_
  replace h := Option.some.inj h
  subst h
  exact ⟨_, .refl _, _, rfl, ⟨upd (fun _ => none) 0 (some (B ((decide (r_.2 = 0)) && (decide (r_.1 = 4278190335))))), (fun _ => none), 0⟩, (B ((decide (r_.2 = 0)) && (decide (r_.1 = 4278190335)))), weak_canon [] rfl List.nodup_nil (Nat.le_refl _) (fun b h => absurd h (Nat.not_lt_zero _)) (.cons rfl (avAs_free rfl) .nil) .nil, rfl, rfl, rfl, rfl⟩
def a88 : AFunc := ⟨1, [(.tmp 2)], (.seq (.region [⟨(some 2), (.mov (.const (.c (.str [])))), none⟩])
 (.seq (.seq (.region [⟨(some 3), (.mov (.tmp 0)), none⟩, ⟨(some 4), (.bin .lss (.tmp 3) (.const (.c (.val (.int .i64 10))))), none⟩])
 (.cond (.tmp 4) (.seq (.region [⟨(some 5), (.mov (.tmp 0)), none⟩, ⟨(some 6), (.mov (.tmp 0)), none⟩, ⟨(some 7), (.bin .add (.tmp 6) (.const (.c (.val (.int .i64 1))))), none⟩, ⟨(some 8), (.slStr (.const (.c (.str [48, 49, 50, 51, 52, 53, 54, 55, 56, 57, 97, 98, 99, 100, 101, 102, 103, 104, 105, 106, 107, 108, 109, 110, 111, 112, 113, 114, 115, 116, 117, 118, 119, 120, 121, 122]))) (some (.tmp 5)) (some (.tmp 7))), none⟩, ⟨(some 2), (.mov (.tmp 8)), none⟩])
 .ret) .skip))
 (.seq (.region [⟨(some 9), (.mov (.tmp 0)), none⟩, ⟨(some 10), (.bin .mul (.tmp 9) (.const (.c (.val (.int .i64 2))))), none⟩, ⟨(some 11), (.mov (.tmp 0)), none⟩, ⟨(some 12), (.bin .mul (.tmp 11) (.const (.c (.val (.int .i64 2))))), none⟩, ⟨(some 13), (.bin .add (.tmp 12) (.const (.c (.val (.int .i64 2))))), none⟩, ⟨(some 14), (.slStr (.const (.c (.str [48, 48, 48, 49, 48, 50, 48, 51, 48, 52, 48, 53, 48, 54, 48, 55, 48, 56, 48, 57, 49, 48, 49, 49, 49, 50, 49, 51, 49, 52, 49, 53, 49, 54, 49, 55, 49, 56, 49, 57, 50, 48, 50, 49, 50, 50, 50, 51, 50, 52, 50, 53, 50, 54, 50, 55, 50, 56, 50, 57, 51, 48, 51, 49, 51, 50, 51, 51, 51, 52, 51, 53, 51, 54, 51, 55, 51, 56, 51, 57, 52, 48, 52, 49, 52, 50, 52, 51, 52, 52, 52, 53, 52, 54, 52, 55, 52, 56, 52, 57, 53, 48, 53, 49, 53, 50, 53, 51, 53, 52, 53, 53, 53, 54, 53, 55, 53, 56, 53, 57, 54, 48, 54, 49, 54, 50, 54, 51, 54, 52, 54, 53, 54, 54, 54, 55, 54, 56, 54, 57, 55, 48, 55, 49, 55, 50, 55, 51, 55, 52, 55, 53, 55, 54, 55, 55, 55, 56, 55, 57, 56, 48, 56, 49, 56, 50, 56, 51, 56, 52, 56, 53, 56, 54, 56, 55, 56, 56, 56, 57, 57, 48, 57, 49, 57, 50, 57, 51, 57, 52, 57, 53, 57, 54, 57, 55, 57, 56, 57, 57]))) (some (.tmp 10)) (some (.tmp 13))), none⟩, ⟨(some 2), (.mov (.tmp 14)), none⟩])
 .ret)))⟩
set_option maxRecDepth 100000 in
theorem c88 : compFunc Tryd.prog 88 = some a88 := by kernel_rfl
def internal_strconv_small_post (r : (List UInt8)) : AV → Heap → Nat → Prop := fun v h' n' => v = (S r) ∧ (h' = (fun _ => none)) ∧ n' = 0
/-- internal/strconv.small -/
noncomputable def internal_strconv_small (i_ : Int) : Option (List UInt8) :=
  if decide (i_ < 10) then
    (sub? [48, 49, 50, 51, 52, 53, 54, 55, 56, 57, 97, 98, 99, 100, 101, 102, 103, 104, 105, 106, 107, 108, 109, 110, 111, 112, 113, 114, 115, 116, 117, 118, 119, 120, 121, 122] i_ (wi (i_ + 1))).bind fun r_ =>
    some r_
  else
    (sub? [48, 48, 48, 49, 48, 50, 48, 51, 48, 52, 48, 53, 48, 54, 48, 55, 48, 56, 48, 57, 49, 48, 49, 49, 49, 50, 49, 51, 49, 52, 49, 53, 49, 54, 49, 55, 49, 56, 49, 57, 50, 48, 50, 49, 50, 50, 50, 51, 50, 52, 50, 53, 50, 54, 50, 55, 50, 56, 50, 57, 51, 48, 51, 49, 51, 50, 51, 51, 51, 52, 51, 53, 51, 54, 51, 55, 51, 56, 51, 57, 52, 48, 52, 49, 52, 50, 52, 51, 52, 52, 52, 53, 52, 54, 52, 55, 52, 56, 52, 57, 53, 48, 53, 49, 53, 50, 53, 51, 53, 52, 53, 53, 53, 54, 53, 55, 53, 56, 53, 57, 54, 48, 54, 49, 54, 50, 54, 51, 54, 52, 54, 53, 54, 54, 54, 55, 54, 56, 54, 57, 55, 48, 55, 49, 55, 50, 55, 51, 55, 52, 55, 53, 55, 54, 55, 55, 55, 56, 55, 57, 56, 48, 56, 49, 56, 50, 56, 51, 56, 52, 56, 53, 56, 54, 56, 55, 56, 56, 56, 57, 57, 48, 57, 49, 57, 50, 57, 51, 57, 52, 57, 53, 57, 54, 57, 55, 57, 56, 57, 57] (wi (i_ * 2)) (wi ((wi (i_ * 2)) + 2))).bind fun r_1 =>
    some r_1
theorem internal_strconv_small_ok {mL : Int} {i_ : Int} {r : (List UInt8)} (h : internal_strconv_small i_ = some r) : CPure Tryd.prog (GG mL) 88 [(I i_)] (S r) := by
  refine acalls_of_sv hmix c88 (R := internal_strconv_small_post r) ?_
  unfold internal_strconv_small at h
  refine Sv.seq ?_
  refine Sv.region ?_
  refine un (a1 rfl ?_)
  refine dnil ?_
  refine Sv.seq ?_
  refine Sv.seq ?_
  refine Sv.region ?_
  refine un (a1 rfl ?_)
  refine un (a1 (v := (B (decide (i_ < 10)))) rfl ?_)
  refine dnil ?_
  refine Sv.cond (b := decide (i_ < 10)) rfl (fun hc1 => ?_) (fun hc1 => ?_)
  · replace h := ifT hc1 h
    refine Sv.seq ?_
    refine Sv.region ?_
    refine un (a1 rfl ?_)
    refine un (a1 rfl ?_)
    refine un (a1 (v := (I (wi (i_ + 1)))) rfl ?_)
    obtain ⟨r_, hx1, h⟩ := bnd h
    refine un (a1 (v := (S r_)) (s_slStr rfl rfl rfl hx1) ?_)
    refine un (a1 rfl ?_)
    refine dnil ?_
    refine Sv.ret ?_
    replace h := Option.some.inj h
    subst h
    exact ⟨_, .refl _, _, rfl, ⟨upd (fun _ => none) 0 (some (S r_)), (fun _ => none), 0⟩, (S r_), weak_canon [] rfl List.nodup_nil (Nat.le_refl _) (fun b h => absurd h (Nat.not_lt_zero _)) (.cons rfl (avAs_free rfl) .nil) .nil, rfl, rfl, rfl, rfl⟩
  · replace h := ifF hc1 h
    refine Sv.skip ?_
    refine Sv.seq ?_
    refine Sv.region ?_
    refine un (a1 rfl ?_)
    refine un (a1 (v := (I (wi (i_ * 2)))) rfl ?_)
    refine un (a1 rfl ?_)
    refine un (a1 (v := (I (wi (i_ * 2)))) rfl ?_)
    refine un (a1 (v := (I (wi ((wi (i_ * 2)) + 2)))) rfl ?_)
    obtain ⟨r_1, hx2, h⟩ := bnd h
    refine un (a1 (v := (S r_1)) (s_slStr rfl rfl rfl hx2) ?_)
    refine un (a1 rfl ?_)
    refine dnil ?_
    refine Sv.ret ?_
    replace h := Option.some.inj h
    subst h
    exact ⟨_, .refl _, _, rfl, ⟨upd (fun _ => none) 0 (some (S r_1)), (fun _ => none), 0⟩, (S r_1), weak_canon [] rfl List.nodup_nil (Nat.le_refl _) (fun b h => absurd h (Nat.not_lt_zero _)) (.cons rfl (avAs_free rfl) .nil) .nil, rfl, rfl, rfl, rfl⟩
def a115_c2 : ACode := (.seq (.region [⟨(some 19), (.mov (.tmp 2)), none⟩, ⟨(some 20), (.mov (.tmp 0)), none⟩, ⟨(some 21), (.conv .u8 (.tmp 20)), none⟩, ⟨(some 22), (.idxS (.const (.c (.str [0, 1, 2, 2, 3, 3, 3, 3, 4, 4, 4, 4, 4, 4, 4, 4, 5, 5, 5, 5, 5, 5, 5, 5, 5, 5, 5, 5, 5, 5, 5, 5, 6, 6, 6, 6, 6, 6, 6, 6, 6, 6, 6, 6, 6, 6, 6, 6, 6, 6, 6, 6, 6, 6, 6, 6, 6, 6, 6, 6, 6, 6, 6, 6, 7, 7, 7, 7, 7, 7, 7, 7, 7, 7, 7, 7, 7, 7, 7, 7, 7, 7, 7, 7, 7, 7, 7, 7, 7, 7, 7, 7, 7, 7, 7, 7, 7, 7, 7, 7, 7, 7, 7, 7, 7, 7, 7, 7, 7, 7, 7, 7, 7, 7, 7, 7, 7, 7, 7, 7, 7, 7, 7, 7, 7, 7, 7, 7, 8, 8, 8, 8, 8, 8, 8, 8, 8, 8, 8, 8, 8, 8, 8, 8, 8, 8, 8, 8, 8, 8, 8, 8, 8, 8, 8, 8, 8, 8, 8, 8, 8, 8, 8, 8, 8, 8, 8, 8, 8, 8, 8, 8, 8, 8, 8, 8, 8, 8, 8, 8, 8, 8, 8, 8, 8, 8, 8, 8, 8, 8, 8, 8, 8, 8, 8, 8, 8, 8, 8, 8, 8, 8, 8, 8, 8, 8, 8, 8, 8, 8, 8, 8, 8, 8, 8, 8, 8, 8, 8, 8, 8, 8, 8, 8, 8, 8, 8, 8, 8, 8, 8, 8, 8, 8, 8, 8, 8, 8, 8, 8, 8, 8, 8, 8, 8, 8, 8, 8, 8, 8, 8, 8, 8, 8, 8, 8]))) (.tmp 21)), none⟩, ⟨(some 23), (.conv .i64 (.tmp 22)), none⟩, ⟨(some 24), (.bin .add (.tmp 19) (.tmp 23)), none⟩, ⟨(some 2), (.mov (.tmp 24)), none⟩])
 .ret)
def a115_c1 : ACode := (.seq (.seq (.region [⟨(some 13), (.mov (.tmp 0)), none⟩, ⟨(some 14), (.bin .geq (.tmp 13) (.const (.c (.val (.int .u64 256))))), none⟩])
 (.cond (.tmp 14) (.seq (.region [⟨(some 15), (.mov (.tmp 0)), none⟩, ⟨(some 16), (.bin .shr (.tmp 15) (.const (.c (.val (.int .u64 8))))), none⟩, ⟨(some 0), (.mov (.tmp 16)), none⟩])
 (.region [⟨(some 17), (.mov (.tmp 2)), none⟩, ⟨(some 18), (.bin .add (.tmp 17) (.const (.c (.val (.int .i64 8))))), none⟩, ⟨(some 2), (.mov (.tmp 18)), none⟩])) .skip))
 a115_c2)
def a115_c0 : ACode := (.seq (.seq (.region [⟨(some 7), (.mov (.tmp 0)), none⟩, ⟨(some 8), (.bin .geq (.tmp 7) (.const (.c (.val (.int .u64 65536))))), none⟩])
 (.cond (.tmp 8) (.seq (.region [⟨(some 9), (.mov (.tmp 0)), none⟩, ⟨(some 10), (.bin .shr (.tmp 9) (.const (.c (.val (.int .u64 16))))), none⟩, ⟨(some 0), (.mov (.tmp 10)), none⟩])
 (.region [⟨(some 11), (.mov (.tmp 2)), none⟩, ⟨(some 12), (.bin .add (.tmp 11) (.const (.c (.val (.int .i64 16))))), none⟩, ⟨(some 2), (.mov (.tmp 12)), none⟩])) .skip))
 a115_c1)
def a115 : AFunc := ⟨1, [(.tmp 2)], (.seq (.region [⟨(some 2), (.mov (.const (.c (.val (.int .i64 0))))), none⟩])
 (.seq (.seq (.region [⟨(some 3), (.mov (.tmp 0)), none⟩, ⟨(some 4), (.bin .geq (.tmp 3) (.const (.c (.val (.int .u64 4294967296))))), none⟩])
 (.cond (.tmp 4) (.seq (.region [⟨(some 5), (.mov (.tmp 0)), none⟩, ⟨(some 6), (.bin .shr (.tmp 5) (.const (.c (.val (.int .u64 32))))), none⟩, ⟨(some 0), (.mov (.tmp 6)), none⟩])
 (.region [⟨(some 2), (.mov (.const (.c (.val (.int .i64 32))))), none⟩])) .skip))
 a115_c0))⟩
set_option maxRecDepth 100000 in
theorem c115 : compFunc Tryd.prog 115 = some a115 := by kernel_rfl
def math_bits_Len64_post (r : Int) : AV → Heap → Nat → Prop := fun v h' n' => v = (I r) ∧ (h' = (fun _ => none)) ∧ n' = 0
noncomputable def math_bits_Len64_j3 (x_3 : Int) (n_2 : Int) : Option Int :=
  (at? ([0, 1, 2, 2, 3, 3, 3, 3, 4, 4, 4, 4, 4, 4, 4, 4, 5, 5, 5, 5, 5, 5, 5, 5, 5, 5, 5, 5, 5, 5, 5, 5, 6, 6, 6, 6, 6, 6, 6, 6, 6, 6, 6, 6, 6, 6, 6, 6, 6, 6, 6, 6, 6, 6, 6, 6, 6, 6, 6, 6, 6, 6, 6, 6, 7, 7, 7, 7, 7, 7, 7, 7, 7, 7, 7, 7, 7, 7, 7, 7, 7, 7, 7, 7, 7, 7, 7, 7, 7, 7, 7, 7, 7, 7, 7, 7, 7, 7, 7, 7, 7, 7, 7, 7, 7, 7, 7, 7, 7, 7, 7, 7, 7, 7, 7, 7, 7, 7, 7, 7, 7, 7, 7, 7, 7, 7, 7, 7, 8, 8, 8, 8, 8, 8, 8, 8, 8, 8, 8, 8, 8, 8, 8, 8, 8, 8, 8, 8, 8, 8, 8, 8, 8, 8, 8, 8, 8, 8, 8, 8, 8, 8, 8, 8, 8, 8, 8, 8, 8, 8, 8, 8, 8, 8, 8, 8, 8, 8, 8, 8, 8, 8, 8, 8, 8, 8, 8, 8, 8, 8, 8, 8, 8, 8, 8, 8, 8, 8, 8, 8, 8, 8, 8, 8, 8, 8, 8, 8, 8, 8, 8, 8, 8, 8, 8, 8, 8, 8, 8, 8, 8, 8, 8, 8, 8, 8, 8, 8, 8, 8, 8, 8, 8, 8, 8, 8, 8, 8, 8, 8, 8, 8, 8, 8, 8, 8, 8, 8, 8, 8, 8, 8, 8, 8, 8, 8] : List UInt8) (wr .u8 x_3)).bind fun c_ =>
  some (wi (n_2 + (wr .i64 (c_.toNat : Int))))
theorem math_bits_Len64_j3_ok {mL : Int} {x_3 : Int} {n_2 : Int} {o : Int} (h : math_bits_Len64_j3 x_3 n_2 = some o) :
    Sv Tryd.prog (GG mL) 0 a115_c2 (Ends a115.results 0 (math_bits_Len64_post o)) ⟨(upd (upd (fun _ => none) 0 (some (.c (.val (.int .u64 x_3))))) 2 (some (I n_2))), (fun _ => none), 0⟩ := by
  unfold math_bits_Len64_j3 at h
  refine Sv.seq ?_
  refine Sv.region ?_
  refine un (a1 rfl ?_)
  refine un (a1 rfl ?_)
  refine un (a1 (v := (.c (.val (.int .u8 (wr .u8 x_3))))) rfl ?_)
  obtain ⟨c_, hx1, h⟩ := bnd h
  refine un (a1 (v := (.c (.val (.int .u8 (c_.toNat : Int))))) (s_idxS rfl rfl hx1) ?_)
  refine un (a1 (v := (I (wr .i64 (c_.toNat : Int)))) rfl ?_)
  refine un (a1 (v := (I (wi (n_2 + (wr .i64 (c_.toNat : Int)))))) rfl ?_)
  refine un (a1 rfl ?_)
  refine dnil ?_
  refine Sv.ret ?_
  replace h := Option.some.inj h
  subst h
  exact ⟨_, .refl _, _, rfl, ⟨upd (fun _ => none) 0 (some (I (wi (n_2 + (wr .i64 (c_.toNat : Int)))))), (fun _ => none), 0⟩, (I (wi (n_2 + (wr .i64 (c_.toNat : Int))))), weak_canon [] rfl List.nodup_nil (Nat.le_refl _) (fun b h => absurd h (Nat.not_lt_zero _)) (.cons rfl (avAs_free rfl) .nil) .nil, rfl, rfl, rfl, rfl⟩
noncomputable def math_bits_Len64_j2 (x_2 : Int) (n_1 : Int) : Option Int :=
  if decide (256 ≤ x_2) then
    math_bits_Len64_j3 (shr .u64 x_2 8) (wi (n_1 + 8))
  else
    math_bits_Len64_j3 x_2 n_1
theorem math_bits_Len64_j2_ok {mL : Int} {x_2 : Int} {n_1 : Int} {o : Int} (h : math_bits_Len64_j2 x_2 n_1 = some o) :
    Sv Tryd.prog (GG mL) 0 a115_c1 (Ends a115.results 0 (math_bits_Len64_post o)) ⟨(upd (upd (fun _ => none) 0 (some (.c (.val (.int .u64 x_2))))) 2 (some (I n_1))), (fun _ => none), 0⟩ := by
  unfold math_bits_Len64_j2 at h
  refine Sv.seq ?_
  refine Sv.seq ?_
  refine Sv.region ?_
  refine un (a1 rfl ?_)
  refine un (a1 (v := (B (decide (256 ≤ x_2)))) rfl ?_)
  refine dnil ?_
  refine Sv.cond (b := decide (256 ≤ x_2)) rfl (fun hc1 => ?_) (fun hc1 => ?_)
  · replace h := ifT hc1 h
    refine Sv.seq ?_
    refine Sv.region ?_
    refine un (a1 rfl ?_)
    refine un (a1 (v := (.c (.val (.int .u64 (shr .u64 x_2 8))))) rfl ?_)
    refine un (a1 rfl ?_)
    refine dnil ?_
    refine Sv.region ?_
    refine un (a1 rfl ?_)
    refine un (a1 (v := (I (wi (n_1 + 8)))) rfl ?_)
    refine un (a1 rfl ?_)
    refine dnil ?_
    exact Sv.weak (weak_canon [] rfl (by decide) (by decide) (fun b h => absurd h (Nat.not_lt_zero _)) (.cons rfl (avAs_free rfl) (.cons rfl (avAs_free rfl) .nil)) .nil) (math_bits_Len64_j3_ok h)
  · replace h := ifF hc1 h
    refine Sv.skip ?_
    exact Sv.weak (weak_canon [] rfl (by decide) (by decide) (fun b h => absurd h (Nat.not_lt_zero _)) (.cons rfl (avAs_free rfl) (.cons rfl (avAs_free rfl) .nil)) .nil) (math_bits_Len64_j3_ok h)
noncomputable def math_bits_Len64_j1 (x_1 : Int) (n_ : Int) : Option Int :=
  if decide (65536 ≤ x_1) then
    math_bits_Len64_j2 (shr .u64 x_1 16) (wi (n_ + 16))
  else
    math_bits_Len64_j2 x_1 n_
theorem math_bits_Len64_j1_ok {mL : Int} {x_1 : Int} {n_ : Int} {o : Int} (h : math_bits_Len64_j1 x_1 n_ = some o) :
    Sv Tryd.prog (GG mL) 0 a115_c0 (Ends a115.results 0 (math_bits_Len64_post o)) ⟨(upd (upd (fun _ => none) 0 (some (.c (.val (.int .u64 x_1))))) 2 (some (I n_))), (fun _ => none), 0⟩ := by
  unfold math_bits_Len64_j1 at h
  refine Sv.seq ?_
  refine Sv.seq ?_
  refine Sv.region ?_
  refine un (a1 rfl ?_)
  refine un (a1 (v := (B (decide (65536 ≤ x_1)))) rfl ?_)
  refine dnil ?_
  refine Sv.cond (b := decide (65536 ≤ x_1)) rfl (fun hc2 => ?_) (fun hc2 => ?_)
  · replace h := ifT hc2 h
    refine Sv.seq ?_
    refine Sv.region ?_
    refine un (a1 rfl ?_)
    refine un (a1 (v := (.c (.val (.int .u64 (shr .u64 x_1 16))))) rfl ?_)
    refine un (a1 rfl ?_)
    refine dnil ?_
    refine Sv.region ?_
    refine un (a1 rfl ?_)
    refine un (a1 (v := (I (wi (n_ + 16)))) rfl ?_)
    refine un (a1 rfl ?_)
    refine dnil ?_
    exact Sv.weak (weak_canon [] rfl (by decide) (by decide) (fun b h => absurd h (Nat.not_lt_zero _)) (.cons rfl (avAs_free rfl) (.cons rfl (avAs_free rfl) .nil)) .nil) (math_bits_Len64_j2_ok h)
  · replace h := ifF hc2 h
    refine Sv.skip ?_
    exact Sv.weak (weak_canon [] rfl (by decide) (by decide) (fun b h => absurd h (Nat.not_lt_zero _)) (.cons rfl (avAs_free rfl) (.cons rfl (avAs_free rfl) .nil)) .nil) (math_bits_Len64_j2_ok h)
/-- math/bits.Len64 -/
noncomputable def math_bits_Len64 (x_ : Int) : Option Int :=
  if decide (4294967296 ≤ x_) then
    math_bits_Len64_j1 (shr .u64 x_ 32) 32
  else
    math_bits_Len64_j1 x_ 0
theorem math_bits_Len64_ok {mL : Int} {x_ : Int} {r : Int} (h : math_bits_Len64 x_ = some r) : CPure Tryd.prog (GG mL) 115 [(.c (.val (.int .u64 x_)))] (I r) := by
  refine acalls_of_sv hmix c115 (R := math_bits_Len64_post r) ?_
  unfold math_bits_Len64 at h
  refine Sv.seq ?_
  refine Sv.region ?_
  refine un (a1 rfl ?_)
  refine dnil ?_
  refine Sv.seq ?_
  refine Sv.seq ?_
  refine Sv.region ?_
  refine un (a1 rfl ?_)
  refine un (a1 (v := (B (decide (4294967296 ≤ x_)))) rfl ?_)
  refine dnil ?_
  refine Sv.cond (b := decide (4294967296 ≤ x_)) rfl (fun hc3 => ?_) (fun hc3 => ?_)
  · replace h := ifT hc3 h
    refine Sv.seq ?_
    refine Sv.region ?_
    refine un (a1 rfl ?_)
    refine un (a1 (v := (.c (.val (.int .u64 (shr .u64 x_ 32))))) rfl ?_)
    refine un (a1 rfl ?_)
    refine dnil ?_
    refine Sv.region ?_
    refine un (a1 rfl ?_)
    refine dnil ?_
    exact Sv.weak (weak_canon [] rfl (by decide) (by decide) (fun b h => absurd h (Nat.not_lt_zero _)) (.cons rfl (avAs_free rfl) (.cons rfl (avAs_free rfl) .nil)) .nil) (math_bits_Len64_j1_ok h)
  · replace h := ifF hc3 h
    refine Sv.skip ?_
    exact Sv.weak (weak_canon [] rfl (by decide) (by decide) (fun b h => absurd h (Nat.not_lt_zero _)) (.cons rfl (avAs_free rfl) (.cons rfl (avAs_free rfl) .nil)) .nil) (math_bits_Len64_j1_ok h)
def a114 : AFunc := ⟨1, [(.tmp 2)], (.seq (.region [⟨(some 2), (.mov (.const (.c (.val (.int .i64 0))))), none⟩])
 (.seq (.region [⟨(some 3), (.mov (.tmp 0)), none⟩, ⟨(some 4), (.bin .mul (.tmp 3) (.const (.c (.val (.int .i64 78913))))), none⟩, ⟨(some 5), (.bin .shr (.tmp 4) (.const (.c (.val (.int .u64 18))))), none⟩, ⟨(some 2), (.mov (.tmp 5)), none⟩])
 .ret))⟩
set_option maxRecDepth 100000 in
theorem c114 : compFunc Tryd.prog 114 = some a114 := by kernel_rfl
def internal_strconv_log10Pow2_post (r : Int) : AV → Heap → Nat → Prop := fun v h' n' => v = (I r) ∧ (h' = (fun _ => none)) ∧ n' = 0
/-- internal/strconv.log10Pow2 -/
def internal_strconv_log10Pow2 (x_ : Int) : Int :=
  (shr .i64 (wi (x_ * 78913)) 18)
theorem internal_strconv_log10Pow2_ok {mL : Int} (x_ : Int) : CPure Tryd.prog (GG mL) 114 [(I x_)] (I (internal_strconv_log10Pow2 x_)) := by
  generalize h : internal_strconv_log10Pow2 x_ = o
  refine acalls_of_sv hmix c114 (R := internal_strconv_log10Pow2_post o) ?_
  unfold internal_strconv_log10Pow2 at h
  refine Sv.seq ?_
  refine Sv.region ?_
  refine un (a1 rfl ?_)
  refine dnil ?_
  refine Sv.seq ?_
  refine Sv.region ?_
  refine un (a1 rfl ?_)
  refine un (a1 (v := (I (wi (x_ * 78913)))) rfl ?_)
  refine un (a1 (v := (I (shr .i64 (wi (x_ * 78913)) 18))) rfl ?_)
  refine un (a1 rfl ?_)
  refine dnil ?_
  refine Sv.ret ?_
  subst h
  exact ⟨_, .refl _, _, rfl, ⟨upd (fun _ => none) 0 (some (I (shr .i64 (wi (x_ * 78913)) 18))), (fun _ => none), 0⟩, (I (shr .i64 (wi (x_ * 78913)) 18)), weak_canon [] rfl List.nodup_nil (Nat.le_refl _) (fun b h => absurd h (Nat.not_lt_zero _)) (.cons rfl (avAs_free rfl) .nil) .nil, rfl, rfl, rfl, rfl⟩
def a116 : AFunc := ⟨1, [(.tmp 2)], (.seq (.region [⟨(some 2), (.mov (.const (.c (.val (.int .i64 0))))), none⟩])
 (.seq (.seq (.region [⟨(some 3), (.mov (.tmp 0)), none⟩])
 (.cond (.tmp 3) (.seq (.region [⟨(some 2), (.mov (.const (.c (.val (.int .i64 1))))), none⟩])
 .ret) .skip))
 (.seq (.region [⟨(some 2), (.mov (.const (.c (.val (.int .i64 0))))), none⟩])
 .ret)))⟩
set_option maxRecDepth 100000 in
theorem c116 : compFunc Tryd.prog 116 = some a116 := by kernel_rfl
def internal_strconv_bool2_int_post (r : Int) : AV → Heap → Nat → Prop := fun v h' n' => v = (I r) ∧ (h' = (fun _ => none)) ∧ n' = 0
/-- internal/strconv.bool2(int) -/
def internal_strconv_bool2_int (b_ : Bool) : Int :=
  if b_ then
    1
  else
    0
theorem internal_strconv_bool2_int_ok {mL : Int} (b_ : Bool) : CPure Tryd.prog (GG mL) 116 [(B b_)] (I (internal_strconv_bool2_int b_)) := by
  generalize h : internal_strconv_bool2_int b_ = o
  refine acalls_of_sv hmix c116 (R := internal_strconv_bool2_int_post o) ?_
  unfold internal_strconv_bool2_int at h
  refine Sv.seq ?_
  refine Sv.region ?_
  refine un (a1 rfl ?_)
  refine dnil ?_
  refine Sv.seq ?_
  refine Sv.seq ?_
  refine Sv.region ?_
  refine un (a1 rfl ?_)
  refine dnil ?_
  refine Sv.cond (b := b_) rfl (fun hc1 => ?_) (fun hc1 => ?_)
  · replace h := ifT hc1 h
    refine Sv.seq ?_
    refine Sv.region ?_
    refine un (a1 rfl ?_)
    refine dnil ?_
    refine Sv.ret ?_
    subst h
    exact ⟨_, .refl _, _, rfl, ⟨upd (fun _ => none) 0 (some (I 1)), (fun _ => none), 0⟩, (I 1), weak_canon [] rfl List.nodup_nil (Nat.le_refl _) (fun b h => absurd h (Nat.not_lt_zero _)) (.cons rfl (avAs_free rfl) .nil) .nil, rfl, rfl, rfl, rfl⟩
  · replace h := ifF hc1 h
    refine Sv.skip ?_
    refine Sv.seq ?_
    refine Sv.region ?_
    refine un (a1 rfl ?_)
    refine dnil ?_
    refine Sv.ret ?_
    subst h
    exact ⟨_, .refl _, _, rfl, ⟨upd (fun _ => none) 0 (some (I 0)), (fun _ => none), 0⟩, (I 0), weak_canon [] rfl List.nodup_nil (Nat.le_refl _) (fun b h => absurd h (Nat.not_lt_zero _)) (.cons rfl (avAs_free rfl) .nil) .nil, rfl, rfl, rfl, rfl⟩
def a89 : AFunc := ⟨1, [(.tmp 2)], (.seq (.region [⟨(some 2), (.mov (.const (.c (.val (.int .i64 0))))), none⟩])
 (.seq (.region [⟨(some 4), (.mov (.tmp 0)), none⟩, ⟨(some 5), (.call 115 [(.tmp 4)]), none⟩, ⟨(some 6), (.call 114 [(.tmp 5)]), none⟩, ⟨(some 3), (.mov (.tmp 6)), none⟩])
 (.seq (.region [⟨(some 7), (.mov (.tmp 3)), none⟩, ⟨(some 8), (.mov (.tmp 0)), none⟩, ⟨(some 9), (.mov (.tmp 3)), none⟩, ⟨(some 10), (.iaddrA 20 1 (.glob 1) (.tmp 9)), none⟩, ⟨(some 11), (.load false 1 (.tmp 10)), none⟩, ⟨(some 12), (.bin .geq (.tmp 8) (.tmp 11)), none⟩, ⟨(some 13), (.call 116 [(.tmp 12)]), none⟩, ⟨(some 14), (.bin .add (.tmp 7) (.tmp 13)), none⟩, ⟨(some 2), (.mov (.tmp 14)), none⟩])
 .ret)))⟩
set_option maxRecDepth 100000 in
theorem c89 : compFunc Tryd.prog 89 = some a89 := by kernel_rfl
def internal_strconv_numDigits_post (r : Int) : AV → Heap → Nat → Prop := fun v h' n' => v = (I r) ∧ (h' = (fun _ => none)) ∧ n' = 0
def internal_strconv_numDigits_t0 : List Int := [1, 10, 100, 1000, 10000, 100000, 1000000, 10000000, 100000000, 1000000000, 10000000000, 100000000000, 1000000000000, 10000000000000, 100000000000000, 1000000000000000, 10000000000000000, 100000000000000000, 1000000000000000000, 10000000000000000000]
/-- internal/strconv.numDigits -/
noncomputable def internal_strconv_numDigits (d_ : Int) : Option Int :=
  (math_bits_Len64 d_).bind fun r_ =>
  (at? internal_strconv_numDigits_t0 (internal_strconv_log10Pow2 r_)).bind fun x_ =>
  letIn (wi ((internal_strconv_log10Pow2 r_) + (internal_strconv_bool2_int (decide (x_ ≤ d_))))) fun v14 : Int =>
  some v14
theorem internal_strconv_numDigits_ok {mL : Int} {d_ : Int} {r : Int} (h : internal_strconv_numDigits d_ = some r) : CPure Tryd.prog (GG mL) 89 [(.c (.val (.int .u64 d_)))] (I r) := by
  refine acalls_of_sv hmix c89 (R := internal_strconv_numDigits_post r) ?_
  unfold internal_strconv_numDigits at h
  refine Sv.seq ?_
  refine Sv.region ?_
  refine un (a1 rfl ?_)
  refine dnil ?_
  refine Sv.seq ?_
  refine Sv.region ?_
  refine un (a1 rfl ?_)
  obtain ⟨r_, hr1, h⟩ := bnd h
  refine un (ac_pure (math_bits_Len64_ok hr1) rfl rfl rfl ?_)
  refine un (ac_pure (internal_strconv_log10Pow2_ok (mL := mL) r_) rfl rfl rfl ?_)
  refine un (a1 rfl ?_)
  refine dnil ?_
  refine Sv.seq ?_
  refine Sv.region ?_
  refine un (a1 rfl ?_)
  refine un (a1 rfl ?_)
  refine un (a1 rfl ?_)
  obtain ⟨x_, hx1, h⟩ := bnd h
  refine un (a1 (v := (.c (.rop (List.drop ((internal_strconv_log10Pow2 r_).toNat * 1) g1_c)))) (s_iaddrAr (L := internal_strconv_numDigits_t0) rfl rfl rfl hx1) ?_)
  refine un (a1 (v := (.c (.val (.int .u64 x_)))) (s_loadAr (o2 := 0) (v := fun q => (.c (.val (.int .u64 q)))) rfl (.cons rfl (.cons rfl (.cons rfl (.cons rfl (.cons rfl (.cons rfl (.cons rfl (.cons rfl (.cons rfl (.cons rfl (.cons rfl (.cons rfl (.cons rfl (.cons rfl (.cons rfl (.cons rfl (.cons rfl (.cons rfl (.cons rfl (.cons rfl .nil)))))))))))))))))))) hx1) ?_)
  refine un (a1 (v := (B (decide (x_ ≤ d_)))) rfl ?_)
  refine un (ac_pure (internal_strconv_bool2_int_ok (mL := mL) (decide (x_ ≤ d_))) rfl rfl rfl ?_)
  obtain ⟨v14, hv14⟩ : ∃ v14 : Int, v14 = (wi ((internal_strconv_log10Pow2 r_) + (internal_strconv_bool2_int (decide (x_ ≤ d_))))) := ⟨_, rfl⟩
  replace h := letAt hv14 h
  refine un (a1 (v := (I v14)) (by rw [hv14]; rfl) ?_)
  clear hv14
  refine un (a1 rfl ?_)
  refine dnil ?_
  refine Sv.ret ?_
  replace h := Option.some.inj h
  subst h
  exact ⟨_, .refl _, _, rfl, ⟨upd (fun _ => none) 0 (some (I v14)), (fun _ => none), 0⟩, (I v14), weak_canon [] rfl List.nodup_nil (Nat.le_refl _) (fun b h => absurd h (Nat.not_lt_zero _)) (.cons rfl (avAs_free rfl) .nil) .nil, rfl, rfl, rfl, rfl⟩
def a90_c0 : ACode := (.seq (.seq (.region [⟨(some 19), (.mov (.tmp 4)), none⟩, ⟨(some 20), (.bin .geq (.tmp 19) (.const (.c (.val (.int .i64 8))))), none⟩])
 (.cond (.tmp 20) .skip (.exit 0)))
 (.block 1 (.seq (.region [⟨(some 21), (.mov (.tmp 1)), none⟩, ⟨(some 22), (.bin .rem (.tmp 21) (.const (.c (.val (.int .u64 100000000))))), none⟩, ⟨(some 23), (.conv .u32 (.tmp 22)), none⟩, ⟨(some 5), (.mov (.tmp 23)), none⟩])
 (.seq (.region [⟨(some 24), (.mov (.tmp 1)), none⟩, ⟨(some 25), (.bin .quo (.tmp 24) (.const (.c (.val (.int .u64 100000000))))), none⟩, ⟨(some 1), (.mov (.tmp 25)), none⟩])
 (.seq (.region [⟨(some 26), (.mov (.tmp 5)), none⟩, ⟨(some 27), (.bin .quo (.tmp 26) (.const (.c (.val (.int .u32 10000))))), none⟩, ⟨(some 28), (.mov (.tmp 5)), none⟩, ⟨(some 29), (.bin .rem (.tmp 28) (.const (.c (.val (.int .u32 10000))))), none⟩, ⟨(some 6), (.mov (.tmp 27)), none⟩, ⟨(some 7), (.mov (.tmp 29)), none⟩])
 (.seq (.region [⟨(some 30), (.mov (.tmp 7)), none⟩, ⟨(some 31), (.bin .quo (.tmp 30) (.const (.c (.val (.int .u32 100))))), none⟩, ⟨(some 32), (.bin .mul (.tmp 31) (.const (.c (.val (.int .u32 2))))), none⟩, ⟨(some 33), (.mov (.tmp 7)), none⟩, ⟨(some 34), (.bin .rem (.tmp 33) (.const (.c (.val (.int .u32 100))))), none⟩, ⟨(some 35), (.bin .mul (.tmp 34) (.const (.c (.val (.int .u32 2))))), none⟩, ⟨(some 8), (.mov (.tmp 32)), none⟩, ⟨(some 9), (.mov (.tmp 35)), none⟩])
 (.seq (.region [⟨(some 36), (.mov (.tmp 6)), none⟩, ⟨(some 37), (.bin .quo (.tmp 36) (.const (.c (.val (.int .u32 100))))), none⟩, ⟨(some 38), (.bin .mul (.tmp 37) (.const (.c (.val (.int .u32 2))))), none⟩, ⟨(some 39), (.mov (.tmp 6)), none⟩, ⟨(some 40), (.bin .rem (.tmp 39) (.const (.c (.val (.int .u32 100))))), none⟩, ⟨(some 41), (.bin .mul (.tmp 40) (.const (.c (.val (.int .u32 2))))), none⟩, ⟨(some 10), (.mov (.tmp 38)), none⟩, ⟨(some 11), (.mov (.tmp 41)), none⟩])
 (.seq (.drawn (.fin [(⟨(some 42), (.mov (.tmp 0)), none⟩, (0, 0)), (⟨(some 43), (.mov (.tmp 4)), none⟩, (0, 1)), (⟨(some 44), (.bin .sub (.tmp 43) (.const (.c (.val (.int .i64 1))))), none⟩, (0, 2)), (⟨(some 45), (.mov (.tmp 0)), none⟩, (0, 3)), (⟨(some 46), (.mov (.tmp 4)), none⟩, (0, 4)), (⟨(some 47), (.bin .sub (.tmp 46) (.const (.c (.val (.int .i64 2))))), none⟩, (0, 5)), (⟨(some 48), (.mov (.tmp 9)), none⟩, (0, 6)), (⟨(some 49), (.bin .add (.tmp 48) (.const (.c (.val (.int .u32 1))))), none⟩, (0, 7)), (⟨(some 50), (.idxS (.const (.c (.str [48, 48, 48, 49, 48, 50, 48, 51, 48, 52, 48, 53, 48, 54, 48, 55, 48, 56, 48, 57, 49, 48, 49, 49, 49, 50, 49, 51, 49, 52, 49, 53, 49, 54, 49, 55, 49, 56, 49, 57, 50, 48, 50, 49, 50, 50, 50, 51, 50, 52, 50, 53, 50, 54, 50, 55, 50, 56, 50, 57, 51, 48, 51, 49, 51, 50, 51, 51, 51, 52, 51, 53, 51, 54, 51, 55, 51, 56, 51, 57, 52, 48, 52, 49, 52, 50, 52, 51, 52, 52, 52, 53, 52, 54, 52, 55, 52, 56, 52, 57, 53, 48, 53, 49, 53, 50, 53, 51, 53, 52, 53, 53, 53, 54, 53, 55, 53, 56, 53, 57, 54, 48, 54, 49, 54, 50, 54, 51, 54, 52, 54, 53, 54, 54, 54, 55, 54, 56, 54, 57, 55, 48, 55, 49, 55, 50, 55, 51, 55, 52, 55, 53, 55, 54, 55, 55, 55, 56, 55, 57, 56, 48, 56, 49, 56, 50, 56, 51, 56, 52, 56, 53, 56, 54, 56, 55, 56, 56, 56, 57, 57, 48, 57, 49, 57, 50, 57, 51, 57, 52, 57, 53, 57, 54, 57, 55, 57, 56, 57, 57]))) (.tmp 49)), none⟩, (0, 8)), (⟨(some 51), (.mov (.tmp 9)), none⟩, (0, 9)), (⟨(some 52), (.idxS (.const (.c (.str [48, 48, 48, 49, 48, 50, 48, 51, 48, 52, 48, 53, 48, 54, 48, 55, 48, 56, 48, 57, 49, 48, 49, 49, 49, 50, 49, 51, 49, 52, 49, 53, 49, 54, 49, 55, 49, 56, 49, 57, 50, 48, 50, 49, 50, 50, 50, 51, 50, 52, 50, 53, 50, 54, 50, 55, 50, 56, 50, 57, 51, 48, 51, 49, 51, 50, 51, 51, 51, 52, 51, 53, 51, 54, 51, 55, 51, 56, 51, 57, 52, 48, 52, 49, 52, 50, 52, 51, 52, 52, 52, 53, 52, 54, 52, 55, 52, 56, 52, 57, 53, 48, 53, 49, 53, 50, 53, 51, 53, 52, 53, 53, 53, 54, 53, 55, 53, 56, 53, 57, 54, 48, 54, 49, 54, 50, 54, 51, 54, 52, 54, 53, 54, 54, 54, 55, 54, 56, 54, 57, 55, 48, 55, 49, 55, 50, 55, 51, 55, 52, 55, 53, 55, 54, 55, 55, 55, 56, 55, 57, 56, 48, 56, 49, 56, 50, 56, 51, 56, 52, 56, 53, 56, 54, 56, 55, 56, 56, 56, 57, 57, 48, 57, 49, 57, 50, 57, 51, 57, 52, 57, 53, 57, 54, 57, 55, 57, 56, 57, 57]))) (.tmp 51)), none⟩, (0, 10)), (⟨(some 53), (.iaddr 1 (.tmp 42) (.tmp 44)), none⟩, (0, 11)), (⟨none, (.store 1 (.tmp 53) (.tmp 50)), none⟩, (2, 12)), (⟨(some 54), (.iaddr 1 (.tmp 45) (.tmp 47)), none⟩, (0, 13)), (⟨none, (.store 1 (.tmp 54) (.tmp 52)), none⟩, (2, 14))]))
 (.seq (.drawn (.fin [(⟨(some 55), (.mov (.tmp 0)), none⟩, (0, 0)), (⟨(some 56), (.mov (.tmp 4)), none⟩, (0, 1)), (⟨(some 57), (.bin .sub (.tmp 56) (.const (.c (.val (.int .i64 3))))), none⟩, (0, 2)), (⟨(some 58), (.mov (.tmp 0)), none⟩, (0, 3)), (⟨(some 59), (.mov (.tmp 4)), none⟩, (0, 4)), (⟨(some 60), (.bin .sub (.tmp 59) (.const (.c (.val (.int .i64 4))))), none⟩, (0, 5)), (⟨(some 61), (.mov (.tmp 8)), none⟩, (0, 6)), (⟨(some 62), (.bin .add (.tmp 61) (.const (.c (.val (.int .u32 1))))), none⟩, (0, 7)), (⟨(some 63), (.idxS (.const (.c (.str [48, 48, 48, 49, 48, 50, 48, 51, 48, 52, 48, 53, 48, 54, 48, 55, 48, 56, 48, 57, 49, 48, 49, 49, 49, 50, 49, 51, 49, 52, 49, 53, 49, 54, 49, 55, 49, 56, 49, 57, 50, 48, 50, 49, 50, 50, 50, 51, 50, 52, 50, 53, 50, 54, 50, 55, 50, 56, 50, 57, 51, 48, 51, 49, 51, 50, 51, 51, 51, 52, 51, 53, 51, 54, 51, 55, 51, 56, 51, 57, 52, 48, 52, 49, 52, 50, 52, 51, 52, 52, 52, 53, 52, 54, 52, 55, 52, 56, 52, 57, 53, 48, 53, 49, 53, 50, 53, 51, 53, 52, 53, 53, 53, 54, 53, 55, 53, 56, 53, 57, 54, 48, 54, 49, 54, 50, 54, 51, 54, 52, 54, 53, 54, 54, 54, 55, 54, 56, 54, 57, 55, 48, 55, 49, 55, 50, 55, 51, 55, 52, 55, 53, 55, 54, 55, 55, 55, 56, 55, 57, 56, 48, 56, 49, 56, 50, 56, 51, 56, 52, 56, 53, 56, 54, 56, 55, 56, 56, 56, 57, 57, 48, 57, 49, 57, 50, 57, 51, 57, 52, 57, 53, 57, 54, 57, 55, 57, 56, 57, 57]))) (.tmp 62)), none⟩, (0, 8)), (⟨(some 64), (.mov (.tmp 8)), none⟩, (0, 9)), (⟨(some 65), (.idxS (.const (.c (.str [48, 48, 48, 49, 48, 50, 48, 51, 48, 52, 48, 53, 48, 54, 48, 55, 48, 56, 48, 57, 49, 48, 49, 49, 49, 50, 49, 51, 49, 52, 49, 53, 49, 54, 49, 55, 49, 56, 49, 57, 50, 48, 50, 49, 50, 50, 50, 51, 50, 52, 50, 53, 50, 54, 50, 55, 50, 56, 50, 57, 51, 48, 51, 49, 51, 50, 51, 51, 51, 52, 51, 53, 51, 54, 51, 55, 51, 56, 51, 57, 52, 48, 52, 49, 52, 50, 52, 51, 52, 52, 52, 53, 52, 54, 52, 55, 52, 56, 52, 57, 53, 48, 53, 49, 53, 50, 53, 51, 53, 52, 53, 53, 53, 54, 53, 55, 53, 56, 53, 57, 54, 48, 54, 49, 54, 50, 54, 51, 54, 52, 54, 53, 54, 54, 54, 55, 54, 56, 54, 57, 55, 48, 55, 49, 55, 50, 55, 51, 55, 52, 55, 53, 55, 54, 55, 55, 55, 56, 55, 57, 56, 48, 56, 49, 56, 50, 56, 51, 56, 52, 56, 53, 56, 54, 56, 55, 56, 56, 56, 57, 57, 48, 57, 49, 57, 50, 57, 51, 57, 52, 57, 53, 57, 54, 57, 55, 57, 56, 57, 57]))) (.tmp 64)), none⟩, (0, 10)), (⟨(some 66), (.iaddr 1 (.tmp 55) (.tmp 57)), none⟩, (0, 11)), (⟨none, (.store 1 (.tmp 66) (.tmp 63)), none⟩, (2, 12)), (⟨(some 67), (.iaddr 1 (.tmp 58) (.tmp 60)), none⟩, (0, 13)), (⟨none, (.store 1 (.tmp 67) (.tmp 65)), none⟩, (2, 14))]))
 (.seq (.drawn (.fin [(⟨(some 68), (.mov (.tmp 0)), none⟩, (0, 0)), (⟨(some 69), (.mov (.tmp 4)), none⟩, (0, 1)), (⟨(some 70), (.bin .sub (.tmp 69) (.const (.c (.val (.int .i64 5))))), none⟩, (0, 2)), (⟨(some 71), (.mov (.tmp 0)), none⟩, (0, 3)), (⟨(some 72), (.mov (.tmp 4)), none⟩, (0, 4)), (⟨(some 73), (.bin .sub (.tmp 72) (.const (.c (.val (.int .i64 6))))), none⟩, (0, 5)), (⟨(some 74), (.mov (.tmp 11)), none⟩, (0, 6)), (⟨(some 75), (.bin .add (.tmp 74) (.const (.c (.val (.int .u32 1))))), none⟩, (0, 7)), (⟨(some 76), (.idxS (.const (.c (.str [48, 48, 48, 49, 48, 50, 48, 51, 48, 52, 48, 53, 48, 54, 48, 55, 48, 56, 48, 57, 49, 48, 49, 49, 49, 50, 49, 51, 49, 52, 49, 53, 49, 54, 49, 55, 49, 56, 49, 57, 50, 48, 50, 49, 50, 50, 50, 51, 50, 52, 50, 53, 50, 54, 50, 55, 50, 56, 50, 57, 51, 48, 51, 49, 51, 50, 51, 51, 51, 52, 51, 53, 51, 54, 51, 55, 51, 56, 51, 57, 52, 48, 52, 49, 52, 50, 52, 51, 52, 52, 52, 53, 52, 54, 52, 55, 52, 56, 52, 57, 53, 48, 53, 49, 53, 50, 53, 51, 53, 52, 53, 53, 53, 54, 53, 55, 53, 56, 53, 57, 54, 48, 54, 49, 54, 50, 54, 51, 54, 52, 54, 53, 54, 54, 54, 55, 54, 56, 54, 57, 55, 48, 55, 49, 55, 50, 55, 51, 55, 52, 55, 53, 55, 54, 55, 55, 55, 56, 55, 57, 56, 48, 56, 49, 56, 50, 56, 51, 56, 52, 56, 53, 56, 54, 56, 55, 56, 56, 56, 57, 57, 48, 57, 49, 57, 50, 57, 51, 57, 52, 57, 53, 57, 54, 57, 55, 57, 56, 57, 57]))) (.tmp 75)), none⟩, (0, 8)), (⟨(some 77), (.mov (.tmp 11)), none⟩, (0, 9)), (⟨(some 78), (.idxS (.const (.c (.str [48, 48, 48, 49, 48, 50, 48, 51, 48, 52, 48, 53, 48, 54, 48, 55, 48, 56, 48, 57, 49, 48, 49, 49, 49, 50, 49, 51, 49, 52, 49, 53, 49, 54, 49, 55, 49, 56, 49, 57, 50, 48, 50, 49, 50, 50, 50, 51, 50, 52, 50, 53, 50, 54, 50, 55, 50, 56, 50, 57, 51, 48, 51, 49, 51, 50, 51, 51, 51, 52, 51, 53, 51, 54, 51, 55, 51, 56, 51, 57, 52, 48, 52, 49, 52, 50, 52, 51, 52, 52, 52, 53, 52, 54, 52, 55, 52, 56, 52, 57, 53, 48, 53, 49, 53, 50, 53, 51, 53, 52, 53, 53, 53, 54, 53, 55, 53, 56, 53, 57, 54, 48, 54, 49, 54, 50, 54, 51, 54, 52, 54, 53, 54, 54, 54, 55, 54, 56, 54, 57, 55, 48, 55, 49, 55, 50, 55, 51, 55, 52, 55, 53, 55, 54, 55, 55, 55, 56, 55, 57, 56, 48, 56, 49, 56, 50, 56, 51, 56, 52, 56, 53, 56, 54, 56, 55, 56, 56, 56, 57, 57, 48, 57, 49, 57, 50, 57, 51, 57, 52, 57, 53, 57, 54, 57, 55, 57, 56, 57, 57]))) (.tmp 77)), none⟩, (0, 10)), (⟨(some 79), (.iaddr 1 (.tmp 68) (.tmp 70)), none⟩, (0, 11)), (⟨none, (.store 1 (.tmp 79) (.tmp 76)), none⟩, (2, 12)), (⟨(some 80), (.iaddr 1 (.tmp 71) (.tmp 73)), none⟩, (0, 13)), (⟨none, (.store 1 (.tmp 80) (.tmp 78)), none⟩, (2, 14))]))
 (.seq (.drawn (.fin [(⟨(some 81), (.mov (.tmp 0)), none⟩, (0, 0)), (⟨(some 82), (.mov (.tmp 4)), none⟩, (0, 1)), (⟨(some 83), (.bin .sub (.tmp 82) (.const (.c (.val (.int .i64 7))))), none⟩, (0, 2)), (⟨(some 84), (.mov (.tmp 0)), none⟩, (0, 3)), (⟨(some 85), (.mov (.tmp 4)), none⟩, (0, 4)), (⟨(some 86), (.bin .sub (.tmp 85) (.const (.c (.val (.int .i64 8))))), none⟩, (0, 5)), (⟨(some 87), (.mov (.tmp 10)), none⟩, (0, 6)), (⟨(some 88), (.bin .add (.tmp 87) (.const (.c (.val (.int .u32 1))))), none⟩, (0, 7)), (⟨(some 89), (.idxS (.const (.c (.str [48, 48, 48, 49, 48, 50, 48, 51, 48, 52, 48, 53, 48, 54, 48, 55, 48, 56, 48, 57, 49, 48, 49, 49, 49, 50, 49, 51, 49, 52, 49, 53, 49, 54, 49, 55, 49, 56, 49, 57, 50, 48, 50, 49, 50, 50, 50, 51, 50, 52, 50, 53, 50, 54, 50, 55, 50, 56, 50, 57, 51, 48, 51, 49, 51, 50, 51, 51, 51, 52, 51, 53, 51, 54, 51, 55, 51, 56, 51, 57, 52, 48, 52, 49, 52, 50, 52, 51, 52, 52, 52, 53, 52, 54, 52, 55, 52, 56, 52, 57, 53, 48, 53, 49, 53, 50, 53, 51, 53, 52, 53, 53, 53, 54, 53, 55, 53, 56, 53, 57, 54, 48, 54, 49, 54, 50, 54, 51, 54, 52, 54, 53, 54, 54, 54, 55, 54, 56, 54, 57, 55, 48, 55, 49, 55, 50, 55, 51, 55, 52, 55, 53, 55, 54, 55, 55, 55, 56, 55, 57, 56, 48, 56, 49, 56, 50, 56, 51, 56, 52, 56, 53, 56, 54, 56, 55, 56, 56, 56, 57, 57, 48, 57, 49, 57, 50, 57, 51, 57, 52, 57, 53, 57, 54, 57, 55, 57, 56, 57, 57]))) (.tmp 88)), none⟩, (0, 8)), (⟨(some 90), (.mov (.tmp 10)), none⟩, (0, 9)), (⟨(some 91), (.idxS (.const (.c (.str [48, 48, 48, 49, 48, 50, 48, 51, 48, 52, 48, 53, 48, 54, 48, 55, 48, 56, 48, 57, 49, 48, 49, 49, 49, 50, 49, 51, 49, 52, 49, 53, 49, 54, 49, 55, 49, 56, 49, 57, 50, 48, 50, 49, 50, 50, 50, 51, 50, 52, 50, 53, 50, 54, 50, 55, 50, 56, 50, 57, 51, 48, 51, 49, 51, 50, 51, 51, 51, 52, 51, 53, 51, 54, 51, 55, 51, 56, 51, 57, 52, 48, 52, 49, 52, 50, 52, 51, 52, 52, 52, 53, 52, 54, 52, 55, 52, 56, 52, 57, 53, 48, 53, 49, 53, 50, 53, 51, 53, 52, 53, 53, 53, 54, 53, 55, 53, 56, 53, 57, 54, 48, 54, 49, 54, 50, 54, 51, 54, 52, 54, 53, 54, 54, 54, 55, 54, 56, 54, 57, 55, 48, 55, 49, 55, 50, 55, 51, 55, 52, 55, 53, 55, 54, 55, 55, 55, 56, 55, 57, 56, 48, 56, 49, 56, 50, 56, 51, 56, 52, 56, 53, 56, 54, 56, 55, 56, 56, 56, 57, 57, 48, 57, 49, 57, 50, 57, 51, 57, 52, 57, 53, 57, 54, 57, 55, 57, 56, 57, 57]))) (.tmp 90)), none⟩, (0, 10)), (⟨(some 92), (.iaddr 1 (.tmp 81) (.tmp 83)), none⟩, (0, 11)), (⟨none, (.store 1 (.tmp 92) (.tmp 89)), none⟩, (2, 12)), (⟨(some 93), (.iaddr 1 (.tmp 84) (.tmp 86)), none⟩, (0, 13)), (⟨none, (.store 1 (.tmp 93) (.tmp 91)), none⟩, (2, 14))]))
 (.region [⟨(some 94), (.mov (.tmp 4)), none⟩, ⟨(some 95), (.bin .sub (.tmp 94) (.const (.c (.val (.int .i64 8))))), none⟩, ⟨(some 4), (.mov (.tmp 95)), none⟩]))))))))))))
def a90_c2 : ACode := (.seq (.region [⟨(some 160), (.mov (.tmp 4)), none⟩, ⟨(some 161), (.bin .gtr (.tmp 160) (.const (.c (.val (.int .i64 0))))), none⟩])
 (.cond (.tmp 161) (.region [⟨(some 162), (.mov (.tmp 0)), none⟩, ⟨(some 163), (.mov (.tmp 12)), none⟩, ⟨(some 164), (.bin .add (.const (.c (.val (.int .u32 48)))) (.tmp 163)), none⟩, ⟨(some 165), (.conv .u8 (.tmp 164)), none⟩, ⟨(some 166), (.iaddr 1 (.tmp 162) (.const (.c (.val (.int .i64 0))))), none⟩, ⟨none, (.store 1 (.tmp 166) (.tmp 165)), none⟩]) .skip))
def a90_c1 : ACode := (.seq (.seq (.region [⟨(some 138), (.mov (.tmp 4)), none⟩, ⟨(some 139), (.bin .geq (.tmp 138) (.const (.c (.val (.int .i64 2))))), none⟩])
 (.cond (.tmp 139) (.seq (.region [⟨(some 140), (.mov (.tmp 12)), none⟩, ⟨(some 141), (.bin .rem (.tmp 140) (.const (.c (.val (.int .u32 100))))), none⟩, ⟨(some 142), (.bin .mul (.tmp 141) (.const (.c (.val (.int .u32 2))))), none⟩, ⟨(some 16), (.mov (.tmp 142)), none⟩])
 (.seq (.region [⟨(some 143), (.mov (.tmp 12)), none⟩, ⟨(some 144), (.bin .quo (.tmp 143) (.const (.c (.val (.int .u32 100))))), none⟩, ⟨(some 12), (.mov (.tmp 144)), none⟩])
 (.seq (.drawn (.fin [(⟨(some 145), (.mov (.tmp 0)), none⟩, (0, 0)), (⟨(some 146), (.mov (.tmp 4)), none⟩, (0, 1)), (⟨(some 147), (.bin .sub (.tmp 146) (.const (.c (.val (.int .i64 1))))), none⟩, (0, 2)), (⟨(some 148), (.mov (.tmp 0)), none⟩, (0, 3)), (⟨(some 149), (.mov (.tmp 4)), none⟩, (0, 4)), (⟨(some 150), (.bin .sub (.tmp 149) (.const (.c (.val (.int .i64 2))))), none⟩, (0, 5)), (⟨(some 151), (.mov (.tmp 16)), none⟩, (0, 6)), (⟨(some 152), (.bin .add (.tmp 151) (.const (.c (.val (.int .u32 1))))), none⟩, (0, 7)), (⟨(some 153), (.idxS (.const (.c (.str [48, 48, 48, 49, 48, 50, 48, 51, 48, 52, 48, 53, 48, 54, 48, 55, 48, 56, 48, 57, 49, 48, 49, 49, 49, 50, 49, 51, 49, 52, 49, 53, 49, 54, 49, 55, 49, 56, 49, 57, 50, 48, 50, 49, 50, 50, 50, 51, 50, 52, 50, 53, 50, 54, 50, 55, 50, 56, 50, 57, 51, 48, 51, 49, 51, 50, 51, 51, 51, 52, 51, 53, 51, 54, 51, 55, 51, 56, 51, 57, 52, 48, 52, 49, 52, 50, 52, 51, 52, 52, 52, 53, 52, 54, 52, 55, 52, 56, 52, 57, 53, 48, 53, 49, 53, 50, 53, 51, 53, 52, 53, 53, 53, 54, 53, 55, 53, 56, 53, 57, 54, 48, 54, 49, 54, 50, 54, 51, 54, 52, 54, 53, 54, 54, 54, 55, 54, 56, 54, 57, 55, 48, 55, 49, 55, 50, 55, 51, 55, 52, 55, 53, 55, 54, 55, 55, 55, 56, 55, 57, 56, 48, 56, 49, 56, 50, 56, 51, 56, 52, 56, 53, 56, 54, 56, 55, 56, 56, 56, 57, 57, 48, 57, 49, 57, 50, 57, 51, 57, 52, 57, 53, 57, 54, 57, 55, 57, 56, 57, 57]))) (.tmp 152)), none⟩, (0, 8)), (⟨(some 154), (.mov (.tmp 16)), none⟩, (0, 9)), (⟨(some 155), (.idxS (.const (.c (.str [48, 48, 48, 49, 48, 50, 48, 51, 48, 52, 48, 53, 48, 54, 48, 55, 48, 56, 48, 57, 49, 48, 49, 49, 49, 50, 49, 51, 49, 52, 49, 53, 49, 54, 49, 55, 49, 56, 49, 57, 50, 48, 50, 49, 50, 50, 50, 51, 50, 52, 50, 53, 50, 54, 50, 55, 50, 56, 50, 57, 51, 48, 51, 49, 51, 50, 51, 51, 51, 52, 51, 53, 51, 54, 51, 55, 51, 56, 51, 57, 52, 48, 52, 49, 52, 50, 52, 51, 52, 52, 52, 53, 52, 54, 52, 55, 52, 56, 52, 57, 53, 48, 53, 49, 53, 50, 53, 51, 53, 52, 53, 53, 53, 54, 53, 55, 53, 56, 53, 57, 54, 48, 54, 49, 54, 50, 54, 51, 54, 52, 54, 53, 54, 54, 54, 55, 54, 56, 54, 57, 55, 48, 55, 49, 55, 50, 55, 51, 55, 52, 55, 53, 55, 54, 55, 55, 55, 56, 55, 57, 56, 48, 56, 49, 56, 50, 56, 51, 56, 52, 56, 53, 56, 54, 56, 55, 56, 56, 56, 57, 57, 48, 57, 49, 57, 50, 57, 51, 57, 52, 57, 53, 57, 54, 57, 55, 57, 56, 57, 57]))) (.tmp 154)), none⟩, (0, 10)), (⟨(some 156), (.iaddr 1 (.tmp 145) (.tmp 147)), none⟩, (0, 11)), (⟨none, (.store 1 (.tmp 156) (.tmp 153)), none⟩, (2, 12)), (⟨(some 157), (.iaddr 1 (.tmp 148) (.tmp 150)), none⟩, (0, 13)), (⟨none, (.store 1 (.tmp 157) (.tmp 155)), none⟩, (2, 14))]))
 (.region [⟨(some 158), (.mov (.tmp 4)), none⟩, ⟨(some 159), (.bin .sub (.tmp 158) (.const (.c (.val (.int .i64 2))))), none⟩, ⟨(some 4), (.mov (.tmp 159)), none⟩])))) .skip))
 a90_c2)
def a90 : AFunc := ⟨2, [], (.seq (.region [⟨(some 17), (.mov (.tmp 0)), none⟩, ⟨(some 18), (.len (.tmp 17)), none⟩, ⟨(some 4), (.mov (.tmp 18)), none⟩])
 (.seq (.block 0 (.loop a90_c0))
 (.seq (.region [⟨(some 96), (.mov (.tmp 1)), none⟩, ⟨(some 97), (.conv .u32 (.tmp 96)), none⟩, ⟨(some 12), (.mov (.tmp 97)), none⟩])
 (.seq (.seq (.region [⟨(some 98), (.mov (.tmp 4)), none⟩, ⟨(some 99), (.bin .geq (.tmp 98) (.const (.c (.val (.int .i64 4))))), none⟩])
 (.cond (.tmp 99) (.seq (.region [⟨(some 100), (.mov (.tmp 12)), none⟩, ⟨(some 101), (.bin .rem (.tmp 100) (.const (.c (.val (.int .u32 10000))))), none⟩, ⟨(some 13), (.mov (.tmp 101)), none⟩])
 (.seq (.region [⟨(some 102), (.mov (.tmp 12)), none⟩, ⟨(some 103), (.bin .quo (.tmp 102) (.const (.c (.val (.int .u32 10000))))), none⟩, ⟨(some 12), (.mov (.tmp 103)), none⟩])
 (.seq (.region [⟨(some 104), (.mov (.tmp 13)), none⟩, ⟨(some 105), (.bin .quo (.tmp 104) (.const (.c (.val (.int .u32 100))))), none⟩, ⟨(some 106), (.bin .mul (.tmp 105) (.const (.c (.val (.int .u32 2))))), none⟩, ⟨(some 107), (.mov (.tmp 13)), none⟩, ⟨(some 108), (.bin .rem (.tmp 107) (.const (.c (.val (.int .u32 100))))), none⟩, ⟨(some 109), (.bin .mul (.tmp 108) (.const (.c (.val (.int .u32 2))))), none⟩, ⟨(some 14), (.mov (.tmp 106)), none⟩, ⟨(some 15), (.mov (.tmp 109)), none⟩])
 (.seq (.drawn (.fin [(⟨(some 110), (.mov (.tmp 0)), none⟩, (0, 0)), (⟨(some 111), (.mov (.tmp 4)), none⟩, (0, 1)), (⟨(some 112), (.bin .sub (.tmp 111) (.const (.c (.val (.int .i64 1))))), none⟩, (0, 2)), (⟨(some 113), (.mov (.tmp 0)), none⟩, (0, 3)), (⟨(some 114), (.mov (.tmp 4)), none⟩, (0, 4)), (⟨(some 115), (.bin .sub (.tmp 114) (.const (.c (.val (.int .i64 2))))), none⟩, (0, 5)), (⟨(some 116), (.mov (.tmp 15)), none⟩, (0, 6)), (⟨(some 117), (.bin .add (.tmp 116) (.const (.c (.val (.int .u32 1))))), none⟩, (0, 7)), (⟨(some 118), (.idxS (.const (.c (.str [48, 48, 48, 49, 48, 50, 48, 51, 48, 52, 48, 53, 48, 54, 48, 55, 48, 56, 48, 57, 49, 48, 49, 49, 49, 50, 49, 51, 49, 52, 49, 53, 49, 54, 49, 55, 49, 56, 49, 57, 50, 48, 50, 49, 50, 50, 50, 51, 50, 52, 50, 53, 50, 54, 50, 55, 50, 56, 50, 57, 51, 48, 51, 49, 51, 50, 51, 51, 51, 52, 51, 53, 51, 54, 51, 55, 51, 56, 51, 57, 52, 48, 52, 49, 52, 50, 52, 51, 52, 52, 52, 53, 52, 54, 52, 55, 52, 56, 52, 57, 53, 48, 53, 49, 53, 50, 53, 51, 53, 52, 53, 53, 53, 54, 53, 55, 53, 56, 53, 57, 54, 48, 54, 49, 54, 50, 54, 51, 54, 52, 54, 53, 54, 54, 54, 55, 54, 56, 54, 57, 55, 48, 55, 49, 55, 50, 55, 51, 55, 52, 55, 53, 55, 54, 55, 55, 55, 56, 55, 57, 56, 48, 56, 49, 56, 50, 56, 51, 56, 52, 56, 53, 56, 54, 56, 55, 56, 56, 56, 57, 57, 48, 57, 49, 57, 50, 57, 51, 57, 52, 57, 53, 57, 54, 57, 55, 57, 56, 57, 57]))) (.tmp 117)), none⟩, (0, 8)), (⟨(some 119), (.mov (.tmp 15)), none⟩, (0, 9)), (⟨(some 120), (.idxS (.const (.c (.str [48, 48, 48, 49, 48, 50, 48, 51, 48, 52, 48, 53, 48, 54, 48, 55, 48, 56, 48, 57, 49, 48, 49, 49, 49, 50, 49, 51, 49, 52, 49, 53, 49, 54, 49, 55, 49, 56, 49, 57, 50, 48, 50, 49, 50, 50, 50, 51, 50, 52, 50, 53, 50, 54, 50, 55, 50, 56, 50, 57, 51, 48, 51, 49, 51, 50, 51, 51, 51, 52, 51, 53, 51, 54, 51, 55, 51, 56, 51, 57, 52, 48, 52, 49, 52, 50, 52, 51, 52, 52, 52, 53, 52, 54, 52, 55, 52, 56, 52, 57, 53, 48, 53, 49, 53, 50, 53, 51, 53, 52, 53, 53, 53, 54, 53, 55, 53, 56, 53, 57, 54, 48, 54, 49, 54, 50, 54, 51, 54, 52, 54, 53, 54, 54, 54, 55, 54, 56, 54, 57, 55, 48, 55, 49, 55, 50, 55, 51, 55, 52, 55, 53, 55, 54, 55, 55, 55, 56, 55, 57, 56, 48, 56, 49, 56, 50, 56, 51, 56, 52, 56, 53, 56, 54, 56, 55, 56, 56, 56, 57, 57, 48, 57, 49, 57, 50, 57, 51, 57, 52, 57, 53, 57, 54, 57, 55, 57, 56, 57, 57]))) (.tmp 119)), none⟩, (0, 10)), (⟨(some 121), (.iaddr 1 (.tmp 110) (.tmp 112)), none⟩, (0, 11)), (⟨none, (.store 1 (.tmp 121) (.tmp 118)), none⟩, (2, 12)), (⟨(some 122), (.iaddr 1 (.tmp 113) (.tmp 115)), none⟩, (0, 13)), (⟨none, (.store 1 (.tmp 122) (.tmp 120)), none⟩, (2, 14))]))
 (.seq (.drawn (.fin [(⟨(some 123), (.mov (.tmp 0)), none⟩, (0, 0)), (⟨(some 124), (.mov (.tmp 4)), none⟩, (0, 1)), (⟨(some 125), (.bin .sub (.tmp 124) (.const (.c (.val (.int .i64 3))))), none⟩, (0, 2)), (⟨(some 126), (.mov (.tmp 0)), none⟩, (0, 3)), (⟨(some 127), (.mov (.tmp 4)), none⟩, (0, 4)), (⟨(some 128), (.bin .sub (.tmp 127) (.const (.c (.val (.int .i64 4))))), none⟩, (0, 5)), (⟨(some 129), (.mov (.tmp 14)), none⟩, (0, 6)), (⟨(some 130), (.bin .add (.tmp 129) (.const (.c (.val (.int .u32 1))))), none⟩, (0, 7)), (⟨(some 131), (.idxS (.const (.c (.str [48, 48, 48, 49, 48, 50, 48, 51, 48, 52, 48, 53, 48, 54, 48, 55, 48, 56, 48, 57, 49, 48, 49, 49, 49, 50, 49, 51, 49, 52, 49, 53, 49, 54, 49, 55, 49, 56, 49, 57, 50, 48, 50, 49, 50, 50, 50, 51, 50, 52, 50, 53, 50, 54, 50, 55, 50, 56, 50, 57, 51, 48, 51, 49, 51, 50, 51, 51, 51, 52, 51, 53, 51, 54, 51, 55, 51, 56, 51, 57, 52, 48, 52, 49, 52, 50, 52, 51, 52, 52, 52, 53, 52, 54, 52, 55, 52, 56, 52, 57, 53, 48, 53, 49, 53, 50, 53, 51, 53, 52, 53, 53, 53, 54, 53, 55, 53, 56, 53, 57, 54, 48, 54, 49, 54, 50, 54, 51, 54, 52, 54, 53, 54, 54, 54, 55, 54, 56, 54, 57, 55, 48, 55, 49, 55, 50, 55, 51, 55, 52, 55, 53, 55, 54, 55, 55, 55, 56, 55, 57, 56, 48, 56, 49, 56, 50, 56, 51, 56, 52, 56, 53, 56, 54, 56, 55, 56, 56, 56, 57, 57, 48, 57, 49, 57, 50, 57, 51, 57, 52, 57, 53, 57, 54, 57, 55, 57, 56, 57, 57]))) (.tmp 130)), none⟩, (0, 8)), (⟨(some 132), (.mov (.tmp 14)), none⟩, (0, 9)), (⟨(some 133), (.idxS (.const (.c (.str [48, 48, 48, 49, 48, 50, 48, 51, 48, 52, 48, 53, 48, 54, 48, 55, 48, 56, 48, 57, 49, 48, 49, 49, 49, 50, 49, 51, 49, 52, 49, 53, 49, 54, 49, 55, 49, 56, 49, 57, 50, 48, 50, 49, 50, 50, 50, 51, 50, 52, 50, 53, 50, 54, 50, 55, 50, 56, 50, 57, 51, 48, 51, 49, 51, 50, 51, 51, 51, 52, 51, 53, 51, 54, 51, 55, 51, 56, 51, 57, 52, 48, 52, 49, 52, 50, 52, 51, 52, 52, 52, 53, 52, 54, 52, 55, 52, 56, 52, 57, 53, 48, 53, 49, 53, 50, 53, 51, 53, 52, 53, 53, 53, 54, 53, 55, 53, 56, 53, 57, 54, 48, 54, 49, 54, 50, 54, 51, 54, 52, 54, 53, 54, 54, 54, 55, 54, 56, 54, 57, 55, 48, 55, 49, 55, 50, 55, 51, 55, 52, 55, 53, 55, 54, 55, 55, 55, 56, 55, 57, 56, 48, 56, 49, 56, 50, 56, 51, 56, 52, 56, 53, 56, 54, 56, 55, 56, 56, 56, 57, 57, 48, 57, 49, 57, 50, 57, 51, 57, 52, 57, 53, 57, 54, 57, 55, 57, 56, 57, 57]))) (.tmp 132)), none⟩, (0, 10)), (⟨(some 134), (.iaddr 1 (.tmp 123) (.tmp 125)), none⟩, (0, 11)), (⟨none, (.store 1 (.tmp 134) (.tmp 131)), none⟩, (2, 12)), (⟨(some 135), (.iaddr 1 (.tmp 126) (.tmp 128)), none⟩, (0, 13)), (⟨none, (.store 1 (.tmp 135) (.tmp 133)), none⟩, (2, 14))]))
 (.region [⟨(some 136), (.mov (.tmp 4)), none⟩, ⟨(some 137), (.bin .sub (.tmp 136) (.const (.c (.val (.int .i64 4))))), none⟩, ⟨(some 4), (.mov (.tmp 137)), none⟩])))))) .skip))
 a90_c1))))⟩
set_option maxRecDepth 100000 in
theorem c90 : compFunc Tryd.prog 90 = some a90 := by kernel_rfl
def internal_strconv_formatBase10_post (za : Bool) (r : (List Int)) : AV → Heap → Nat → Prop := fun v h' n' => v = (.tup []) ∧ (h' = (upd (fun _ => none) 0 (lstB za 1 (r.map (eK .u8))))) ∧ n' = 1
noncomputable def internal_strconv_formatBase10_l0 (K0_ : (List Int) → Int → Int → Option (List Int)) : Nat → (List Int) → Int → Int → Option (List Int)
  | 0, _, _, _ => none
  | k + 1, a_1, u_1, nd =>
    if decide (8 ≤ nd) then
      letIn (wr .u32 ((wr .u32 (((wr .u32 (u_1.tmod 100000000)).tmod 10000).tdiv 100)) * 2)) fun v32 : Int =>
      letIn (wr .u32 ((wr .u32 ((wr .u32 (u_1.tmod 100000000)).tdiv 10000)).tdiv 100)) fun v37 : Int =>
      letIn (wr .u32 (((wr .u32 ((wr .u32 (u_1.tmod 100000000)).tdiv 10000)).tmod 100) * 2)) fun v41 : Int =>
      letIn (wr .u32 ((wr .u32 ((((wr .u32 (u_1.tmod 100000000)).tmod 10000).tmod 100) * 2)) + 1)) fun v49 : Int =>
      (at? ([48, 48, 48, 49, 48, 50, 48, 51, 48, 52, 48, 53, 48, 54, 48, 55, 48, 56, 48, 57, 49, 48, 49, 49, 49, 50, 49, 51, 49, 52, 49, 53, 49, 54, 49, 55, 49, 56, 49, 57, 50, 48, 50, 49, 50, 50, 50, 51, 50, 52, 50, 53, 50, 54, 50, 55, 50, 56, 50, 57, 51, 48, 51, 49, 51, 50, 51, 51, 51, 52, 51, 53, 51, 54, 51, 55, 51, 56, 51, 57, 52, 48, 52, 49, 52, 50, 52, 51, 52, 52, 52, 53, 52, 54, 52, 55, 52, 56, 52, 57, 53, 48, 53, 49, 53, 50, 53, 51, 53, 52, 53, 53, 53, 54, 53, 55, 53, 56, 53, 57, 54, 48, 54, 49, 54, 50, 54, 51, 54, 52, 54, 53, 54, 54, 54, 55, 54, 56, 54, 57, 55, 48, 55, 49, 55, 50, 55, 51, 55, 52, 55, 53, 55, 54, 55, 55, 55, 56, 55, 57, 56, 48, 56, 49, 56, 50, 56, 51, 56, 52, 56, 53, 56, 54, 56, 55, 56, 56, 56, 57, 57, 48, 57, 49, 57, 50, 57, 51, 57, 52, 57, 53, 57, 54, 57, 55, 57, 56, 57, 57] : List UInt8) v49).bind fun c_ =>
      (at? ([48, 48, 48, 49, 48, 50, 48, 51, 48, 52, 48, 53, 48, 54, 48, 55, 48, 56, 48, 57, 49, 48, 49, 49, 49, 50, 49, 51, 49, 52, 49, 53, 49, 54, 49, 55, 49, 56, 49, 57, 50, 48, 50, 49, 50, 50, 50, 51, 50, 52, 50, 53, 50, 54, 50, 55, 50, 56, 50, 57, 51, 48, 51, 49, 51, 50, 51, 51, 51, 52, 51, 53, 51, 54, 51, 55, 51, 56, 51, 57, 52, 48, 52, 49, 52, 50, 52, 51, 52, 52, 52, 53, 52, 54, 52, 55, 52, 56, 52, 57, 53, 48, 53, 49, 53, 50, 53, 51, 53, 52, 53, 53, 53, 54, 53, 55, 53, 56, 53, 57, 54, 48, 54, 49, 54, 50, 54, 51, 54, 52, 54, 53, 54, 54, 54, 55, 54, 56, 54, 57, 55, 48, 55, 49, 55, 50, 55, 51, 55, 52, 55, 53, 55, 54, 55, 55, 55, 56, 55, 57, 56, 48, 56, 49, 56, 50, 56, 51, 56, 52, 56, 53, 56, 54, 56, 55, 56, 56, 56, 57, 57, 48, 57, 49, 57, 50, 57, 51, 57, 52, 57, 53, 57, 54, 57, 55, 57, 56, 57, 57] : List UInt8) (wr .u32 ((((wr .u32 (u_1.tmod 100000000)).tmod 10000).tmod 100) * 2))).bind fun c_1 =>
      (at? a_1 (wi (nd - 1))).bind fun x_ =>
      (at? (a_1.set (wi (nd - 1)).toNat (c_.toNat : Int)) (wi (nd - 2))).bind fun x_1 =>
      (at? ([48, 48, 48, 49, 48, 50, 48, 51, 48, 52, 48, 53, 48, 54, 48, 55, 48, 56, 48, 57, 49, 48, 49, 49, 49, 50, 49, 51, 49, 52, 49, 53, 49, 54, 49, 55, 49, 56, 49, 57, 50, 48, 50, 49, 50, 50, 50, 51, 50, 52, 50, 53, 50, 54, 50, 55, 50, 56, 50, 57, 51, 48, 51, 49, 51, 50, 51, 51, 51, 52, 51, 53, 51, 54, 51, 55, 51, 56, 51, 57, 52, 48, 52, 49, 52, 50, 52, 51, 52, 52, 52, 53, 52, 54, 52, 55, 52, 56, 52, 57, 53, 48, 53, 49, 53, 50, 53, 51, 53, 52, 53, 53, 53, 54, 53, 55, 53, 56, 53, 57, 54, 48, 54, 49, 54, 50, 54, 51, 54, 52, 54, 53, 54, 54, 54, 55, 54, 56, 54, 57, 55, 48, 55, 49, 55, 50, 55, 51, 55, 52, 55, 53, 55, 54, 55, 55, 55, 56, 55, 57, 56, 48, 56, 49, 56, 50, 56, 51, 56, 52, 56, 53, 56, 54, 56, 55, 56, 56, 56, 57, 57, 48, 57, 49, 57, 50, 57, 51, 57, 52, 57, 53, 57, 54, 57, 55, 57, 56, 57, 57] : List UInt8) (wr .u32 (v32 + 1))).bind fun c_2 =>
      (at? ([48, 48, 48, 49, 48, 50, 48, 51, 48, 52, 48, 53, 48, 54, 48, 55, 48, 56, 48, 57, 49, 48, 49, 49, 49, 50, 49, 51, 49, 52, 49, 53, 49, 54, 49, 55, 49, 56, 49, 57, 50, 48, 50, 49, 50, 50, 50, 51, 50, 52, 50, 53, 50, 54, 50, 55, 50, 56, 50, 57, 51, 48, 51, 49, 51, 50, 51, 51, 51, 52, 51, 53, 51, 54, 51, 55, 51, 56, 51, 57, 52, 48, 52, 49, 52, 50, 52, 51, 52, 52, 52, 53, 52, 54, 52, 55, 52, 56, 52, 57, 53, 48, 53, 49, 53, 50, 53, 51, 53, 52, 53, 53, 53, 54, 53, 55, 53, 56, 53, 57, 54, 48, 54, 49, 54, 50, 54, 51, 54, 52, 54, 53, 54, 54, 54, 55, 54, 56, 54, 57, 55, 48, 55, 49, 55, 50, 55, 51, 55, 52, 55, 53, 55, 54, 55, 55, 55, 56, 55, 57, 56, 48, 56, 49, 56, 50, 56, 51, 56, 52, 56, 53, 56, 54, 56, 55, 56, 56, 56, 57, 57, 48, 57, 49, 57, 50, 57, 51, 57, 52, 57, 53, 57, 54, 57, 55, 57, 56, 57, 57] : List UInt8) v32).bind fun c_3 =>
      (at? ((a_1.set (wi (nd - 1)).toNat (c_.toNat : Int)).set (wi (nd - 2)).toNat (c_1.toNat : Int)) (wi (nd - 3))).bind fun x_2 =>
      (at? (((a_1.set (wi (nd - 1)).toNat (c_.toNat : Int)).set (wi (nd - 2)).toNat (c_1.toNat : Int)).set (wi (nd - 3)).toNat (c_2.toNat : Int)) (wi (nd - 4))).bind fun x_3 =>
      (at? ([48, 48, 48, 49, 48, 50, 48, 51, 48, 52, 48, 53, 48, 54, 48, 55, 48, 56, 48, 57, 49, 48, 49, 49, 49, 50, 49, 51, 49, 52, 49, 53, 49, 54, 49, 55, 49, 56, 49, 57, 50, 48, 50, 49, 50, 50, 50, 51, 50, 52, 50, 53, 50, 54, 50, 55, 50, 56, 50, 57, 51, 48, 51, 49, 51, 50, 51, 51, 51, 52, 51, 53, 51, 54, 51, 55, 51, 56, 51, 57, 52, 48, 52, 49, 52, 50, 52, 51, 52, 52, 52, 53, 52, 54, 52, 55, 52, 56, 52, 57, 53, 48, 53, 49, 53, 50, 53, 51, 53, 52, 53, 53, 53, 54, 53, 55, 53, 56, 53, 57, 54, 48, 54, 49, 54, 50, 54, 51, 54, 52, 54, 53, 54, 54, 54, 55, 54, 56, 54, 57, 55, 48, 55, 49, 55, 50, 55, 51, 55, 52, 55, 53, 55, 54, 55, 55, 55, 56, 55, 57, 56, 48, 56, 49, 56, 50, 56, 51, 56, 52, 56, 53, 56, 54, 56, 55, 56, 56, 56, 57, 57, 48, 57, 49, 57, 50, 57, 51, 57, 52, 57, 53, 57, 54, 57, 55, 57, 56, 57, 57] : List UInt8) (wr .u32 (v41 + 1))).bind fun c_4 =>
      (at? ([48, 48, 48, 49, 48, 50, 48, 51, 48, 52, 48, 53, 48, 54, 48, 55, 48, 56, 48, 57, 49, 48, 49, 49, 49, 50, 49, 51, 49, 52, 49, 53, 49, 54, 49, 55, 49, 56, 49, 57, 50, 48, 50, 49, 50, 50, 50, 51, 50, 52, 50, 53, 50, 54, 50, 55, 50, 56, 50, 57, 51, 48, 51, 49, 51, 50, 51, 51, 51, 52, 51, 53, 51, 54, 51, 55, 51, 56, 51, 57, 52, 48, 52, 49, 52, 50, 52, 51, 52, 52, 52, 53, 52, 54, 52, 55, 52, 56, 52, 57, 53, 48, 53, 49, 53, 50, 53, 51, 53, 52, 53, 53, 53, 54, 53, 55, 53, 56, 53, 57, 54, 48, 54, 49, 54, 50, 54, 51, 54, 52, 54, 53, 54, 54, 54, 55, 54, 56, 54, 57, 55, 48, 55, 49, 55, 50, 55, 51, 55, 52, 55, 53, 55, 54, 55, 55, 55, 56, 55, 57, 56, 48, 56, 49, 56, 50, 56, 51, 56, 52, 56, 53, 56, 54, 56, 55, 56, 56, 56, 57, 57, 48, 57, 49, 57, 50, 57, 51, 57, 52, 57, 53, 57, 54, 57, 55, 57, 56, 57, 57] : List UInt8) v41).bind fun c_5 =>
      (at? ((((a_1.set (wi (nd - 1)).toNat (c_.toNat : Int)).set (wi (nd - 2)).toNat (c_1.toNat : Int)).set (wi (nd - 3)).toNat (c_2.toNat : Int)).set (wi (nd - 4)).toNat (c_3.toNat : Int)) (wi (nd - 5))).bind fun x_4 =>
      (at? (((((a_1.set (wi (nd - 1)).toNat (c_.toNat : Int)).set (wi (nd - 2)).toNat (c_1.toNat : Int)).set (wi (nd - 3)).toNat (c_2.toNat : Int)).set (wi (nd - 4)).toNat (c_3.toNat : Int)).set (wi (nd - 5)).toNat (c_4.toNat : Int)) (wi (nd - 6))).bind fun x_5 =>
      (at? ([48, 48, 48, 49, 48, 50, 48, 51, 48, 52, 48, 53, 48, 54, 48, 55, 48, 56, 48, 57, 49, 48, 49, 49, 49, 50, 49, 51, 49, 52, 49, 53, 49, 54, 49, 55, 49, 56, 49, 57, 50, 48, 50, 49, 50, 50, 50, 51, 50, 52, 50, 53, 50, 54, 50, 55, 50, 56, 50, 57, 51, 48, 51, 49, 51, 50, 51, 51, 51, 52, 51, 53, 51, 54, 51, 55, 51, 56, 51, 57, 52, 48, 52, 49, 52, 50, 52, 51, 52, 52, 52, 53, 52, 54, 52, 55, 52, 56, 52, 57, 53, 48, 53, 49, 53, 50, 53, 51, 53, 52, 53, 53, 53, 54, 53, 55, 53, 56, 53, 57, 54, 48, 54, 49, 54, 50, 54, 51, 54, 52, 54, 53, 54, 54, 54, 55, 54, 56, 54, 57, 55, 48, 55, 49, 55, 50, 55, 51, 55, 52, 55, 53, 55, 54, 55, 55, 55, 56, 55, 57, 56, 48, 56, 49, 56, 50, 56, 51, 56, 52, 56, 53, 56, 54, 56, 55, 56, 56, 56, 57, 57, 48, 57, 49, 57, 50, 57, 51, 57, 52, 57, 53, 57, 54, 57, 55, 57, 56, 57, 57] : List UInt8) (wr .u32 ((wr .u32 (v37 * 2)) + 1))).bind fun c_6 =>
      (at? ([48, 48, 48, 49, 48, 50, 48, 51, 48, 52, 48, 53, 48, 54, 48, 55, 48, 56, 48, 57, 49, 48, 49, 49, 49, 50, 49, 51, 49, 52, 49, 53, 49, 54, 49, 55, 49, 56, 49, 57, 50, 48, 50, 49, 50, 50, 50, 51, 50, 52, 50, 53, 50, 54, 50, 55, 50, 56, 50, 57, 51, 48, 51, 49, 51, 50, 51, 51, 51, 52, 51, 53, 51, 54, 51, 55, 51, 56, 51, 57, 52, 48, 52, 49, 52, 50, 52, 51, 52, 52, 52, 53, 52, 54, 52, 55, 52, 56, 52, 57, 53, 48, 53, 49, 53, 50, 53, 51, 53, 52, 53, 53, 53, 54, 53, 55, 53, 56, 53, 57, 54, 48, 54, 49, 54, 50, 54, 51, 54, 52, 54, 53, 54, 54, 54, 55, 54, 56, 54, 57, 55, 48, 55, 49, 55, 50, 55, 51, 55, 52, 55, 53, 55, 54, 55, 55, 55, 56, 55, 57, 56, 48, 56, 49, 56, 50, 56, 51, 56, 52, 56, 53, 56, 54, 56, 55, 56, 56, 56, 57, 57, 48, 57, 49, 57, 50, 57, 51, 57, 52, 57, 53, 57, 54, 57, 55, 57, 56, 57, 57] : List UInt8) (wr .u32 (v37 * 2))).bind fun c_7 =>
      (at? ((((((a_1.set (wi (nd - 1)).toNat (c_.toNat : Int)).set (wi (nd - 2)).toNat (c_1.toNat : Int)).set (wi (nd - 3)).toNat (c_2.toNat : Int)).set (wi (nd - 4)).toNat (c_3.toNat : Int)).set (wi (nd - 5)).toNat (c_4.toNat : Int)).set (wi (nd - 6)).toNat (c_5.toNat : Int)) (wi (nd - 7))).bind fun x_6 =>
      (at? (((((((a_1.set (wi (nd - 1)).toNat (c_.toNat : Int)).set (wi (nd - 2)).toNat (c_1.toNat : Int)).set (wi (nd - 3)).toNat (c_2.toNat : Int)).set (wi (nd - 4)).toNat (c_3.toNat : Int)).set (wi (nd - 5)).toNat (c_4.toNat : Int)).set (wi (nd - 6)).toNat (c_5.toNat : Int)).set (wi (nd - 7)).toNat (c_6.toNat : Int)) (wi (nd - 8))).bind fun x_7 =>
      (internal_strconv_formatBase10_l0 K0_ k) ((((((((a_1.set (wi (nd - 1)).toNat (c_.toNat : Int)).set (wi (nd - 2)).toNat (c_1.toNat : Int)).set (wi (nd - 3)).toNat (c_2.toNat : Int)).set (wi (nd - 4)).toNat (c_3.toNat : Int)).set (wi (nd - 5)).toNat (c_4.toNat : Int)).set (wi (nd - 6)).toNat (c_5.toNat : Int)).set (wi (nd - 7)).toNat (c_6.toNat : Int)).set (wi (nd - 8)).toNat (c_7.toNat : Int)) (wr .u64 (u_1.tdiv 100000000)) (wi (nd - 8))
    else
      K0_ a_1 u_1 nd
theorem internal_strconv_formatBase10_l0_ok {mL : Int} {Q : AExit → St → Prop} {za : Bool} {K0_ : (List Int) → Int → Int → Option (List Int)} {k : Nat} {a_1 : (List Int)} {u_1 : Int} {nd : Int} (hza1 : za = true → a_1 = []) {o : (List Int)} (h : internal_strconv_formatBase10_l0 K0_ k a_1 u_1 nd = some o)
    (hK0 : ∀ (a_2 : (List Int)) (u_2 : Int) (nd1 : Int) (_ : za = true → a_2 = []), K0_ a_2 u_2 nd1 = some o → ∀ s, Weak 1 s ⟨(upd (upd (upd (fun _ => none) 0 (some (lstV za 0 1 a_2.length))) 1 (some (.c (.val (.int .u64 u_2))))) 4 (some (I nd1))), (upd (fun _ => none) 0 (lstB za 1 (a_2.map (eK .u8)))), 1⟩ → Q (.exit 0) s)
    (hr : ∀ s, Ends a90.results 1 (internal_strconv_formatBase10_post za o) .ret s → Q .ret s) :
    Sv Tryd.prog (GG mL) 1 (.loop a90_c0) Q ⟨(upd (upd (upd (fun _ => none) 0 (some (lstV za 0 1 a_1.length))) 1 (some (.c (.val (.int .u64 u_1))))) 4 (some (I nd))), (upd (fun _ => none) 0 (lstB za 1 (a_1.map (eK .u8)))), 1⟩ := by
  refine Sv.loop (I := fun k s => ∃ (a_1 : (List Int)), ∃ (u_1 : Int), ∃ (nd : Int), (za = true → a_1 = []) ∧ internal_strconv_formatBase10_l0 K0_ k a_1 u_1 nd = some o ∧ s = ⟨(upd (upd (upd (fun _ => none) 0 (some (lstV za 0 1 a_1.length))) 1 (some (.c (.val (.int .u64 u_1))))) 4 (some (I nd))), (upd (fun _ => none) 0 (lstB za 1 (a_1.map (eK .u8)))), 1⟩) (fun k s hI => ?_) ⟨a_1, u_1, nd, hza1, h, rfl⟩
  clear h
  clear hza1 nd u_1 a_1
  obtain ⟨a_1, u_1, nd, hza1, h, rfl⟩ := hI
  cases k with
  | zero => cases h
  | succ k =>
  rw [internal_strconv_formatBase10_l0] at h
  have hself : ∀ (a_1 : (List Int)) (u_1 : Int) (nd : Int) (_ : za = true → a_1 = []), (internal_strconv_formatBase10_l0 K0_ k) a_1 u_1 nd = some o → ∀ s, Weak 1 s ⟨(upd (upd (upd (fun _ => none) 0 (some (lstV za 0 1 a_1.length))) 1 (some (.c (.val (.int .u64 u_1))))) 4 (some (I nd))), (upd (fun _ => none) 0 (lstB za 1 (a_1.map (eK .u8)))), 1⟩ → (AThen (fun s' => ∃ s'' k', Weak 1 s' s'' ∧ k' < k + 1 ∧ (fun k s => ∃ (a_1 : (List Int)), ∃ (u_1 : Int), ∃ (nd : Int), (za = true → a_1 = []) ∧ internal_strconv_formatBase10_l0 K0_ k a_1 u_1 nd = some o ∧ s = ⟨(upd (upd (upd (fun _ => none) 0 (some (lstV za 0 1 a_1.length))) 1 (some (.c (.val (.int .u64 u_1))))) 4 (some (I nd))), (upd (fun _ => none) 0 (lstB za 1 (a_1.map (eK .u8)))), 1⟩) k' s'') Q) .normal s := fun a_1 u_1 nd hza1 h s hw => ⟨_, k, hw, Nat.lt_succ_self k, a_1, u_1, nd, hza1, h, rfl⟩
  refine Sv.seq ?_
  refine Sv.seq ?_
  refine Sv.region ?_
  refine un (a1 rfl ?_)
  refine un (a1 (v := (B (decide (8 ≤ nd)))) rfl ?_)
  refine dnil ?_
  refine Sv.cond (b := decide (8 ≤ nd)) rfl (fun hc1 => ?_) (fun hc1 => ?_)
  · replace h := ifT hc1 h
    refine Sv.skip ?_
    refine Sv.block ?_
    refine Sv.seq ?_
    refine Sv.region ?_
    refine un (a1 rfl ?_)
    refine un (a1 (v := (.c (.val (.int .u64 (u_1.tmod 100000000))))) rfl ?_)
    refine un (a1 (v := (.c (.val (.int .u32 (wr .u32 (u_1.tmod 100000000)))))) rfl ?_)
    refine un (a1 rfl ?_)
    refine dnil ?_
    refine Sv.seq ?_
    refine Sv.region ?_
    refine un (a1 rfl ?_)
    refine un (a1 (v := (.c (.val (.int .u64 (wr .u64 (u_1.tdiv 100000000)))))) rfl ?_)
    refine un (a1 rfl ?_)
    refine dnil ?_
    refine Sv.seq ?_
    refine Sv.region ?_
    refine un (a1 rfl ?_)
    refine un (a1 (v := (.c (.val (.int .u32 (wr .u32 ((wr .u32 (u_1.tmod 100000000)).tdiv 10000)))))) rfl ?_)
    refine un (a1 rfl ?_)
    refine un (a1 (v := (.c (.val (.int .u32 ((wr .u32 (u_1.tmod 100000000)).tmod 10000))))) rfl ?_)
    refine un (a1 rfl ?_)
    refine un (a1 rfl ?_)
    refine dnil ?_
    refine Sv.seq ?_
    refine Sv.region ?_
    refine un (a1 rfl ?_)
    refine un (a1 (v := (.c (.val (.int .u32 (wr .u32 (((wr .u32 (u_1.tmod 100000000)).tmod 10000).tdiv 100)))))) rfl ?_)
    obtain ⟨v32, hv32⟩ : ∃ v32 : Int, v32 = (wr .u32 ((wr .u32 (((wr .u32 (u_1.tmod 100000000)).tmod 10000).tdiv 100)) * 2)) := ⟨_, rfl⟩
    replace h := letAt hv32 h
    refine un (a1 (v := (.c (.val (.int .u32 v32)))) (by rw [hv32]; rfl) ?_)
    clear hv32
    refine un (a1 rfl ?_)
    refine un (a1 (v := (.c (.val (.int .u32 (((wr .u32 (u_1.tmod 100000000)).tmod 10000).tmod 100))))) rfl ?_)
    refine un (a1 (v := (.c (.val (.int .u32 (wr .u32 ((((wr .u32 (u_1.tmod 100000000)).tmod 10000).tmod 100) * 2)))))) rfl ?_)
    refine un (a1 rfl ?_)
    refine un (a1 rfl ?_)
    refine dnil ?_
    refine Sv.seq ?_
    refine Sv.region ?_
    refine un (a1 rfl ?_)
    obtain ⟨v37, hv37⟩ : ∃ v37 : Int, v37 = (wr .u32 ((wr .u32 ((wr .u32 (u_1.tmod 100000000)).tdiv 10000)).tdiv 100)) := ⟨_, rfl⟩
    replace h := letAt hv37 h
    refine un (a1 (v := (.c (.val (.int .u32 v37)))) (by rw [hv37]; rfl) ?_)
    clear hv37
    refine un (a1 (v := (.c (.val (.int .u32 (wr .u32 (v37 * 2)))))) rfl ?_)
    refine un (a1 rfl ?_)
    refine un (a1 (v := (.c (.val (.int .u32 ((wr .u32 ((wr .u32 (u_1.tmod 100000000)).tdiv 10000)).tmod 100))))) rfl ?_)
    obtain ⟨v41, hv41⟩ : ∃ v41 : Int, v41 = (wr .u32 (((wr .u32 ((wr .u32 (u_1.tmod 100000000)).tdiv 10000)).tmod 100) * 2)) := ⟨_, rfl⟩
    replace h := letAt hv41 h
    refine un (a1 (v := (.c (.val (.int .u32 v41)))) (by rw [hv41]; rfl) ?_)
    clear hv41
    refine un (a1 rfl ?_)
    refine un (a1 rfl ?_)
    refine dnil ?_
    refine Sv.seq ?_
    refine Sv.drawn ?_
    refine un (a1 rfl ?_)
    refine un (a1 rfl ?_)
    refine un (a1 (v := (I (wi (nd - 1)))) rfl ?_)
    refine un (a1 rfl ?_)
    refine un (a1 rfl ?_)
    refine un (a1 (v := (I (wi (nd - 2)))) rfl ?_)
    refine un (a1 rfl ?_)
    obtain ⟨v49, hv49⟩ : ∃ v49 : Int, v49 = (wr .u32 ((wr .u32 ((((wr .u32 (u_1.tmod 100000000)).tmod 10000).tmod 100) * 2)) + 1)) := ⟨_, rfl⟩
    replace h := letAt hv49 h
    refine un (a1 (v := (.c (.val (.int .u32 v49)))) (by rw [hv49]; rfl) ?_)
    clear hv49
    obtain ⟨c_, hx1, h⟩ := bnd h
    refine un (a1 (v := (.c (.val (.int .u8 (c_.toNat : Int))))) (s_idxS rfl rfl hx1) ?_)
    refine un (a1 rfl ?_)
    obtain ⟨c_1, hx2, h⟩ := bnd h
    refine un (a1 (v := (.c (.val (.int .u8 (c_1.toNat : Int))))) (s_idxS rfl rfl hx2) ?_)
    obtain ⟨x_, hx3, h⟩ := bnd h
    refine un (a1 (v := (.c (.ref 0 1 (wi (nd - 1)).toNat 0))) (s_iaddrL rfl rfl hza1 hx3) ?_)
    refine un (a2n (h' := upd _ 0 (lstB za 1 ((a_1.set (wi (nd - 1)).toNat (c_.toNat : Int)).map (eK .u8)))) (n' := 1) rfl (s_storeL (e := (eK .u8)) (q' := (c_.toNat : Int)) rfl rfl hza1 hx3 rfl rfl rfl (Nat.le_of_ble_eq_true rfl) rfl) (fun h => by cases h) ?_)
    try rw [len_set a_1 (wi (nd - 1)).toNat (c_.toNat : Int)]
    obtain ⟨x_1, hx4, h⟩ := bnd h
    refine un (a1 (v := (.c (.ref 0 1 (wi (nd - 2)).toNat 0))) (s_iaddrL rfl rfl (hz_len hza1 (len_set a_1 (wi (nd - 1)).toNat (c_.toNat : Int))) hx4) ?_)
    refine un (a2n (h' := upd _ 0 (lstB za 1 (((a_1.set (wi (nd - 1)).toNat (c_.toNat : Int)).set (wi (nd - 2)).toNat (c_1.toNat : Int)).map (eK .u8)))) (n' := 1) rfl (s_storeL (e := (eK .u8)) (q' := (c_1.toNat : Int)) rfl rfl (hz_len hza1 (len_set a_1 (wi (nd - 1)).toNat (c_.toNat : Int))) hx4 rfl rfl rfl (Nat.le_of_ble_eq_true rfl) rfl) (fun h => by cases h) ?_)
    try rw [len_set (a_1.set (wi (nd - 1)).toNat (c_.toNat : Int)) (wi (nd - 2)).toNat (c_1.toNat : Int)]
    refine dnil ?_
    refine Sv.seq ?_
    refine Sv.drawn ?_
    refine un (a1 rfl ?_)
    refine un (a1 rfl ?_)
    refine un (a1 (v := (I (wi (nd - 3)))) rfl ?_)
    refine un (a1 rfl ?_)
    refine un (a1 rfl ?_)
    refine un (a1 (v := (I (wi (nd - 4)))) rfl ?_)
    refine un (a1 rfl ?_)
    refine un (a1 (v := (.c (.val (.int .u32 (wr .u32 (v32 + 1)))))) rfl ?_)
    obtain ⟨c_2, hx5, h⟩ := bnd h
    refine un (a1 (v := (.c (.val (.int .u8 (c_2.toNat : Int))))) (s_idxS rfl rfl hx5) ?_)
    refine un (a1 rfl ?_)
    obtain ⟨c_3, hx6, h⟩ := bnd h
    refine un (a1 (v := (.c (.val (.int .u8 (c_3.toNat : Int))))) (s_idxS rfl rfl hx6) ?_)
    obtain ⟨x_2, hx7, h⟩ := bnd h
    refine un (a1 (v := (.c (.ref 0 1 (wi (nd - 3)).toNat 0))) (s_iaddrL rfl rfl (hz_len (hz_len hza1 (len_set a_1 (wi (nd - 1)).toNat (c_.toNat : Int))) (len_set (a_1.set (wi (nd - 1)).toNat (c_.toNat : Int)) (wi (nd - 2)).toNat (c_1.toNat : Int))) hx7) ?_)
    refine un (a2n (h' := upd _ 0 (lstB za 1 ((((a_1.set (wi (nd - 1)).toNat (c_.toNat : Int)).set (wi (nd - 2)).toNat (c_1.toNat : Int)).set (wi (nd - 3)).toNat (c_2.toNat : Int)).map (eK .u8)))) (n' := 1) rfl (s_storeL (e := (eK .u8)) (q' := (c_2.toNat : Int)) rfl rfl (hz_len (hz_len hza1 (len_set a_1 (wi (nd - 1)).toNat (c_.toNat : Int))) (len_set (a_1.set (wi (nd - 1)).toNat (c_.toNat : Int)) (wi (nd - 2)).toNat (c_1.toNat : Int))) hx7 rfl rfl rfl (Nat.le_of_ble_eq_true rfl) rfl) (fun h => by cases h) ?_)
    try rw [len_set ((a_1.set (wi (nd - 1)).toNat (c_.toNat : Int)).set (wi (nd - 2)).toNat (c_1.toNat : Int)) (wi (nd - 3)).toNat (c_2.toNat : Int)]
    obtain ⟨x_3, hx8, h⟩ := bnd h
    refine un (a1 (v := (.c (.ref 0 1 (wi (nd - 4)).toNat 0))) (s_iaddrL rfl rfl (hz_len (hz_len (hz_len hza1 (len_set a_1 (wi (nd - 1)).toNat (c_.toNat : Int))) (len_set (a_1.set (wi (nd - 1)).toNat (c_.toNat : Int)) (wi (nd - 2)).toNat (c_1.toNat : Int))) (len_set ((a_1.set (wi (nd - 1)).toNat (c_.toNat : Int)).set (wi (nd - 2)).toNat (c_1.toNat : Int)) (wi (nd - 3)).toNat (c_2.toNat : Int))) hx8) ?_)
    refine un (a2n (h' := upd _ 0 (lstB za 1 (((((a_1.set (wi (nd - 1)).toNat (c_.toNat : Int)).set (wi (nd - 2)).toNat (c_1.toNat : Int)).set (wi (nd - 3)).toNat (c_2.toNat : Int)).set (wi (nd - 4)).toNat (c_3.toNat : Int)).map (eK .u8)))) (n' := 1) rfl (s_storeL (e := (eK .u8)) (q' := (c_3.toNat : Int)) rfl rfl (hz_len (hz_len (hz_len hza1 (len_set a_1 (wi (nd - 1)).toNat (c_.toNat : Int))) (len_set (a_1.set (wi (nd - 1)).toNat (c_.toNat : Int)) (wi (nd - 2)).toNat (c_1.toNat : Int))) (len_set ((a_1.set (wi (nd - 1)).toNat (c_.toNat : Int)).set (wi (nd - 2)).toNat (c_1.toNat : Int)) (wi (nd - 3)).toNat (c_2.toNat : Int))) hx8 rfl rfl rfl (Nat.le_of_ble_eq_true rfl) rfl) (fun h => by cases h) ?_)
    try rw [len_set (((a_1.set (wi (nd - 1)).toNat (c_.toNat : Int)).set (wi (nd - 2)).toNat (c_1.toNat : Int)).set (wi (nd - 3)).toNat (c_2.toNat : Int)) (wi (nd - 4)).toNat (c_3.toNat : Int)]
    refine dnil ?_
    refine Sv.seq ?_
    refine Sv.drawn ?_
    refine un (a1 rfl ?_)
    refine un (a1 rfl ?_)
    refine un (a1 (v := (I (wi (nd - 5)))) rfl ?_)
    refine un (a1 rfl ?_)
    refine un (a1 rfl ?_)
    refine un (a1 (v := (I (wi (nd - 6)))) rfl ?_)
    refine un (a1 rfl ?_)
    refine un (a1 (v := (.c (.val (.int .u32 (wr .u32 (v41 + 1)))))) rfl ?_)
    obtain ⟨c_4, hx9, h⟩ := bnd h
    refine un (a1 (v := (.c (.val (.int .u8 (c_4.toNat : Int))))) (s_idxS rfl rfl hx9) ?_)
    refine un (a1 rfl ?_)
    obtain ⟨c_5, hx10, h⟩ := bnd h
    refine un (a1 (v := (.c (.val (.int .u8 (c_5.toNat : Int))))) (s_idxS rfl rfl hx10) ?_)
    obtain ⟨x_4, hx11, h⟩ := bnd h
    refine un (a1 (v := (.c (.ref 0 1 (wi (nd - 5)).toNat 0))) (s_iaddrL rfl rfl (hz_len (hz_len (hz_len (hz_len hza1 (len_set a_1 (wi (nd - 1)).toNat (c_.toNat : Int))) (len_set (a_1.set (wi (nd - 1)).toNat (c_.toNat : Int)) (wi (nd - 2)).toNat (c_1.toNat : Int))) (len_set ((a_1.set (wi (nd - 1)).toNat (c_.toNat : Int)).set (wi (nd - 2)).toNat (c_1.toNat : Int)) (wi (nd - 3)).toNat (c_2.toNat : Int))) (len_set (((a_1.set (wi (nd - 1)).toNat (c_.toNat : Int)).set (wi (nd - 2)).toNat (c_1.toNat : Int)).set (wi (nd - 3)).toNat (c_2.toNat : Int)) (wi (nd - 4)).toNat (c_3.toNat : Int))) hx11) ?_)
    refine un (a2n (h' := upd _ 0 (lstB za 1 ((((((a_1.set (wi (nd - 1)).toNat (c_.toNat : Int)).set (wi (nd - 2)).toNat (c_1.toNat : Int)).set (wi (nd - 3)).toNat (c_2.toNat : Int)).set (wi (nd - 4)).toNat (c_3.toNat : Int)).set (wi (nd - 5)).toNat (c_4.toNat : Int)).map (eK .u8)))) (n' := 1) rfl (s_storeL (e := (eK .u8)) (q' := (c_4.toNat : Int)) rfl rfl (hz_len (hz_len (hz_len (hz_len hza1 (len_set a_1 (wi (nd - 1)).toNat (c_.toNat : Int))) (len_set (a_1.set (wi (nd - 1)).toNat (c_.toNat : Int)) (wi (nd - 2)).toNat (c_1.toNat : Int))) (len_set ((a_1.set (wi (nd - 1)).toNat (c_.toNat : Int)).set (wi (nd - 2)).toNat (c_1.toNat : Int)) (wi (nd - 3)).toNat (c_2.toNat : Int))) (len_set (((a_1.set (wi (nd - 1)).toNat (c_.toNat : Int)).set (wi (nd - 2)).toNat (c_1.toNat : Int)).set (wi (nd - 3)).toNat (c_2.toNat : Int)) (wi (nd - 4)).toNat (c_3.toNat : Int))) hx11 rfl rfl rfl (Nat.le_of_ble_eq_true rfl) rfl) (fun h => by cases h) ?_)
    try rw [len_set ((((a_1.set (wi (nd - 1)).toNat (c_.toNat : Int)).set (wi (nd - 2)).toNat (c_1.toNat : Int)).set (wi (nd - 3)).toNat (c_2.toNat : Int)).set (wi (nd - 4)).toNat (c_3.toNat : Int)) (wi (nd - 5)).toNat (c_4.toNat : Int)]
    obtain ⟨x_5, hx12, h⟩ := bnd h
    refine un (a1 (v := (.c (.ref 0 1 (wi (nd - 6)).toNat 0))) (s_iaddrL rfl rfl (hz_len (hz_len (hz_len (hz_len (hz_len hza1 (len_set a_1 (wi (nd - 1)).toNat (c_.toNat : Int))) (len_set (a_1.set (wi (nd - 1)).toNat (c_.toNat : Int)) (wi (nd - 2)).toNat (c_1.toNat : Int))) (len_set ((a_1.set (wi (nd - 1)).toNat (c_.toNat : Int)).set (wi (nd - 2)).toNat (c_1.toNat : Int)) (wi (nd - 3)).toNat (c_2.toNat : Int))) (len_set (((a_1.set (wi (nd - 1)).toNat (c_.toNat : Int)).set (wi (nd - 2)).toNat (c_1.toNat : Int)).set (wi (nd - 3)).toNat (c_2.toNat : Int)) (wi (nd - 4)).toNat (c_3.toNat : Int))) (len_set ((((a_1.set (wi (nd - 1)).toNat (c_.toNat : Int)).set (wi (nd - 2)).toNat (c_1.toNat : Int)).set (wi (nd - 3)).toNat (c_2.toNat : Int)).set (wi (nd - 4)).toNat (c_3.toNat : Int)) (wi (nd - 5)).toNat (c_4.toNat : Int))) hx12) ?_)
    refine un (a2n (h' := upd _ 0 (lstB za 1 (((((((a_1.set (wi (nd - 1)).toNat (c_.toNat : Int)).set (wi (nd - 2)).toNat (c_1.toNat : Int)).set (wi (nd - 3)).toNat (c_2.toNat : Int)).set (wi (nd - 4)).toNat (c_3.toNat : Int)).set (wi (nd - 5)).toNat (c_4.toNat : Int)).set (wi (nd - 6)).toNat (c_5.toNat : Int)).map (eK .u8)))) (n' := 1) rfl (s_storeL (e := (eK .u8)) (q' := (c_5.toNat : Int)) rfl rfl (hz_len (hz_len (hz_len (hz_len (hz_len hza1 (len_set a_1 (wi (nd - 1)).toNat (c_.toNat : Int))) (len_set (a_1.set (wi (nd - 1)).toNat (c_.toNat : Int)) (wi (nd - 2)).toNat (c_1.toNat : Int))) (len_set ((a_1.set (wi (nd - 1)).toNat (c_.toNat : Int)).set (wi (nd - 2)).toNat (c_1.toNat : Int)) (wi (nd - 3)).toNat (c_2.toNat : Int))) (len_set (((a_1.set (wi (nd - 1)).toNat (c_.toNat : Int)).set (wi (nd - 2)).toNat (c_1.toNat : Int)).set (wi (nd - 3)).toNat (c_2.toNat : Int)) (wi (nd - 4)).toNat (c_3.toNat : Int))) (len_set ((((a_1.set (wi (nd - 1)).toNat (c_.toNat : Int)).set (wi (nd - 2)).toNat (c_1.toNat : Int)).set (wi (nd - 3)).toNat (c_2.toNat : Int)).set (wi (nd - 4)).toNat (c_3.toNat : Int)) (wi (nd - 5)).toNat (c_4.toNat : Int))) hx12 rfl rfl rfl (Nat.le_of_ble_eq_true rfl) rfl) (fun h => by cases h) ?_)
    try rw [len_set (((((a_1.set (wi (nd - 1)).toNat (c_.toNat : Int)).set (wi (nd - 2)).toNat (c_1.toNat : Int)).set (wi (nd - 3)).toNat (c_2.toNat : Int)).set (wi (nd - 4)).toNat (c_3.toNat : Int)).set (wi (nd - 5)).toNat (c_4.toNat : Int)) (wi (nd - 6)).toNat (c_5.toNat : Int)]
    refine dnil ?_
    refine Sv.seq ?_
    refine Sv.drawn ?_
    refine un (a1 rfl ?_)
    refine un (a1 rfl ?_)
    refine un (a1 (v := (I (wi (nd - 7)))) rfl ?_)
    refine un (a1 rfl ?_)
    refine un (a1 rfl ?_)
    refine un (a1 (v := (I (wi (nd - 8)))) rfl ?_)
    refine un (a1 rfl ?_)
    refine un (a1 (v := (.c (.val (.int .u32 (wr .u32 ((wr .u32 (v37 * 2)) + 1)))))) rfl ?_)
    obtain ⟨c_6, hx13, h⟩ := bnd h
    refine un (a1 (v := (.c (.val (.int .u8 (c_6.toNat : Int))))) (s_idxS rfl rfl hx13) ?_)
    refine un (a1 rfl ?_)
    obtain ⟨c_7, hx14, h⟩ := bnd h
    refine un (a1 (v := (.c (.val (.int .u8 (c_7.toNat : Int))))) (s_idxS rfl rfl hx14) ?_)
    obtain ⟨x_6, hx15, h⟩ := bnd h
    refine un (a1 (v := (.c (.ref 0 1 (wi (nd - 7)).toNat 0))) (s_iaddrL rfl rfl (hz_len (hz_len (hz_len (hz_len (hz_len (hz_len hza1 (len_set a_1 (wi (nd - 1)).toNat (c_.toNat : Int))) (len_set (a_1.set (wi (nd - 1)).toNat (c_.toNat : Int)) (wi (nd - 2)).toNat (c_1.toNat : Int))) (len_set ((a_1.set (wi (nd - 1)).toNat (c_.toNat : Int)).set (wi (nd - 2)).toNat (c_1.toNat : Int)) (wi (nd - 3)).toNat (c_2.toNat : Int))) (len_set (((a_1.set (wi (nd - 1)).toNat (c_.toNat : Int)).set (wi (nd - 2)).toNat (c_1.toNat : Int)).set (wi (nd - 3)).toNat (c_2.toNat : Int)) (wi (nd - 4)).toNat (c_3.toNat : Int))) (len_set ((((a_1.set (wi (nd - 1)).toNat (c_.toNat : Int)).set (wi (nd - 2)).toNat (c_1.toNat : Int)).set (wi (nd - 3)).toNat (c_2.toNat : Int)).set (wi (nd - 4)).toNat (c_3.toNat : Int)) (wi (nd - 5)).toNat (c_4.toNat : Int))) (len_set (((((a_1.set (wi (nd - 1)).toNat (c_.toNat : Int)).set (wi (nd - 2)).toNat (c_1.toNat : Int)).set (wi (nd - 3)).toNat (c_2.toNat : Int)).set (wi (nd - 4)).toNat (c_3.toNat : Int)).set (wi (nd - 5)).toNat (c_4.toNat : Int)) (wi (nd - 6)).toNat (c_5.toNat : Int))) hx15) ?_)
    refine un (a2n (h' := upd _ 0 (lstB za 1 ((((((((a_1.set (wi (nd - 1)).toNat (c_.toNat : Int)).set (wi (nd - 2)).toNat (c_1.toNat : Int)).set (wi (nd - 3)).toNat (c_2.toNat : Int)).set (wi (nd - 4)).toNat (c_3.toNat : Int)).set (wi (nd - 5)).toNat (c_4.toNat : Int)).set (wi (nd - 6)).toNat (c_5.toNat : Int)).set (wi (nd - 7)).toNat (c_6.toNat : Int)).map (eK .u8)))) (n' := 1) rfl (s_storeL (e := (eK .u8)) (q' := (c_6.toNat : Int)) rfl rfl (hz_len (hz_len (hz_len (hz_len (hz_len (hz_len hza1 (len_set a_1 (wi (nd - 1)).toNat (c_.toNat : Int))) (len_set (a_1.set (wi (nd - 1)).toNat (c_.toNat : Int)) (wi (nd - 2)).toNat (c_1.toNat : Int))) (len_set ((a_1.set (wi (nd - 1)).toNat (c_.toNat : Int)).set (wi (nd - 2)).toNat (c_1.toNat : Int)) (wi (nd - 3)).toNat (c_2.toNat : Int))) (len_set (((a_1.set (wi (nd - 1)).toNat (c_.toNat : Int)).set (wi (nd - 2)).toNat (c_1.toNat : Int)).set (wi (nd - 3)).toNat (c_2.toNat : Int)) (wi (nd - 4)).toNat (c_3.toNat : Int))) (len_set ((((a_1.set (wi (nd - 1)).toNat (c_.toNat : Int)).set (wi (nd - 2)).toNat (c_1.toNat : Int)).set (wi (nd - 3)).toNat (c_2.toNat : Int)).set (wi (nd - 4)).toNat (c_3.toNat : Int)) (wi (nd - 5)).toNat (c_4.toNat : Int))) (len_set (((((a_1.set (wi (nd - 1)).toNat (c_.toNat : Int)).set (wi (nd - 2)).toNat (c_1.toNat : Int)).set (wi (nd - 3)).toNat (c_2.toNat : Int)).set (wi (nd - 4)).toNat (c_3.toNat : Int)).set (wi (nd - 5)).toNat (c_4.toNat : Int)) (wi (nd - 6)).toNat (c_5.toNat : Int))) hx15 rfl rfl rfl (Nat.le_of_ble_eq_true rfl) rfl) (fun h => by cases h) ?_)
    try rw [len_set ((((((a_1.set (wi (nd - 1)).toNat (c_.toNat : Int)).set (wi (nd - 2)).toNat (c_1.toNat : Int)).set (wi (nd - 3)).toNat (c_2.toNat : Int)).set (wi (nd - 4)).toNat (c_3.toNat : Int)).set (wi (nd - 5)).toNat (c_4.toNat : Int)).set (wi (nd - 6)).toNat (c_5.toNat : Int)) (wi (nd - 7)).toNat (c_6.toNat : Int)]
    obtain ⟨x_7, hx16, h⟩ := bnd h
    refine un (a1 (v := (.c (.ref 0 1 (wi (nd - 8)).toNat 0))) (s_iaddrL rfl rfl (hz_len (hz_len (hz_len (hz_len (hz_len (hz_len (hz_len hza1 (len_set a_1 (wi (nd - 1)).toNat (c_.toNat : Int))) (len_set (a_1.set (wi (nd - 1)).toNat (c_.toNat : Int)) (wi (nd - 2)).toNat (c_1.toNat : Int))) (len_set ((a_1.set (wi (nd - 1)).toNat (c_.toNat : Int)).set (wi (nd - 2)).toNat (c_1.toNat : Int)) (wi (nd - 3)).toNat (c_2.toNat : Int))) (len_set (((a_1.set (wi (nd - 1)).toNat (c_.toNat : Int)).set (wi (nd - 2)).toNat (c_1.toNat : Int)).set (wi (nd - 3)).toNat (c_2.toNat : Int)) (wi (nd - 4)).toNat (c_3.toNat : Int))) (len_set ((((a_1.set (wi (nd - 1)).toNat (c_.toNat : Int)).set (wi (nd - 2)).toNat (c_1.toNat : Int)).set (wi (nd - 3)).toNat (c_2.toNat : Int)).set (wi (nd - 4)).toNat (c_3.toNat : Int)) (wi (nd - 5)).toNat (c_4.toNat : Int))) (len_set (((((a_1.set (wi (nd - 1)).toNat (c_.toNat : Int)).set (wi (nd - 2)).toNat (c_1.toNat : Int)).set (wi (nd - 3)).toNat (c_2.toNat : Int)).set (wi (nd - 4)).toNat (c_3.toNat : Int)).set (wi (nd - 5)).toNat (c_4.toNat : Int)) (wi (nd - 6)).toNat (c_5.toNat : Int))) (len_set ((((((a_1.set (wi (nd - 1)).toNat (c_.toNat : Int)).set (wi (nd - 2)).toNat (c_1.toNat : Int)).set (wi (nd - 3)).toNat (c_2.toNat : Int)).set (wi (nd - 4)).toNat (c_3.toNat : Int)).set (wi (nd - 5)).toNat (c_4.toNat : Int)).set (wi (nd - 6)).toNat (c_5.toNat : Int)) (wi (nd - 7)).toNat (c_6.toNat : Int))) hx16) ?_)
    refine un (a2n (h' := upd _ 0 (lstB za 1 (((((((((a_1.set (wi (nd - 1)).toNat (c_.toNat : Int)).set (wi (nd - 2)).toNat (c_1.toNat : Int)).set (wi (nd - 3)).toNat (c_2.toNat : Int)).set (wi (nd - 4)).toNat (c_3.toNat : Int)).set (wi (nd - 5)).toNat (c_4.toNat : Int)).set (wi (nd - 6)).toNat (c_5.toNat : Int)).set (wi (nd - 7)).toNat (c_6.toNat : Int)).set (wi (nd - 8)).toNat (c_7.toNat : Int)).map (eK .u8)))) (n' := 1) rfl (s_storeL (e := (eK .u8)) (q' := (c_7.toNat : Int)) rfl rfl (hz_len (hz_len (hz_len (hz_len (hz_len (hz_len (hz_len hza1 (len_set a_1 (wi (nd - 1)).toNat (c_.toNat : Int))) (len_set (a_1.set (wi (nd - 1)).toNat (c_.toNat : Int)) (wi (nd - 2)).toNat (c_1.toNat : Int))) (len_set ((a_1.set (wi (nd - 1)).toNat (c_.toNat : Int)).set (wi (nd - 2)).toNat (c_1.toNat : Int)) (wi (nd - 3)).toNat (c_2.toNat : Int))) (len_set (((a_1.set (wi (nd - 1)).toNat (c_.toNat : Int)).set (wi (nd - 2)).toNat (c_1.toNat : Int)).set (wi (nd - 3)).toNat (c_2.toNat : Int)) (wi (nd - 4)).toNat (c_3.toNat : Int))) (len_set ((((a_1.set (wi (nd - 1)).toNat (c_.toNat : Int)).set (wi (nd - 2)).toNat (c_1.toNat : Int)).set (wi (nd - 3)).toNat (c_2.toNat : Int)).set (wi (nd - 4)).toNat (c_3.toNat : Int)) (wi (nd - 5)).toNat (c_4.toNat : Int))) (len_set (((((a_1.set (wi (nd - 1)).toNat (c_.toNat : Int)).set (wi (nd - 2)).toNat (c_1.toNat : Int)).set (wi (nd - 3)).toNat (c_2.toNat : Int)).set (wi (nd - 4)).toNat (c_3.toNat : Int)).set (wi (nd - 5)).toNat (c_4.toNat : Int)) (wi (nd - 6)).toNat (c_5.toNat : Int))) (len_set ((((((a_1.set (wi (nd - 1)).toNat (c_.toNat : Int)).set (wi (nd - 2)).toNat (c_1.toNat : Int)).set (wi (nd - 3)).toNat (c_2.toNat : Int)).set (wi (nd - 4)).toNat (c_3.toNat : Int)).set (wi (nd - 5)).toNat (c_4.toNat : Int)).set (wi (nd - 6)).toNat (c_5.toNat : Int)) (wi (nd - 7)).toNat (c_6.toNat : Int))) hx16 rfl rfl rfl (Nat.le_of_ble_eq_true rfl) rfl) (fun h => by cases h) ?_)
    try rw [len_set (((((((a_1.set (wi (nd - 1)).toNat (c_.toNat : Int)).set (wi (nd - 2)).toNat (c_1.toNat : Int)).set (wi (nd - 3)).toNat (c_2.toNat : Int)).set (wi (nd - 4)).toNat (c_3.toNat : Int)).set (wi (nd - 5)).toNat (c_4.toNat : Int)).set (wi (nd - 6)).toNat (c_5.toNat : Int)).set (wi (nd - 7)).toNat (c_6.toNat : Int)) (wi (nd - 8)).toNat (c_7.toNat : Int)]
    refine dnil ?_
    refine Sv.region ?_
    refine un (a1 rfl ?_)
    refine un (a1 (v := (I (wi (nd - 8)))) rfl ?_)
    refine un (a1 rfl ?_)
    refine dnil ?_
    exact hself ((((((((a_1.set (wi (nd - 1)).toNat (c_.toNat : Int)).set (wi (nd - 2)).toNat (c_1.toNat : Int)).set (wi (nd - 3)).toNat (c_2.toNat : Int)).set (wi (nd - 4)).toNat (c_3.toNat : Int)).set (wi (nd - 5)).toNat (c_4.toNat : Int)).set (wi (nd - 6)).toNat (c_5.toNat : Int)).set (wi (nd - 7)).toNat (c_6.toNat : Int)).set (wi (nd - 8)).toNat (c_7.toNat : Int)) (wr .u64 (u_1.tdiv 100000000)) (wi (nd - 8)) (hz_len (hz_len (hz_len (hz_len (hz_len (hz_len (hz_len (hz_len hza1 (len_set a_1 (wi (nd - 1)).toNat (c_.toNat : Int))) (len_set (a_1.set (wi (nd - 1)).toNat (c_.toNat : Int)) (wi (nd - 2)).toNat (c_1.toNat : Int))) (len_set ((a_1.set (wi (nd - 1)).toNat (c_.toNat : Int)).set (wi (nd - 2)).toNat (c_1.toNat : Int)) (wi (nd - 3)).toNat (c_2.toNat : Int))) (len_set (((a_1.set (wi (nd - 1)).toNat (c_.toNat : Int)).set (wi (nd - 2)).toNat (c_1.toNat : Int)).set (wi (nd - 3)).toNat (c_2.toNat : Int)) (wi (nd - 4)).toNat (c_3.toNat : Int))) (len_set ((((a_1.set (wi (nd - 1)).toNat (c_.toNat : Int)).set (wi (nd - 2)).toNat (c_1.toNat : Int)).set (wi (nd - 3)).toNat (c_2.toNat : Int)).set (wi (nd - 4)).toNat (c_3.toNat : Int)) (wi (nd - 5)).toNat (c_4.toNat : Int))) (len_set (((((a_1.set (wi (nd - 1)).toNat (c_.toNat : Int)).set (wi (nd - 2)).toNat (c_1.toNat : Int)).set (wi (nd - 3)).toNat (c_2.toNat : Int)).set (wi (nd - 4)).toNat (c_3.toNat : Int)).set (wi (nd - 5)).toNat (c_4.toNat : Int)) (wi (nd - 6)).toNat (c_5.toNat : Int))) (len_set ((((((a_1.set (wi (nd - 1)).toNat (c_.toNat : Int)).set (wi (nd - 2)).toNat (c_1.toNat : Int)).set (wi (nd - 3)).toNat (c_2.toNat : Int)).set (wi (nd - 4)).toNat (c_3.toNat : Int)).set (wi (nd - 5)).toNat (c_4.toNat : Int)).set (wi (nd - 6)).toNat (c_5.toNat : Int)) (wi (nd - 7)).toNat (c_6.toNat : Int))) (len_set (((((((a_1.set (wi (nd - 1)).toNat (c_.toNat : Int)).set (wi (nd - 2)).toNat (c_1.toNat : Int)).set (wi (nd - 3)).toNat (c_2.toNat : Int)).set (wi (nd - 4)).toNat (c_3.toNat : Int)).set (wi (nd - 5)).toNat (c_4.toNat : Int)).set (wi (nd - 6)).toNat (c_5.toNat : Int)).set (wi (nd - 7)).toNat (c_6.toNat : Int)) (wi (nd - 8)).toNat (c_7.toNat : Int))) h _ (weak_canon [0] rfl (by decide) (by decide) (by decide) (.cons rfl (avAs_free rfl) (.cons rfl (avAs_free rfl) (.cons rfl (.c (lstC_ren rfl (by decide))) .nil))) (.row (by decide) rfl (fr_map fun _ => rfl) .nil))
  · replace h := ifF hc1 h
    refine Sv.exit ?_
    exact hK0 a_1 u_1 nd hza1 h _ (weak_canon [0] rfl (by decide) (by decide) (by decide) (.cons rfl (avAs_free rfl) (.cons rfl (avAs_free rfl) (.cons rfl (.c (lstC_ren rfl (by decide))) .nil))) (.row (by decide) rfl (fr_map fun _ => rfl) .nil))
noncomputable def internal_strconv_formatBase10_j2 (a_4 : (List Int)) (nd3 : Int) (x_9 : Int) : Option (List Int) :=
  if decide (0 < nd3) then
    (at? a_4 0).bind fun x_10 =>
    some (a_4.set (0 : Int).toNat (wr .u8 (wr .u32 (48 + x_9))))
  else
    some a_4
theorem internal_strconv_formatBase10_j2_ok {mL : Int} {za : Bool} {a_4 : (List Int)} {nd3 : Int} {x_9 : Int} (hza4 : za = true → a_4 = []) {o : (List Int)} (h : internal_strconv_formatBase10_j2 a_4 nd3 x_9 = some o) :
    Sv Tryd.prog (GG mL) 1 a90_c2 (Ends a90.results 1 (internal_strconv_formatBase10_post za o)) ⟨(upd (upd (upd (fun _ => none) 0 (some (lstV za 0 1 a_4.length))) 4 (some (I nd3))) 12 (some (.c (.val (.int .u32 x_9))))), (upd (fun _ => none) 0 (lstB za 1 (a_4.map (eK .u8)))), 1⟩ := by
  unfold internal_strconv_formatBase10_j2 at h
  refine Sv.seq ?_
  refine Sv.region ?_
  refine un (a1 rfl ?_)
  refine un (a1 (v := (B (decide (0 < nd3)))) rfl ?_)
  refine dnil ?_
  refine Sv.cond (b := decide (0 < nd3)) rfl (fun hc2 => ?_) (fun hc2 => ?_)
  · replace h := ifT hc2 h
    refine Sv.region ?_
    refine un (a1 rfl ?_)
    refine un (a1 rfl ?_)
    refine un (a1 (v := (.c (.val (.int .u32 (wr .u32 (48 + x_9)))))) rfl ?_)
    refine un (a1 (v := (.c (.val (.int .u8 (wr .u8 (wr .u32 (48 + x_9))))))) rfl ?_)
    obtain ⟨x_10, hx17, h⟩ := bnd h
    refine un (a1 (v := (.c (.ref 0 1 (0 : Int).toNat 0))) (s_iaddrL rfl rfl hza4 hx17) ?_)
    refine un (a2n (h' := upd _ 0 (lstB za 1 ((a_4.set (0 : Int).toNat (wr .u8 (wr .u32 (48 + x_9)))).map (eK .u8)))) (n' := 1) rfl (s_storeL (e := (eK .u8)) (q' := (wr .u8 (wr .u32 (48 + x_9)))) rfl rfl hza4 hx17 rfl rfl rfl (Nat.le_of_ble_eq_true rfl) rfl) (fun h => by cases h) ?_)
    try rw [len_set a_4 (0 : Int).toNat (wr .u8 (wr .u32 (48 + x_9)))]
    refine dnil ?_
    replace h := Option.some.inj h
    subst h
    exact ⟨_, .refl _, _, rfl, ⟨upd (fun _ => none) 0 (some (.tup [])), (upd (fun _ => none) 0 (lstB za 1 ((a_4.set (0 : Int).toNat (wr .u8 (wr .u32 (48 + x_9)))).map (eK .u8)))), 1⟩, (.tup []), weak_canon2 [0] [0] (by decide) (by decide) (by decide) (.cons (by decide) .nil) (.cons rfl (avAs_tup .nil) .nil) (.row (by decide) rfl (fr_map fun _ => rfl) .nil), rfl, rfl, rfl, rfl⟩
  · replace h := ifF hc2 h
    refine Sv.skip ?_
    replace h := Option.some.inj h
    subst h
    exact ⟨_, .refl _, _, rfl, ⟨upd (fun _ => none) 0 (some (.tup [])), (upd (fun _ => none) 0 (lstB za 1 (a_4.map (eK .u8)))), 1⟩, (.tup []), weak_canon2 [0] [0] (by decide) (by decide) (by decide) (.cons (by decide) .nil) (.cons rfl (avAs_tup .nil) .nil) (.row (by decide) rfl (fr_map fun _ => rfl) .nil), rfl, rfl, rfl, rfl⟩
noncomputable def internal_strconv_formatBase10_j1 (a_3 : (List Int)) (nd2 : Int) (x_8 : Int) : Option (List Int) :=
  if decide (2 ≤ nd2) then
    (at? ([48, 48, 48, 49, 48, 50, 48, 51, 48, 52, 48, 53, 48, 54, 48, 55, 48, 56, 48, 57, 49, 48, 49, 49, 49, 50, 49, 51, 49, 52, 49, 53, 49, 54, 49, 55, 49, 56, 49, 57, 50, 48, 50, 49, 50, 50, 50, 51, 50, 52, 50, 53, 50, 54, 50, 55, 50, 56, 50, 57, 51, 48, 51, 49, 51, 50, 51, 51, 51, 52, 51, 53, 51, 54, 51, 55, 51, 56, 51, 57, 52, 48, 52, 49, 52, 50, 52, 51, 52, 52, 52, 53, 52, 54, 52, 55, 52, 56, 52, 57, 53, 48, 53, 49, 53, 50, 53, 51, 53, 52, 53, 53, 53, 54, 53, 55, 53, 56, 53, 57, 54, 48, 54, 49, 54, 50, 54, 51, 54, 52, 54, 53, 54, 54, 54, 55, 54, 56, 54, 57, 55, 48, 55, 49, 55, 50, 55, 51, 55, 52, 55, 53, 55, 54, 55, 55, 55, 56, 55, 57, 56, 48, 56, 49, 56, 50, 56, 51, 56, 52, 56, 53, 56, 54, 56, 55, 56, 56, 56, 57, 57, 48, 57, 49, 57, 50, 57, 51, 57, 52, 57, 53, 57, 54, 57, 55, 57, 56, 57, 57] : List UInt8) (wr .u32 ((wr .u32 ((x_8.tmod 100) * 2)) + 1))).bind fun c_8 =>
    (at? ([48, 48, 48, 49, 48, 50, 48, 51, 48, 52, 48, 53, 48, 54, 48, 55, 48, 56, 48, 57, 49, 48, 49, 49, 49, 50, 49, 51, 49, 52, 49, 53, 49, 54, 49, 55, 49, 56, 49, 57, 50, 48, 50, 49, 50, 50, 50, 51, 50, 52, 50, 53, 50, 54, 50, 55, 50, 56, 50, 57, 51, 48, 51, 49, 51, 50, 51, 51, 51, 52, 51, 53, 51, 54, 51, 55, 51, 56, 51, 57, 52, 48, 52, 49, 52, 50, 52, 51, 52, 52, 52, 53, 52, 54, 52, 55, 52, 56, 52, 57, 53, 48, 53, 49, 53, 50, 53, 51, 53, 52, 53, 53, 53, 54, 53, 55, 53, 56, 53, 57, 54, 48, 54, 49, 54, 50, 54, 51, 54, 52, 54, 53, 54, 54, 54, 55, 54, 56, 54, 57, 55, 48, 55, 49, 55, 50, 55, 51, 55, 52, 55, 53, 55, 54, 55, 55, 55, 56, 55, 57, 56, 48, 56, 49, 56, 50, 56, 51, 56, 52, 56, 53, 56, 54, 56, 55, 56, 56, 56, 57, 57, 48, 57, 49, 57, 50, 57, 51, 57, 52, 57, 53, 57, 54, 57, 55, 57, 56, 57, 57] : List UInt8) (wr .u32 ((x_8.tmod 100) * 2))).bind fun c_9 =>
    (at? a_3 (wi (nd2 - 1))).bind fun x_11 =>
    (at? (a_3.set (wi (nd2 - 1)).toNat (c_8.toNat : Int)) (wi (nd2 - 2))).bind fun x_12 =>
    internal_strconv_formatBase10_j2 ((a_3.set (wi (nd2 - 1)).toNat (c_8.toNat : Int)).set (wi (nd2 - 2)).toNat (c_9.toNat : Int)) (wi (nd2 - 2)) (wr .u32 (x_8.tdiv 100))
  else
    internal_strconv_formatBase10_j2 a_3 nd2 x_8
theorem internal_strconv_formatBase10_j1_ok {mL : Int} {za : Bool} {a_3 : (List Int)} {nd2 : Int} {x_8 : Int} (hza3 : za = true → a_3 = []) {o : (List Int)} (h : internal_strconv_formatBase10_j1 a_3 nd2 x_8 = some o) :
    Sv Tryd.prog (GG mL) 1 a90_c1 (Ends a90.results 1 (internal_strconv_formatBase10_post za o)) ⟨(upd (upd (upd (fun _ => none) 0 (some (lstV za 0 1 a_3.length))) 4 (some (I nd2))) 12 (some (.c (.val (.int .u32 x_8))))), (upd (fun _ => none) 0 (lstB za 1 (a_3.map (eK .u8)))), 1⟩ := by
  unfold internal_strconv_formatBase10_j1 at h
  refine Sv.seq ?_
  refine Sv.seq ?_
  refine Sv.region ?_
  refine un (a1 rfl ?_)
  refine un (a1 (v := (B (decide (2 ≤ nd2)))) rfl ?_)
  refine dnil ?_
  refine Sv.cond (b := decide (2 ≤ nd2)) rfl (fun hc3 => ?_) (fun hc3 => ?_)
  · replace h := ifT hc3 h
    refine Sv.seq ?_
    refine Sv.region ?_
    refine un (a1 rfl ?_)
    refine un (a1 (v := (.c (.val (.int .u32 (x_8.tmod 100))))) rfl ?_)
    refine un (a1 (v := (.c (.val (.int .u32 (wr .u32 ((x_8.tmod 100) * 2)))))) rfl ?_)
    refine un (a1 rfl ?_)
    refine dnil ?_
    refine Sv.seq ?_
    refine Sv.region ?_
    refine un (a1 rfl ?_)
    refine un (a1 (v := (.c (.val (.int .u32 (wr .u32 (x_8.tdiv 100)))))) rfl ?_)
    refine un (a1 rfl ?_)
    refine dnil ?_
    refine Sv.seq ?_
    refine Sv.drawn ?_
    refine un (a1 rfl ?_)
    refine un (a1 rfl ?_)
    refine un (a1 (v := (I (wi (nd2 - 1)))) rfl ?_)
    refine un (a1 rfl ?_)
    refine un (a1 rfl ?_)
    refine un (a1 (v := (I (wi (nd2 - 2)))) rfl ?_)
    refine un (a1 rfl ?_)
    refine un (a1 (v := (.c (.val (.int .u32 (wr .u32 ((wr .u32 ((x_8.tmod 100) * 2)) + 1)))))) rfl ?_)
    obtain ⟨c_8, hx18, h⟩ := bnd h
    refine un (a1 (v := (.c (.val (.int .u8 (c_8.toNat : Int))))) (s_idxS rfl rfl hx18) ?_)
    refine un (a1 rfl ?_)
    obtain ⟨c_9, hx19, h⟩ := bnd h
    refine un (a1 (v := (.c (.val (.int .u8 (c_9.toNat : Int))))) (s_idxS rfl rfl hx19) ?_)
    obtain ⟨x_11, hx20, h⟩ := bnd h
    refine un (a1 (v := (.c (.ref 0 1 (wi (nd2 - 1)).toNat 0))) (s_iaddrL rfl rfl hza3 hx20) ?_)
    refine un (a2n (h' := upd _ 0 (lstB za 1 ((a_3.set (wi (nd2 - 1)).toNat (c_8.toNat : Int)).map (eK .u8)))) (n' := 1) rfl (s_storeL (e := (eK .u8)) (q' := (c_8.toNat : Int)) rfl rfl hza3 hx20 rfl rfl rfl (Nat.le_of_ble_eq_true rfl) rfl) (fun h => by cases h) ?_)
    try rw [len_set a_3 (wi (nd2 - 1)).toNat (c_8.toNat : Int)]
    obtain ⟨x_12, hx21, h⟩ := bnd h
    refine un (a1 (v := (.c (.ref 0 1 (wi (nd2 - 2)).toNat 0))) (s_iaddrL rfl rfl (hz_len hza3 (len_set a_3 (wi (nd2 - 1)).toNat (c_8.toNat : Int))) hx21) ?_)
    refine un (a2n (h' := upd _ 0 (lstB za 1 (((a_3.set (wi (nd2 - 1)).toNat (c_8.toNat : Int)).set (wi (nd2 - 2)).toNat (c_9.toNat : Int)).map (eK .u8)))) (n' := 1) rfl (s_storeL (e := (eK .u8)) (q' := (c_9.toNat : Int)) rfl rfl (hz_len hza3 (len_set a_3 (wi (nd2 - 1)).toNat (c_8.toNat : Int))) hx21 rfl rfl rfl (Nat.le_of_ble_eq_true rfl) rfl) (fun h => by cases h) ?_)
    try rw [len_set (a_3.set (wi (nd2 - 1)).toNat (c_8.toNat : Int)) (wi (nd2 - 2)).toNat (c_9.toNat : Int)]
    refine dnil ?_
    refine Sv.region ?_
    refine un (a1 rfl ?_)
    refine un (a1 (v := (I (wi (nd2 - 2)))) rfl ?_)
    refine un (a1 rfl ?_)
    refine dnil ?_
    exact Sv.weak (weak_canon [0] rfl (by decide) (by decide) (by decide) (.cons rfl (avAs_free rfl) (.cons rfl (avAs_free rfl) (.cons rfl (.c (lstC_ren rfl (by decide))) .nil))) (.row (by decide) rfl (fr_map fun _ => rfl) .nil)) (internal_strconv_formatBase10_j2_ok (hz_len (hz_len hza3 (len_set a_3 (wi (nd2 - 1)).toNat (c_8.toNat : Int))) (len_set (a_3.set (wi (nd2 - 1)).toNat (c_8.toNat : Int)) (wi (nd2 - 2)).toNat (c_9.toNat : Int))) h)
  · replace h := ifF hc3 h
    refine Sv.skip ?_
    exact Sv.weak (weak_canon [0] rfl (by decide) (by decide) (by decide) (.cons rfl (avAs_free rfl) (.cons rfl (avAs_free rfl) (.cons rfl (.c (lstC_ren rfl (by decide))) .nil))) (.row (by decide) rfl (fr_map fun _ => rfl) .nil)) (internal_strconv_formatBase10_j2_ok hza3 h)
/-- internal/strconv.formatBase10 -/
noncomputable def internal_strconv_formatBase10 (a_ : (List Int)) (u_ : Int) : Option (List Int) :=
  lim fun kk => internal_strconv_formatBase10_l0 (fun (a_2 : (List Int)) (u_2 : Int) (nd1 : Int) => 
      if decide (4 ≤ nd1) then
        (at? ([48, 48, 48, 49, 48, 50, 48, 51, 48, 52, 48, 53, 48, 54, 48, 55, 48, 56, 48, 57, 49, 48, 49, 49, 49, 50, 49, 51, 49, 52, 49, 53, 49, 54, 49, 55, 49, 56, 49, 57, 50, 48, 50, 49, 50, 50, 50, 51, 50, 52, 50, 53, 50, 54, 50, 55, 50, 56, 50, 57, 51, 48, 51, 49, 51, 50, 51, 51, 51, 52, 51, 53, 51, 54, 51, 55, 51, 56, 51, 57, 52, 48, 52, 49, 52, 50, 52, 51, 52, 52, 52, 53, 52, 54, 52, 55, 52, 56, 52, 57, 53, 48, 53, 49, 53, 50, 53, 51, 53, 52, 53, 53, 53, 54, 53, 55, 53, 56, 53, 57, 54, 48, 54, 49, 54, 50, 54, 51, 54, 52, 54, 53, 54, 54, 54, 55, 54, 56, 54, 57, 55, 48, 55, 49, 55, 50, 55, 51, 55, 52, 55, 53, 55, 54, 55, 55, 55, 56, 55, 57, 56, 48, 56, 49, 56, 50, 56, 51, 56, 52, 56, 53, 56, 54, 56, 55, 56, 56, 56, 57, 57, 48, 57, 49, 57, 50, 57, 51, 57, 52, 57, 53, 57, 54, 57, 55, 57, 56, 57, 57] : List UInt8) (wr .u32 ((wr .u32 ((((wr .u32 u_2).tmod 10000).tmod 100) * 2)) + 1))).bind fun c_10 =>
        (at? ([48, 48, 48, 49, 48, 50, 48, 51, 48, 52, 48, 53, 48, 54, 48, 55, 48, 56, 48, 57, 49, 48, 49, 49, 49, 50, 49, 51, 49, 52, 49, 53, 49, 54, 49, 55, 49, 56, 49, 57, 50, 48, 50, 49, 50, 50, 50, 51, 50, 52, 50, 53, 50, 54, 50, 55, 50, 56, 50, 57, 51, 48, 51, 49, 51, 50, 51, 51, 51, 52, 51, 53, 51, 54, 51, 55, 51, 56, 51, 57, 52, 48, 52, 49, 52, 50, 52, 51, 52, 52, 52, 53, 52, 54, 52, 55, 52, 56, 52, 57, 53, 48, 53, 49, 53, 50, 53, 51, 53, 52, 53, 53, 53, 54, 53, 55, 53, 56, 53, 57, 54, 48, 54, 49, 54, 50, 54, 51, 54, 52, 54, 53, 54, 54, 54, 55, 54, 56, 54, 57, 55, 48, 55, 49, 55, 50, 55, 51, 55, 52, 55, 53, 55, 54, 55, 55, 55, 56, 55, 57, 56, 48, 56, 49, 56, 50, 56, 51, 56, 52, 56, 53, 56, 54, 56, 55, 56, 56, 56, 57, 57, 48, 57, 49, 57, 50, 57, 51, 57, 52, 57, 53, 57, 54, 57, 55, 57, 56, 57, 57] : List UInt8) (wr .u32 ((((wr .u32 u_2).tmod 10000).tmod 100) * 2))).bind fun c_11 =>
        (at? a_2 (wi (nd1 - 1))).bind fun x_13 =>
        (at? (a_2.set (wi (nd1 - 1)).toNat (c_10.toNat : Int)) (wi (nd1 - 2))).bind fun x_14 =>
        letIn (wr .u32 ((wr .u32 ((wr .u32 (((wr .u32 u_2).tmod 10000).tdiv 100)) * 2)) + 1)) fun v130 : Int =>
        (at? ([48, 48, 48, 49, 48, 50, 48, 51, 48, 52, 48, 53, 48, 54, 48, 55, 48, 56, 48, 57, 49, 48, 49, 49, 49, 50, 49, 51, 49, 52, 49, 53, 49, 54, 49, 55, 49, 56, 49, 57, 50, 48, 50, 49, 50, 50, 50, 51, 50, 52, 50, 53, 50, 54, 50, 55, 50, 56, 50, 57, 51, 48, 51, 49, 51, 50, 51, 51, 51, 52, 51, 53, 51, 54, 51, 55, 51, 56, 51, 57, 52, 48, 52, 49, 52, 50, 52, 51, 52, 52, 52, 53, 52, 54, 52, 55, 52, 56, 52, 57, 53, 48, 53, 49, 53, 50, 53, 51, 53, 52, 53, 53, 53, 54, 53, 55, 53, 56, 53, 57, 54, 48, 54, 49, 54, 50, 54, 51, 54, 52, 54, 53, 54, 54, 54, 55, 54, 56, 54, 57, 55, 48, 55, 49, 55, 50, 55, 51, 55, 52, 55, 53, 55, 54, 55, 55, 55, 56, 55, 57, 56, 48, 56, 49, 56, 50, 56, 51, 56, 52, 56, 53, 56, 54, 56, 55, 56, 56, 56, 57, 57, 48, 57, 49, 57, 50, 57, 51, 57, 52, 57, 53, 57, 54, 57, 55, 57, 56, 57, 57] : List UInt8) v130).bind fun c_12 =>
        (at? ([48, 48, 48, 49, 48, 50, 48, 51, 48, 52, 48, 53, 48, 54, 48, 55, 48, 56, 48, 57, 49, 48, 49, 49, 49, 50, 49, 51, 49, 52, 49, 53, 49, 54, 49, 55, 49, 56, 49, 57, 50, 48, 50, 49, 50, 50, 50, 51, 50, 52, 50, 53, 50, 54, 50, 55, 50, 56, 50, 57, 51, 48, 51, 49, 51, 50, 51, 51, 51, 52, 51, 53, 51, 54, 51, 55, 51, 56, 51, 57, 52, 48, 52, 49, 52, 50, 52, 51, 52, 52, 52, 53, 52, 54, 52, 55, 52, 56, 52, 57, 53, 48, 53, 49, 53, 50, 53, 51, 53, 52, 53, 53, 53, 54, 53, 55, 53, 56, 53, 57, 54, 48, 54, 49, 54, 50, 54, 51, 54, 52, 54, 53, 54, 54, 54, 55, 54, 56, 54, 57, 55, 48, 55, 49, 55, 50, 55, 51, 55, 52, 55, 53, 55, 54, 55, 55, 55, 56, 55, 57, 56, 48, 56, 49, 56, 50, 56, 51, 56, 52, 56, 53, 56, 54, 56, 55, 56, 56, 56, 57, 57, 48, 57, 49, 57, 50, 57, 51, 57, 52, 57, 53, 57, 54, 57, 55, 57, 56, 57, 57] : List UInt8) (wr .u32 ((wr .u32 (((wr .u32 u_2).tmod 10000).tdiv 100)) * 2))).bind fun c_13 =>
        (at? ((a_2.set (wi (nd1 - 1)).toNat (c_10.toNat : Int)).set (wi (nd1 - 2)).toNat (c_11.toNat : Int)) (wi (nd1 - 3))).bind fun x_15 =>
        (at? (((a_2.set (wi (nd1 - 1)).toNat (c_10.toNat : Int)).set (wi (nd1 - 2)).toNat (c_11.toNat : Int)).set (wi (nd1 - 3)).toNat (c_12.toNat : Int)) (wi (nd1 - 4))).bind fun x_16 =>
        internal_strconv_formatBase10_j1 ((((a_2.set (wi (nd1 - 1)).toNat (c_10.toNat : Int)).set (wi (nd1 - 2)).toNat (c_11.toNat : Int)).set (wi (nd1 - 3)).toNat (c_12.toNat : Int)).set (wi (nd1 - 4)).toNat (c_13.toNat : Int)) (wi (nd1 - 4)) (wr .u32 ((wr .u32 u_2).tdiv 10000))
      else
        internal_strconv_formatBase10_j1 a_2 nd1 (wr .u32 u_2)) kk a_ u_ (a_.length : Int)
theorem internal_strconv_formatBase10_ok {mL : Int} {a_ : (List Int)} {u_ : Int} {za : Bool} (hza : za = true → a_ = []) {r : (List Int)} (h : internal_strconv_formatBase10 a_ u_ = some r) : ACalls Tryd.prog (GG mL) 90 [(lstV za 0 1 a_.length), (.c (.val (.int .u64 u_)))] (upd (fun _ => none) 0 (lstB za 1 (a_.map (eK .u8)))) 1 (internal_strconv_formatBase10_post za r) := by
  refine acalls_of_sv hmix c90 (R := internal_strconv_formatBase10_post za r) ?_
  unfold internal_strconv_formatBase10 at h
  refine Sv.seq ?_
  refine Sv.region ?_
  refine un (a1 rfl ?_)
  refine un (a1 (v := (I (a_.length : Int))) (s_lenL rfl (len_nil_of hza)) ?_)
  refine un (a1 rfl ?_)
  refine dnil ?_
  refine Sv.seq ?_
  refine Sv.block ?_
  obtain ⟨kk, h⟩ := lim_some h
  refine Sv.weak (weak_canon [0] rfl (by decide) (by decide) (by decide) (.cons rfl (avAs_free rfl) (.cons rfl (avAs_free rfl) (.cons rfl (.c (lstC_ren rfl (by decide))) .nil))) (.row (by decide) rfl (fr_map fun _ => rfl) .nil)) (internal_strconv_formatBase10_l0_ok hza h ?_ (fun s hs => hs))
  · intro a_2 u_2 nd1 hza2 h _ hw1
    refine Sv.weak hw1 ?_
    refine Sv.seq ?_
    refine Sv.region ?_
    refine un (a1 rfl ?_)
    refine un (a1 (v := (.c (.val (.int .u32 (wr .u32 u_2))))) rfl ?_)
    refine un (a1 rfl ?_)
    refine dnil ?_
    refine Sv.seq ?_
    refine Sv.seq ?_
    refine Sv.region ?_
    refine un (a1 rfl ?_)
    refine un (a1 (v := (B (decide (4 ≤ nd1)))) rfl ?_)
    refine dnil ?_
    refine Sv.cond (b := decide (4 ≤ nd1)) rfl (fun hc4 => ?_) (fun hc4 => ?_)
    · replace h := ifT hc4 h
      refine Sv.seq ?_
      refine Sv.region ?_
      refine un (a1 rfl ?_)
      refine un (a1 (v := (.c (.val (.int .u32 ((wr .u32 u_2).tmod 10000))))) rfl ?_)
      refine un (a1 rfl ?_)
      refine dnil ?_
      refine Sv.seq ?_
      refine Sv.region ?_
      refine un (a1 rfl ?_)
      refine un (a1 (v := (.c (.val (.int .u32 (wr .u32 ((wr .u32 u_2).tdiv 10000)))))) rfl ?_)
      refine un (a1 rfl ?_)
      refine dnil ?_
      refine Sv.seq ?_
      refine Sv.region ?_
      refine un (a1 rfl ?_)
      refine un (a1 (v := (.c (.val (.int .u32 (wr .u32 (((wr .u32 u_2).tmod 10000).tdiv 100)))))) rfl ?_)
      refine un (a1 (v := (.c (.val (.int .u32 (wr .u32 ((wr .u32 (((wr .u32 u_2).tmod 10000).tdiv 100)) * 2)))))) rfl ?_)
      refine un (a1 rfl ?_)
      refine un (a1 (v := (.c (.val (.int .u32 (((wr .u32 u_2).tmod 10000).tmod 100))))) rfl ?_)
      refine un (a1 (v := (.c (.val (.int .u32 (wr .u32 ((((wr .u32 u_2).tmod 10000).tmod 100) * 2)))))) rfl ?_)
      refine un (a1 rfl ?_)
      refine un (a1 rfl ?_)
      refine dnil ?_
      refine Sv.seq ?_
      refine Sv.drawn ?_
      refine un (a1 rfl ?_)
      refine un (a1 rfl ?_)
      refine un (a1 (v := (I (wi (nd1 - 1)))) rfl ?_)
      refine un (a1 rfl ?_)
      refine un (a1 rfl ?_)
      refine un (a1 (v := (I (wi (nd1 - 2)))) rfl ?_)
      refine un (a1 rfl ?_)
      refine un (a1 (v := (.c (.val (.int .u32 (wr .u32 ((wr .u32 ((((wr .u32 u_2).tmod 10000).tmod 100) * 2)) + 1)))))) rfl ?_)
      obtain ⟨c_10, hx22, h⟩ := bnd h
      refine un (a1 (v := (.c (.val (.int .u8 (c_10.toNat : Int))))) (s_idxS rfl rfl hx22) ?_)
      refine un (a1 rfl ?_)
      obtain ⟨c_11, hx23, h⟩ := bnd h
      refine un (a1 (v := (.c (.val (.int .u8 (c_11.toNat : Int))))) (s_idxS rfl rfl hx23) ?_)
      obtain ⟨x_13, hx24, h⟩ := bnd h
      refine un (a1 (v := (.c (.ref 0 1 (wi (nd1 - 1)).toNat 0))) (s_iaddrL rfl rfl hza2 hx24) ?_)
      refine un (a2n (h' := upd _ 0 (lstB za 1 ((a_2.set (wi (nd1 - 1)).toNat (c_10.toNat : Int)).map (eK .u8)))) (n' := 1) rfl (s_storeL (e := (eK .u8)) (q' := (c_10.toNat : Int)) rfl rfl hza2 hx24 rfl rfl rfl (Nat.le_of_ble_eq_true rfl) rfl) (fun h => by cases h) ?_)
      try rw [len_set a_2 (wi (nd1 - 1)).toNat (c_10.toNat : Int)]
      obtain ⟨x_14, hx25, h⟩ := bnd h
      refine un (a1 (v := (.c (.ref 0 1 (wi (nd1 - 2)).toNat 0))) (s_iaddrL rfl rfl (hz_len hza2 (len_set a_2 (wi (nd1 - 1)).toNat (c_10.toNat : Int))) hx25) ?_)
      refine un (a2n (h' := upd _ 0 (lstB za 1 (((a_2.set (wi (nd1 - 1)).toNat (c_10.toNat : Int)).set (wi (nd1 - 2)).toNat (c_11.toNat : Int)).map (eK .u8)))) (n' := 1) rfl (s_storeL (e := (eK .u8)) (q' := (c_11.toNat : Int)) rfl rfl (hz_len hza2 (len_set a_2 (wi (nd1 - 1)).toNat (c_10.toNat : Int))) hx25 rfl rfl rfl (Nat.le_of_ble_eq_true rfl) rfl) (fun h => by cases h) ?_)
      try rw [len_set (a_2.set (wi (nd1 - 1)).toNat (c_10.toNat : Int)) (wi (nd1 - 2)).toNat (c_11.toNat : Int)]
      refine dnil ?_
      refine Sv.seq ?_
      refine Sv.drawn ?_
      refine un (a1 rfl ?_)
      refine un (a1 rfl ?_)
      refine un (a1 (v := (I (wi (nd1 - 3)))) rfl ?_)
      refine un (a1 rfl ?_)
      refine un (a1 rfl ?_)
      refine un (a1 (v := (I (wi (nd1 - 4)))) rfl ?_)
      refine un (a1 rfl ?_)
      obtain ⟨v130, hv130⟩ : ∃ v130 : Int, v130 = (wr .u32 ((wr .u32 ((wr .u32 (((wr .u32 u_2).tmod 10000).tdiv 100)) * 2)) + 1)) := ⟨_, rfl⟩
      replace h := letAt hv130 h
      refine un (a1 (v := (.c (.val (.int .u32 v130)))) (by rw [hv130]; rfl) ?_)
      clear hv130
      obtain ⟨c_12, hx26, h⟩ := bnd h
      refine un (a1 (v := (.c (.val (.int .u8 (c_12.toNat : Int))))) (s_idxS rfl rfl hx26) ?_)
      refine un (a1 rfl ?_)
      obtain ⟨c_13, hx27, h⟩ := bnd h
      refine un (a1 (v := (.c (.val (.int .u8 (c_13.toNat : Int))))) (s_idxS rfl rfl hx27) ?_)
      obtain ⟨x_15, hx28, h⟩ := bnd h
      refine un (a1 (v := (.c (.ref 0 1 (wi (nd1 - 3)).toNat 0))) (s_iaddrL rfl rfl (hz_len (hz_len hza2 (len_set a_2 (wi (nd1 - 1)).toNat (c_10.toNat : Int))) (len_set (a_2.set (wi (nd1 - 1)).toNat (c_10.toNat : Int)) (wi (nd1 - 2)).toNat (c_11.toNat : Int))) hx28) ?_)
      refine un (a2n (h' := upd _ 0 (lstB za 1 ((((a_2.set (wi (nd1 - 1)).toNat (c_10.toNat : Int)).set (wi (nd1 - 2)).toNat (c_11.toNat : Int)).set (wi (nd1 - 3)).toNat (c_12.toNat : Int)).map (eK .u8)))) (n' := 1) rfl (s_storeL (e := (eK .u8)) (q' := (c_12.toNat : Int)) rfl rfl (hz_len (hz_len hza2 (len_set a_2 (wi (nd1 - 1)).toNat (c_10.toNat : Int))) (len_set (a_2.set (wi (nd1 - 1)).toNat (c_10.toNat : Int)) (wi (nd1 - 2)).toNat (c_11.toNat : Int))) hx28 rfl rfl rfl (Nat.le_of_ble_eq_true rfl) rfl) (fun h => by cases h) ?_)
      try rw [len_set ((a_2.set (wi (nd1 - 1)).toNat (c_10.toNat : Int)).set (wi (nd1 - 2)).toNat (c_11.toNat : Int)) (wi (nd1 - 3)).toNat (c_12.toNat : Int)]
      obtain ⟨x_16, hx29, h⟩ := bnd h
      refine un (a1 (v := (.c (.ref 0 1 (wi (nd1 - 4)).toNat 0))) (s_iaddrL rfl rfl (hz_len (hz_len (hz_len hza2 (len_set a_2 (wi (nd1 - 1)).toNat (c_10.toNat : Int))) (len_set (a_2.set (wi (nd1 - 1)).toNat (c_10.toNat : Int)) (wi (nd1 - 2)).toNat (c_11.toNat : Int))) (len_set ((a_2.set (wi (nd1 - 1)).toNat (c_10.toNat : Int)).set (wi (nd1 - 2)).toNat (c_11.toNat : Int)) (wi (nd1 - 3)).toNat (c_12.toNat : Int))) hx29) ?_)
      refine un (a2n (h' := upd _ 0 (lstB za 1 (((((a_2.set (wi (nd1 - 1)).toNat (c_10.toNat : Int)).set (wi (nd1 - 2)).toNat (c_11.toNat : Int)).set (wi (nd1 - 3)).toNat (c_12.toNat : Int)).set (wi (nd1 - 4)).toNat (c_13.toNat : Int)).map (eK .u8)))) (n' := 1) rfl (s_storeL (e := (eK .u8)) (q' := (c_13.toNat : Int)) rfl rfl (hz_len (hz_len (hz_len hza2 (len_set a_2 (wi (nd1 - 1)).toNat (c_10.toNat : Int))) (len_set (a_2.set (wi (nd1 - 1)).toNat (c_10.toNat : Int)) (wi (nd1 - 2)).toNat (c_11.toNat : Int))) (len_set ((a_2.set (wi (nd1 - 1)).toNat (c_10.toNat : Int)).set (wi (nd1 - 2)).toNat (c_11.toNat : Int)) (wi (nd1 - 3)).toNat (c_12.toNat : Int))) hx29 rfl rfl rfl (Nat.le_of_ble_eq_true rfl) rfl) (fun h => by cases h) ?_)
      try rw [len_set (((a_2.set (wi (nd1 - 1)).toNat (c_10.toNat : Int)).set (wi (nd1 - 2)).toNat (c_11.toNat : Int)).set (wi (nd1 - 3)).toNat (c_12.toNat : Int)) (wi (nd1 - 4)).toNat (c_13.toNat : Int)]
      refine dnil ?_
      refine Sv.region ?_
      refine un (a1 rfl ?_)
      refine un (a1 (v := (I (wi (nd1 - 4)))) rfl ?_)
      refine un (a1 rfl ?_)
      refine dnil ?_
      exact Sv.weak (weak_canon [0] rfl (by decide) (by decide) (by decide) (.cons rfl (avAs_free rfl) (.cons rfl (avAs_free rfl) (.cons rfl (.c (lstC_ren rfl (by decide))) .nil))) (.row (by decide) rfl (fr_map fun _ => rfl) .nil)) (internal_strconv_formatBase10_j1_ok (hz_len (hz_len (hz_len (hz_len hza2 (len_set a_2 (wi (nd1 - 1)).toNat (c_10.toNat : Int))) (len_set (a_2.set (wi (nd1 - 1)).toNat (c_10.toNat : Int)) (wi (nd1 - 2)).toNat (c_11.toNat : Int))) (len_set ((a_2.set (wi (nd1 - 1)).toNat (c_10.toNat : Int)).set (wi (nd1 - 2)).toNat (c_11.toNat : Int)) (wi (nd1 - 3)).toNat (c_12.toNat : Int))) (len_set (((a_2.set (wi (nd1 - 1)).toNat (c_10.toNat : Int)).set (wi (nd1 - 2)).toNat (c_11.toNat : Int)).set (wi (nd1 - 3)).toNat (c_12.toNat : Int)) (wi (nd1 - 4)).toNat (c_13.toNat : Int))) h)
    · replace h := ifF hc4 h
      refine Sv.skip ?_
      exact Sv.weak (weak_canon [0] rfl (by decide) (by decide) (by decide) (.cons rfl (avAs_free rfl) (.cons rfl (avAs_free rfl) (.cons rfl (.c (lstC_ren rfl (by decide))) .nil))) (.row (by decide) rfl (fr_map fun _ => rfl) .nil)) (internal_strconv_formatBase10_j1_ok hza2 h)
def a117 : AFunc := ⟨1, [(.tmp 2)], (.seq (.region [⟨(some 2), (.mov (.const (.c (.val (.bool false))))), none⟩])
 (.seq (.region [⟨(some 3), (.mov (.tmp 0)), none⟩, ⟨(some 4), (.mov (.tmp 0)), none⟩, ⟨(some 5), (.bin .sub (.tmp 4) (.const (.c (.val (.int .i64 1))))), none⟩, ⟨(some 6), (.bin .and (.tmp 3) (.tmp 5)), none⟩, ⟨(some 7), (.bin .eql (.tmp 6) (.const (.c (.val (.int .i64 0))))), none⟩, ⟨(some 2), (.mov (.tmp 7)), none⟩])
 .ret))⟩
set_option maxRecDepth 100000 in
theorem c117 : compFunc Tryd.prog 117 = some a117 := by kernel_rfl
def internal_strconv_isPowerOfTwo_post (r : Bool) : AV → Heap → Nat → Prop := fun v h' n' => v = (B r) ∧ (h' = (fun _ => none)) ∧ n' = 0
/-- internal/strconv.isPowerOfTwo -/
def internal_strconv_isPowerOfTwo (x_ : Int) : Bool :=
  decide ((bitsV .and .i64 x_ (wi (x_ - 1))) = 0)
theorem internal_strconv_isPowerOfTwo_ok {mL : Int} (x_ : Int) : CPure Tryd.prog (GG mL) 117 [(I x_)] (B (internal_strconv_isPowerOfTwo x_)) := by
  generalize h : internal_strconv_isPowerOfTwo x_ = o
  refine acalls_of_sv hmix c117 (R := internal_strconv_isPowerOfTwo_post o) ?_
  unfold internal_strconv_isPowerOfTwo at h
  refine Sv.seq ?_
  refine Sv.region ?_
  refine un (a1 rfl ?_)
  refine dnil ?_
  refine Sv.seq ?_
  refine Sv.region ?_
  refine un (a1 rfl ?_)
  refine un (a1 rfl ?_)
  refine un (a1 (v := (I (wi (x_ - 1)))) rfl ?_)
  refine un (a1 (v := (I (bitsV .and .i64 x_ (wi (x_ - 1))))) rfl ?_)
  refine un (a1 (v := (B (decide ((bitsV .and .i64 x_ (wi (x_ - 1))) = 0)))) rfl ?_)
  refine un (a1 rfl ?_)
  refine dnil ?_
  refine Sv.ret ?_
  subst h
  exact ⟨_, .refl _, _, rfl, ⟨upd (fun _ => none) 0 (some (B (decide ((bitsV .and .i64 x_ (wi (x_ - 1))) = 0)))), (fun _ => none), 0⟩, (B (decide ((bitsV .and .i64 x_ (wi (x_ - 1))) = 0))), weak_canon [] rfl List.nodup_nil (Nat.le_refl _) (fun b h => absurd h (Nat.not_lt_zero _)) (.cons rfl (avAs_free rfl) .nil) .nil, rfl, rfl, rfl, rfl⟩
def a130 : AFunc := ⟨1, [(.tmp 2)], (.seq (.region [⟨(some 2), (.mov (.const (.c (.val (.int .i64 0))))), none⟩])
 (.seq (.seq (.region [⟨(some 3), (.mov (.tmp 0)), none⟩, ⟨(some 4), (.bin .eql (.tmp 3) (.const (.c (.val (.int .u64 0))))), none⟩])
 (.cond (.tmp 4) (.seq (.region [⟨(some 2), (.mov (.const (.c (.val (.int .i64 64))))), none⟩])
 .ret) .skip))
 (.seq (.region [⟨(some 5), (.mov (.tmp 0)), none⟩, ⟨(some 6), (.mov (.tmp 0)), none⟩, ⟨(some 7), (.un .neg (.tmp 6)), none⟩, ⟨(some 8), (.bin .and (.tmp 5) (.tmp 7)), none⟩, ⟨(some 9), (.bin .mul (.tmp 8) (.const (.c (.val (.int .u64 285870213051353865))))), none⟩, ⟨(some 10), (.bin .shr (.tmp 9) (.const (.c (.val (.int .u64 58))))), none⟩, ⟨(some 11), (.iaddrA 64 1 (.glob 7) (.tmp 10)), none⟩, ⟨(some 12), (.load false 1 (.tmp 11)), none⟩, ⟨(some 13), (.conv .i64 (.tmp 12)), none⟩, ⟨(some 2), (.mov (.tmp 13)), none⟩])
 .ret)))⟩
set_option maxRecDepth 100000 in
theorem c130 : compFunc Tryd.prog 130 = some a130 := by kernel_rfl
def math_bits_TrailingZeros64_post (r : Int) : AV → Heap → Nat → Prop := fun v h' n' => v = (I r) ∧ (h' = (fun _ => none)) ∧ n' = 0
def math_bits_TrailingZeros64_t0 : List Int := [0, 1, 56, 2, 57, 49, 28, 3, 61, 58, 42, 50, 38, 29, 17, 4, 62, 47, 59, 36, 45, 43, 51, 22, 53, 39, 33, 30, 24, 18, 12, 5, 63, 55, 48, 27, 60, 41, 37, 16, 46, 35, 44, 21, 52, 32, 23, 11, 54, 26, 40, 15, 34, 20, 31, 10, 25, 14, 19, 9, 13, 8, 7, 6]
/-- math/bits.TrailingZeros64 -/
noncomputable def math_bits_TrailingZeros64 (x_ : Int) : Option Int :=
  if decide (x_ = 0) then
    some 64
  else
    letIn (shr .u64 (wr .u64 ((bitsV .and .u64 x_ (wr .u64 (0 - x_))) * 285870213051353865)) 58) fun v10 : Int =>
    (at? math_bits_TrailingZeros64_t0 v10).bind fun x_1 =>
    some (wr .i64 x_1)
theorem math_bits_TrailingZeros64_ok {mL : Int} {x_ : Int} {r : Int} (h : math_bits_TrailingZeros64 x_ = some r) : CPure Tryd.prog (GG mL) 130 [(.c (.val (.int .u64 x_)))] (I r) := by
  refine acalls_of_sv hmix c130 (R := math_bits_TrailingZeros64_post r) ?_
  unfold math_bits_TrailingZeros64 at h
  refine Sv.seq ?_
  refine Sv.region ?_
  refine un (a1 rfl ?_)
  refine dnil ?_
  refine Sv.seq ?_
  refine Sv.seq ?_
  refine Sv.region ?_
  refine un (a1 rfl ?_)
  refine un (a1 (v := (B (decide (x_ = 0)))) rfl ?_)
  refine dnil ?_
  refine Sv.cond (b := decide (x_ = 0)) rfl (fun hc1 => ?_) (fun hc1 => ?_)
  · replace h := ifT hc1 h
    refine Sv.seq ?_
    refine Sv.region ?_
    refine un (a1 rfl ?_)
    refine dnil ?_
    refine Sv.ret ?_
    replace h := Option.some.inj h
    subst h
    exact ⟨_, .refl _, _, rfl, ⟨upd (fun _ => none) 0 (some (I 64)), (fun _ => none), 0⟩, (I 64), weak_canon [] rfl List.nodup_nil (Nat.le_refl _) (fun b h => absurd h (Nat.not_lt_zero _)) (.cons rfl (avAs_free rfl) .nil) .nil, rfl, rfl, rfl, rfl⟩
  · replace h := ifF hc1 h
    refine Sv.skip ?_
    refine Sv.seq ?_
    refine Sv.region ?_
    refine un (a1 rfl ?_)
    refine un (a1 rfl ?_)
    refine un (a1 (v := (.c (.val (.int .u64 (wr .u64 (0 - x_)))))) rfl ?_)
    refine un (a1 (v := (.c (.val (.int .u64 (bitsV .and .u64 x_ (wr .u64 (0 - x_))))))) rfl ?_)
    refine un (a1 (v := (.c (.val (.int .u64 (wr .u64 ((bitsV .and .u64 x_ (wr .u64 (0 - x_))) * 285870213051353865)))))) rfl ?_)
    obtain ⟨v10, hv10⟩ : ∃ v10 : Int, v10 = (shr .u64 (wr .u64 ((bitsV .and .u64 x_ (wr .u64 (0 - x_))) * 285870213051353865)) 58) := ⟨_, rfl⟩
    replace h := letAt hv10 h
    refine un (a1 (v := (.c (.val (.int .u64 v10)))) (by rw [hv10]; rfl) ?_)
    clear hv10
    obtain ⟨x_1, hx1, h⟩ := bnd h
    refine un (a1 (v := (.c (.rop (List.drop (v10.toNat * 1) g7_c)))) (s_iaddrAr (L := math_bits_TrailingZeros64_t0) rfl rfl rfl hx1) ?_)
    refine un (a1 (v := (.c (.val (.int .u8 x_1)))) (s_loadAr (o2 := 0) (v := fun q => (.c (.val (.int .u8 q)))) rfl (.cons rfl (.cons rfl (.cons rfl (.cons rfl (.cons rfl (.cons rfl (.cons rfl (.cons rfl (.cons rfl (.cons rfl (.cons rfl (.cons rfl (.cons rfl (.cons rfl (.cons rfl (.cons rfl (.cons rfl (.cons rfl (.cons rfl (.cons rfl (.cons rfl (.cons rfl (.cons rfl (.cons rfl (.cons rfl (.cons rfl (.cons rfl (.cons rfl (.cons rfl (.cons rfl (.cons rfl (.cons rfl (.cons rfl (.cons rfl (.cons rfl (.cons rfl (.cons rfl (.cons rfl (.cons rfl (.cons rfl (.cons rfl (.cons rfl (.cons rfl (.cons rfl (.cons rfl (.cons rfl (.cons rfl (.cons rfl (.cons rfl (.cons rfl (.cons rfl (.cons rfl (.cons rfl (.cons rfl (.cons rfl (.cons rfl (.cons rfl (.cons rfl (.cons rfl (.cons rfl (.cons rfl (.cons rfl (.cons rfl (.cons rfl .nil)))))))))))))))))))))))))))))))))))))))))))))))))))))))))))))))) hx1) ?_)
    refine un (a1 (v := (I (wr .i64 x_1))) rfl ?_)
    refine un (a1 rfl ?_)
    refine dnil ?_
    refine Sv.ret ?_
    replace h := Option.some.inj h
    subst h
    exact ⟨_, .refl _, _, rfl, ⟨upd (fun _ => none) 0 (some (I (wr .i64 x_1))), (fun _ => none), 0⟩, (I (wr .i64 x_1)), weak_canon [] rfl List.nodup_nil (Nat.le_refl _) (fun b h => absurd h (Nat.not_lt_zero _)) (.cons rfl (avAs_free rfl) .nil) .nil, rfl, rfl, rfl, rfl⟩
def a118 : AFunc := ⟨1, [(.tmp 2)], (.seq (.region [⟨(some 2), (.mov (.const (.c (.val (.int .i64 0))))), none⟩])
 (.seq (.cond (.const (.c (.val (.bool false)))) (.seq (.region [⟨(some 3), (.mov (.tmp 0)), none⟩, ⟨(some 4), (.conv .u32 (.tmp 3)), none⟩, ⟨(some 5), (.call 129 [(.tmp 4)]), none⟩, ⟨(some 2), (.mov (.tmp 5)), none⟩])
 .ret) .skip)
 (.seq (.region [⟨(some 6), (.mov (.tmp 0)), none⟩, ⟨(some 7), (.call 130 [(.tmp 6)]), none⟩, ⟨(some 2), (.mov (.tmp 7)), none⟩])
 .ret)))⟩
set_option maxRecDepth 100000 in
theorem c118 : compFunc Tryd.prog 118 = some a118 := by kernel_rfl
def math_bits_TrailingZeros_post (r : Int) : AV → Heap → Nat → Prop := fun v h' n' => v = (I r) ∧ (h' = (fun _ => none)) ∧ n' = 0
/-- math/bits.TrailingZeros -/
noncomputable def math_bits_TrailingZeros (x_ : Int) : Option Int :=
  (math_bits_TrailingZeros64 x_).bind fun r_ =>
  some r_
theorem math_bits_TrailingZeros_ok {mL : Int} {x_ : Int} {r : Int} (h : math_bits_TrailingZeros x_ = some r) : CPure Tryd.prog (GG mL) 118 [(.c (.val (.int .u64 x_)))] (I r) := by
  refine acalls_of_sv hmix c118 (R := math_bits_TrailingZeros_post r) ?_
  unfold math_bits_TrailingZeros at h
  refine Sv.seq ?_
  refine Sv.region ?_
  refine un (a1 rfl ?_)
  refine dnil ?_
  refine Sv.seq ?_
  refine Sv.condF rfl ?_
  refine Sv.skip ?_
  refine Sv.seq ?_
  refine Sv.region ?_
  refine un (a1 rfl ?_)
  obtain ⟨r_, hr1, h⟩ := bnd h
  refine un (ac_pure (math_bits_TrailingZeros64_ok hr1) rfl rfl rfl ?_)
  refine un (a1 rfl ?_)
  refine dnil ?_
  refine Sv.ret ?_
  replace h := Option.some.inj h
  subst h
  exact ⟨_, .refl _, _, rfl, ⟨upd (fun _ => none) 0 (some (I r_)), (fun _ => none), 0⟩, (I r_), weak_canon [] rfl List.nodup_nil (Nat.le_refl _) (fun b h => absurd h (Nat.not_lt_zero _)) (.cons rfl (avAs_free rfl) .nil) .nil, rfl, rfl, rfl, rfl⟩
def a91_c1 : ACode := (.seq (.seq (.region [⟨(some 44), (.mov (.tmp 1)), none⟩, ⟨(some 45), (.mov (.tmp 15)), none⟩, ⟨(some 46), (.bin .geq (.tmp 44) (.tmp 45)), none⟩])
 (.cond (.tmp 46) .skip (.exit 0)))
 (.block 1 (.seq (.region [⟨(some 47), (.mov (.tmp 13)), none⟩, ⟨(some 48), (.bin .sub (.tmp 47) (.const (.c (.val (.int .i64 1))))), none⟩, ⟨(some 13), (.mov (.tmp 48)), none⟩])
 (.seq (.region [⟨(some 49), (.mov (.tmp 13)), none⟩, ⟨(some 50), (.mov (.tmp 1)), none⟩, ⟨(some 51), (.mov (.tmp 16)), none⟩, ⟨(some 52), (.bin .and (.tmp 50) (.tmp 51)), none⟩, ⟨(some 53), (.idxS (.const (.c (.str [48, 49, 50, 51, 52, 53, 54, 55, 56, 57, 97, 98, 99, 100, 101, 102, 103, 104, 105, 106, 107, 108, 109, 110, 111, 112, 113, 114, 115, 116, 117, 118, 119, 120, 121, 122]))) (.tmp 52)), none⟩, ⟨(some 54), (.iaddrA 65 1 (.tmp 12) (.tmp 49)), none⟩, ⟨none, (.store 1 (.tmp 54) (.tmp 53)), none⟩])
 (.region [⟨(some 55), (.mov (.tmp 1)), none⟩, ⟨(some 56), (.mov (.tmp 14)), none⟩, ⟨(some 57), (.bin .shr (.tmp 55) (.tmp 56)), none⟩, ⟨(some 1), (.mov (.tmp 57)), none⟩])))))
def a91_c2 : ACode := (.seq (.seq (.region [⟨(some 66), (.mov (.tmp 1)), none⟩, ⟨(some 67), (.mov (.tmp 17)), none⟩, ⟨(some 68), (.bin .geq (.tmp 66) (.tmp 67)), none⟩])
 (.cond (.tmp 68) .skip (.exit 2)))
 (.block 3 (.seq (.region [⟨(some 69), (.mov (.tmp 13)), none⟩, ⟨(some 70), (.bin .sub (.tmp 69) (.const (.c (.val (.int .i64 1))))), none⟩, ⟨(some 13), (.mov (.tmp 70)), none⟩])
 (.seq (.region [⟨(some 71), (.mov (.tmp 1)), none⟩, ⟨(some 72), (.mov (.tmp 17)), none⟩, ⟨(some 73), (.bin .quo (.tmp 71) (.tmp 72)), none⟩, ⟨(some 18), (.mov (.tmp 73)), none⟩])
 (.seq (.region [⟨(some 74), (.mov (.tmp 13)), none⟩, ⟨(some 75), (.mov (.tmp 1)), none⟩, ⟨(some 76), (.mov (.tmp 18)), none⟩, ⟨(some 77), (.mov (.tmp 17)), none⟩, ⟨(some 78), (.bin .mul (.tmp 76) (.tmp 77)), none⟩, ⟨(some 79), (.bin .sub (.tmp 75) (.tmp 78)), none⟩, ⟨(some 80), (.idxS (.const (.c (.str [48, 49, 50, 51, 52, 53, 54, 55, 56, 57, 97, 98, 99, 100, 101, 102, 103, 104, 105, 106, 107, 108, 109, 110, 111, 112, 113, 114, 115, 116, 117, 118, 119, 120, 121, 122]))) (.tmp 79)), none⟩, ⟨(some 81), (.iaddrA 65 1 (.tmp 12) (.tmp 74)), none⟩, ⟨none, (.store 1 (.tmp 81) (.tmp 80)), none⟩])
 (.region [⟨(some 82), (.mov (.tmp 18)), none⟩, ⟨(some 1), (.mov (.tmp 82)), none⟩]))))))
def a91_c4 : ACode := (.seq (.seq (.region [⟨(some 94), (.mov (.tmp 4)), none⟩])
 (.cond (.tmp 94) (.seq (.region [⟨(some 95), (.mov (.tmp 0)), none⟩, ⟨(some 96), (.mov (.tmp 13)), none⟩, ⟨(some 97), (.slArr 65 1 (.tmp 12) (some (.tmp 96)) none), none⟩, ⟨(some 98), (.app 1 1 (.tmp 95) (.tmp 97)), none⟩, ⟨(some 10), (.mov (.tmp 98)), none⟩])
 .ret) .skip))
 (.seq (.region [⟨(some 99), (.mov (.tmp 13)), none⟩, ⟨(some 100), (.slArr 65 1 (.tmp 12) (some (.tmp 99)) none), none⟩, ⟨(some 101), (.ofBytes (.tmp 100)), none⟩, ⟨(some 11), (.mov (.tmp 101)), none⟩])
 .ret))
def a91_c3 : ACode := (.seq (.seq (.region [⟨(some 89), (.mov (.tmp 3)), none⟩])
 (.cond (.tmp 89) (.seq (.region [⟨(some 90), (.mov (.tmp 13)), none⟩, ⟨(some 91), (.bin .sub (.tmp 90) (.const (.c (.val (.int .i64 1))))), none⟩, ⟨(some 13), (.mov (.tmp 91)), none⟩])
 (.region [⟨(some 92), (.mov (.tmp 13)), none⟩, ⟨(some 93), (.iaddrA 65 1 (.tmp 12) (.tmp 92)), none⟩, ⟨none, (.store 1 (.tmp 93) (.const (.c (.val (.int .u8 45))))), none⟩])) .skip))
 a91_c4)
def a91_c0 : ACode := (.seq (.seq (.region [⟨(some 33), (.mov (.tmp 2)), none⟩, ⟨(some 34), (.call 117 [(.tmp 33)]), none⟩])
 (.cond (.tmp 34) (.seq (.region [⟨(some 35), (.mov (.tmp 2)), none⟩, ⟨(some 36), (.conv .u64 (.tmp 35)), none⟩, ⟨(some 37), (.call 118 [(.tmp 36)]), none⟩, ⟨(some 38), (.conv .u64 (.tmp 37)), none⟩, ⟨(some 14), (.mov (.tmp 38)), none⟩])
 (.seq (.region [⟨(some 39), (.mov (.tmp 2)), none⟩, ⟨(some 40), (.conv .u64 (.tmp 39)), none⟩, ⟨(some 15), (.mov (.tmp 40)), none⟩])
 (.seq (.region [⟨(some 41), (.mov (.tmp 2)), none⟩, ⟨(some 42), (.conv .u64 (.tmp 41)), none⟩, ⟨(some 43), (.bin .sub (.tmp 42) (.const (.c (.val (.int .u64 1))))), none⟩, ⟨(some 16), (.mov (.tmp 43)), none⟩])
 (.seq (.block 0 (.loop a91_c1))
 (.seq (.region [⟨(some 58), (.mov (.tmp 13)), none⟩, ⟨(some 59), (.bin .sub (.tmp 58) (.const (.c (.val (.int .i64 1))))), none⟩, ⟨(some 13), (.mov (.tmp 59)), none⟩])
 (.region [⟨(some 60), (.mov (.tmp 13)), none⟩, ⟨(some 61), (.mov (.tmp 1)), none⟩, ⟨(some 62), (.idxS (.const (.c (.str [48, 49, 50, 51, 52, 53, 54, 55, 56, 57, 97, 98, 99, 100, 101, 102, 103, 104, 105, 106, 107, 108, 109, 110, 111, 112, 113, 114, 115, 116, 117, 118, 119, 120, 121, 122]))) (.tmp 61)), none⟩, ⟨(some 63), (.iaddrA 65 1 (.tmp 12) (.tmp 60)), none⟩, ⟨none, (.store 1 (.tmp 63) (.tmp 62)), none⟩])))))) (.seq (.region [⟨(some 64), (.mov (.tmp 2)), none⟩, ⟨(some 65), (.conv .u64 (.tmp 64)), none⟩, ⟨(some 17), (.mov (.tmp 65)), none⟩])
 (.seq (.block 2 (.loop a91_c2))
 (.seq (.region [⟨(some 83), (.mov (.tmp 13)), none⟩, ⟨(some 84), (.bin .sub (.tmp 83) (.const (.c (.val (.int .i64 1))))), none⟩, ⟨(some 13), (.mov (.tmp 84)), none⟩])
 (.region [⟨(some 85), (.mov (.tmp 13)), none⟩, ⟨(some 86), (.mov (.tmp 1)), none⟩, ⟨(some 87), (.idxS (.const (.c (.str [48, 49, 50, 51, 52, 53, 54, 55, 56, 57, 97, 98, 99, 100, 101, 102, 103, 104, 105, 106, 107, 108, 109, 110, 111, 112, 113, 114, 115, 116, 117, 118, 119, 120, 121, 122]))) (.tmp 86)), none⟩, ⟨(some 88), (.iaddrA 65 1 (.tmp 12) (.tmp 85)), none⟩, ⟨none, (.store 1 (.tmp 88) (.tmp 87)), none⟩]))))))
 a91_c3)
def a91 : AFunc := ⟨5, [(.tmp 10), (.tmp 11)], (.seq (.region [⟨(some 10), (.mov (.const (.c (.ro true 1 [])))), none⟩, ⟨(some 11), (.mov (.const (.c (.str [])))), none⟩])
 (.seq (.seq (.region [⟨(some 19), (.mov (.tmp 2)), none⟩, ⟨(some 20), (.bin .lss (.tmp 19) (.const (.c (.val (.int .i64 2))))), none⟩, ⟨(some 21), (.mov (.tmp 20)), none⟩, ⟨(some 22), (.mov (.tmp 2)), (some (21, false))⟩, ⟨(some 23), (.bin .eql (.tmp 22) (.const (.c (.val (.int .i64 10))))), (some (21, false))⟩, ⟨(some 24), (.pick (.tmp 21) (.const (.c (.val (.bool true)))) (.tmp 23)), none⟩, ⟨(some 25), (.mov (.tmp 24)), none⟩, ⟨(some 26), (.mov (.tmp 2)), (some (25, false))⟩, ⟨(some 27), (.bin .gtr (.tmp 26) (.const (.c (.val (.int .i64 36))))), (some (25, false))⟩, ⟨(some 28), (.pick (.tmp 25) (.const (.c (.val (.bool true)))) (.tmp 27)), none⟩])
 (.cond (.tmp 28) (.region [⟨(some 29), .mkif, none⟩, ⟨none, .bad, none⟩]) .skip))
 (.seq (.region [⟨(some 12), (.box (.const (.agg [(.val (.int .u8 0)), (.val (.int .u8 0)), (.val (.int .u8 0)), (.val (.int .u8 0)), (.val (.int .u8 0)), (.val (.int .u8 0)), (.val (.int .u8 0)), (.val (.int .u8 0)), (.val (.int .u8 0)), (.val (.int .u8 0)), (.val (.int .u8 0)), (.val (.int .u8 0)), (.val (.int .u8 0)), (.val (.int .u8 0)), (.val (.int .u8 0)), (.val (.int .u8 0)), (.val (.int .u8 0)), (.val (.int .u8 0)), (.val (.int .u8 0)), (.val (.int .u8 0)), (.val (.int .u8 0)), (.val (.int .u8 0)), (.val (.int .u8 0)), (.val (.int .u8 0)), (.val (.int .u8 0)), (.val (.int .u8 0)), (.val (.int .u8 0)), (.val (.int .u8 0)), (.val (.int .u8 0)), (.val (.int .u8 0)), (.val (.int .u8 0)), (.val (.int .u8 0)), (.val (.int .u8 0)), (.val (.int .u8 0)), (.val (.int .u8 0)), (.val (.int .u8 0)), (.val (.int .u8 0)), (.val (.int .u8 0)), (.val (.int .u8 0)), (.val (.int .u8 0)), (.val (.int .u8 0)), (.val (.int .u8 0)), (.val (.int .u8 0)), (.val (.int .u8 0)), (.val (.int .u8 0)), (.val (.int .u8 0)), (.val (.int .u8 0)), (.val (.int .u8 0)), (.val (.int .u8 0)), (.val (.int .u8 0)), (.val (.int .u8 0)), (.val (.int .u8 0)), (.val (.int .u8 0)), (.val (.int .u8 0)), (.val (.int .u8 0)), (.val (.int .u8 0)), (.val (.int .u8 0)), (.val (.int .u8 0)), (.val (.int .u8 0)), (.val (.int .u8 0)), (.val (.int .u8 0)), (.val (.int .u8 0)), (.val (.int .u8 0)), (.val (.int .u8 0)), (.val (.int .u8 0))]))), none⟩])
 (.seq (.region [⟨(some 13), (.mov (.const (.c (.val (.int .i64 65))))), none⟩])
 (.seq (.seq (.region [⟨(some 30), (.mov (.tmp 3)), none⟩])
 (.cond (.tmp 30) (.region [⟨(some 31), (.mov (.tmp 1)), none⟩, ⟨(some 32), (.un .neg (.tmp 31)), none⟩, ⟨(some 1), (.mov (.tmp 32)), none⟩]) .skip))
 a91_c0)))))⟩
set_option maxRecDepth 100000 in
theorem c91 : compFunc Tryd.prog 91 = some a91 := by kernel_rfl
def internal_strconv_formatBits_post (r : ((List Int) × (List UInt8))) : AV → Heap → Nat → Prop := fun v h' n' => v = (.tup [(.c (.ro false 1 (r.1.map (eK .u8)))), (S r.2)]) ∧ (h' = (fun _ => none)) ∧ n' = 0
noncomputable def internal_strconv_formatBits_j3 (append_ : Bool) (dst : (List Int)) (a_1 : (List Int)) (i_1 : Int) : Option ((List Int) × (List UInt8)) :=
  if append_ then
    (cutA? 65 a_1 i_1 65).bind fun r_ =>
    none
  else
    (cutA? 65 a_1 i_1 65).bind fun r_1 =>
    some (([] : List Int), (byts r_1))
theorem internal_strconv_formatBits_j3_ok {mL : Int} {append_ : Bool} {dst : (List Int)} {a_1 : (List Int)} {i_1 : Int} {o : ((List Int) × (List UInt8))} (h : internal_strconv_formatBits_j3 append_ dst a_1 i_1 = some o) :
    Sv Tryd.prog (GG mL) 0 a91_c4 (Ends a91.results 0 (internal_strconv_formatBits_post o)) ⟨(upd (upd (upd (upd (upd (upd (fun _ => none) 0 (some (.c (.ro false 1 (dst.map (eK .u8)))))) 4 (some (B append_))) 10 (some (.c (.ro true 1 [])))) 11 (some (S []))) 12 (some (.c (.ref 0 65 0 0)))) 13 (some (I i_1))), (upd (fun _ => none) 0 (some (.cells 65 [rowA .u8 a_1]))), 1⟩ := by
  unfold internal_strconv_formatBits_j3 at h
  refine Sv.seq ?_
  refine Sv.seq ?_
  refine Sv.region ?_
  refine un (a1 rfl ?_)
  refine dnil ?_
  refine Sv.cond (b := append_) rfl (fun hc4 => ?_) (fun hc4 => ?_)
  · replace h := ifT hc4 h
    refine Sv.seq ?_
    refine Sv.region ?_
    refine un (a1 rfl ?_)
    refine un (a1 rfl ?_)
    obtain ⟨r_, hr1, h⟩ := bnd h
    refine un (a2v (v := (.c (.own 1 1 i_1.toNat r_.length (65 - i_1.toNat)))) (h' := upd (upd _ 0 none) 1 (some (.cells 1 ((rowA .u8 a_1).map fun c => [c])))) (n' := 2) rfl (s_slArr (l := a_1) (a1 := i_1) (b1 := 65) rfl rfl rfl rfl hr1) (fun h => by cases h) ?_)
    cases h
  · replace h := ifF hc4 h
    refine Sv.skip ?_
    refine Sv.seq ?_
    refine Sv.region ?_
    refine un (a1 rfl ?_)
    obtain ⟨r_1, hr2, h⟩ := bnd h
    refine un (a2v (v := (.c (.own 1 1 i_1.toNat r_1.length (65 - i_1.toNat)))) (h' := upd (upd _ 0 none) 1 (some (.cells 1 ((rowA .u8 a_1).map fun c => [c])))) (n' := 2) rfl (s_slArr (l := a_1) (a1 := i_1) (b1 := 65) rfl rfl rfl rfl hr2) (fun h => by cases h) ?_)
    refine un (a1 (v := (S (byts r_1))) (s_ofArr (l := a_1) (a1 := i_1) (b1 := 65) rfl rfl hr2) ?_)
    refine un (a1 rfl ?_)
    refine dnil ?_
    refine Sv.ret ?_
    replace h := Option.some.inj h
    subst h
    exact ⟨_, .refl _, _, rfl, ⟨upd (fun _ => none) 0 (some (.tup [(.c (.ro false 1 (([] : List Int).map (eK .u8)))), (S (byts r_1))])), (fun _ => none), 0⟩, (.tup [(.c (.ro false 1 (([] : List Int).map (eK .u8)))), (S (byts r_1))]), weak_canon [] rfl List.nodup_nil (Nat.le_refl _) (fun b h => absurd h (Nat.not_lt_zero _)) (.cons rfl (avAs_tup (.cons (.c .nil) (.cons (avAs_free rfl) .nil))) .nil) .nil, rfl, rfl, rfl, rfl⟩
noncomputable def internal_strconv_formatBits_j2 (neg : Bool) (append_ : Bool) (dst : (List Int)) (a_ : (List Int)) (i_ : Int) : Option ((List Int) × (List UInt8)) :=
  if neg then
    (idxA? 65 (wi (i_ - 1))).bind fun ix =>
    (setA? a_ ix 45).bind fun arr =>
    internal_strconv_formatBits_j3 append_ dst arr (wi (i_ - 1))
  else
    internal_strconv_formatBits_j3 append_ dst a_ i_
theorem internal_strconv_formatBits_j2_ok {mL : Int} {neg : Bool} {append_ : Bool} {dst : (List Int)} {a_ : (List Int)} {i_ : Int} {o : ((List Int) × (List UInt8))} (h : internal_strconv_formatBits_j2 neg append_ dst a_ i_ = some o) :
    Sv Tryd.prog (GG mL) 0 a91_c3 (Ends a91.results 0 (internal_strconv_formatBits_post o)) ⟨(upd (upd (upd (upd (upd (upd (upd (fun _ => none) 0 (some (.c (.ro false 1 (dst.map (eK .u8)))))) 3 (some (B neg))) 4 (some (B append_))) 10 (some (.c (.ro true 1 [])))) 11 (some (S []))) 12 (some (.c (.ref 0 65 0 0)))) 13 (some (I i_))), (upd (fun _ => none) 0 (some (.cells 65 [rowA .u8 a_]))), 1⟩ := by
  unfold internal_strconv_formatBits_j2 at h
  refine Sv.seq ?_
  refine Sv.seq ?_
  refine Sv.region ?_
  refine un (a1 rfl ?_)
  refine dnil ?_
  refine Sv.cond (b := neg) rfl (fun hc5 => ?_) (fun hc5 => ?_)
  · replace h := ifT hc5 h
    refine Sv.seq ?_
    refine Sv.region ?_
    refine un (a1 rfl ?_)
    refine un (a1 (v := (I (wi (i_ - 1)))) rfl ?_)
    refine un (a1 rfl ?_)
    refine dnil ?_
    refine Sv.region ?_
    refine un (a1 rfl ?_)
    obtain ⟨ix, hx1, h⟩ := bnd h
    refine un (a1 (v := (.c (.ref 0 65 0 ix))) (s_idxArr rfl rfl hx1) ?_)
    obtain ⟨arr, hr3, h⟩ := bnd h
    refine un (a2n (h' := upd _ 0 (some (.cells 65 [rowA .u8 arr]))) (n' := 1) rfl (s_storeArr (l := a_) rfl rfl rfl hr3) (fun h => by cases h) ?_)
    refine dnil ?_
    exact Sv.weak (weak_canon [0] rfl (by decide) (by decide) (fun b h => absurd h (Nat.not_lt_zero _)) (.cons rfl (avAs_free rfl) (.cons rfl (.c (.ref rfl (by decide))) (.cons rfl (avAs_free rfl) (.cons rfl (avAs_free rfl) (.cons rfl (avAs_free rfl) (.cons rfl (avAs_free rfl) .nil)))))) (.box (by decide) rfl blkAs_rowA .nil)) (internal_strconv_formatBits_j3_ok h)
  · replace h := ifF hc5 h
    refine Sv.skip ?_
    exact Sv.weak (weak_canon [0] rfl (by decide) (by decide) (fun b h => absurd h (Nat.not_lt_zero _)) (.cons rfl (avAs_free rfl) (.cons rfl (.c (.ref rfl (by decide))) (.cons rfl (avAs_free rfl) (.cons rfl (avAs_free rfl) (.cons rfl (avAs_free rfl) (.cons rfl (avAs_free rfl) .nil)))))) (.box (by decide) rfl blkAs_rowA .nil)) (internal_strconv_formatBits_j3_ok h)
noncomputable def internal_strconv_formatBits_l4 (base : Int) (r_2 : Int) (dst : (List Int)) (neg : Bool) (append_ : Bool) (K0_ : Int → (List Int) → Int → Option ((List Int) × (List UInt8))) : Nat → Int → (List Int) → Int → Option ((List Int) × (List UInt8))
  | 0, _, _, _ => none
  | k + 1, u_2, a_2, i_2 =>
    if decide ((wr .u64 base) ≤ u_2) then
      (at? ([48, 49, 50, 51, 52, 53, 54, 55, 56, 57, 97, 98, 99, 100, 101, 102, 103, 104, 105, 106, 107, 108, 109, 110, 111, 112, 113, 114, 115, 116, 117, 118, 119, 120, 121, 122] : List UInt8) (bitsV .and .u64 u_2 (wr .u64 ((wr .u64 base) - 1)))).bind fun c_ =>
      (idxA? 65 (wi (i_2 - 1))).bind fun ix1 =>
      (setA? a_2 ix1 (c_.toNat : Int)).bind fun arr1 =>
      (shr? .u64 u_2 (wr .u64 r_2)).bind fun r_3 =>
      (internal_strconv_formatBits_l4 base r_2 dst neg append_ K0_ k) r_3 arr1 (wi (i_2 - 1))
    else
      K0_ u_2 a_2 i_2
theorem internal_strconv_formatBits_l4_ok {mL : Int} {Q : AExit → St → Prop} {base : Int} {r_2 : Int} {dst : (List Int)} {neg : Bool} {append_ : Bool} {K0_ : Int → (List Int) → Int → Option ((List Int) × (List UInt8))} {k : Nat} {u_2 : Int} {a_2 : (List Int)} {i_2 : Int} {o : ((List Int) × (List UInt8))} (h : internal_strconv_formatBits_l4 base r_2 dst neg append_ K0_ k u_2 a_2 i_2 = some o)
    (hK0 : ∀ (u_3 : Int) (a_3 : (List Int)) (i_3 : Int), K0_ u_3 a_3 i_3 = some o → ∀ s, Weak 0 s ⟨(upd (upd (upd (upd (upd (upd (upd (upd (fun _ => none) 0 (some (.c (.ro false 1 (dst.map (eK .u8)))))) 1 (some (.c (.val (.int .u64 u_3))))) 3 (some (B neg))) 4 (some (B append_))) 10 (some (.c (.ro true 1 [])))) 11 (some (S []))) 12 (some (.c (.ref 0 65 0 0)))) 13 (some (I i_3))), (upd (fun _ => none) 0 (some (.cells 65 [rowA .u8 a_3]))), 1⟩ → Q (.exit 0) s)
    (hr : ∀ s, Ends a91.results 0 (internal_strconv_formatBits_post o) .ret s → Q .ret s) :
    Sv Tryd.prog (GG mL) 0 (.loop a91_c1) Q ⟨(upd (upd (upd (upd (upd (upd (upd (upd (upd (upd (upd (fun _ => none) 0 (some (.c (.ro false 1 (dst.map (eK .u8)))))) 1 (some (.c (.val (.int .u64 u_2))))) 3 (some (B neg))) 4 (some (B append_))) 10 (some (.c (.ro true 1 [])))) 11 (some (S []))) 12 (some (.c (.ref 0 65 0 0)))) 13 (some (I i_2))) 14 (some (.c (.val (.int .u64 (wr .u64 r_2)))))) 15 (some (.c (.val (.int .u64 (wr .u64 base)))))) 16 (some (.c (.val (.int .u64 (wr .u64 ((wr .u64 base) - 1))))))), (upd (fun _ => none) 0 (some (.cells 65 [rowA .u8 a_2]))), 1⟩ := by
  refine Sv.loop (I := fun k s => ∃ (u_2 : Int), ∃ (a_2 : (List Int)), ∃ (i_2 : Int), internal_strconv_formatBits_l4 base r_2 dst neg append_ K0_ k u_2 a_2 i_2 = some o ∧ s = ⟨(upd (upd (upd (upd (upd (upd (upd (upd (upd (upd (upd (fun _ => none) 0 (some (.c (.ro false 1 (dst.map (eK .u8)))))) 1 (some (.c (.val (.int .u64 u_2))))) 3 (some (B neg))) 4 (some (B append_))) 10 (some (.c (.ro true 1 [])))) 11 (some (S []))) 12 (some (.c (.ref 0 65 0 0)))) 13 (some (I i_2))) 14 (some (.c (.val (.int .u64 (wr .u64 r_2)))))) 15 (some (.c (.val (.int .u64 (wr .u64 base)))))) 16 (some (.c (.val (.int .u64 (wr .u64 ((wr .u64 base) - 1))))))), (upd (fun _ => none) 0 (some (.cells 65 [rowA .u8 a_2]))), 1⟩) (fun k s hI => ?_) ⟨u_2, a_2, i_2, h, rfl⟩
  clear h
  clear i_2 a_2 u_2
  obtain ⟨u_2, a_2, i_2, h, rfl⟩ := hI
  cases k with
  | zero => cases h
  | succ k =>
  rw [internal_strconv_formatBits_l4] at h
  have hself : ∀ (u_2 : Int) (a_2 : (List Int)) (i_2 : Int), (internal_strconv_formatBits_l4 base r_2 dst neg append_ K0_ k) u_2 a_2 i_2 = some o → ∀ s, Weak 0 s ⟨(upd (upd (upd (upd (upd (upd (upd (upd (upd (upd (upd (fun _ => none) 0 (some (.c (.ro false 1 (dst.map (eK .u8)))))) 1 (some (.c (.val (.int .u64 u_2))))) 3 (some (B neg))) 4 (some (B append_))) 10 (some (.c (.ro true 1 [])))) 11 (some (S []))) 12 (some (.c (.ref 0 65 0 0)))) 13 (some (I i_2))) 14 (some (.c (.val (.int .u64 (wr .u64 r_2)))))) 15 (some (.c (.val (.int .u64 (wr .u64 base)))))) 16 (some (.c (.val (.int .u64 (wr .u64 ((wr .u64 base) - 1))))))), (upd (fun _ => none) 0 (some (.cells 65 [rowA .u8 a_2]))), 1⟩ → (AThen (fun s' => ∃ s'' k', Weak 0 s' s'' ∧ k' < k + 1 ∧ (fun k s => ∃ (u_2 : Int), ∃ (a_2 : (List Int)), ∃ (i_2 : Int), internal_strconv_formatBits_l4 base r_2 dst neg append_ K0_ k u_2 a_2 i_2 = some o ∧ s = ⟨(upd (upd (upd (upd (upd (upd (upd (upd (upd (upd (upd (fun _ => none) 0 (some (.c (.ro false 1 (dst.map (eK .u8)))))) 1 (some (.c (.val (.int .u64 u_2))))) 3 (some (B neg))) 4 (some (B append_))) 10 (some (.c (.ro true 1 [])))) 11 (some (S []))) 12 (some (.c (.ref 0 65 0 0)))) 13 (some (I i_2))) 14 (some (.c (.val (.int .u64 (wr .u64 r_2)))))) 15 (some (.c (.val (.int .u64 (wr .u64 base)))))) 16 (some (.c (.val (.int .u64 (wr .u64 ((wr .u64 base) - 1))))))), (upd (fun _ => none) 0 (some (.cells 65 [rowA .u8 a_2]))), 1⟩) k' s'') Q) .normal s := fun u_2 a_2 i_2 h s hw => ⟨_, k, hw, Nat.lt_succ_self k, u_2, a_2, i_2, h, rfl⟩
  refine Sv.seq ?_
  refine Sv.seq ?_
  refine Sv.region ?_
  refine un (a1 rfl ?_)
  refine un (a1 rfl ?_)
  refine un (a1 (v := (B (decide ((wr .u64 base) ≤ u_2)))) rfl ?_)
  refine dnil ?_
  refine Sv.cond (b := decide ((wr .u64 base) ≤ u_2)) rfl (fun hc7 => ?_) (fun hc7 => ?_)
  · replace h := ifT hc7 h
    refine Sv.skip ?_
    refine Sv.block ?_
    refine Sv.seq ?_
    refine Sv.region ?_
    refine un (a1 rfl ?_)
    refine un (a1 (v := (I (wi (i_2 - 1)))) rfl ?_)
    refine un (a1 rfl ?_)
    refine dnil ?_
    refine Sv.seq ?_
    refine Sv.region ?_
    refine un (a1 rfl ?_)
    refine un (a1 rfl ?_)
    refine un (a1 rfl ?_)
    refine un (a1 (v := (.c (.val (.int .u64 (bitsV .and .u64 u_2 (wr .u64 ((wr .u64 base) - 1))))))) rfl ?_)
    obtain ⟨c_, hx2, h⟩ := bnd h
    refine un (a1 (v := (.c (.val (.int .u8 (c_.toNat : Int))))) (s_idxS rfl rfl hx2) ?_)
    obtain ⟨ix1, hx3, h⟩ := bnd h
    refine un (a1 (v := (.c (.ref 0 65 0 ix1))) (s_idxArr rfl rfl hx3) ?_)
    obtain ⟨arr1, hr5, h⟩ := bnd h
    refine un (a2n (h' := upd _ 0 (some (.cells 65 [rowA .u8 arr1]))) (n' := 1) rfl (s_storeArr (l := a_2) rfl rfl rfl hr5) (fun h => by cases h) ?_)
    refine dnil ?_
    refine Sv.region ?_
    refine un (a1 rfl ?_)
    refine un (a1 rfl ?_)
    obtain ⟨r_3, hx4, h⟩ := bnd h
    refine un (a1 (v := (.c (.val (.int .u64 r_3)))) (s_shr rfl rfl hx4) ?_)
    refine un (a1 rfl ?_)
    refine dnil ?_
    exact hself r_3 arr1 (wi (i_2 - 1)) h _ (weak_canon [0] rfl (by decide) (by decide) (fun b h => absurd h (Nat.not_lt_zero _)) (.cons rfl (avAs_free rfl) (.cons rfl (avAs_free rfl) (.cons rfl (avAs_free rfl) (.cons rfl (avAs_free rfl) (.cons rfl (.c (.ref rfl (by decide))) (.cons rfl (avAs_free rfl) (.cons rfl (avAs_free rfl) (.cons rfl (avAs_free rfl) (.cons rfl (avAs_free rfl) (.cons rfl (avAs_free rfl) (.cons rfl (avAs_free rfl) .nil))))))))))) (.box (by decide) rfl blkAs_rowA .nil))
  · replace h := ifF hc7 h
    refine Sv.exit ?_
    exact hK0 u_2 a_2 i_2 h _ (weak_canon [0] rfl (by decide) (by decide) (fun b h => absurd h (Nat.not_lt_zero _)) (.cons rfl (avAs_free rfl) (.cons rfl (.c (.ref rfl (by decide))) (.cons rfl (avAs_free rfl) (.cons rfl (avAs_free rfl) (.cons rfl (avAs_free rfl) (.cons rfl (avAs_free rfl) (.cons rfl (avAs_free rfl) (.cons rfl (avAs_free rfl) .nil)))))))) (.box (by decide) rfl blkAs_rowA .nil))
noncomputable def internal_strconv_formatBits_l5 (base : Int) (dst : (List Int)) (neg : Bool) (append_ : Bool) (K2_ : Int → (List Int) → Int → Option ((List Int) × (List UInt8))) : Nat → Int → (List Int) → Int → Option ((List Int) × (List UInt8))
  | 0, _, _, _ => none
  | k + 1, u_4, a_4, i_4 =>
    if decide ((wr .u64 base) ≤ u_4) then
      (quo? .u64 u_4 (wr .u64 base)).bind fun r_4 =>
      (at? ([48, 49, 50, 51, 52, 53, 54, 55, 56, 57, 97, 98, 99, 100, 101, 102, 103, 104, 105, 106, 107, 108, 109, 110, 111, 112, 113, 114, 115, 116, 117, 118, 119, 120, 121, 122] : List UInt8) (wr .u64 (u_4 - (wr .u64 (r_4 * (wr .u64 base)))))).bind fun c_2 =>
      (idxA? 65 (wi (i_4 - 1))).bind fun ix3 =>
      (setA? a_4 ix3 (c_2.toNat : Int)).bind fun arr3 =>
      (internal_strconv_formatBits_l5 base dst neg append_ K2_ k) r_4 arr3 (wi (i_4 - 1))
    else
      K2_ u_4 a_4 i_4
theorem internal_strconv_formatBits_l5_ok {mL : Int} {Q : AExit → St → Prop} {base : Int} {dst : (List Int)} {neg : Bool} {append_ : Bool} {K2_ : Int → (List Int) → Int → Option ((List Int) × (List UInt8))} {k : Nat} {u_4 : Int} {a_4 : (List Int)} {i_4 : Int} {o : ((List Int) × (List UInt8))} (h : internal_strconv_formatBits_l5 base dst neg append_ K2_ k u_4 a_4 i_4 = some o)
    (hK2 : ∀ (u_5 : Int) (a_5 : (List Int)) (i_5 : Int), K2_ u_5 a_5 i_5 = some o → ∀ s, Weak 0 s ⟨(upd (upd (upd (upd (upd (upd (upd (upd (fun _ => none) 0 (some (.c (.ro false 1 (dst.map (eK .u8)))))) 1 (some (.c (.val (.int .u64 u_5))))) 3 (some (B neg))) 4 (some (B append_))) 10 (some (.c (.ro true 1 [])))) 11 (some (S []))) 12 (some (.c (.ref 0 65 0 0)))) 13 (some (I i_5))), (upd (fun _ => none) 0 (some (.cells 65 [rowA .u8 a_5]))), 1⟩ → Q (.exit 2) s)
    (hr : ∀ s, Ends a91.results 0 (internal_strconv_formatBits_post o) .ret s → Q .ret s) :
    Sv Tryd.prog (GG mL) 0 (.loop a91_c2) Q ⟨(upd (upd (upd (upd (upd (upd (upd (upd (upd (fun _ => none) 0 (some (.c (.ro false 1 (dst.map (eK .u8)))))) 1 (some (.c (.val (.int .u64 u_4))))) 3 (some (B neg))) 4 (some (B append_))) 10 (some (.c (.ro true 1 [])))) 11 (some (S []))) 12 (some (.c (.ref 0 65 0 0)))) 13 (some (I i_4))) 17 (some (.c (.val (.int .u64 (wr .u64 base)))))), (upd (fun _ => none) 0 (some (.cells 65 [rowA .u8 a_4]))), 1⟩ := by
  refine Sv.loop (I := fun k s => ∃ (u_4 : Int), ∃ (a_4 : (List Int)), ∃ (i_4 : Int), internal_strconv_formatBits_l5 base dst neg append_ K2_ k u_4 a_4 i_4 = some o ∧ s = ⟨(upd (upd (upd (upd (upd (upd (upd (upd (upd (fun _ => none) 0 (some (.c (.ro false 1 (dst.map (eK .u8)))))) 1 (some (.c (.val (.int .u64 u_4))))) 3 (some (B neg))) 4 (some (B append_))) 10 (some (.c (.ro true 1 [])))) 11 (some (S []))) 12 (some (.c (.ref 0 65 0 0)))) 13 (some (I i_4))) 17 (some (.c (.val (.int .u64 (wr .u64 base)))))), (upd (fun _ => none) 0 (some (.cells 65 [rowA .u8 a_4]))), 1⟩) (fun k s hI => ?_) ⟨u_4, a_4, i_4, h, rfl⟩
  clear h
  clear i_4 a_4 u_4
  obtain ⟨u_4, a_4, i_4, h, rfl⟩ := hI
  cases k with
  | zero => cases h
  | succ k =>
  rw [internal_strconv_formatBits_l5] at h
  have hself : ∀ (u_4 : Int) (a_4 : (List Int)) (i_4 : Int), (internal_strconv_formatBits_l5 base dst neg append_ K2_ k) u_4 a_4 i_4 = some o → ∀ s, Weak 0 s ⟨(upd (upd (upd (upd (upd (upd (upd (upd (upd (fun _ => none) 0 (some (.c (.ro false 1 (dst.map (eK .u8)))))) 1 (some (.c (.val (.int .u64 u_4))))) 3 (some (B neg))) 4 (some (B append_))) 10 (some (.c (.ro true 1 [])))) 11 (some (S []))) 12 (some (.c (.ref 0 65 0 0)))) 13 (some (I i_4))) 17 (some (.c (.val (.int .u64 (wr .u64 base)))))), (upd (fun _ => none) 0 (some (.cells 65 [rowA .u8 a_4]))), 1⟩ → (AThen (fun s' => ∃ s'' k', Weak 0 s' s'' ∧ k' < k + 1 ∧ (fun k s => ∃ (u_4 : Int), ∃ (a_4 : (List Int)), ∃ (i_4 : Int), internal_strconv_formatBits_l5 base dst neg append_ K2_ k u_4 a_4 i_4 = some o ∧ s = ⟨(upd (upd (upd (upd (upd (upd (upd (upd (upd (fun _ => none) 0 (some (.c (.ro false 1 (dst.map (eK .u8)))))) 1 (some (.c (.val (.int .u64 u_4))))) 3 (some (B neg))) 4 (some (B append_))) 10 (some (.c (.ro true 1 [])))) 11 (some (S []))) 12 (some (.c (.ref 0 65 0 0)))) 13 (some (I i_4))) 17 (some (.c (.val (.int .u64 (wr .u64 base)))))), (upd (fun _ => none) 0 (some (.cells 65 [rowA .u8 a_4]))), 1⟩) k' s'') Q) .normal s := fun u_4 a_4 i_4 h s hw => ⟨_, k, hw, Nat.lt_succ_self k, u_4, a_4, i_4, h, rfl⟩
  refine Sv.seq ?_
  refine Sv.seq ?_
  refine Sv.region ?_
  refine un (a1 rfl ?_)
  refine un (a1 rfl ?_)
  refine un (a1 (v := (B (decide ((wr .u64 base) ≤ u_4)))) rfl ?_)
  refine dnil ?_
  refine Sv.cond (b := decide ((wr .u64 base) ≤ u_4)) rfl (fun hc8 => ?_) (fun hc8 => ?_)
  · replace h := ifT hc8 h
    refine Sv.skip ?_
    refine Sv.block ?_
    refine Sv.seq ?_
    refine Sv.region ?_
    refine un (a1 rfl ?_)
    refine un (a1 (v := (I (wi (i_4 - 1)))) rfl ?_)
    refine un (a1 rfl ?_)
    refine dnil ?_
    refine Sv.seq ?_
    refine Sv.region ?_
    refine un (a1 rfl ?_)
    refine un (a1 rfl ?_)
    obtain ⟨r_4, hx7, h⟩ := bnd h
    refine un (a1 (v := (.c (.val (.int .u64 r_4)))) (s_quo rfl rfl hx7) ?_)
    refine un (a1 rfl ?_)
    refine dnil ?_
    refine Sv.seq ?_
    refine Sv.region ?_
    refine un (a1 rfl ?_)
    refine un (a1 rfl ?_)
    refine un (a1 rfl ?_)
    refine un (a1 rfl ?_)
    refine un (a1 (v := (.c (.val (.int .u64 (wr .u64 (r_4 * (wr .u64 base))))))) rfl ?_)
    refine un (a1 (v := (.c (.val (.int .u64 (wr .u64 (u_4 - (wr .u64 (r_4 * (wr .u64 base))))))))) rfl ?_)
    obtain ⟨c_2, hx8, h⟩ := bnd h
    refine un (a1 (v := (.c (.val (.int .u8 (c_2.toNat : Int))))) (s_idxS rfl rfl hx8) ?_)
    obtain ⟨ix3, hx9, h⟩ := bnd h
    refine un (a1 (v := (.c (.ref 0 65 0 ix3))) (s_idxArr rfl rfl hx9) ?_)
    obtain ⟨arr3, hr7, h⟩ := bnd h
    refine un (a2n (h' := upd _ 0 (some (.cells 65 [rowA .u8 arr3]))) (n' := 1) rfl (s_storeArr (l := a_4) rfl rfl rfl hr7) (fun h => by cases h) ?_)
    refine dnil ?_
    refine Sv.region ?_
    refine un (a1 rfl ?_)
    refine un (a1 rfl ?_)
    refine dnil ?_
    exact hself r_4 arr3 (wi (i_4 - 1)) h _ (weak_canon [0] rfl (by decide) (by decide) (fun b h => absurd h (Nat.not_lt_zero _)) (.cons rfl (avAs_free rfl) (.cons rfl (avAs_free rfl) (.cons rfl (.c (.ref rfl (by decide))) (.cons rfl (avAs_free rfl) (.cons rfl (avAs_free rfl) (.cons rfl (avAs_free rfl) (.cons rfl (avAs_free rfl) (.cons rfl (avAs_free rfl) (.cons rfl (avAs_free rfl) .nil))))))))) (.box (by decide) rfl blkAs_rowA .nil))
  · replace h := ifF hc8 h
    refine Sv.exit ?_
    exact hK2 u_4 a_4 i_4 h _ (weak_canon [0] rfl (by decide) (by decide) (fun b h => absurd h (Nat.not_lt_zero _)) (.cons rfl (avAs_free rfl) (.cons rfl (.c (.ref rfl (by decide))) (.cons rfl (avAs_free rfl) (.cons rfl (avAs_free rfl) (.cons rfl (avAs_free rfl) (.cons rfl (avAs_free rfl) (.cons rfl (avAs_free rfl) (.cons rfl (avAs_free rfl) .nil)))))))) (.box (by decide) rfl blkAs_rowA .nil))
noncomputable def internal_strconv_formatBits_j1 (base : Int) (dst : (List Int)) (neg : Bool) (append_ : Bool) (u_1 : Int) : Option ((List Int) × (List UInt8)) :=
  if (internal_strconv_isPowerOfTwo base) then
    (math_bits_TrailingZeros (wr .u64 base)).bind fun r_2 =>
    lim fun kk => internal_strconv_formatBits_l4 base r_2 dst neg append_ (fun (u_3 : Int) (a_3 : (List Int)) (i_3 : Int) => 
        (at? ([48, 49, 50, 51, 52, 53, 54, 55, 56, 57, 97, 98, 99, 100, 101, 102, 103, 104, 105, 106, 107, 108, 109, 110, 111, 112, 113, 114, 115, 116, 117, 118, 119, 120, 121, 122] : List UInt8) u_3).bind fun c_1 =>
        (idxA? 65 (wi (i_3 - 1))).bind fun ix2 =>
        (setA? a_3 ix2 (c_1.toNat : Int)).bind fun arr2 =>
        internal_strconv_formatBits_j2 neg append_ dst arr2 (wi (i_3 - 1))) kk u_1 (List.replicate 65 0) 65
  else
    lim fun kk1 => internal_strconv_formatBits_l5 base dst neg append_ (fun (u_5 : Int) (a_5 : (List Int)) (i_5 : Int) => 
        (at? ([48, 49, 50, 51, 52, 53, 54, 55, 56, 57, 97, 98, 99, 100, 101, 102, 103, 104, 105, 106, 107, 108, 109, 110, 111, 112, 113, 114, 115, 116, 117, 118, 119, 120, 121, 122] : List UInt8) u_5).bind fun c_3 =>
        (idxA? 65 (wi (i_5 - 1))).bind fun ix4 =>
        (setA? a_5 ix4 (c_3.toNat : Int)).bind fun arr4 =>
        internal_strconv_formatBits_j2 neg append_ dst arr4 (wi (i_5 - 1))) kk1 u_1 (List.replicate 65 0) 65
theorem internal_strconv_formatBits_j1_ok {mL : Int} {base : Int} {dst : (List Int)} {neg : Bool} {append_ : Bool} {u_1 : Int} {o : ((List Int) × (List UInt8))} (h : internal_strconv_formatBits_j1 base dst neg append_ u_1 = some o) :
    Sv Tryd.prog (GG mL) 0 a91_c0 (Ends a91.results 0 (internal_strconv_formatBits_post o)) ⟨(upd (upd (upd (upd (upd (upd (upd (upd (upd (fun _ => none) 0 (some (.c (.ro false 1 (dst.map (eK .u8)))))) 1 (some (.c (.val (.int .u64 u_1))))) 2 (some (I base))) 3 (some (B neg))) 4 (some (B append_))) 10 (some (.c (.ro true 1 [])))) 11 (some (S []))) 12 (some (.c (.ref 0 65 0 0)))) 13 (some (I 65))), (upd (fun _ => none) 0 (some (.cells 65 [rowA .u8 (List.replicate 65 0)]))), 1⟩ := by
  unfold internal_strconv_formatBits_j1 at h
  refine Sv.seq ?_
  refine Sv.seq ?_
  refine Sv.region ?_
  refine un (a1 rfl ?_)
  refine un (ac_pure (internal_strconv_isPowerOfTwo_ok (mL := mL) base) rfl rfl rfl ?_)
  refine dnil ?_
  refine Sv.cond (b := (internal_strconv_isPowerOfTwo base)) rfl (fun hc6 => ?_) (fun hc6 => ?_)
  · replace h := ifT hc6 h
    refine Sv.seq ?_
    refine Sv.region ?_
    refine un (a1 rfl ?_)
    refine un (a1 (v := (.c (.val (.int .u64 (wr .u64 base))))) rfl ?_)
    obtain ⟨r_2, hr4, h⟩ := bnd h
    refine un (ac_pure (math_bits_TrailingZeros_ok hr4) rfl rfl rfl ?_)
    refine un (a1 (v := (.c (.val (.int .u64 (wr .u64 r_2))))) rfl ?_)
    refine un (a1 rfl ?_)
    refine dnil ?_
    refine Sv.seq ?_
    refine Sv.region ?_
    refine un (a1 rfl ?_)
    refine un (a1 (v := (.c (.val (.int .u64 (wr .u64 base))))) rfl ?_)
    refine un (a1 rfl ?_)
    refine dnil ?_
    refine Sv.seq ?_
    refine Sv.region ?_
    refine un (a1 rfl ?_)
    refine un (a1 (v := (.c (.val (.int .u64 (wr .u64 base))))) rfl ?_)
    refine un (a1 (v := (.c (.val (.int .u64 (wr .u64 ((wr .u64 base) - 1)))))) rfl ?_)
    refine un (a1 rfl ?_)
    refine dnil ?_
    refine Sv.seq ?_
    refine Sv.block ?_
    obtain ⟨kk, h⟩ := lim_some h
    refine Sv.weak (weak_canon [0] rfl (by decide) (by decide) (fun b h => absurd h (Nat.not_lt_zero _)) (.cons rfl (avAs_free rfl) (.cons rfl (avAs_free rfl) (.cons rfl (avAs_free rfl) (.cons rfl (avAs_free rfl) (.cons rfl (.c (.ref rfl (by decide))) (.cons rfl (avAs_free rfl) (.cons rfl (avAs_free rfl) (.cons rfl (avAs_free rfl) (.cons rfl (avAs_free rfl) (.cons rfl (avAs_free rfl) (.cons rfl (avAs_free rfl) .nil))))))))))) (.box (by decide) rfl blkAs_rowA .nil)) (internal_strconv_formatBits_l4_ok h ?_ (fun s hs => hs))
    · intro u_3 a_3 i_3 h _ hw1
      refine Sv.weak hw1 ?_
      refine Sv.seq ?_
      refine Sv.region ?_
      refine un (a1 rfl ?_)
      refine un (a1 (v := (I (wi (i_3 - 1)))) rfl ?_)
      refine un (a1 rfl ?_)
      refine dnil ?_
      refine Sv.region ?_
      refine un (a1 rfl ?_)
      refine un (a1 rfl ?_)
      obtain ⟨c_1, hx5, h⟩ := bnd h
      refine un (a1 (v := (.c (.val (.int .u8 (c_1.toNat : Int))))) (s_idxS rfl rfl hx5) ?_)
      obtain ⟨ix2, hx6, h⟩ := bnd h
      refine un (a1 (v := (.c (.ref 0 65 0 ix2))) (s_idxArr rfl rfl hx6) ?_)
      obtain ⟨arr2, hr6, h⟩ := bnd h
      refine un (a2n (h' := upd _ 0 (some (.cells 65 [rowA .u8 arr2]))) (n' := 1) rfl (s_storeArr (l := a_3) rfl rfl rfl hr6) (fun h => by cases h) ?_)
      refine dnil ?_
      exact Sv.weak (weak_canon [0] rfl (by decide) (by decide) (fun b h => absurd h (Nat.not_lt_zero _)) (.cons rfl (avAs_free rfl) (.cons rfl (.c (.ref rfl (by decide))) (.cons rfl (avAs_free rfl) (.cons rfl (avAs_free rfl) (.cons rfl (avAs_free rfl) (.cons rfl (avAs_free rfl) (.cons rfl (avAs_free rfl) .nil))))))) (.box (by decide) rfl blkAs_rowA .nil)) (internal_strconv_formatBits_j2_ok h)
  · replace h := ifF hc6 h
    refine Sv.seq ?_
    refine Sv.region ?_
    refine un (a1 rfl ?_)
    refine un (a1 (v := (.c (.val (.int .u64 (wr .u64 base))))) rfl ?_)
    refine un (a1 rfl ?_)
    refine dnil ?_
    refine Sv.seq ?_
    refine Sv.block ?_
    obtain ⟨kk1, h⟩ := lim_some h
    refine Sv.weak (weak_canon [0] rfl (by decide) (by decide) (fun b h => absurd h (Nat.not_lt_zero _)) (.cons rfl (avAs_free rfl) (.cons rfl (avAs_free rfl) (.cons rfl (.c (.ref rfl (by decide))) (.cons rfl (avAs_free rfl) (.cons rfl (avAs_free rfl) (.cons rfl (avAs_free rfl) (.cons rfl (avAs_free rfl) (.cons rfl (avAs_free rfl) (.cons rfl (avAs_free rfl) .nil))))))))) (.box (by decide) rfl blkAs_rowA .nil)) (internal_strconv_formatBits_l5_ok h ?_ (fun s hs => hs))
    · intro u_5 a_5 i_5 h _ hw2
      refine Sv.weak hw2 ?_
      refine Sv.seq ?_
      refine Sv.region ?_
      refine un (a1 rfl ?_)
      refine un (a1 (v := (I (wi (i_5 - 1)))) rfl ?_)
      refine un (a1 rfl ?_)
      refine dnil ?_
      refine Sv.region ?_
      refine un (a1 rfl ?_)
      refine un (a1 rfl ?_)
      obtain ⟨c_3, hx10, h⟩ := bnd h
      refine un (a1 (v := (.c (.val (.int .u8 (c_3.toNat : Int))))) (s_idxS rfl rfl hx10) ?_)
      obtain ⟨ix4, hx11, h⟩ := bnd h
      refine un (a1 (v := (.c (.ref 0 65 0 ix4))) (s_idxArr rfl rfl hx11) ?_)
      obtain ⟨arr4, hr8, h⟩ := bnd h
      refine un (a2n (h' := upd _ 0 (some (.cells 65 [rowA .u8 arr4]))) (n' := 1) rfl (s_storeArr (l := a_5) rfl rfl rfl hr8) (fun h => by cases h) ?_)
      refine dnil ?_
      exact Sv.weak (weak_canon [0] rfl (by decide) (by decide) (fun b h => absurd h (Nat.not_lt_zero _)) (.cons rfl (avAs_free rfl) (.cons rfl (.c (.ref rfl (by decide))) (.cons rfl (avAs_free rfl) (.cons rfl (avAs_free rfl) (.cons rfl (avAs_free rfl) (.cons rfl (avAs_free rfl) (.cons rfl (avAs_free rfl) .nil))))))) (.box (by decide) rfl blkAs_rowA .nil)) (internal_strconv_formatBits_j2_ok h)
/-- internal/strconv.formatBits -/
noncomputable def internal_strconv_formatBits (dst : (List Int)) (u_ : Int) (base : Int) (neg : Bool) (append_ : Bool) : Option ((List Int) × (List UInt8)) :=
  if (((decide (base < 2)) || (decide (base = 10))) || (decide (36 < base))) then
    none
  else
    if neg then
      internal_strconv_formatBits_j1 base dst neg append_ (wr .u64 (0 - u_))
    else
      internal_strconv_formatBits_j1 base dst neg append_ u_
theorem internal_strconv_formatBits_ok {mL : Int} {dst : (List Int)} {u_ : Int} {base : Int} {neg : Bool} {append_ : Bool} {r : ((List Int) × (List UInt8))} (h : internal_strconv_formatBits dst u_ base neg append_ = some r) : CPure Tryd.prog (GG mL) 91 [(.c (.ro false 1 (dst.map (eK .u8)))), (.c (.val (.int .u64 u_))), (I base), (B neg), (B append_)] (.tup [(.c (.ro false 1 (r.1.map (eK .u8)))), (S r.2)]) := by
  refine acalls_of_sv hmix c91 (R := internal_strconv_formatBits_post r) ?_
  unfold internal_strconv_formatBits at h
  refine Sv.seq ?_
  refine Sv.region ?_
  refine un (a1 rfl ?_)
  refine un (a1 rfl ?_)
  refine dnil ?_
  refine Sv.seq ?_
  refine Sv.seq ?_
  refine Sv.region ?_
  refine un (a1 rfl ?_)
  refine un (a1 (v := (B (decide (base < 2)))) rfl ?_)
  refine un (a1 rfl ?_)
  refine gjoin 3 (d := 24) (v := (B ((decide (base < 2)) || (decide (base = 10))))) (fun X hX => ?_) ?_
  · refine split2 (fun hc1 => ?_) (fun hc1 => ?_)
    · refine gs rfl rfl ?_
      refine gs rfl rfl ?_
      refine un (a1 (v := (B true)) rfl ?_)
      refine dnil ?_
      exact hX _ (.putEq (by rw [hc1]; rfl) (.skip _ _ (.skip _ _ (.putEq (by rw [hc1]) (.refl _)) rfl) rfl))
    · refine gt rfl (a1 rfl ?_)
      refine gt rfl (a1 (v := (B (decide (base = 10)))) rfl ?_)
      refine un (a1 (v := (B (decide (base = 10)))) rfl ?_)
      refine dnil ?_
      exact hX _ (.putEq (by rw [hc1]; rfl) (.skip _ _ (.skip _ _ (.putEq (by rw [hc1]) (.refl _)) rfl) rfl))
  refine un (a1 rfl ?_)
  refine gjoin 3 (d := 28) (v := (B (((decide (base < 2)) || (decide (base = 10))) || (decide (36 < base))))) (fun X hX => ?_) ?_
  · refine split2 (fun hc2 => ?_) (fun hc2 => ?_)
    · refine gs rfl rfl ?_
      refine gs rfl rfl ?_
      refine un (a1 (v := (B true)) rfl ?_)
      refine dnil ?_
      exact hX _ (.putEq (by rw [hc2]; rfl) (.skip _ _ (.skip _ _ (.putEq (by rw [hc2]) (.refl _)) rfl) rfl))
    · refine gt rfl (a1 rfl ?_)
      refine gt rfl (a1 (v := (B (decide (36 < base)))) rfl ?_)
      refine un (a1 (v := (B (decide (36 < base)))) rfl ?_)
      refine dnil ?_
      exact hX _ (.putEq (by rw [hc2]; rfl) (.skip _ _ (.skip _ _ (.putEq (by rw [hc2]) (.refl _)) rfl) rfl))
  refine dnil ?_
  refine Sv.cond (b := (((decide (base < 2)) || (decide (base = 10))) || (decide (36 < base)))) rfl (fun hc3 => ?_) (fun hc3 => ?_)
  · replace h := ifT hc3 h
    refine Sv.region ?_
    refine un (a1 (v := (.c (.opq))) rfl ?_)
    cases h
  · replace h := ifF hc3 h
    refine Sv.skip ?_
    refine Sv.seq ?_
    refine Sv.region ?_
    refine un (a2v (v := (.c (.ref 0 65 0 0))) (h' := upd _ 0 (some (.cells 65 [rowA .u8 (List.replicate 65 0)]))) (n' := 1) rfl rfl (fun h => by cases h) ?_)
    refine dnil ?_
    refine Sv.seq ?_
    refine Sv.region ?_
    refine un (a1 rfl ?_)
    refine dnil ?_
    refine Sv.seq ?_
    refine Sv.seq ?_
    refine Sv.region ?_
    refine un (a1 rfl ?_)
    refine dnil ?_
    refine Sv.cond (b := neg) rfl (fun hc9 => ?_) (fun hc9 => ?_)
    · replace h := ifT hc9 h
      refine Sv.region ?_
      refine un (a1 rfl ?_)
      refine un (a1 (v := (.c (.val (.int .u64 (wr .u64 (0 - u_)))))) rfl ?_)
      refine un (a1 rfl ?_)
      refine dnil ?_
      exact Sv.weak (weak_canon [0] rfl (by decide) (by decide) (fun b h => absurd h (Nat.not_lt_zero _)) (.cons rfl (avAs_free rfl) (.cons rfl (.c (.ref rfl (by decide))) (.cons rfl (avAs_free rfl) (.cons rfl (avAs_free rfl) (.cons rfl (avAs_free rfl) (.cons rfl (avAs_free rfl) (.cons rfl (avAs_free rfl) (.cons rfl (avAs_free rfl) (.cons rfl (avAs_free rfl) .nil))))))))) (.box (by decide) rfl blkAs_rowA .nil)) (internal_strconv_formatBits_j1_ok h)
    · replace h := ifF hc9 h
      refine Sv.skip ?_
      exact Sv.weak (weak_canon [0] rfl (by decide) (by decide) (fun b h => absurd h (Nat.not_lt_zero _)) (.cons rfl (avAs_free rfl) (.cons rfl (.c (.ref rfl (by decide))) (.cons rfl (avAs_free rfl) (.cons rfl (avAs_free rfl) (.cons rfl (avAs_free rfl) (.cons rfl (avAs_free rfl) (.cons rfl (avAs_free rfl) (.cons rfl (avAs_free rfl) (.cons rfl (avAs_free rfl) .nil))))))))) (.box (by decide) rfl blkAs_rowA .nil)) (internal_strconv_formatBits_j1_ok h)
def a66 : AFunc := ⟨2, [(.tmp 4)], (.seq (.region [⟨(some 4), (.mov (.const (.c (.str [])))), none⟩])
 (.seq (.seq (.region [⟨(some 9), (.mov (.tmp 1)), none⟩, ⟨(some 10), (.bin .eql (.tmp 9) (.const (.c (.val (.int .i64 10))))), none⟩])
 (.cond (.tmp 10) (.seq (.seq (.region [⟨(some 11), (.mov (.tmp 0)), none⟩, ⟨(some 12), (.bin .lss (.tmp 11) (.const (.c (.val (.int .u64 100))))), none⟩])
 (.cond (.tmp 12) (.seq (.region [⟨(some 13), (.mov (.tmp 0)), none⟩, ⟨(some 14), (.conv .i64 (.tmp 13)), none⟩, ⟨(some 15), (.call 88 [(.tmp 14)]), none⟩, ⟨(some 4), (.mov (.tmp 15)), none⟩])
 .ret) .skip))
 (.seq (.region [⟨(some 5), (.box (.const (.agg [(.val (.int .u8 0)), (.val (.int .u8 0)), (.val (.int .u8 0)), (.val (.int .u8 0)), (.val (.int .u8 0)), (.val (.int .u8 0)), (.val (.int .u8 0)), (.val (.int .u8 0)), (.val (.int .u8 0)), (.val (.int .u8 0)), (.val (.int .u8 0)), (.val (.int .u8 0)), (.val (.int .u8 0)), (.val (.int .u8 0)), (.val (.int .u8 0)), (.val (.int .u8 0)), (.val (.int .u8 0)), (.val (.int .u8 0)), (.val (.int .u8 0)), (.val (.int .u8 0)), (.val (.int .u8 0)), (.val (.int .u8 0)), (.val (.int .u8 0)), (.val (.int .u8 0))]))), none⟩])
 (.seq (.region [⟨(some 16), (.mov (.tmp 0)), none⟩, ⟨(some 17), (.call 89 [(.tmp 16)]), none⟩, ⟨(some 6), (.mov (.tmp 17)), none⟩])
 (.seq (.region [⟨(some 18), (.mov (.tmp 6)), none⟩, ⟨(some 19), (.slArr 24 1 (.tmp 5) none (some (.tmp 18))), none⟩, ⟨(some 20), (.mov (.tmp 0)), none⟩, ⟨(some 21), (.call 90 [(.tmp 19), (.tmp 20)]), none⟩])
 (.seq (.region [⟨(some 22), (.mov (.tmp 6)), none⟩, ⟨(some 23), (.slArr 24 1 (.tmp 5) none (some (.tmp 22))), none⟩, ⟨(some 24), (.ofBytes (.tmp 23)), none⟩, ⟨(some 4), (.mov (.tmp 24)), none⟩])
 .ret))))) .skip))
 (.seq (.region [⟨(some 26), (.mov (.tmp 0)), none⟩, ⟨(some 27), (.mov (.tmp 1)), none⟩, ⟨(some 28), (.call 91 [(.const (.c (.ro true 1 []))), (.tmp 26), (.tmp 27), (.const (.c (.val (.bool false)))), (.const (.c (.val (.bool false))))]), none⟩, ⟨(some 25), (.mov (.tmp 28)), none⟩, ⟨(some 29), (.ext (.tmp 25) 0), none⟩, ⟨(some 30), (.ext (.tmp 25) 1), none⟩, ⟨(some 7), (.mov (.tmp 29)), none⟩, ⟨(some 8), (.mov (.tmp 30)), none⟩])
 (.seq (.region [⟨(some 31), (.mov (.tmp 8)), none⟩, ⟨(some 4), (.mov (.tmp 31)), none⟩])
 .ret))))⟩
set_option maxRecDepth 100000 in
theorem c66 : compFunc Tryd.prog 66 = some a66 := by kernel_rfl
def internal_strconv_FormatUint_post (r : (List UInt8)) : AV → Heap → Nat → Prop := fun v h' n' => v = (S r) ∧ (h' = (fun _ => none)) ∧ n' = 0
/-- internal/strconv.FormatUint -/
noncomputable def internal_strconv_FormatUint (i_ : Int) (base : Int) : Option (List UInt8) :=
  if decide (base = 10) then
    if decide (i_ < 100) then
      (internal_strconv_small (wr .i64 i_)).bind fun r_ =>
      some r_
    else
      (internal_strconv_numDigits i_).bind fun r_1 =>
      (cutA? 24 (List.replicate 24 0) 0 r_1).bind fun r_2 =>
      none
  else
    (internal_strconv_formatBits ([] : List Int) i_ base false false).bind fun r_3 =>
    some r_3.2
theorem internal_strconv_FormatUint_ok {mL : Int} {i_ : Int} {base : Int} {r : (List UInt8)} (h : internal_strconv_FormatUint i_ base = some r) : CPure Tryd.prog (GG mL) 66 [(.c (.val (.int .u64 i_))), (I base)] (S r) := by
  refine acalls_of_sv hmix c66 (R := internal_strconv_FormatUint_post r) ?_
  unfold internal_strconv_FormatUint at h
  refine Sv.seq ?_
  refine Sv.region ?_
  refine un (a1 rfl ?_)
  refine dnil ?_
  refine Sv.seq ?_
  refine Sv.seq ?_
  refine Sv.region ?_
  refine un (a1 rfl ?_)
  refine un (a1 (v := (B (decide (base = 10)))) rfl ?_)
  refine dnil ?_
  refine Sv.cond (b := decide (base = 10)) rfl (fun hc1 => ?_) (fun hc1 => ?_)
  · replace h := ifT hc1 h
    refine Sv.seq ?_
    refine Sv.seq ?_
    refine Sv.region ?_
    refine un (a1 rfl ?_)
    refine un (a1 (v := (B (decide (i_ < 100)))) rfl ?_)
    refine dnil ?_
    refine Sv.cond (b := decide (i_ < 100)) rfl (fun hc2 => ?_) (fun hc2 => ?_)
    · replace h := ifT hc2 h
      refine Sv.seq ?_
      refine Sv.region ?_
      refine un (a1 rfl ?_)
      refine un (a1 (v := (I (wr .i64 i_))) rfl ?_)
      obtain ⟨r_, hr1, h⟩ := bnd h
      refine un (ac_pure (internal_strconv_small_ok hr1) rfl rfl rfl ?_)
      refine un (a1 rfl ?_)
      refine dnil ?_
      refine Sv.ret ?_
      replace h := Option.some.inj h
      subst h
      exact ⟨_, .refl _, _, rfl, ⟨upd (fun _ => none) 0 (some (S r_)), (fun _ => none), 0⟩, (S r_), weak_canon [] rfl List.nodup_nil (Nat.le_refl _) (fun b h => absurd h (Nat.not_lt_zero _)) (.cons rfl (avAs_free rfl) .nil) .nil, rfl, rfl, rfl, rfl⟩
    · replace h := ifF hc2 h
      refine Sv.skip ?_
      refine Sv.seq ?_
      refine Sv.region ?_
      refine un (a2v (v := (.c (.ref 0 24 0 0))) (h' := upd _ 0 (some (.cells 24 [rowA .u8 (List.replicate 24 0)]))) (n' := 1) rfl rfl (fun h => by cases h) ?_)
      refine dnil ?_
      refine Sv.seq ?_
      refine Sv.region ?_
      refine un (a1 rfl ?_)
      obtain ⟨r_1, hr2, h⟩ := bnd h
      refine un (ac_pure (internal_strconv_numDigits_ok hr2) rfl rfl rfl ?_)
      refine un (a1 rfl ?_)
      refine dnil ?_
      refine Sv.seq ?_
      refine Sv.region ?_
      refine un (a1 rfl ?_)
      obtain ⟨r_2, hr3, h⟩ := bnd h
      refine un (a2v (v := (.c (.own 1 1 (0 : Int).toNat r_2.length (24 - (0 : Int).toNat)))) (h' := upd (upd _ 0 none) 1 (some (.cells 1 ((rowA .u8 (List.replicate 24 0)).map fun c => [c])))) (n' := 2) rfl (s_slArr (l := List.replicate 24 0) (a1 := 0) (b1 := r_1) rfl rfl rfl rfl hr3) (fun h => by cases h) ?_)
      refine un (a1 rfl ?_)
      cases h
  · replace h := ifF hc1 h
    refine Sv.skip ?_
    refine Sv.seq ?_
    refine Sv.region ?_
    refine un (a1 rfl ?_)
    refine un (a1 rfl ?_)
    obtain ⟨r_3, hr4, h⟩ := bnd h
    refine un (ac_lend (h2 := _) (internal_strconv_formatBits_ok hr4) rfl (.cons (.c .nil) (.cons (avAs_free rfl) (.cons (avAs_free rfl) (.cons (avAs_free rfl) (.cons (avAs_free rfl) .nil))))) (hsub_refl _) rfl rfl (.inl rfl) ?_)
    refine un (a1 rfl ?_)
    refine un (a1 (v := (.c (.ro false 1 (r_3.1.map (eK .u8))))) rfl ?_)
    refine un (a1 (v := (S r_3.2)) rfl ?_)
    refine un (a1 rfl ?_)
    refine un (a1 rfl ?_)
    refine dnil ?_
    refine Sv.seq ?_
    refine Sv.region ?_
    refine un (a1 rfl ?_)
    refine un (a1 rfl ?_)
    refine dnil ?_
    refine Sv.ret ?_
    replace h := Option.some.inj h
    subst h
    exact ⟨_, .refl _, _, rfl, ⟨upd (fun _ => none) 0 (some (S r_3.2)), (fun _ => none), 0⟩, (S r_3.2), weak_canon [] rfl List.nodup_nil (Nat.le_refl _) (fun b h => absurd h (Nat.not_lt_zero _)) (.cons rfl (avAs_free rfl) .nil) .nil, rfl, rfl, rfl, rfl⟩
def a45 : AFunc := ⟨2, [(.tmp 4)], (.seq (.region [⟨(some 4), (.mov (.const (.c (.str [])))), none⟩])
 (.seq (.region [⟨(some 5), (.mov (.tmp 0)), none⟩, ⟨(some 6), (.mov (.tmp 1)), none⟩, ⟨(some 7), (.call 66 [(.tmp 5), (.tmp 6)]), none⟩, ⟨(some 4), (.mov (.tmp 7)), none⟩])
 .ret))⟩
set_option maxRecDepth 100000 in
theorem c45 : compFunc Tryd.prog 45 = some a45 := by kernel_rfl
def strconv_FormatUint_post (r : (List UInt8)) : AV → Heap → Nat → Prop := fun v h' n' => v = (S r) ∧ (h' = (fun _ => none)) ∧ n' = 0
/-- strconv.FormatUint -/
noncomputable def strconv_FormatUint (i_ : Int) (base : Int) : Option (List UInt8) :=
  (internal_strconv_FormatUint i_ base).bind fun r_ =>
  some r_
theorem strconv_FormatUint_ok {mL : Int} {i_ : Int} {base : Int} {r : (List UInt8)} (h : strconv_FormatUint i_ base = some r) : CPure Tryd.prog (GG mL) 45 [(.c (.val (.int .u64 i_))), (I base)] (S r) := by
  refine acalls_of_sv hmix c45 (R := strconv_FormatUint_post r) ?_
  unfold strconv_FormatUint at h
  refine Sv.seq ?_
  refine Sv.region ?_
  refine un (a1 rfl ?_)
  refine dnil ?_
  refine Sv.seq ?_
  refine Sv.region ?_
  refine un (a1 rfl ?_)
  refine un (a1 rfl ?_)
  obtain ⟨r_, hr1, h⟩ := bnd h
  refine un (ac_pure (internal_strconv_FormatUint_ok hr1) rfl rfl rfl ?_)
  refine un (a1 rfl ?_)
  refine dnil ?_
  refine Sv.ret ?_
  replace h := Option.some.inj h
  subst h
  exact ⟨_, .refl _, _, rfl, ⟨upd (fun _ => none) 0 (some (S r_)), (fun _ => none), 0⟩, (S r_), weak_canon [] rfl List.nodup_nil (Nat.le_refl _) (fun b h => absurd h (Nat.not_lt_zero _)) (.cons rfl (avAs_free rfl) .nil) .nil, rfl, rfl, rfl, rfl⟩
def a46 : AFunc := ⟨1, [(.tmp 2)], (.seq (.region [⟨(some 2), (.mov (.const (.c (.str [])))), none⟩])
 (.seq (.seq (.region [⟨(some 3), (.mov (.tmp 0)), none⟩, ⟨(some 4), (.bin .eql (.tmp 3) (.const (.c (.str [102, 102])))), none⟩])
 (.cond (.tmp 4) (.seq (.region [⟨(some 2), (.mov (.const (.c (.str [])))), none⟩])
 .ret) .skip))
 (.seq (.region [⟨(some 5), (.mov (.tmp 0)), none⟩, ⟨(some 2), (.mov (.tmp 5)), none⟩])
 .ret)))⟩
set_option maxRecDepth 100000 in
theorem c46 : compFunc Tryd.prog 46 = some a46 := by kernel_rfl
def color_tail_post (r : (List UInt8)) : AV → Heap → Nat → Prop := fun v h' n' => v = (S r) ∧ (h' = (fun _ => none)) ∧ n' = 0
/-- clerestory/color.tail -/
def color_tail (s_ : (List UInt8)) : (List UInt8) :=
  if decide (s_ = [102, 102]) then
    []
  else
    s_
theorem color_tail_ok {mL : Int} (s_ : (List UInt8)) : CPure Tryd.prog (GG mL) 46 [(S s_)] (S (color_tail s_)) := by
  generalize h : color_tail s_ = o
  refine acalls_of_sv hmix c46 (R := color_tail_post o) ?_
  unfold color_tail at h
  refine Sv.seq ?_
  refine Sv.region ?_
  refine un (a1 rfl ?_)
  refine dnil ?_
  refine Sv.seq ?_
  refine Sv.seq ?_
  refine Sv.region ?_
  refine un (a1 rfl ?_)
  refine un (a1 (v := (B (decide (s_ = [102, 102])))) rfl ?_)
  refine dnil ?_
  refine Sv.cond (b := decide (s_ = [102, 102])) rfl (fun hc1 => ?_) (fun hc1 => ?_)
  · replace h := ifT hc1 h
    refine Sv.seq ?_
    refine Sv.region ?_
    refine un (a1 rfl ?_)
    refine dnil ?_
    refine Sv.ret ?_
    subst h
    exact ⟨_, .refl _, _, rfl, ⟨upd (fun _ => none) 0 (some (S [])), (fun _ => none), 0⟩, (S []), weak_canon [] rfl List.nodup_nil (Nat.le_refl _) (fun b h => absurd h (Nat.not_lt_zero _)) (.cons rfl (avAs_free rfl) .nil) .nil, rfl, rfl, rfl, rfl⟩
  · replace h := ifF hc1 h
    refine Sv.skip ?_
    refine Sv.seq ?_
    refine Sv.region ?_
    refine un (a1 rfl ?_)
    refine un (a1 rfl ?_)
    refine dnil ?_
    refine Sv.ret ?_
    subst h
    exact ⟨_, .refl _, _, rfl, ⟨upd (fun _ => none) 0 (some (S s_)), (fun _ => none), 0⟩, (S s_), weak_canon [] rfl List.nodup_nil (Nat.le_refl _) (fun b h => absurd h (Nat.not_lt_zero _)) (.cons rfl (avAs_free rfl) .nil) .nil, rfl, rfl, rfl, rfl⟩
def a19 : AFunc := ⟨1, [(.tmp 2)], (.seq (.region [⟨(some 2), (.mov (.const (.c (.str [])))), none⟩])
 (.seq (.region [⟨(some 4), (.mov (.tmp 0)), none⟩, ⟨(some 5), (.conv .u32 (.tmp 4)), none⟩, ⟨(some 6), (.conv .u64 (.tmp 5)), none⟩, ⟨(some 7), (.bin .add (.tmp 6) (.const (.c (.val (.int .u64 4294967296))))), none⟩, ⟨(some 8), (.call 45 [(.tmp 7), (.const (.c (.val (.int .i64 16))))]), none⟩, ⟨(some 9), (.slStr (.tmp 8) (some (.const (.c (.val (.int .i64 1))))) none), none⟩, ⟨(some 3), (.mov (.tmp 9)), none⟩])
 (.seq (.drawn (.fin [(⟨(some 10), (.mov (.tmp 3)), none⟩, (0, 0)), (⟨(some 11), (.slStr (.tmp 10) none (some (.const (.c (.val (.int .i64 6)))))), none⟩, (0, 1)), (⟨(some 12), (.bin .add (.const (.c (.str [35]))) (.tmp 11)), none⟩, (0, 2)), (⟨(some 13), (.mov (.tmp 3)), none⟩, (0, 3)), (⟨(some 14), (.slStr (.tmp 13) (some (.const (.c (.val (.int .i64 6))))) none), none⟩, (0, 4)), (⟨(some 15), (.call 46 [(.tmp 14)]), none⟩, (2, 5)), (⟨(some 16), (.bin .add (.tmp 12) (.tmp 15)), none⟩, (0, 6)), (⟨(some 2), (.mov (.tmp 16)), none⟩, (0, 7))]))
 .ret)))⟩
set_option maxRecDepth 100000 in
theorem c19 : compFunc Tryd.prog 19 = some a19 := by kernel_rfl
def color_Text_post (r : (List UInt8)) : AV → Heap → Nat → Prop := fun v h' n' => v = (S r) ∧ (h' = (fun _ => none)) ∧ n' = 0
/-- clerestory/color.Text -/
noncomputable def color_Text (c_ : Int) : Option (List UInt8) :=
  (strconv_FormatUint (wr .u64 ((wr .u64 (wr .u32 c_)) + 4294967296)) 16).bind fun r_ =>
  (sub? r_ 1 (r_.length : Int)).bind fun r_1 =>
  (sub? r_1 0 6).bind fun r_2 =>
  (cat? [35] r_2).bind fun r_3 =>
  (sub? r_1 6 (r_1.length : Int)).bind fun r_4 =>
  (cat? r_3 (color_tail r_4)).bind fun r_5 =>
  some r_5
theorem color_Text_ok {mL : Int} {c_ : Int} {r : (List UInt8)} (h : color_Text c_ = some r) : CPure Tryd.prog (GG mL) 19 [(I c_)] (S r) := by
  refine acalls_of_sv hmix c19 (R := color_Text_post r) ?_
  unfold color_Text at h
  refine Sv.seq ?_
  refine Sv.region ?_
  refine un (a1 rfl ?_)
  refine dnil ?_
  refine Sv.seq ?_
  refine Sv.region ?_
  refine un (a1 rfl ?_)
  refine un (a1 (v := (.c (.val (.int .u32 (wr .u32 c_))))) rfl ?_)
  refine un (a1 (v := (.c (.val (.int .u64 (wr .u64 (wr .u32 c_)))))) rfl ?_)
  refine un (a1 (v := (.c (.val (.int .u64 (wr .u64 ((wr .u64 (wr .u32 c_)) + 4294967296)))))) rfl ?_)
  obtain ⟨r_, hr1, h⟩ := bnd h
  refine un (ac_pure (strconv_FormatUint_ok hr1) rfl rfl rfl ?_)
  obtain ⟨r_1, hx1, h⟩ := bnd h
  refine un (a1 (v := (S r_1)) (s_slStr rfl rfl rfl hx1) ?_)
  refine un (a1 rfl ?_)
  refine dnil ?_
  refine Sv.seq ?_
  refine Sv.drawn ?_
  refine un (a1 rfl ?_)
  obtain ⟨r_2, hx2, h⟩ := bnd h
  refine un (a1 (v := (S r_2)) (s_slStr rfl rfl rfl hx2) ?_)
  obtain ⟨r_3, hx3, h⟩ := bnd h
  refine un (a1 (v := (S r_3)) (s_cat rfl rfl hx3) ?_)
  refine un (a1 rfl ?_)
  obtain ⟨r_4, hx4, h⟩ := bnd h
  refine un (a1 (v := (S r_4)) (s_slStr rfl rfl rfl hx4) ?_)
  refine un (ac_pure (color_tail_ok (mL := mL) r_4) rfl rfl rfl ?_)
  obtain ⟨r_5, hx5, h⟩ := bnd h
  refine un (a1 (v := (S r_5)) (s_cat rfl rfl hx5) ?_)
  refine un (a1 rfl ?_)
  refine dnil ?_
  refine Sv.ret ?_
  replace h := Option.some.inj h
  subst h
  exact ⟨_, .refl _, _, rfl, ⟨upd (fun _ => none) 0 (some (S r_5)), (fun _ => none), 0⟩, (S r_5), weak_canon [] rfl List.nodup_nil (Nat.le_refl _) (fun b h => absurd h (Nat.not_lt_zero _)) (.cons rfl (avAs_free rfl) .nil) .nil, rfl, rfl, rfl, rfl⟩
def a15 : AFunc := ⟨2, [(.tmp 4)], (.seq (.region [⟨(some 4), (.mov (.const (.c (.val (.int .i64 0))))), none⟩])
 (.seq (.region [⟨(some 5), (.mov (.tmp 0)), none⟩, ⟨(some 6), (.conv .u32 (.tmp 5)), none⟩, ⟨(some 7), (.mov (.tmp 1)), none⟩, ⟨(some 8), (.bin .mul (.const (.c (.val (.int .i64 8)))) (.tmp 7)), none⟩, ⟨(some 9), (.conv .u64 (.tmp 8)), none⟩, ⟨(some 10), (.bin .shr (.tmp 6) (.tmp 9)), none⟩, ⟨(some 11), (.conv .i64 (.tmp 10)), none⟩, ⟨(some 12), (.bin .rem (.tmp 11) (.const (.c (.val (.int .i64 256))))), none⟩, ⟨(some 4), (.mov (.tmp 12)), none⟩])
 .ret))⟩
set_option maxRecDepth 100000 in
theorem c15 : compFunc Tryd.prog 15 = some a15 := by kernel_rfl
def clerestoryref2_Byte_post (r : Int) : AV → Heap → Nat → Prop := fun v h' n' => v = (I r) ∧ (h' = (fun _ => none)) ∧ n' = 0
/-- clerestory/clerestoryref2.Byte -/
noncomputable def clerestoryref2_Byte (c_ : Int) (i_ : Int) : Option Int :=
  (shr? .u32 (wr .u32 c_) (wr .u64 (wi (8 * i_)))).bind fun r_ =>
  some ((wr .i64 r_).tmod 256)
theorem clerestoryref2_Byte_ok {mL : Int} {c_ : Int} {i_ : Int} {r : Int} (h : clerestoryref2_Byte c_ i_ = some r) : CPure Tryd.prog (GG mL) 15 [(I c_), (I i_)] (I r) := by
  refine acalls_of_sv hmix c15 (R := clerestoryref2_Byte_post r) ?_
  unfold clerestoryref2_Byte at h
  refine Sv.seq ?_
  refine Sv.region ?_
  refine un (a1 rfl ?_)
  refine dnil ?_
  refine Sv.seq ?_
  refine Sv.region ?_
  refine un (a1 rfl ?_)
  refine un (a1 (v := (.c (.val (.int .u32 (wr .u32 c_))))) rfl ?_)
  refine un (a1 rfl ?_)
  refine un (a1 (v := (I (wi (8 * i_)))) rfl ?_)
  refine un (a1 (v := (.c (.val (.int .u64 (wr .u64 (wi (8 * i_))))))) rfl ?_)
  obtain ⟨r_, hx1, h⟩ := bnd h
  refine un (a1 (v := (.c (.val (.int .u32 r_)))) (s_shr rfl rfl hx1) ?_)
  refine un (a1 (v := (I (wr .i64 r_))) rfl ?_)
  refine un (a1 (v := (I ((wr .i64 r_).tmod 256))) rfl ?_)
  refine un (a1 rfl ?_)
  refine dnil ?_
  refine Sv.ret ?_
  replace h := Option.some.inj h
  subst h
  exact ⟨_, .refl _, _, rfl, ⟨upd (fun _ => none) 0 (some (I ((wr .i64 r_).tmod 256))), (fun _ => none), 0⟩, (I ((wr .i64 r_).tmod 256)), weak_canon [] rfl List.nodup_nil (Nat.le_refl _) (fun b h => absurd h (Nat.not_lt_zero _)) (.cons rfl (avAs_free rfl) .nil) .nil, rfl, rfl, rfl, rfl⟩
def a20_c0 : ACode := (.region [⟨(some 8), (.mov (.tmp 4)), none⟩, ⟨(some 9), (.bin .sub (.tmp 8) (.const (.c (.val (.int .i64 1))))), none⟩, ⟨(some 4), (.mov (.tmp 9)), none⟩])
def a20_c1 : ACode := (.seq (.seq (.region [⟨(some 6), (.mov (.tmp 4)), none⟩, ⟨(some 7), (.bin .geq (.tmp 6) (.const (.c (.val (.int .i64 0))))), none⟩])
 (.cond (.tmp 7) .skip (.exit 0)))
 (.seq (.block 1 (.seq (.region [⟨(some 10), (.mov (.tmp 0)), none⟩, ⟨(some 11), (.mov (.tmp 4)), none⟩, ⟨(some 12), (.call 15 [(.tmp 10), (.tmp 11)]), none⟩, ⟨(some 5), (.mov (.tmp 12)), none⟩])
 (.seq (.region [⟨(some 13), (.mov (.tmp 4)), none⟩, ⟨(some 14), (.bin .gtr (.tmp 13) (.const (.c (.val (.int .i64 0))))), none⟩, ⟨(some 15), (.mov (.tmp 14)), none⟩, ⟨(some 16), (.mov (.tmp 5)), (some (15, false))⟩, ⟨(some 17), (.bin .lss (.tmp 16) (.const (.c (.val (.int .i64 255))))), (some (15, false))⟩, ⟨(some 18), (.pick (.tmp 15) (.const (.c (.val (.bool true)))) (.tmp 17)), none⟩])
 (.cond (.tmp 18) (.drawn (.fin [(⟨(some 19), (.mov (.tmp 3)), none⟩, (0, 0)), (⟨(some 20), (.mov (.tmp 5)), none⟩, (0, 1)), (⟨(some 21), (.bin .quo (.tmp 20) (.const (.c (.val (.int .i64 16))))), none⟩, (0, 2)), (⟨(some 22), (.mov (.tmp 5)), none⟩, (0, 3)), (⟨(some 23), (.bin .quo (.tmp 22) (.const (.c (.val (.int .i64 16))))), none⟩, (0, 4)), (⟨(some 24), (.bin .add (.tmp 23) (.const (.c (.val (.int .i64 1))))), none⟩, (0, 5)), (⟨(some 25), (.slStr (.const (.c (.str [48, 49, 50, 51, 52, 53, 54, 55, 56, 57, 97, 98, 99, 100, 101, 102]))) (some (.tmp 21)) (some (.tmp 24))), none⟩, (0, 6)), (⟨(some 26), (.bin .add (.tmp 19) (.tmp 25)), none⟩, (0, 7)), (⟨(some 27), (.mov (.tmp 5)), none⟩, (0, 8)), (⟨(some 28), (.bin .rem (.tmp 27) (.const (.c (.val (.int .i64 16))))), none⟩, (0, 9)), (⟨(some 29), (.mov (.tmp 5)), none⟩, (0, 10)), (⟨(some 30), (.bin .rem (.tmp 29) (.const (.c (.val (.int .i64 16))))), none⟩, (0, 11)), (⟨(some 31), (.bin .add (.tmp 30) (.const (.c (.val (.int .i64 1))))), none⟩, (0, 12)), (⟨(some 32), (.slStr (.const (.c (.str [48, 49, 50, 51, 52, 53, 54, 55, 56, 57, 97, 98, 99, 100, 101, 102]))) (some (.tmp 28)) (some (.tmp 31))), none⟩, (0, 13)), (⟨(some 33), (.bin .add (.tmp 26) (.tmp 32)), none⟩, (0, 14)), (⟨(some 3), (.mov (.tmp 33)), none⟩, (0, 15))])) .skip))))
 a20_c0))
def a20 : AFunc := ⟨1, [(.tmp 2)], (.seq (.region [⟨(some 2), (.mov (.const (.c (.str [])))), none⟩])
 (.seq (.region [⟨(some 3), (.mov (.const (.c (.str [35])))), none⟩])
 (.seq (.seq (.region [⟨(some 4), (.mov (.const (.c (.val (.int .i64 3))))), none⟩])
 (.block 0 (.loop a20_c1)))
 (.seq (.region [⟨(some 34), (.mov (.tmp 3)), none⟩, ⟨(some 2), (.mov (.tmp 34)), none⟩])
 .ret))))⟩
set_option maxRecDepth 100000 in
theorem c20 : compFunc Tryd.prog 20 = some a20 := by kernel_rfl
def clerestoryref2_ColorText_post (r : (List UInt8)) : AV → Heap → Nat → Prop := fun v h' n' => v = (S r) ∧ (h' = (fun _ => none)) ∧ n' = 0
noncomputable def clerestoryref2_ColorText_j3 (i_ : Int) (c_ : Int) (self : (List UInt8) → Int → Option (List UInt8)) (K0_ : (List UInt8) → Option (List UInt8)) (s_2 : (List UInt8)) : Option (List UInt8) :=
  self s_2 (wi (i_ - 1))
theorem clerestoryref2_ColorText_j3_ok {mL : Int} {Q : AExit → St → Prop} {i_ : Int} {c_ : Int} {self : (List UInt8) → Int → Option (List UInt8)} {K0_ : (List UInt8) → Option (List UInt8)} {s_2 : (List UInt8)} {o : (List UInt8)} (h : clerestoryref2_ColorText_j3 i_ c_ self K0_ s_2 = some o)
    (hself : ∀ (s_ : (List UInt8)) (i_ : Int), self s_ i_ = some o → ∀ s, Weak 0 s ⟨(upd (upd (upd (fun _ => none) 0 (some (I c_))) 3 (some (S s_))) 4 (some (I i_))), (fun _ => none), 0⟩ → (Q) .normal s)
    (hK0 : ∀ (s_1 : (List UInt8)), K0_ s_1 = some o → ∀ s, Weak 0 s ⟨(upd (fun _ => none) 3 (some (S s_1))), (fun _ => none), 0⟩ → Q (.exit 0) s)
    (hr : ∀ s, Ends a20.results 0 (clerestoryref2_ColorText_post o) .ret s → Q .ret s) :
    Sv Tryd.prog (GG mL) 0 a20_c0 Q ⟨(upd (upd (upd (fun _ => none) 0 (some (I c_))) 3 (some (S s_2))) 4 (some (I i_))), (fun _ => none), 0⟩ := by
  unfold clerestoryref2_ColorText_j3 at h
  refine Sv.region ?_
  refine un (a1 rfl ?_)
  refine un (a1 (v := (I (wi (i_ - 1)))) rfl ?_)
  refine un (a1 rfl ?_)
  refine dnil ?_
  exact hself s_2 (wi (i_ - 1)) h _ (weak_canon [] rfl (by decide) (by decide) (fun b h => absurd h (Nat.not_lt_zero _)) (.cons rfl (avAs_free rfl) (.cons rfl (avAs_free rfl) (.cons rfl (avAs_free rfl) .nil))) .nil)
noncomputable def clerestoryref2_ColorText_l0 (c_ : Int) (K0_ : (List UInt8) → Option (List UInt8)) : Nat → (List UInt8) → Int → Option (List UInt8)
  | 0, _, _ => none
  | k + 1, s_, i_ =>
    if decide (0 ≤ i_) then
      (clerestoryref2_Byte c_ i_).bind fun r_ =>
      if ((decide (0 < i_)) || (decide (r_ < 255))) then
        (sub? [48, 49, 50, 51, 52, 53, 54, 55, 56, 57, 97, 98, 99, 100, 101, 102] (wi (r_.tdiv 16)) (wi ((wi (r_.tdiv 16)) + 1))).bind fun r_1 =>
        (cat? s_ r_1).bind fun r_2 =>
        (sub? [48, 49, 50, 51, 52, 53, 54, 55, 56, 57, 97, 98, 99, 100, 101, 102] (r_.tmod 16) (wi ((r_.tmod 16) + 1))).bind fun r_3 =>
        (cat? r_2 r_3).bind fun r_4 =>
        clerestoryref2_ColorText_j3 i_ c_ (clerestoryref2_ColorText_l0 c_ K0_ k) K0_ r_4
      else
        clerestoryref2_ColorText_j3 i_ c_ (clerestoryref2_ColorText_l0 c_ K0_ k) K0_ s_
    else
      K0_ s_
theorem clerestoryref2_ColorText_l0_ok {mL : Int} {Q : AExit → St → Prop} {c_ : Int} {K0_ : (List UInt8) → Option (List UInt8)} {k : Nat} {s_ : (List UInt8)} {i_ : Int} {o : (List UInt8)} (h : clerestoryref2_ColorText_l0 c_ K0_ k s_ i_ = some o)
    (hK0 : ∀ (s_1 : (List UInt8)), K0_ s_1 = some o → ∀ s, Weak 0 s ⟨(upd (fun _ => none) 3 (some (S s_1))), (fun _ => none), 0⟩ → Q (.exit 0) s)
    (hr : ∀ s, Ends a20.results 0 (clerestoryref2_ColorText_post o) .ret s → Q .ret s) :
    Sv Tryd.prog (GG mL) 0 (.loop a20_c1) Q ⟨(upd (upd (upd (fun _ => none) 0 (some (I c_))) 3 (some (S s_))) 4 (some (I i_))), (fun _ => none), 0⟩ := by
  refine Sv.loop (I := fun k s => ∃ (s_ : (List UInt8)), ∃ (i_ : Int), clerestoryref2_ColorText_l0 c_ K0_ k s_ i_ = some o ∧ s = ⟨(upd (upd (upd (fun _ => none) 0 (some (I c_))) 3 (some (S s_))) 4 (some (I i_))), (fun _ => none), 0⟩) (fun k s hI => ?_) ⟨s_, i_, h, rfl⟩
  clear h
  clear i_ s_
  obtain ⟨s_, i_, h, rfl⟩ := hI
  cases k with
  | zero => cases h
  | succ k =>
  rw [clerestoryref2_ColorText_l0] at h
  have hself : ∀ (s_ : (List UInt8)) (i_ : Int), (clerestoryref2_ColorText_l0 c_ K0_ k) s_ i_ = some o → ∀ s, Weak 0 s ⟨(upd (upd (upd (fun _ => none) 0 (some (I c_))) 3 (some (S s_))) 4 (some (I i_))), (fun _ => none), 0⟩ → (AThen (fun s' => ∃ s'' k', Weak 0 s' s'' ∧ k' < k + 1 ∧ (fun k s => ∃ (s_ : (List UInt8)), ∃ (i_ : Int), clerestoryref2_ColorText_l0 c_ K0_ k s_ i_ = some o ∧ s = ⟨(upd (upd (upd (fun _ => none) 0 (some (I c_))) 3 (some (S s_))) 4 (some (I i_))), (fun _ => none), 0⟩) k' s'') Q) .normal s := fun s_ i_ h s hw => ⟨_, k, hw, Nat.lt_succ_self k, s_, i_, h, rfl⟩
  refine Sv.seq ?_
  refine Sv.seq ?_
  refine Sv.region ?_
  refine un (a1 rfl ?_)
  refine un (a1 (v := (B (decide (0 ≤ i_)))) rfl ?_)
  refine dnil ?_
  refine Sv.cond (b := decide (0 ≤ i_)) rfl (fun hc1 => ?_) (fun hc1 => ?_)
  · replace h := ifT hc1 h
    refine Sv.skip ?_
    refine Sv.seq ?_
    refine Sv.block ?_
    refine Sv.seq ?_
    refine Sv.region ?_
    refine un (a1 rfl ?_)
    refine un (a1 rfl ?_)
    obtain ⟨r_, hr1, h⟩ := bnd h
    refine un (ac_pure (clerestoryref2_Byte_ok hr1) rfl rfl rfl ?_)
    refine un (a1 rfl ?_)
    refine dnil ?_
    refine Sv.seq ?_
    refine Sv.region ?_
    refine un (a1 rfl ?_)
    refine un (a1 (v := (B (decide (0 < i_)))) rfl ?_)
    refine un (a1 rfl ?_)
    refine gjoin 3 (d := 18) (v := (B ((decide (0 < i_)) || (decide (r_ < 255))))) (fun X hX => ?_) ?_
    · refine split2 (fun hc2 => ?_) (fun hc2 => ?_)
      · refine gs rfl rfl ?_
        refine gs rfl rfl ?_
        refine un (a1 (v := (B true)) rfl ?_)
        refine dnil ?_
        exact hX _ (.putEq (by rw [hc2]; rfl) (.skip _ _ (.skip _ _ (.putEq (by rw [hc2]) (.refl _)) rfl) rfl))
      · refine gt rfl (a1 rfl ?_)
        refine gt rfl (a1 (v := (B (decide (r_ < 255)))) rfl ?_)
        refine un (a1 (v := (B (decide (r_ < 255)))) rfl ?_)
        refine dnil ?_
        exact hX _ (.putEq (by rw [hc2]; rfl) (.skip _ _ (.skip _ _ (.putEq (by rw [hc2]) (.refl _)) rfl) rfl))
    refine dnil ?_
    refine Sv.cond (b := ((decide (0 < i_)) || (decide (r_ < 255)))) rfl (fun hc3 => ?_) (fun hc3 => ?_)
    · replace h := ifT hc3 h
      refine Sv.drawn ?_
      refine un (a1 rfl ?_)
      refine un (a1 rfl ?_)
      refine un (a1 (v := (I (wi (r_.tdiv 16)))) rfl ?_)
      refine un (a1 rfl ?_)
      refine un (a1 (v := (I (wi (r_.tdiv 16)))) rfl ?_)
      refine un (a1 (v := (I (wi ((wi (r_.tdiv 16)) + 1)))) rfl ?_)
      obtain ⟨r_1, hx1, h⟩ := bnd h
      refine un (a1 (v := (S r_1)) (s_slStr rfl rfl rfl hx1) ?_)
      obtain ⟨r_2, hx2, h⟩ := bnd h
      refine un (a1 (v := (S r_2)) (s_cat rfl rfl hx2) ?_)
      refine un (a1 rfl ?_)
      refine un (a1 (v := (I (r_.tmod 16))) rfl ?_)
      refine un (a1 rfl ?_)
      refine un (a1 (v := (I (r_.tmod 16))) rfl ?_)
      refine un (a1 (v := (I (wi ((r_.tmod 16) + 1)))) rfl ?_)
      obtain ⟨r_3, hx3, h⟩ := bnd h
      refine un (a1 (v := (S r_3)) (s_slStr rfl rfl rfl hx3) ?_)
      obtain ⟨r_4, hx4, h⟩ := bnd h
      refine un (a1 (v := (S r_4)) (s_cat rfl rfl hx4) ?_)
      refine un (a1 rfl ?_)
      refine dnil ?_
      exact Sv.weak (weak_canon [] rfl (by decide) (by decide) (fun b h => absurd h (Nat.not_lt_zero _)) (.cons rfl (avAs_free rfl) (.cons rfl (avAs_free rfl) (.cons rfl (avAs_free rfl) .nil))) .nil) (clerestoryref2_ColorText_j3_ok h hself hK0 hr)
    · replace h := ifF hc3 h
      refine Sv.skip ?_
      exact Sv.weak (weak_canon [] rfl (by decide) (by decide) (fun b h => absurd h (Nat.not_lt_zero _)) (.cons rfl (avAs_free rfl) (.cons rfl (avAs_free rfl) (.cons rfl (avAs_free rfl) .nil))) .nil) (clerestoryref2_ColorText_j3_ok h hself hK0 hr)
  · replace h := ifF hc1 h
    refine Sv.exit ?_
    exact hK0 s_ h _ (weak_canon [] rfl (by decide) (by decide) (fun b h => absurd h (Nat.not_lt_zero _)) (.cons rfl (avAs_free rfl) .nil) .nil)
/-- clerestory/clerestoryref2.ColorText -/
noncomputable def clerestoryref2_ColorText (c_ : Int) : Option (List UInt8) :=
  lim fun kk => clerestoryref2_ColorText_l0 c_ (fun (s_1 : (List UInt8)) => 
      some s_1) kk [35] 3
theorem clerestoryref2_ColorText_ok {mL : Int} {c_ : Int} {r : (List UInt8)} (h : clerestoryref2_ColorText c_ = some r) : CPure Tryd.prog (GG mL) 20 [(I c_)] (S r) := by
  refine acalls_of_sv hmix c20 (R := clerestoryref2_ColorText_post r) ?_
  unfold clerestoryref2_ColorText at h
  refine Sv.seq ?_
  refine Sv.region ?_
  refine un (a1 rfl ?_)
  refine dnil ?_
  refine Sv.seq ?_
  refine Sv.region ?_
  refine un (a1 rfl ?_)
  refine dnil ?_
  refine Sv.seq ?_
  refine Sv.seq ?_
  refine Sv.region ?_
  refine un (a1 rfl ?_)
  refine dnil ?_
  refine Sv.block ?_
  obtain ⟨kk, h⟩ := lim_some h
  refine Sv.weak (weak_canon [] rfl (by decide) (by decide) (fun b h => absurd h (Nat.not_lt_zero _)) (.cons rfl (avAs_free rfl) (.cons rfl (avAs_free rfl) (.cons rfl (avAs_free rfl) .nil))) .nil) (clerestoryref2_ColorText_l0_ok h ?_ (fun s hs => hs))
  · intro s_1 h _ hw1
    refine Sv.weak hw1 ?_
    refine Sv.seq ?_
    refine Sv.region ?_
    refine un (a1 rfl ?_)
    refine un (a1 rfl ?_)
    refine dnil ?_
    refine Sv.ret ?_
    replace h := Option.some.inj h
    subst h
    exact ⟨_, .refl _, _, rfl, ⟨upd (fun _ => none) 0 (some (S s_1)), (fun _ => none), 0⟩, (S s_1), weak_canon [] rfl List.nodup_nil (Nat.le_refl _) (fun b h => absurd h (Nat.not_lt_zero _)) (.cons rfl (avAs_free rfl) .nil) .nil, rfl, rfl, rfl, rfl⟩
end Go.Proofs.YtmpdhpfimmahfaaDoorBv
