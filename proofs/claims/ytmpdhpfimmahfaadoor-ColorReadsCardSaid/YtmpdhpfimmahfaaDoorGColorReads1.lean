/- Printed by a program of mine (bgen.py): plain functions, and the walks that show that the code comes to what they answer. -/
import Derived.Test.YtmpdhpfimmahfaaDoorGColorReads0
namespace Go.Proofs.YtmpdhpfimmahfaaDoorBv
open Go
set_option linter.unusedVariables false
set_option maxRecDepth 100000
def a39_c2 : ACode := (.cond (.tmp 49) (.seq (.region [⟨(some 2), (.mov (.const (.c (.val (.int .i64 0))))), none⟩, ⟨(some 3), (.mov (.const (.c (.val (.bool false))))), none⟩])
 .ret) .skip)
def a39_c4 : ACode := (.region [⟨(some 50), (.mov (.tmp 5)), none⟩, ⟨(some 51), (.bin .shl (.tmp 50) (.const (.c (.val (.int .u64 8))))), none⟩, ⟨(some 52), (.mov (.tmp 8)), none⟩, ⟨(some 53), (.bin .or (.tmp 51) (.tmp 52)), none⟩, ⟨(some 5), (.mov (.tmp 53)), none⟩])
def a39_c1 : ACode := (.seq (.region [⟨(some 30), (.mov (.tmp 7)), none⟩, ⟨(some 31), (.call 63 [(.tmp 30)]), none⟩, ⟨(some 29), (.mov (.tmp 31)), none⟩, ⟨(some 32), (.ext (.tmp 29) 0), none⟩, ⟨(some 33), (.ext (.tmp 29) 1), none⟩, ⟨(some 8), (.mov (.tmp 32)), none⟩, ⟨(some 9), (.mov (.tmp 33)), none⟩])
 (.seq (.seq (.region [⟨(some 34), (.mov (.tmp 9)), none⟩, ⟨(some 35), (.eqi true (.tmp 34)), none⟩, ⟨(some 36), (.mov (.tmp 35)), none⟩, ⟨(some 37), (.mov (.tmp 8)), (some (36, false))⟩, ⟨(some 38), (.bin .lss (.tmp 37) (.const (.c (.val (.int .i64 0))))), (some (36, false))⟩, ⟨(some 39), (.pick (.tmp 36) (.const (.c (.val (.bool true)))) (.tmp 38)), none⟩, ⟨(some 40), (.mov (.tmp 39)), none⟩, ⟨(some 41), (.mov (.tmp 8)), (some (40, false))⟩, ⟨(some 42), (.bin .gtr (.tmp 41) (.const (.c (.val (.int .i64 255))))), (some (40, false))⟩, ⟨(some 43), (.pick (.tmp 40) (.const (.c (.val (.bool true)))) (.tmp 42)), none⟩, ⟨(some 44), (.mov (.tmp 43)), none⟩, ⟨(some 45), (.mov (.tmp 8)), (some (44, false))⟩, ⟨(some 46), (.call 52 [(.tmp 45)]), (some (44, false))⟩, ⟨(some 47), (.mov (.tmp 7)), (some (44, false))⟩, ⟨(some 48), (.bin .neq (.tmp 46) (.tmp 47)), (some (44, false))⟩, ⟨(some 49), (.pick (.tmp 44) (.const (.c (.val (.bool true)))) (.tmp 48)), none⟩])
 a39_c2)
 a39_c4))
def a39_c3 : ACode := (.region [⟨(some 54), (.bin .add (.tmp 20) (.const (.c (.val (.int .i64 1))))), none⟩, ⟨(some 20), (.mov (.tmp 54)), none⟩])
def a39_c5 : ACode := (.seq (.region [⟨(some 21), (.bin .lss (.tmp 20) (.tmp 19)), none⟩])
 (.seq (.cond (.tmp 21) .skip (.exit 0))
 (.seq (.block 1 (.seq (.region [⟨(some 22), (.mov (.tmp 20)), none⟩, ⟨(some 23), (.iaddr 1 (.tmp 18) (.tmp 20)), none⟩, ⟨(some 24), (.load false 1 (.tmp 23)), none⟩, ⟨(some 6), (.mov (.tmp 22)), none⟩, ⟨(some 7), (.mov (.tmp 24)), none⟩])
 (.seq (.seq (.region [⟨(some 25), (.mov (.tmp 6)), none⟩, ⟨(some 26), (.bin .gtr (.tmp 25) (.const (.c (.val (.int .i64 0))))), none⟩])
 (.cond (.tmp 26) (.region [⟨(some 27), (.mov (.tmp 7)), none⟩, ⟨(some 28), (.call 62 [(.tmp 27), (.const (.c (.str [32])))]), none⟩, ⟨(some 7), (.mov (.tmp 28)), none⟩]) .skip))
 a39_c1)))
 a39_c3)))
def a39_c0 : ACode := (.seq (.region [⟨(some 5), (.mov (.const (.c (.val (.int .i64 0))))), none⟩])
 (.seq (.seq (.region [⟨(some 18), (.mov (.tmp 4)), none⟩, ⟨(some 19), (.len (.tmp 18)), none⟩, ⟨(some 20), (.mov (.const (.c (.val (.int .i64 0))))), none⟩])
 (.block 0 (.loop a39_c5)))
 (.seq (.region [⟨(some 55), (.mov (.tmp 5)), none⟩, ⟨(some 56), (.mov (.tmp 4)), none⟩, ⟨(some 57), (.len (.tmp 56)), none⟩, ⟨(some 58), (.bin .eql (.tmp 57) (.const (.c (.val (.int .i64 4))))), none⟩, ⟨(some 2), (.mov (.tmp 55)), none⟩, ⟨(some 3), (.mov (.tmp 58)), none⟩])
 .ret)))
def a39 : AFunc := ⟨1, [(.tmp 2), (.tmp 3)], (.seq (.region [⟨(some 2), (.mov (.const (.c (.val (.int .i64 0))))), none⟩, ⟨(some 3), (.mov (.const (.c (.val (.bool false))))), none⟩])
 (.seq (.region [⟨(some 10), (.mov (.tmp 0)), none⟩, ⟨(some 11), (.call 51 [(.tmp 10), (.const (.c (.str [44])))]), none⟩, ⟨(some 4), (.mov (.tmp 11)), none⟩])
 (.seq (.seq (.region [⟨(some 12), (.mov (.tmp 4)), none⟩, ⟨(some 13), (.len (.tmp 12)), none⟩, ⟨(some 14), (.bin .eql (.tmp 13) (.const (.c (.val (.int .i64 3))))), none⟩])
 (.cond (.tmp 14) (.region [⟨(some 15), (.mov (.tmp 4)), none⟩, ⟨(some 16), (.bslice 1 [(.str [])] 1 [(0, (.const (.c (.str [50, 53, 53]))))]), none⟩, ⟨(some 17), (.app 1 16 (.tmp 15) (.tmp 16)), none⟩, ⟨(some 4), (.mov (.tmp 17)), none⟩]) .skip))
 a39_c0)))⟩
set_option maxRecDepth 100000 in
theorem c39 : compFunc Tryd.prog 39 = some a39 := by kernel_rfl
def color_parts_post (r : (Int × Bool)) : AV → Heap → Nat → Prop := fun v h' n' => v = (.tup [(I r.1), (B r.2)]) ∧ (h' = (fun _ => none)) ∧ n' = 0
abbrev color_parts_q0 (mL : Int) (Q : AExit → St → Prop) : AExit → St → Prop := AThen (Sv Tryd.prog (GG mL) 0 a39_c3 Q) Q
abbrev color_parts_q1 (mL : Int) (Q : AExit → St → Prop) : AExit → St → Prop := ABlock 1 (color_parts_q0 mL Q)
abbrev color_parts_q2 (mL : Int) (Q : AExit → St → Prop) : AExit → St → Prop := AThen (Sv Tryd.prog (GG mL) 0 a39_c4 (color_parts_q1 mL Q)) (color_parts_q1 mL Q)
noncomputable def color_parts_j7 (c_ : Int) (r_1 : (Int × Bool)) (v20 : Int) (l_ : (List (List UInt8))) (self : (List (List UInt8)) → Int → Int → Option (Int × Bool)) (K0_ : (List (List UInt8)) → Int → Option (Int × Bool)) (l_4 : (List (List UInt8))) (v49 : Bool) : Option (Int × Bool) :=
  if v49 then
    some (0, false)
  else
    self l_4 (bitsV .or .i64 (shl .i64 c_ 8) r_1.1) (wi (v20 + 1))
theorem color_parts_j7_ok {mL : Int} {Q : AExit → St → Prop} {c_ : Int} {r_1 : (Int × Bool)} {v20 : Int} {l_ : (List (List UInt8))} {self : (List (List UInt8)) → Int → Int → Option (Int × Bool)} {K0_ : (List (List UInt8)) → Int → Option (Int × Bool)} {l_4 : (List (List UInt8))} {v49 : Bool} {zl_4 : Bool} (hzl_4 : zl_4 = true → l_4 = []) {o : (Int × Bool)} (h : color_parts_j7 c_ r_1 v20 l_ self K0_ l_4 v49 = some o)
    (hself : ∀ (l_1 : (List (List UInt8))) (c_ : Int) (v20 : Int) (zl_1 : Bool) (_ : zl_1 = true → l_1 = []), self l_1 c_ v20 = some o → ∀ s, Weak 0 s ⟨(upd (upd (upd (upd (upd (fun _ => none) 4 (some (lstV zl_1 0 1 l_1.length))) 5 (some (I c_))) 18 (some (lstV zl_1 0 1 l_1.length))) 19 (some (I (l_.length : Int)))) 20 (some (I v20))), (upd (fun _ => none) 0 (lstB zl_1 1 (l_1.map eStr))), 1⟩ → (Q) .normal s)
    (hK0 : ∀ (l_2 : (List (List UInt8))) (c_1 : Int) (zl_2 : Bool) (_ : zl_2 = true → l_2 = []), K0_ l_2 c_1 = some o → ∀ s, Weak 0 s ⟨(upd (upd (fun _ => none) 4 (some (lstV zl_2 0 1 l_2.length))) 5 (some (I c_1))), (upd (fun _ => none) 0 (lstB zl_2 1 (l_2.map eStr))), 1⟩ → Q (.exit 0) s)
    (hr : ∀ s, Ends a39.results 0 (color_parts_post o) .ret s → Q .ret s) :
    Sv Tryd.prog (GG mL) 0 a39_c2 (color_parts_q2 mL Q) ⟨(upd (upd (upd (upd (upd (upd (upd (fun _ => none) 4 (some (lstV zl_4 0 1 l_4.length))) 5 (some (I c_))) 8 (some (I r_1.1))) 18 (some (lstV zl_4 0 1 l_4.length))) 19 (some (I (l_.length : Int)))) 20 (some (I v20))) 49 (some (B v49))), (upd (fun _ => none) 0 (lstB zl_4 1 (l_4.map eStr))), 1⟩ := by
  unfold color_parts_j7 at h
  refine Sv.cond (b := v49) rfl (fun hc2 => ?_) (fun hc2 => ?_)
  · replace h := ifT hc2 h
    refine Sv.seq ?_
    refine Sv.region ?_
    refine un (a1 rfl ?_)
    refine un (a1 rfl ?_)
    refine dnil ?_
    refine Sv.ret ?_
    replace h := Option.some.inj h
    subst h
    exact hr _ ⟨_, .refl _, _, rfl, ⟨upd (fun _ => none) 0 (some (.tup [(I 0), (B false)])), (fun _ => none), 0⟩, (.tup [(I 0), (B false)]), weak_canon [] rfl List.nodup_nil (Nat.le_refl _) (fun b h => absurd h (Nat.not_lt_zero _)) (.cons rfl (avAs_tup (.cons (avAs_free rfl) (.cons (avAs_free rfl) .nil))) .nil) .nil, rfl, rfl, rfl, rfl⟩
  · replace h := ifF hc2 h
    refine Sv.skip ?_
    refine Sv.region ?_
    refine un (a1 rfl ?_)
    refine un (a1 (v := (I (shl .i64 c_ 8))) rfl ?_)
    refine un (a1 rfl ?_)
    refine un (a1 (v := (I (bitsV .or .i64 (shl .i64 c_ 8) r_1.1))) rfl ?_)
    refine un (a1 rfl ?_)
    refine dnil ?_
    refine Sv.region ?_
    refine un (a1 (v := (I (wi (v20 + 1)))) rfl ?_)
    refine un (a1 rfl ?_)
    refine dnil ?_
    exact hself l_4 (bitsV .or .i64 (shl .i64 c_ 8) r_1.1) (wi (v20 + 1)) zl_4 hzl_4 h _ (weak_canon [0] rfl (by decide) (by decide) (fun b h => absurd h (Nat.not_lt_zero _)) (.cons rfl (avAs_free rfl) (.cons rfl (avAs_free rfl) (.cons rfl (.c (lstC_ren rfl (by decide))) (.cons rfl (avAs_free rfl) (.cons rfl (.c (lstC_ren rfl (by decide))) .nil))))) (.row (by decide) rfl (fr_map fun _ => rfl) .nil))
noncomputable def color_parts_j6 (c_ : Int) (v20 : Int) (l_ : (List (List UInt8))) (self : (List (List UInt8)) → Int → Int → Option (Int × Bool)) (K0_ : (List (List UInt8)) → Int → Option (Int × Bool)) (l_3 : (List (List UInt8))) (w_ : (List UInt8)) : Option (Int × Bool) :=
  (strconv_Atoi w_).bind fun r_1 =>
  if ((r_1.2 || (decide (r_1.1 < 0))) || (decide (255 < r_1.1))) then
    color_parts_j7 c_ r_1 v20 l_ self K0_ l_3 true
  else
    (strconv_Itoa r_1.1).bind fun r_2 =>
    color_parts_j7 c_ r_1 v20 l_ self K0_ l_3 (!decide (r_2 = w_))
theorem color_parts_j6_ok {mL : Int} {Q : AExit → St → Prop} {c_ : Int} {v20 : Int} {l_ : (List (List UInt8))} {self : (List (List UInt8)) → Int → Int → Option (Int × Bool)} {K0_ : (List (List UInt8)) → Int → Option (Int × Bool)} {l_3 : (List (List UInt8))} {w_ : (List UInt8)} {zl_3 : Bool} (hzl_3 : zl_3 = true → l_3 = []) {o : (Int × Bool)} (h : color_parts_j6 c_ v20 l_ self K0_ l_3 w_ = some o)
    (hself : ∀ (l_1 : (List (List UInt8))) (c_ : Int) (v20 : Int) (zl_1 : Bool) (_ : zl_1 = true → l_1 = []), self l_1 c_ v20 = some o → ∀ s, Weak 0 s ⟨(upd (upd (upd (upd (upd (fun _ => none) 4 (some (lstV zl_1 0 1 l_1.length))) 5 (some (I c_))) 18 (some (lstV zl_1 0 1 l_1.length))) 19 (some (I (l_.length : Int)))) 20 (some (I v20))), (upd (fun _ => none) 0 (lstB zl_1 1 (l_1.map eStr))), 1⟩ → (Q) .normal s)
    (hK0 : ∀ (l_2 : (List (List UInt8))) (c_1 : Int) (zl_2 : Bool) (_ : zl_2 = true → l_2 = []), K0_ l_2 c_1 = some o → ∀ s, Weak 0 s ⟨(upd (upd (fun _ => none) 4 (some (lstV zl_2 0 1 l_2.length))) 5 (some (I c_1))), (upd (fun _ => none) 0 (lstB zl_2 1 (l_2.map eStr))), 1⟩ → Q (.exit 0) s)
    (hr : ∀ s, Ends a39.results 0 (color_parts_post o) .ret s → Q .ret s) :
    Sv Tryd.prog (GG mL) 0 a39_c1 (color_parts_q1 mL Q) ⟨(upd (upd (upd (upd (upd (upd (fun _ => none) 4 (some (lstV zl_3 0 1 l_3.length))) 5 (some (I c_))) 7 (some (S w_))) 18 (some (lstV zl_3 0 1 l_3.length))) 19 (some (I (l_.length : Int)))) 20 (some (I v20))), (upd (fun _ => none) 0 (lstB zl_3 1 (l_3.map eStr))), 1⟩ := by
  unfold color_parts_j6 at h
  refine Sv.seq ?_
  refine Sv.region ?_
  refine un (a1 rfl ?_)
  obtain ⟨r_1, hr2, h⟩ := bnd h
  refine un (ac_pure (strconv_Atoi_ok hr2) rfl rfl (by simp only [AV.free, freeL, List.all_cons, List.all_nil, errC_free, ierrC_free] <;> rfl) ?_)
  refine un (a1 rfl ?_)
  refine un (a1 (v := (I r_1.1)) rfl ?_)
  refine un (a1 (v := (.c (errC r_1.2))) rfl ?_)
  refine un (a1 rfl ?_)
  refine un (a1 rfl ?_)
  refine dnil ?_
  refine Sv.seq ?_
  refine Sv.seq ?_
  refine Sv.region ?_
  refine un (a1 rfl ?_)
  refine un (a1 (v := (B r_1.2)) (s_eqe (neg := true) (b := r_1.2) rfl) ?_)
  refine un (a1 rfl ?_)
  refine gjoin 3 (d := 39) (v := (B (r_1.2 || (decide (r_1.1 < 0))))) (fun X hX => ?_) ?_
  · refine split2 (fun hc3 => ?_) (fun hc3 => ?_)
    · refine gs rfl rfl ?_
      refine gs rfl rfl ?_
      refine un (a1 (v := (B true)) rfl ?_)
      refine dnil ?_
      exact hX _ (.putEq (by rw [hc3]; rfl) (.skip _ _ (.skip _ _ (.putEq (by rw [hc3]) (.refl _)) rfl) rfl))
    · refine gt rfl (a1 rfl ?_)
      refine gt rfl (a1 (v := (B (decide (r_1.1 < 0)))) rfl ?_)
      refine un (a1 (v := (B (decide (r_1.1 < 0)))) rfl ?_)
      refine dnil ?_
      exact hX _ (.putEq (by rw [hc3]; rfl) (.skip _ _ (.skip _ _ (.putEq (by rw [hc3]) (.refl _)) rfl) rfl))
  refine un (a1 rfl ?_)
  refine gjoin 3 (d := 43) (v := (B ((r_1.2 || (decide (r_1.1 < 0))) || (decide (255 < r_1.1))))) (fun X hX => ?_) ?_
  · refine split2 (fun hc4 => ?_) (fun hc4 => ?_)
    · refine gs rfl rfl ?_
      refine gs rfl rfl ?_
      refine un (a1 (v := (B true)) rfl ?_)
      refine dnil ?_
      exact hX _ (.putEq (by rw [hc4]; rfl) (.skip _ _ (.skip _ _ (.putEq (by rw [hc4]) (.refl _)) rfl) rfl))
    · refine gt rfl (a1 rfl ?_)
      refine gt rfl (a1 (v := (B (decide (255 < r_1.1)))) rfl ?_)
      refine un (a1 (v := (B (decide (255 < r_1.1)))) rfl ?_)
      refine dnil ?_
      exact hX _ (.putEq (by rw [hc4]; rfl) (.skip _ _ (.skip _ _ (.putEq (by rw [hc4]) (.refl _)) rfl) rfl))
  refine un (a1 rfl ?_)
  refine split2 (fun hc5 => ?_) (fun hc5 => ?_)
  · replace h := ifT hc5 h
    refine gs rfl rfl ?_
    refine gs rfl rfl ?_
    refine gs rfl rfl ?_
    refine gs rfl rfl ?_
    refine un (a1 (v := (B true)) rfl ?_)
    refine dnil ?_
    exact Sv.weak (weak_canon [0] rfl (by decide) (by decide) (fun b h => absurd h (Nat.not_lt_zero _)) (.cons rfl (avAs_free rfl) (.cons rfl (avAs_free rfl) (.cons rfl (avAs_free rfl) (.cons rfl (.c (lstC_ren rfl (by decide))) (.cons rfl (avAs_free rfl) (.cons rfl (avAs_free rfl) (.cons rfl (.c (lstC_ren rfl (by decide))) .nil))))))) (.row (by decide) rfl (fr_map fun _ => rfl) .nil)) (color_parts_j7_ok hzl_3 h hself hK0 hr)
  · replace h := ifF hc5 h
    refine gt rfl (a1 rfl ?_)
    obtain ⟨r_2, hr3, h⟩ := bnd h
    refine gt rfl (ac_pure (strconv_Itoa_ok hr3) rfl rfl rfl ?_)
    refine gt rfl (a1 rfl ?_)
    refine gt rfl (a1 (v := (B (!decide (r_2 = w_)))) rfl ?_)
    refine un (a1 (v := (B (!decide (r_2 = w_)))) rfl ?_)
    refine dnil ?_
    exact Sv.weak (weak_canon [0] rfl (by decide) (by decide) (fun b h => absurd h (Nat.not_lt_zero _)) (.cons rfl (avAs_free rfl) (.cons rfl (avAs_free rfl) (.cons rfl (avAs_free rfl) (.cons rfl (.c (lstC_ren rfl (by decide))) (.cons rfl (avAs_free rfl) (.cons rfl (avAs_free rfl) (.cons rfl (.c (lstC_ren rfl (by decide))) .nil))))))) (.row (by decide) rfl (fr_map fun _ => rfl) .nil)) (color_parts_j7_ok hzl_3 h hself hK0 hr)
noncomputable def color_parts_l0 (l_ : (List (List UInt8))) (K0_ : (List (List UInt8)) → Int → Option (Int × Bool)) : Nat → (List (List UInt8)) → Int → Int → Option (Int × Bool)
  | 0, _, _, _ => none
  | k + 1, l_1, c_, v20 =>
    if decide (v20 < (l_.length : Int)) then
      (at? l_1 v20).bind fun x_ =>
      if decide (0 < v20) then
        (strings_TrimPrefix x_ [32]).bind fun r_3 =>
        color_parts_j6 c_ v20 l_ (color_parts_l0 l_ K0_ k) K0_ l_1 r_3
      else
        color_parts_j6 c_ v20 l_ (color_parts_l0 l_ K0_ k) K0_ l_1 x_
    else
      K0_ l_1 c_
theorem color_parts_l0_ok {mL : Int} {Q : AExit → St → Prop} {l_ : (List (List UInt8))} {K0_ : (List (List UInt8)) → Int → Option (Int × Bool)} {k : Nat} {l_1 : (List (List UInt8))} {c_ : Int} {v20 : Int} {zl_1 : Bool} (hzl_1 : zl_1 = true → l_1 = []) {o : (Int × Bool)} (h : color_parts_l0 l_ K0_ k l_1 c_ v20 = some o)
    (hK0 : ∀ (l_2 : (List (List UInt8))) (c_1 : Int) (zl_2 : Bool) (_ : zl_2 = true → l_2 = []), K0_ l_2 c_1 = some o → ∀ s, Weak 0 s ⟨(upd (upd (fun _ => none) 4 (some (lstV zl_2 0 1 l_2.length))) 5 (some (I c_1))), (upd (fun _ => none) 0 (lstB zl_2 1 (l_2.map eStr))), 1⟩ → Q (.exit 0) s)
    (hr : ∀ s, Ends a39.results 0 (color_parts_post o) .ret s → Q .ret s) :
    Sv Tryd.prog (GG mL) 0 (.loop a39_c5) Q ⟨(upd (upd (upd (upd (upd (fun _ => none) 4 (some (lstV zl_1 0 1 l_1.length))) 5 (some (I c_))) 18 (some (lstV zl_1 0 1 l_1.length))) 19 (some (I (l_.length : Int)))) 20 (some (I v20))), (upd (fun _ => none) 0 (lstB zl_1 1 (l_1.map eStr))), 1⟩ := by
  refine Sv.loop (I := fun k s => ∃ (l_1 : (List (List UInt8))), ∃ (c_ : Int), ∃ (v20 : Int), ∃ (zl_1 : Bool), (zl_1 = true → l_1 = []) ∧ color_parts_l0 l_ K0_ k l_1 c_ v20 = some o ∧ s = ⟨(upd (upd (upd (upd (upd (fun _ => none) 4 (some (lstV zl_1 0 1 l_1.length))) 5 (some (I c_))) 18 (some (lstV zl_1 0 1 l_1.length))) 19 (some (I (l_.length : Int)))) 20 (some (I v20))), (upd (fun _ => none) 0 (lstB zl_1 1 (l_1.map eStr))), 1⟩) (fun k s hI => ?_) ⟨l_1, c_, v20, zl_1, hzl_1, h, rfl⟩
  clear h
  clear hzl_1 zl_1 v20 c_ l_1
  obtain ⟨l_1, c_, v20, zl_1, hzl_1, h, rfl⟩ := hI
  cases k with
  | zero => cases h
  | succ k =>
  rw [color_parts_l0] at h
  have hself : ∀ (l_1 : (List (List UInt8))) (c_ : Int) (v20 : Int) (zl_1 : Bool) (_ : zl_1 = true → l_1 = []), (color_parts_l0 l_ K0_ k) l_1 c_ v20 = some o → ∀ s, Weak 0 s ⟨(upd (upd (upd (upd (upd (fun _ => none) 4 (some (lstV zl_1 0 1 l_1.length))) 5 (some (I c_))) 18 (some (lstV zl_1 0 1 l_1.length))) 19 (some (I (l_.length : Int)))) 20 (some (I v20))), (upd (fun _ => none) 0 (lstB zl_1 1 (l_1.map eStr))), 1⟩ → (AThen (fun s' => ∃ s'' k', Weak 0 s' s'' ∧ k' < k + 1 ∧ (fun k s => ∃ (l_1 : (List (List UInt8))), ∃ (c_ : Int), ∃ (v20 : Int), ∃ (zl_1 : Bool), (zl_1 = true → l_1 = []) ∧ color_parts_l0 l_ K0_ k l_1 c_ v20 = some o ∧ s = ⟨(upd (upd (upd (upd (upd (fun _ => none) 4 (some (lstV zl_1 0 1 l_1.length))) 5 (some (I c_))) 18 (some (lstV zl_1 0 1 l_1.length))) 19 (some (I (l_.length : Int)))) 20 (some (I v20))), (upd (fun _ => none) 0 (lstB zl_1 1 (l_1.map eStr))), 1⟩) k' s'') Q) .normal s := fun l_1 c_ v20 zl_1 hzl_1 h s hw => ⟨_, k, hw, Nat.lt_succ_self k, l_1, c_, v20, zl_1, hzl_1, h, rfl⟩
  refine Sv.seq ?_
  refine Sv.region ?_
  refine un (a1 (v := (B (decide (v20 < (l_.length : Int))))) rfl ?_)
  refine dnil ?_
  refine Sv.seq ?_
  refine Sv.cond (b := decide (v20 < (l_.length : Int))) rfl (fun hc1 => ?_) (fun hc1 => ?_)
  · replace h := ifT hc1 h
    refine Sv.skip ?_
    refine Sv.seq ?_
    refine Sv.block ?_
    refine Sv.seq ?_
    refine Sv.region ?_
    refine un (a1 rfl ?_)
    obtain ⟨x_, hx1, h⟩ := bnd h
    refine un (a1 (v := (.c (.ref 0 1 v20.toNat 0))) (s_iaddrL rfl rfl hzl_1 hx1) ?_)
    refine un (a1 (v := (S x_)) (s_loadL (z := zl_1) (e := eStr) rfl rfl hzl_1 hx1 rfl rfl) ?_)
    refine un (a1 rfl ?_)
    refine un (a1 rfl ?_)
    refine dnil ?_
    refine Sv.seq ?_
    refine Sv.seq ?_
    refine Sv.region ?_
    refine un (a1 rfl ?_)
    refine un (a1 (v := (B (decide (0 < v20)))) rfl ?_)
    refine dnil ?_
    refine Sv.cond (b := decide (0 < v20)) rfl (fun hc6 => ?_) (fun hc6 => ?_)
    · replace h := ifT hc6 h
      refine Sv.region ?_
      refine un (a1 rfl ?_)
      obtain ⟨r_3, hr4, h⟩ := bnd h
      refine un (ac_pure (strings_TrimPrefix_ok hr4) rfl rfl rfl ?_)
      refine un (a1 rfl ?_)
      refine dnil ?_
      exact Sv.weak (weak_canon [0] rfl (by decide) (by decide) (fun b h => absurd h (Nat.not_lt_zero _)) (.cons rfl (avAs_free rfl) (.cons rfl (avAs_free rfl) (.cons rfl (.c (lstC_ren rfl (by decide))) (.cons rfl (avAs_free rfl) (.cons rfl (avAs_free rfl) (.cons rfl (.c (lstC_ren rfl (by decide))) .nil)))))) (.row (by decide) rfl (fr_map fun _ => rfl) .nil)) (color_parts_j6_ok hzl_1 h hself hK0 hr)
    · replace h := ifF hc6 h
      refine Sv.skip ?_
      exact Sv.weak (weak_canon [0] rfl (by decide) (by decide) (fun b h => absurd h (Nat.not_lt_zero _)) (.cons rfl (avAs_free rfl) (.cons rfl (avAs_free rfl) (.cons rfl (.c (lstC_ren rfl (by decide))) (.cons rfl (avAs_free rfl) (.cons rfl (avAs_free rfl) (.cons rfl (.c (lstC_ren rfl (by decide))) .nil)))))) (.row (by decide) rfl (fr_map fun _ => rfl) .nil)) (color_parts_j6_ok hzl_1 h hself hK0 hr)
  · replace h := ifF hc1 h
    refine Sv.exit ?_
    exact hK0 l_1 c_ zl_1 hzl_1 h _ (weak_canon [0] rfl (by decide) (by decide) (fun b h => absurd h (Nat.not_lt_zero _)) (.cons rfl (avAs_free rfl) (.cons rfl (.c (lstC_ren rfl (by decide))) .nil)) (.row (by decide) rfl (fr_map fun _ => rfl) .nil))
noncomputable def color_parts_j1 (l_ : (List (List UInt8))) : Option (Int × Bool) :=
  lim fun kk => color_parts_l0 l_ (fun (l_2 : (List (List UInt8))) (c_1 : Int) => 
      some (c_1, decide ((l_2.length : Int) = 4))) kk l_ 0 0
theorem color_parts_j1_ok {mL : Int} {l_ : (List (List UInt8))} {zl : Bool} (hzl : zl = true → l_ = []) {o : (Int × Bool)} (h : color_parts_j1 l_ = some o) :
    Sv Tryd.prog (GG mL) 0 a39_c0 (Ends a39.results 0 (color_parts_post o)) ⟨(upd (fun _ => none) 4 (some (lstV zl 0 1 l_.length))), (upd (fun _ => none) 0 (lstB zl 1 (l_.map eStr))), 1⟩ := by
  unfold color_parts_j1 at h
  refine Sv.seq ?_
  refine Sv.region ?_
  refine un (a1 rfl ?_)
  refine dnil ?_
  refine Sv.seq ?_
  refine Sv.seq ?_
  refine Sv.region ?_
  refine un (a1 rfl ?_)
  refine un (a1 (v := (I (l_.length : Int))) (s_lenL rfl (len_nil_of hzl)) ?_)
  refine un (a1 rfl ?_)
  refine dnil ?_
  refine Sv.block ?_
  obtain ⟨kk, h⟩ := lim_some h
  refine Sv.weak (weak_canon [0] rfl (by decide) (by decide) (fun b h => absurd h (Nat.not_lt_zero _)) (.cons rfl (avAs_free rfl) (.cons rfl (avAs_free rfl) (.cons rfl (.c (lstC_ren rfl (by decide))) (.cons rfl (avAs_free rfl) (.cons rfl (.c (lstC_ren rfl (by decide))) .nil))))) (.row (by decide) rfl (fr_map fun _ => rfl) .nil)) (color_parts_l0_ok hzl h ?_ (fun s hs => hs))
  · intro l_2 c_1 zl_2 hzl_2 h _ hw1
    refine Sv.weak hw1 ?_
    refine Sv.seq ?_
    refine Sv.region ?_
    refine un (a1 rfl ?_)
    refine un (a1 rfl ?_)
    refine un (a1 (v := (I (l_2.length : Int))) (s_lenL rfl (len_nil_of hzl_2)) ?_)
    refine un (a1 (v := (B (decide ((l_2.length : Int) = 4)))) rfl ?_)
    refine un (a1 rfl ?_)
    refine un (a1 rfl ?_)
    refine dnil ?_
    refine Sv.ret ?_
    replace h := Option.some.inj h
    subst h
    exact ⟨_, .refl _, _, rfl, ⟨upd (fun _ => none) 0 (some (.tup [(I c_1), (B (decide ((l_2.length : Int) = 4)))])), (fun _ => none), 0⟩, (.tup [(I c_1), (B (decide ((l_2.length : Int) = 4)))]), weak_canon [] rfl List.nodup_nil (Nat.le_refl _) (fun b h => absurd h (Nat.not_lt_zero _)) (.cons rfl (avAs_tup (.cons (avAs_free rfl) (.cons (avAs_free rfl) .nil))) .nil) .nil, rfl, rfl, rfl, rfl⟩
/-- clerestory/color.parts -/
noncomputable def color_parts (s_ : (List UInt8)) : Option (Int × Bool) :=
  (strings_Split s_ [44]).bind fun r_ =>
  if decide ((r_.length : Int) = 3) then
    (app? 16 r_ ([[50, 53, 53]] : List (List UInt8))).bind fun r_4 =>
    color_parts_j1 r_4
  else
    color_parts_j1 r_
theorem color_parts_ok {mL : Int} {s_ : (List UInt8)} {r : (Int × Bool)} (h : color_parts s_ = some r) : CPure Tryd.prog (GG mL) 39 [(S s_)] (.tup [(I r.1), (B r.2)]) := by
  refine acalls_of_sv hmix c39 (R := color_parts_post r) ?_
  unfold color_parts at h
  refine Sv.seq ?_
  refine Sv.region ?_
  refine un (a1 rfl ?_)
  refine un (a1 rfl ?_)
  refine dnil ?_
  refine Sv.seq ?_
  refine Sv.region ?_
  refine un (a1 rfl ?_)
  obtain ⟨r_, hr1, h⟩ := bnd h
  refine un (ac_gen (bs := []) («as» := [(S s_), (S [44])]) (h2 := _) (h1 := (fun _ => none)) (strings_Split_ok hr1) rfl (.cons (avAs_free rfl) (.cons (avAs_free rfl) .nil)) (hsub_refl _) (.nil _) (fun _ => rfl) (by decide) (by decide) (.cons (avAs_free rfl) (.cons (avAs_free rfl) .nil)) .nil ?_)
  rintro _ _ _ hn ⟨z_, hz_, rfl, rfl, rfl⟩
  refine ⟨.inl rfl, (upd (rem [] _) 0 (lstB z_ 1 (r_.map eStr))), fun hbd => (m3_cons (m3_row rfl (fr_map fun _ => rfl)) (m3_rem (in_nil _) (.cons (by decide) .nil) hbd)), (lstV z_ 0 1 r_.length), 1, (by cases z_ <;> rfl), rfl, ?_⟩
  refine un (a1 rfl ?_)
  refine dnil ?_
  refine Sv.seq ?_
  refine Sv.seq ?_
  refine Sv.region ?_
  refine un (a1 rfl ?_)
  refine un (a1 (v := (I (r_.length : Int))) (s_lenL rfl (len_nil_of hz_)) ?_)
  refine un (a1 (v := (B (decide ((r_.length : Int) = 3)))) rfl ?_)
  refine dnil ?_
  refine Sv.cond (b := decide ((r_.length : Int) = 3)) rfl (fun hc7 => ?_) (fun hc7 => ?_)
  · replace h := ifT hc7 h
    refine Sv.region ?_
    refine un (a1 rfl ?_)
    refine un (a2v (v := (lstV false 1 1 ([[50, 53, 53]] : List (List UInt8)).length)) (h' := upd _ 1 (lstB false 1 (([[50, 53, 53]] : List (List UInt8)).map eStr))) (n' := 2) rfl rfl (fun h => by cases h) ?_)
    obtain ⟨r_4, hr5, h⟩ := bnd h
    have hz1 : (z_ && ([[50, 53, 53]] : List (List UInt8)).isEmpty) = true → r_4 = [] := app_nil (z := z_) (ys := ([[50, 53, 53]] : List (List UInt8))) hz_ hr5
    refine un (a2v rfl (s_app (xs := r_) (ys := ([[50, 53, 53]] : List (List UInt8))) (e := eStr) (z := z_) (b := 0) rfl rfl hz_ rfl rfl (slc_lst rfl (List.length_map _).symm (map_nil_of (fun h => by cases h))) hr5) (fun h => by cases h) ?_)
    refine un (a1 rfl ?_)
    refine dnil ?_
    exact Sv.weak (weak_canon [2] rfl (by decide) (by decide) (fun b h => absurd h (Nat.not_lt_zero _)) (.cons rfl (.c (lstC_ren rfl (by decide))) .nil) (.row (by decide) rfl (fr_map fun _ => rfl) .nil)) (color_parts_j1_ok hz1 h)
  · replace h := ifF hc7 h
    refine Sv.skip ?_
    exact Sv.weak (weak_canon [0] rfl (by decide) (by decide) (fun b h => absurd h (Nat.not_lt_zero _)) (.cons rfl (.c (lstC_ren rfl (by decide))) .nil) (.row (by decide) rfl (fr_map fun _ => rfl) .nil)) (color_parts_j1_ok hz_ h)
def a13_c0 : ACode := (.cond (.tmp 50) (.region [⟨(some 52), (.mov (.tmp 10)), none⟩, ⟨(some 53), (.mov (.tmp 10)), none⟩, ⟨(some 54), (.lenS (.tmp 53)), none⟩, ⟨(some 55), (.bin .sub (.tmp 54) (.const (.c (.val (.int .i64 1))))), none⟩, ⟨(some 56), (.slStr (.tmp 52) none (some (.tmp 55))), none⟩, ⟨(some 57), (.call 39 [(.tmp 56)]), none⟩, ⟨(some 51), (.mov (.tmp 57)), none⟩, ⟨(some 58), (.ext (.tmp 51) 0), none⟩, ⟨(some 59), (.ext (.tmp 51) 1), none⟩, ⟨(some 6), (.mov (.tmp 58)), none⟩, ⟨(some 7), (.mov (.tmp 59)), none⟩]) .skip)
def a13_c1 : ACode := (.seq (.seq (.region [⟨(some 60), (.mov (.tmp 7)), none⟩, ⟨(some 61), (.un .not (.tmp 60)), none⟩])
 (.cond (.tmp 61) (.seq (.region [⟨(some 2), (.mov (.const (.c (.val (.int .i64 0))))), none⟩, ⟨(some 3), (.mov (.const (.c (.val (.int .i64 4))))), none⟩])
 .ret) .skip))
 (.seq (.region [⟨(some 62), (.mov (.tmp 6)), none⟩, ⟨(some 2), (.mov (.tmp 62)), none⟩, ⟨(some 3), (.mov (.const (.c (.val (.int .i64 0))))), none⟩])
 .ret))
def a13 : AFunc := ⟨1, [(.tmp 2), (.tmp 3)], (.seq (.region [⟨(some 2), (.mov (.const (.c (.val (.int .i64 0))))), none⟩, ⟨(some 3), (.mov (.const (.c (.val (.int .i64 0))))), none⟩])
 (.seq (.region [⟨(some 12), (.mov (.tmp 0)), none⟩, ⟨(some 13), (.call 34 [(.tmp 12)]), none⟩, ⟨(some 0), (.mov (.tmp 13)), none⟩])
 (.seq (.seq (.region [⟨(some 14), (.mov (.tmp 0)), none⟩, ⟨(some 15), (.bin .eql (.tmp 14) (.const (.c (.str [116, 114, 97, 110, 115, 112, 97, 114, 101, 110, 116])))), none⟩])
 (.cond (.tmp 15) (.seq (.region [⟨(some 2), (.mov (.const (.c (.val (.int .i64 0))))), none⟩, ⟨(some 3), (.mov (.const (.c (.val (.int .i64 0))))), none⟩])
 .ret) .skip))
 (.seq (.seq (.region [⟨(some 17), (.mov (.tmp 0)), none⟩, ⟨(some 18), (.call 35 [(.tmp 17)]), none⟩, ⟨(some 16), (.mov (.tmp 18)), none⟩, ⟨(some 19), (.ext (.tmp 16) 0), none⟩, ⟨(some 20), (.ext (.tmp 16) 1), none⟩, ⟨(some 4), (.mov (.tmp 19)), none⟩, ⟨(some 5), (.mov (.tmp 20)), none⟩])
 (.seq (.region [⟨(some 21), (.mov (.tmp 5)), none⟩])
 (.cond (.tmp 21) (.seq (.region [⟨(some 22), (.mov (.tmp 4)), none⟩, ⟨(some 23), (.bin .shl (.tmp 22) (.const (.c (.val (.int .u64 8))))), none⟩, ⟨(some 24), (.bin .or (.tmp 23) (.const (.c (.val (.int .i64 255))))), none⟩, ⟨(some 2), (.mov (.tmp 24)), none⟩, ⟨(some 3), (.mov (.const (.c (.val (.int .i64 0))))), none⟩])
 .ret) .skip)))
 (.seq (.region [⟨(some 6), (.mov (.const (.c (.val (.int .i64 0))))), none⟩, ⟨(some 7), (.mov (.const (.c (.val (.bool false))))), none⟩])
 (.seq (.seq (.region [⟨(some 26), (.mov (.tmp 0)), none⟩, ⟨(some 27), (.call 36 [(.tmp 26), (.const (.c (.str [35])))]), none⟩, ⟨(some 25), (.mov (.tmp 27)), none⟩, ⟨(some 28), (.ext (.tmp 25) 0), none⟩, ⟨(some 29), (.ext (.tmp 25) 1), none⟩, ⟨(some 8), (.mov (.tmp 28)), none⟩, ⟨(some 9), (.mov (.tmp 29)), none⟩])
 (.seq (.region [⟨(some 30), (.mov (.tmp 9)), none⟩])
 (.cond (.tmp 30) (.region [⟨(some 32), (.mov (.tmp 8)), none⟩, ⟨(some 33), (.call 37 [(.tmp 32)]), none⟩, ⟨(some 31), (.mov (.tmp 33)), none⟩, ⟨(some 34), (.ext (.tmp 31) 0), none⟩, ⟨(some 35), (.ext (.tmp 31) 1), none⟩, ⟨(some 6), (.mov (.tmp 34)), none⟩, ⟨(some 7), (.mov (.tmp 35)), none⟩]) (.seq (.region [⟨(some 37), (.mov (.tmp 0)), none⟩, ⟨(some 38), (.call 36 [(.tmp 37), (.const (.c (.str [114, 103, 98, 40])))]), none⟩, ⟨(some 36), (.mov (.tmp 38)), none⟩, ⟨(some 39), (.ext (.tmp 36) 0), none⟩, ⟨(some 40), (.ext (.tmp 36) 1), none⟩, ⟨(some 10), (.mov (.tmp 39)), none⟩, ⟨(some 11), (.mov (.tmp 40)), none⟩])
 (.seq (.region [⟨(some 41), (.mov (.tmp 11)), none⟩, ⟨(some 42), (.mov (.tmp 41)), none⟩, ⟨(some 43), (.mov (.tmp 10)), (some (42, true))⟩, ⟨(some 44), (.call 38 [(.tmp 43), (.const (.c (.str [41])))]), (some (42, true))⟩, ⟨(some 45), (.pick (.tmp 42) (.tmp 44) (.const (.c (.val (.bool false))))), none⟩, ⟨(some 46), (.mov (.tmp 45)), none⟩, ⟨(some 47), (.mov (.tmp 10)), (some (46, true))⟩, ⟨(some 48), (.lenS (.tmp 47)), (some (46, true))⟩, ⟨(some 49), (.bin .leq (.tmp 48) (.const (.c (.val (.int .i64 40))))), (some (46, true))⟩, ⟨(some 50), (.pick (.tmp 46) (.tmp 49) (.const (.c (.val (.bool false))))), none⟩])
 a13_c0)))))
 a13_c1))))))⟩
set_option maxRecDepth 100000 in
theorem c13 : compFunc Tryd.prog 13 = some a13 := by kernel_rfl
def color_Read_post (r : (Int × Int)) : AV → Heap → Nat → Prop := fun v h' n' => v = (.tup [(I r.1), (I r.2)]) ∧ (h' = (fun _ => none)) ∧ n' = 0
noncomputable def color_Read_j3 (c_ : Int) (is_ : Bool) : Option (Int × Int) :=
  if (!is_) then
    some (0, 4)
  else
    some (c_, 0)
theorem color_Read_j3_ok {mL : Int} {c_ : Int} {is_ : Bool} {o : (Int × Int)} (h : color_Read_j3 c_ is_ = some o) :
    Sv Tryd.prog (GG mL) 0 a13_c1 (Ends a13.results 0 (color_Read_post o)) ⟨(upd (upd (fun _ => none) 6 (some (I c_))) 7 (some (B is_))), (fun _ => none), 0⟩ := by
  unfold color_Read_j3 at h
  refine Sv.seq ?_
  refine Sv.seq ?_
  refine Sv.region ?_
  refine un (a1 rfl ?_)
  refine un (a1 (v := (B (!is_))) rfl ?_)
  refine dnil ?_
  refine Sv.cond (b := (!is_)) rfl (fun hc3 => ?_) (fun hc3 => ?_)
  · replace h := ifT hc3 h
    refine Sv.seq ?_
    refine Sv.region ?_
    refine un (a1 rfl ?_)
    refine un (a1 rfl ?_)
    refine dnil ?_
    refine Sv.ret ?_
    replace h := Option.some.inj h
    subst h
    exact ⟨_, .refl _, _, rfl, ⟨upd (fun _ => none) 0 (some (.tup [(I 0), (I 4)])), (fun _ => none), 0⟩, (.tup [(I 0), (I 4)]), weak_canon [] rfl List.nodup_nil (Nat.le_refl _) (fun b h => absurd h (Nat.not_lt_zero _)) (.cons rfl (avAs_tup (.cons (avAs_free rfl) (.cons (avAs_free rfl) .nil))) .nil) .nil, rfl, rfl, rfl, rfl⟩
  · replace h := ifF hc3 h
    refine Sv.skip ?_
    refine Sv.seq ?_
    refine Sv.region ?_
    refine un (a1 rfl ?_)
    refine un (a1 rfl ?_)
    refine un (a1 rfl ?_)
    refine dnil ?_
    refine Sv.ret ?_
    replace h := Option.some.inj h
    subst h
    exact ⟨_, .refl _, _, rfl, ⟨upd (fun _ => none) 0 (some (.tup [(I c_), (I 0)])), (fun _ => none), 0⟩, (.tup [(I c_), (I 0)]), weak_canon [] rfl List.nodup_nil (Nat.le_refl _) (fun b h => absurd h (Nat.not_lt_zero _)) (.cons rfl (avAs_tup (.cons (avAs_free rfl) (.cons (avAs_free rfl) .nil))) .nil) .nil, rfl, rfl, rfl, rfl⟩
abbrev color_Read_q0 (mL : Int) (o : (Int × Int)) : AExit → St → Prop := AThen (Sv Tryd.prog (GG mL) 0 a13_c1 (Ends a13.results 0 (color_Read_post o))) (Ends a13.results 0 (color_Read_post o))
noncomputable def color_Read_j4 (r_3 : ((List UInt8) × Bool)) (v50 : Bool) : Option (Int × Int) :=
  if v50 then
    (sub? r_3.1 0 (wi ((r_3.1.length : Int) - 1))).bind fun r_4 =>
    (color_parts r_4).bind fun r_5 =>
    color_Read_j3 r_5.1 r_5.2
  else
    color_Read_j3 0 false
theorem color_Read_j4_ok {mL : Int} {r_3 : ((List UInt8) × Bool)} {v50 : Bool} {o : (Int × Int)} (h : color_Read_j4 r_3 v50 = some o) :
    Sv Tryd.prog (GG mL) 0 a13_c0 (color_Read_q0 mL o) ⟨(upd (upd (upd (upd (fun _ => none) 6 (some (I 0))) 7 (some (B false))) 10 (some (S r_3.1))) 50 (some (B v50))), (fun _ => none), 0⟩ := by
  unfold color_Read_j4 at h
  refine Sv.cond (b := v50) rfl (fun hc5 => ?_) (fun hc5 => ?_)
  · replace h := ifT hc5 h
    refine Sv.region ?_
    refine un (a1 rfl ?_)
    refine un (a1 rfl ?_)
    refine un (a1 (v := (I (r_3.1.length : Int))) rfl ?_)
    refine un (a1 (v := (I (wi ((r_3.1.length : Int) - 1)))) rfl ?_)
    obtain ⟨r_4, hx1, h⟩ := bnd h
    refine un (a1 (v := (S r_4)) (s_slStr rfl rfl rfl hx1) ?_)
    obtain ⟨r_5, hr5, h⟩ := bnd h
    refine un (ac_pure (color_parts_ok hr5) rfl rfl rfl ?_)
    refine un (a1 rfl ?_)
    refine un (a1 (v := (I r_5.1)) rfl ?_)
    refine un (a1 (v := (B r_5.2)) rfl ?_)
    refine un (a1 rfl ?_)
    refine un (a1 rfl ?_)
    refine dnil ?_
    exact Sv.weak (weak_canon [] rfl (by decide) (by decide) (fun b h => absurd h (Nat.not_lt_zero _)) (.cons rfl (avAs_free rfl) (.cons rfl (avAs_free rfl) .nil)) .nil) (color_Read_j3_ok h)
  · replace h := ifF hc5 h
    refine Sv.skip ?_
    exact Sv.weak (weak_canon [] rfl (by decide) (by decide) (fun b h => absurd h (Nat.not_lt_zero _)) (.cons rfl (avAs_free rfl) (.cons rfl (avAs_free rfl) .nil)) .nil) (color_Read_j3_ok h)
/-- clerestory/color.Read -/
noncomputable def color_Read (s_ : (List UInt8)) : Option (Int × Int) :=
  (color_lower s_).bind fun r_ =>
  if decide (r_ = [116, 114, 97, 110, 115, 112, 97, 114, 101, 110, 116]) then
    some (0, 0)
  else
    if (color_named r_).2 then
      some ((bitsV .or .i64 (shl .i64 ((color_named r_).1) 8) 255), 0)
    else
      (strings_CutPrefix r_ [35]).bind fun r_1 =>
      if r_1.2 then
        (color_hex r_1.1).bind fun r_2 =>
        color_Read_j3 r_2.1 r_2.2
      else
        (strings_CutPrefix r_ [114, 103, 98, 40]).bind fun r_3 =>
        if r_3.2 then
          (strings_HasSuffix r_3.1 [41]).bind fun r_6 =>
          color_Read_j4 r_3 (r_6 && (decide ((r_3.1.length : Int) ≤ 40)))
        else
          color_Read_j4 r_3 false
theorem color_Read_ok {mL : Int} {s_ : (List UInt8)} {r : (Int × Int)} (h : color_Read s_ = some r) : CPure Tryd.prog (GG mL) 13 [(S s_)] (.tup [(I r.1), (I r.2)]) := by
  refine acalls_of_sv hmix c13 (R := color_Read_post r) ?_
  unfold color_Read at h
  refine Sv.seq ?_
  refine Sv.region ?_
  refine un (a1 rfl ?_)
  refine un (a1 rfl ?_)
  refine dnil ?_
  refine Sv.seq ?_
  refine Sv.region ?_
  refine un (a1 rfl ?_)
  obtain ⟨r_, hr1, h⟩ := bnd h
  refine un (ac_pure (color_lower_ok hr1) rfl rfl rfl ?_)
  refine un (a1 rfl ?_)
  refine dnil ?_
  refine Sv.seq ?_
  refine Sv.seq ?_
  refine Sv.region ?_
  refine un (a1 rfl ?_)
  refine un (a1 (v := (B (decide (r_ = [116, 114, 97, 110, 115, 112, 97, 114, 101, 110, 116])))) rfl ?_)
  refine dnil ?_
  refine Sv.cond (b := decide (r_ = [116, 114, 97, 110, 115, 112, 97, 114, 101, 110, 116])) rfl (fun hc1 => ?_) (fun hc1 => ?_)
  · replace h := ifT hc1 h
    refine Sv.seq ?_
    refine Sv.region ?_
    refine un (a1 rfl ?_)
    refine un (a1 rfl ?_)
    refine dnil ?_
    refine Sv.ret ?_
    replace h := Option.some.inj h
    subst h
    exact ⟨_, .refl _, _, rfl, ⟨upd (fun _ => none) 0 (some (.tup [(I 0), (I 0)])), (fun _ => none), 0⟩, (.tup [(I 0), (I 0)]), weak_canon [] rfl List.nodup_nil (Nat.le_refl _) (fun b h => absurd h (Nat.not_lt_zero _)) (.cons rfl (avAs_tup (.cons (avAs_free rfl) (.cons (avAs_free rfl) .nil))) .nil) .nil, rfl, rfl, rfl, rfl⟩
  · replace h := ifF hc1 h
    refine Sv.skip ?_
    refine Sv.seq ?_
    refine Sv.seq ?_
    refine Sv.region ?_
    refine un (a1 rfl ?_)
    refine un (ac_pure (color_named_ok (mL := mL) r_) rfl rfl rfl ?_)
    refine un (a1 rfl ?_)
    refine un (a1 (v := (I ((color_named r_).1))) rfl ?_)
    refine un (a1 (v := (B ((color_named r_).2))) rfl ?_)
    refine un (a1 rfl ?_)
    refine un (a1 rfl ?_)
    refine dnil ?_
    refine Sv.seq ?_
    refine Sv.region ?_
    refine un (a1 rfl ?_)
    refine dnil ?_
    refine Sv.cond (b := (color_named r_).2) rfl (fun hc2 => ?_) (fun hc2 => ?_)
    · replace h := ifT hc2 h
      refine Sv.seq ?_
      refine Sv.region ?_
      refine un (a1 rfl ?_)
      refine un (a1 (v := (I (shl .i64 ((color_named r_).1) 8))) rfl ?_)
      refine un (a1 (v := (I (bitsV .or .i64 (shl .i64 ((color_named r_).1) 8) 255))) rfl ?_)
      refine un (a1 rfl ?_)
      refine un (a1 rfl ?_)
      refine dnil ?_
      refine Sv.ret ?_
      replace h := Option.some.inj h
      subst h
      exact ⟨_, .refl _, _, rfl, ⟨upd (fun _ => none) 0 (some (.tup [(I (bitsV .or .i64 (shl .i64 ((color_named r_).1) 8) 255)), (I 0)])), (fun _ => none), 0⟩, (.tup [(I (bitsV .or .i64 (shl .i64 ((color_named r_).1) 8) 255)), (I 0)]), weak_canon [] rfl List.nodup_nil (Nat.le_refl _) (fun b h => absurd h (Nat.not_lt_zero _)) (.cons rfl (avAs_tup (.cons (avAs_free rfl) (.cons (avAs_free rfl) .nil))) .nil) .nil, rfl, rfl, rfl, rfl⟩
    · replace h := ifF hc2 h
      refine Sv.skip ?_
      refine Sv.seq ?_
      refine Sv.region ?_
      refine un (a1 rfl ?_)
      refine un (a1 rfl ?_)
      refine dnil ?_
      refine Sv.seq ?_
      refine Sv.seq ?_
      refine Sv.region ?_
      refine un (a1 rfl ?_)
      obtain ⟨r_1, hr2, h⟩ := bnd h
      refine un (ac_pure (strings_CutPrefix_ok hr2) rfl rfl rfl ?_)
      refine un (a1 rfl ?_)
      refine un (a1 (v := (S r_1.1)) rfl ?_)
      refine un (a1 (v := (B r_1.2)) rfl ?_)
      refine un (a1 rfl ?_)
      refine un (a1 rfl ?_)
      refine dnil ?_
      refine Sv.seq ?_
      refine Sv.region ?_
      refine un (a1 rfl ?_)
      refine dnil ?_
      refine Sv.cond (b := r_1.2) rfl (fun hc4 => ?_) (fun hc4 => ?_)
      · replace h := ifT hc4 h
        refine Sv.region ?_
        refine un (a1 rfl ?_)
        obtain ⟨r_2, hr3, h⟩ := bnd h
        refine un (ac_pure (color_hex_ok hr3) rfl rfl rfl ?_)
        refine un (a1 rfl ?_)
        refine un (a1 (v := (I r_2.1)) rfl ?_)
        refine un (a1 (v := (B r_2.2)) rfl ?_)
        refine un (a1 rfl ?_)
        refine un (a1 rfl ?_)
        refine dnil ?_
        exact Sv.weak (weak_canon [] rfl (by decide) (by decide) (fun b h => absurd h (Nat.not_lt_zero _)) (.cons rfl (avAs_free rfl) (.cons rfl (avAs_free rfl) .nil)) .nil) (color_Read_j3_ok h)
      · replace h := ifF hc4 h
        refine Sv.seq ?_
        refine Sv.region ?_
        refine un (a1 rfl ?_)
        obtain ⟨r_3, hr4, h⟩ := bnd h
        refine un (ac_pure (strings_CutPrefix_ok hr4) rfl rfl rfl ?_)
        refine un (a1 rfl ?_)
        refine un (a1 (v := (S r_3.1)) rfl ?_)
        refine un (a1 (v := (B r_3.2)) rfl ?_)
        refine un (a1 rfl ?_)
        refine un (a1 rfl ?_)
        refine dnil ?_
        refine Sv.seq ?_
        refine Sv.region ?_
        refine un (a1 rfl ?_)
        refine un (a1 rfl ?_)
        refine split2 (fun hc6 => ?_) (fun hc6 => ?_)
        · replace h := ifT hc6 h
          refine gt rfl (a1 rfl ?_)
          obtain ⟨r_6, hr6, h⟩ := bnd h
          refine gt rfl (ac_pure (strings_HasSuffix_ok hr6) rfl rfl rfl ?_)
          refine un (a1 (v := (B r_6)) rfl ?_)
          refine un (a1 rfl ?_)
          refine gjoin 4 (d := 50) (v := (B (r_6 && (decide ((r_3.1.length : Int) ≤ 40))))) (fun X hX => ?_) ?_
          · refine split2 (fun hc7 => ?_) (fun hc7 => ?_)
            · refine gt rfl (a1 rfl ?_)
              refine gt rfl (a1 (v := (I (r_3.1.length : Int))) rfl ?_)
              refine gt rfl (a1 (v := (B (decide ((r_3.1.length : Int) ≤ 40)))) rfl ?_)
              refine un (a1 (v := (B (decide ((r_3.1.length : Int) ≤ 40)))) rfl ?_)
              refine dnil ?_
              exact hX _ (.putEq (by rw [hc7]; rfl) (.skip _ _ (.skip _ _ (.skip _ _ (.putEq (by rw [hc7]) (.refl _)) rfl) rfl) rfl))
            · refine gs rfl rfl ?_
              refine gs rfl rfl ?_
              refine gs rfl rfl ?_
              refine un (a1 (v := (B false)) rfl ?_)
              refine dnil ?_
              exact hX _ (.putEq (by rw [hc7]; rfl) (.skip _ _ (.skip _ _ (.skip _ _ (.putEq (by rw [hc7]) (.refl _)) rfl) rfl) rfl))
          refine dnil ?_
          exact Sv.weak (weak_canon [] rfl (by decide) (by decide) (fun b h => absurd h (Nat.not_lt_zero _)) (.cons rfl (avAs_free rfl) (.cons rfl (avAs_free rfl) (.cons rfl (avAs_free rfl) (.cons rfl (avAs_free rfl) .nil)))) .nil) (color_Read_j4_ok h)
        · replace h := ifF hc6 h
          refine gs rfl rfl ?_
          refine gs rfl rfl ?_
          refine un (a1 (v := (B false)) rfl ?_)
          refine un (a1 rfl ?_)
          refine gs rfl rfl ?_
          refine gs rfl rfl ?_
          refine gs rfl rfl ?_
          refine un (a1 (v := (B false)) rfl ?_)
          refine dnil ?_
          exact Sv.weak (weak_canon [] rfl (by decide) (by decide) (fun b h => absurd h (Nat.not_lt_zero _)) (.cons rfl (avAs_free rfl) (.cons rfl (avAs_free rfl) (.cons rfl (avAs_free rfl) (.cons rfl (avAs_free rfl) .nil)))) .nil) (color_Read_j4_ok h)
def a12 : AFunc := ⟨0, [(.tmp 0)], (.seq (.region [⟨(some 0), (.mov (.const (.c (.val (.bool false))))), none⟩])
 (.seq (.region [⟨(some 4), (.call 13 [(.const (.c (.str [35, 70, 48, 48])))]), none⟩, ⟨(some 3), (.mov (.tmp 4)), none⟩, ⟨(some 5), (.ext (.tmp 3) 0), none⟩, ⟨(some 6), (.ext (.tmp 3) 1), none⟩, ⟨(some 1), (.mov (.tmp 5)), none⟩, ⟨(some 2), (.mov (.tmp 6)), none⟩])
 (.seq (.region [⟨(some 7), (.mov (.tmp 2)), none⟩, ⟨(some 8), (.bin .eql (.tmp 7) (.const (.c (.val (.int .i64 0))))), none⟩, ⟨(some 9), (.mov (.tmp 8)), none⟩, ⟨(some 10), (.mov (.tmp 1)), (some (9, true))⟩, ⟨(some 11), (.bin .eql (.tmp 10) (.const (.c (.val (.int .i64 4278190335))))), (some (9, true))⟩, ⟨(some 12), (.pick (.tmp 9) (.tmp 11) (.const (.c (.val (.bool false))))), none⟩, ⟨(some 0), (.mov (.tmp 12)), none⟩])
 .ret)))⟩
set_option maxRecDepth 100000 in
theorem c12 : compFunc Tryd.prog 12 = some a12 := by kernel_rfl
def clerestorylaw2_red_post (r : Bool) : AV → Heap → Nat → Prop := fun v h' n' => v = (B r) ∧ (h' = (fun _ => none)) ∧ n' = 0
/-- clerestory/clerestorylaw2.red -/
noncomputable def clerestorylaw2_red : Option Bool :=
  (color_Read [35, 70, 48, 48]).bind fun r_ =>
  some ((decide (r_.2 = 0)) && (decide (r_.1 = 4278190335)))
theorem clerestorylaw2_red_ok {mL : Int} {r : Bool} (h : clerestorylaw2_red = some r) : CPure Tryd.prog (GG mL) 12 [] (B r) := by
  refine acalls_of_sv hmix c12 (R := clerestorylaw2_red_post r) ?_
  unfold clerestorylaw2_red at h
  refine Sv.seq ?_
  refine Sv.region ?_
  refine un (a1 rfl ?_)
  refine dnil ?_
  refine Sv.seq ?_
  refine Sv.region ?_
  obtain ⟨r_, hr1, h⟩ := bnd h
  refine un (ac_pure (color_Read_ok hr1) rfl rfl rfl ?_)
  refine un (a1 rfl ?_)
  refine un (a1 (v := (I r_.1)) rfl ?_)
  refine un (a1 (v := (I r_.2)) rfl ?_)
  refine un (a1 rfl ?_)
  refine un (a1 rfl ?_)
  refine dnil ?_
  refine Sv.seq ?_
  refine Sv.region ?_
  refine un (a1 rfl ?_)
  refine un (a1 (v := (B (decide (r_.2 = 0)))) rfl ?_)
  refine un (a1 rfl ?_)
  refine gjoin 3 (d := 12) (v := (B ((decide (r_.2 = 0)) && (decide (r_.1 = 4278190335))))) (fun X hX => ?_) ?_
  · refine split2 (fun hc1 => ?_) (fun hc1 => ?_)
    · refine gt rfl (a1 rfl ?_)
      refine gt rfl (a1 (v := (B (decide (r_.1 = 4278190335)))) rfl ?_)
      refine un (a1 (v := (B (decide (r_.1 = 4278190335)))) rfl ?_)
      refine dnil ?_
      exact hX _ (.putEq (by rw [hc1]; rfl) (.skip _ _ (.skip _ _ (.putEq (by rw [hc1]) (.refl _)) rfl) rfl))
    · refine gs rfl rfl ?_
      refine gs rfl rfl ?_
      refine un (a1 (v := (B false)) rfl ?_)
      refine dnil ?_
      exact hX _ (.putEq (by rw [hc1]; rfl) (.skip _ _ (.skip _ _ (.putEq (by rw [hc1]) (.refl _)) rfl) rfl))
  refine un (a1 rfl ?_)
  refine dnil ?_
  refine Sv.ret ?_
  replace h := Option.some.inj h
  subst h
  exact ⟨_, .refl _, _, rfl, ⟨upd (fun _ => none) 0 (some (B ((decide (r_.2 = 0)) && (decide (r_.1 = 4278190335))))), (fun _ => none), 0⟩, (B ((decide (r_.2 = 0)) && (decide (r_.1 = 4278190335)))), weak_canon [] rfl List.nodup_nil (Nat.le_refl _) (fun b h => absurd h (Nat.not_lt_zero _)) (.cons rfl (avAs_free rfl) .nil) .nil, rfl, rfl, rfl, rfl⟩
def a40_c0 : ACode := (.cond (.tmp 24) (.region [⟨(some 25), (.mov (.tmp 3)), none⟩, ⟨(some 26), (.mov (.tmp 4)), none⟩, ⟨(some 27), (.mov (.tmp 3)), none⟩, ⟨(some 28), (.mov (.tmp 4)), none⟩, ⟨(some 29), (.iaddr 1 (.tmp 27) (.tmp 28)), none⟩, ⟨(some 30), (.load false 1 (.tmp 29)), none⟩, ⟨(some 31), (.bin .add (.tmp 30) (.const (.c (.val (.int .u8 32))))), none⟩, ⟨(some 32), (.iaddr 1 (.tmp 25) (.tmp 26)), none⟩, ⟨none, (.store 1 (.tmp 32) (.tmp 31)), none⟩]) .skip)
def a40_c1 : ACode := (.region [⟨(some 11), (.mov (.tmp 4)), none⟩, ⟨(some 12), (.bin .add (.tmp 11) (.const (.c (.val (.int .i64 1))))), none⟩, ⟨(some 4), (.mov (.tmp 12)), none⟩])
def a40_c2 : ACode := (.seq (.seq (.region [⟨(some 7), (.mov (.tmp 4)), none⟩, ⟨(some 8), (.mov (.tmp 3)), none⟩, ⟨(some 9), (.len (.tmp 8)), none⟩, ⟨(some 10), (.bin .lss (.tmp 7) (.tmp 9)), none⟩])
 (.cond (.tmp 10) .skip (.exit 0)))
 (.seq (.block 1 (.seq (.region [⟨(some 13), (.mov (.tmp 3)), none⟩, ⟨(some 14), (.mov (.tmp 4)), none⟩, ⟨(some 15), (.iaddr 1 (.tmp 13) (.tmp 14)), none⟩, ⟨(some 16), (.load false 1 (.tmp 15)), none⟩, ⟨(some 17), (.bin .geq (.tmp 16) (.const (.c (.val (.int .u8 65))))), none⟩, ⟨(some 18), (.mov (.tmp 17)), none⟩, ⟨(some 19), (.mov (.tmp 3)), (some (18, true))⟩, ⟨(some 20), (.mov (.tmp 4)), (some (18, true))⟩, ⟨(some 21), (.iaddr 1 (.tmp 19) (.tmp 20)), (some (18, true))⟩, ⟨(some 22), (.load false 1 (.tmp 21)), (some (18, true))⟩, ⟨(some 23), (.bin .leq (.tmp 22) (.const (.c (.val (.int .u8 90))))), (some (18, true))⟩, ⟨(some 24), (.pick (.tmp 18) (.tmp 23) (.const (.c (.val (.bool false))))), none⟩])
 a40_c0))
 a40_c1))
def a40 : AFunc := ⟨1, [(.tmp 2)], (.seq (.region [⟨(some 2), (.mov (.const (.c (.str [])))), none⟩])
 (.seq (.region [⟨(some 5), (.mov (.tmp 0)), none⟩, ⟨(some 6), (.toBytes (.tmp 5)), none⟩, ⟨(some 3), (.mov (.tmp 6)), none⟩])
 (.seq (.seq (.region [⟨(some 4), (.mov (.const (.c (.val (.int .i64 0))))), none⟩])
 (.block 0 (.loop a40_c2)))
 (.seq (.region [⟨(some 33), (.mov (.tmp 3)), none⟩, ⟨(some 34), (.ofBytes (.tmp 33)), none⟩, ⟨(some 2), (.mov (.tmp 34)), none⟩])
 .ret))))⟩
set_option maxRecDepth 100000 in
theorem c40 : compFunc Tryd.prog 40 = some a40 := by kernel_rfl
def clerestoryref2_Lower_post (r : (List UInt8)) : AV → Heap → Nat → Prop := fun v h' n' => v = (S r) ∧ (h' = (fun _ => none)) ∧ n' = 0
noncomputable def clerestoryref2_Lower_j11 (i_ : Int) (self : (List Int) → Int → Option (List UInt8)) (K0_ : (List Int) → Option (List UInt8)) (b_2 : (List Int)) : Option (List UInt8) :=
  self b_2 (wi (i_ + 1))
theorem clerestoryref2_Lower_j11_ok {mL : Int} {Q : AExit → St → Prop} {i_ : Int} {self : (List Int) → Int → Option (List UInt8)} {K0_ : (List Int) → Option (List UInt8)} {b_2 : (List Int)} {zb_2 : Bool} (hzb_2 : zb_2 = true → b_2 = []) {o : (List UInt8)} (h : clerestoryref2_Lower_j11 i_ self K0_ b_2 = some o)
    (hself : ∀ (b_ : (List Int)) (i_ : Int) (zb : Bool) (_ : zb = true → b_ = []), self b_ i_ = some o → ∀ s, Weak 0 s ⟨(upd (upd (fun _ => none) 3 (some (lstV zb 0 1 b_.length))) 4 (some (I i_))), (upd (fun _ => none) 0 (lstB zb 1 (b_.map (eK .u8)))), 1⟩ → (Q) .normal s)
    (hK0 : ∀ (b_1 : (List Int)) (zb_1 : Bool) (_ : zb_1 = true → b_1 = []), K0_ b_1 = some o → ∀ s, Weak 0 s ⟨(upd (fun _ => none) 3 (some (lstV zb_1 0 1 b_1.length))), (upd (fun _ => none) 0 (lstB zb_1 1 (b_1.map (eK .u8)))), 1⟩ → Q (.exit 0) s)
    (hr : ∀ s, Ends a40.results 0 (clerestoryref2_Lower_post o) .ret s → Q .ret s) :
    Sv Tryd.prog (GG mL) 0 a40_c1 Q ⟨(upd (upd (fun _ => none) 3 (some (lstV zb_2 0 1 b_2.length))) 4 (some (I i_))), (upd (fun _ => none) 0 (lstB zb_2 1 (b_2.map (eK .u8)))), 1⟩ := by
  unfold clerestoryref2_Lower_j11 at h
  refine Sv.region ?_
  refine un (a1 rfl ?_)
  refine un (a1 (v := (I (wi (i_ + 1)))) rfl ?_)
  refine un (a1 rfl ?_)
  refine dnil ?_
  exact hself b_2 (wi (i_ + 1)) zb_2 hzb_2 h _ (weak_canon [0] rfl (by decide) (by decide) (fun b h => absurd h (Nat.not_lt_zero _)) (.cons rfl (avAs_free rfl) (.cons rfl (.c (lstC_ren rfl (by decide))) .nil)) (.row (by decide) rfl (fr_map fun _ => rfl) .nil))
abbrev clerestoryref2_Lower_q0 (mL : Int) (Q : AExit → St → Prop) : AExit → St → Prop := AThen (Sv Tryd.prog (GG mL) 0 a40_c1 Q) Q
abbrev clerestoryref2_Lower_q1 (mL : Int) (Q : AExit → St → Prop) : AExit → St → Prop := ABlock 1 (clerestoryref2_Lower_q0 mL Q)
noncomputable def clerestoryref2_Lower_j12 (i_ : Int) (self : (List Int) → Int → Option (List UInt8)) (K0_ : (List Int) → Option (List UInt8)) (b_3 : (List Int)) (v24 : Bool) : Option (List UInt8) :=
  if v24 then
    (at? b_3 i_).bind fun x_ =>
    (at? b_3 i_).bind fun x_1 =>
    clerestoryref2_Lower_j11 i_ self K0_ (b_3.set i_.toNat (wr .u8 (x_ + 32)))
  else
    clerestoryref2_Lower_j11 i_ self K0_ b_3
theorem clerestoryref2_Lower_j12_ok {mL : Int} {Q : AExit → St → Prop} {i_ : Int} {self : (List Int) → Int → Option (List UInt8)} {K0_ : (List Int) → Option (List UInt8)} {b_3 : (List Int)} {v24 : Bool} {zb_3 : Bool} (hzb_3 : zb_3 = true → b_3 = []) {o : (List UInt8)} (h : clerestoryref2_Lower_j12 i_ self K0_ b_3 v24 = some o)
    (hself : ∀ (b_ : (List Int)) (i_ : Int) (zb : Bool) (_ : zb = true → b_ = []), self b_ i_ = some o → ∀ s, Weak 0 s ⟨(upd (upd (fun _ => none) 3 (some (lstV zb 0 1 b_.length))) 4 (some (I i_))), (upd (fun _ => none) 0 (lstB zb 1 (b_.map (eK .u8)))), 1⟩ → (Q) .normal s)
    (hK0 : ∀ (b_1 : (List Int)) (zb_1 : Bool) (_ : zb_1 = true → b_1 = []), K0_ b_1 = some o → ∀ s, Weak 0 s ⟨(upd (fun _ => none) 3 (some (lstV zb_1 0 1 b_1.length))), (upd (fun _ => none) 0 (lstB zb_1 1 (b_1.map (eK .u8)))), 1⟩ → Q (.exit 0) s)
    (hr : ∀ s, Ends a40.results 0 (clerestoryref2_Lower_post o) .ret s → Q .ret s) :
    Sv Tryd.prog (GG mL) 0 a40_c0 (clerestoryref2_Lower_q1 mL Q) ⟨(upd (upd (upd (fun _ => none) 3 (some (lstV zb_3 0 1 b_3.length))) 4 (some (I i_))) 24 (some (B v24))), (upd (fun _ => none) 0 (lstB zb_3 1 (b_3.map (eK .u8)))), 1⟩ := by
  unfold clerestoryref2_Lower_j12 at h
  refine Sv.cond (b := v24) rfl (fun hc2 => ?_) (fun hc2 => ?_)
  · replace h := ifT hc2 h
    refine Sv.region ?_
    refine un (a1 rfl ?_)
    refine un (a1 rfl ?_)
    refine un (a1 rfl ?_)
    refine un (a1 rfl ?_)
    obtain ⟨x_, hx1, h⟩ := bnd h
    refine un (a1 (v := (.c (.ref 0 1 i_.toNat 0))) (s_iaddrL rfl rfl hzb_3 hx1) ?_)
    refine un (a1 (v := (.c (.val (.int .u8 x_)))) (s_loadL (z := zb_3) (e := (eK .u8)) rfl rfl hzb_3 hx1 rfl rfl) ?_)
    refine un (a1 (v := (.c (.val (.int .u8 (wr .u8 (x_ + 32)))))) rfl ?_)
    obtain ⟨x_1, hx2, h⟩ := bnd h
    refine un (a1 (v := (.c (.ref 0 1 i_.toNat 0))) (s_iaddrL rfl rfl hzb_3 hx2) ?_)
    refine un (a2n (h' := upd _ 0 (lstB zb_3 1 ((b_3.set i_.toNat (wr .u8 (x_ + 32))).map (eK .u8)))) (n' := 1) rfl (s_storeL (e := (eK .u8)) (q' := (wr .u8 (x_ + 32))) rfl rfl hzb_3 hx2 rfl rfl rfl (Nat.le_of_ble_eq_true rfl) rfl) (fun h => by cases h) ?_)
    try rw [len_set b_3 i_.toNat (wr .u8 (x_ + 32))]
    refine dnil ?_
    exact Sv.weak (weak_canon [0] rfl (by decide) (by decide) (fun b h => absurd h (Nat.not_lt_zero _)) (.cons rfl (avAs_free rfl) (.cons rfl (.c (lstC_ren rfl (by decide))) .nil)) (.row (by decide) rfl (fr_map fun _ => rfl) .nil)) (clerestoryref2_Lower_j11_ok (hz_len hzb_3 (len_set b_3 i_.toNat (wr .u8 (x_ + 32)))) h hself hK0 hr)
  · replace h := ifF hc2 h
    refine Sv.skip ?_
    exact Sv.weak (weak_canon [0] rfl (by decide) (by decide) (fun b h => absurd h (Nat.not_lt_zero _)) (.cons rfl (avAs_free rfl) (.cons rfl (.c (lstC_ren rfl (by decide))) .nil)) (.row (by decide) rfl (fr_map fun _ => rfl) .nil)) (clerestoryref2_Lower_j11_ok hzb_3 h hself hK0 hr)
noncomputable def clerestoryref2_Lower_l0 (K0_ : (List Int) → Option (List UInt8)) : Nat → (List Int) → Int → Option (List UInt8)
  | 0, _, _ => none
  | k + 1, b_, i_ =>
    if decide (i_ < (b_.length : Int)) then
      (at? b_ i_).bind fun x_2 =>
      if decide (65 ≤ x_2) then
        (at? b_ i_).bind fun x_3 =>
        clerestoryref2_Lower_j12 i_ (clerestoryref2_Lower_l0 K0_ k) K0_ b_ (decide (x_3 ≤ 90))
      else
        clerestoryref2_Lower_j12 i_ (clerestoryref2_Lower_l0 K0_ k) K0_ b_ false
    else
      K0_ b_
theorem clerestoryref2_Lower_l0_ok {mL : Int} {Q : AExit → St → Prop} {K0_ : (List Int) → Option (List UInt8)} {k : Nat} {b_ : (List Int)} {i_ : Int} {zb : Bool} (hzb : zb = true → b_ = []) {o : (List UInt8)} (h : clerestoryref2_Lower_l0 K0_ k b_ i_ = some o)
    (hK0 : ∀ (b_1 : (List Int)) (zb_1 : Bool) (_ : zb_1 = true → b_1 = []), K0_ b_1 = some o → ∀ s, Weak 0 s ⟨(upd (fun _ => none) 3 (some (lstV zb_1 0 1 b_1.length))), (upd (fun _ => none) 0 (lstB zb_1 1 (b_1.map (eK .u8)))), 1⟩ → Q (.exit 0) s)
    (hr : ∀ s, Ends a40.results 0 (clerestoryref2_Lower_post o) .ret s → Q .ret s) :
    Sv Tryd.prog (GG mL) 0 (.loop a40_c2) Q ⟨(upd (upd (fun _ => none) 3 (some (lstV zb 0 1 b_.length))) 4 (some (I i_))), (upd (fun _ => none) 0 (lstB zb 1 (b_.map (eK .u8)))), 1⟩ := by
  refine Sv.loop (I := fun k s => ∃ (b_ : (List Int)), ∃ (i_ : Int), ∃ (zb : Bool), (zb = true → b_ = []) ∧ clerestoryref2_Lower_l0 K0_ k b_ i_ = some o ∧ s = ⟨(upd (upd (fun _ => none) 3 (some (lstV zb 0 1 b_.length))) 4 (some (I i_))), (upd (fun _ => none) 0 (lstB zb 1 (b_.map (eK .u8)))), 1⟩) (fun k s hI => ?_) ⟨b_, i_, zb, hzb, h, rfl⟩
  clear h
  clear hzb zb i_ b_
  obtain ⟨b_, i_, zb, hzb, h, rfl⟩ := hI
  cases k with
  | zero => cases h
  | succ k =>
  rw [clerestoryref2_Lower_l0] at h
  have hself : ∀ (b_ : (List Int)) (i_ : Int) (zb : Bool) (_ : zb = true → b_ = []), (clerestoryref2_Lower_l0 K0_ k) b_ i_ = some o → ∀ s, Weak 0 s ⟨(upd (upd (fun _ => none) 3 (some (lstV zb 0 1 b_.length))) 4 (some (I i_))), (upd (fun _ => none) 0 (lstB zb 1 (b_.map (eK .u8)))), 1⟩ → (AThen (fun s' => ∃ s'' k', Weak 0 s' s'' ∧ k' < k + 1 ∧ (fun k s => ∃ (b_ : (List Int)), ∃ (i_ : Int), ∃ (zb : Bool), (zb = true → b_ = []) ∧ clerestoryref2_Lower_l0 K0_ k b_ i_ = some o ∧ s = ⟨(upd (upd (fun _ => none) 3 (some (lstV zb 0 1 b_.length))) 4 (some (I i_))), (upd (fun _ => none) 0 (lstB zb 1 (b_.map (eK .u8)))), 1⟩) k' s'') Q) .normal s := fun b_ i_ zb hzb h s hw => ⟨_, k, hw, Nat.lt_succ_self k, b_, i_, zb, hzb, h, rfl⟩
  refine Sv.seq ?_
  refine Sv.seq ?_
  refine Sv.region ?_
  refine un (a1 rfl ?_)
  refine un (a1 rfl ?_)
  refine un (a1 (v := (I (b_.length : Int))) (s_lenL rfl (len_nil_of hzb)) ?_)
  refine un (a1 (v := (B (decide (i_ < (b_.length : Int))))) rfl ?_)
  refine dnil ?_
  refine Sv.cond (b := decide (i_ < (b_.length : Int))) rfl (fun hc1 => ?_) (fun hc1 => ?_)
  · replace h := ifT hc1 h
    refine Sv.skip ?_
    refine Sv.seq ?_
    refine Sv.block ?_
    refine Sv.seq ?_
    refine Sv.region ?_
    refine un (a1 rfl ?_)
    refine un (a1 rfl ?_)
    obtain ⟨x_2, hx3, h⟩ := bnd h
    refine un (a1 (v := (.c (.ref 0 1 i_.toNat 0))) (s_iaddrL rfl rfl hzb hx3) ?_)
    refine un (a1 (v := (.c (.val (.int .u8 x_2)))) (s_loadL (z := zb) (e := (eK .u8)) rfl rfl hzb hx3 rfl rfl) ?_)
    refine un (a1 (v := (B (decide (65 ≤ x_2)))) rfl ?_)
    refine un (a1 rfl ?_)
    refine split2 (fun hc3 => ?_) (fun hc3 => ?_)
    · replace h := ifT hc3 h
      refine gt rfl (a1 rfl ?_)
      refine gt rfl (a1 rfl ?_)
      obtain ⟨x_3, hx4, h⟩ := bnd h
      refine gt rfl (a1 (v := (.c (.ref 0 1 i_.toNat 0))) (s_iaddrL rfl rfl hzb hx4) ?_)
      refine gt rfl (a1 (v := (.c (.val (.int .u8 x_3)))) (s_loadL (z := zb) (e := (eK .u8)) rfl rfl hzb hx4 rfl rfl) ?_)
      refine gt rfl (a1 (v := (B (decide (x_3 ≤ 90)))) rfl ?_)
      refine un (a1 (v := (B (decide (x_3 ≤ 90)))) rfl ?_)
      refine dnil ?_
      exact Sv.weak (weak_canon [0] rfl (by decide) (by decide) (fun b h => absurd h (Nat.not_lt_zero _)) (.cons rfl (avAs_free rfl) (.cons rfl (avAs_free rfl) (.cons rfl (.c (lstC_ren rfl (by decide))) .nil))) (.row (by decide) rfl (fr_map fun _ => rfl) .nil)) (clerestoryref2_Lower_j12_ok hzb h hself hK0 hr)
    · replace h := ifF hc3 h
      refine gs rfl rfl ?_
      refine gs rfl rfl ?_
      refine gs rfl rfl ?_
      refine gs rfl rfl ?_
      refine gs rfl rfl ?_
      refine un (a1 (v := (B false)) rfl ?_)
      refine dnil ?_
      exact Sv.weak (weak_canon [0] rfl (by decide) (by decide) (fun b h => absurd h (Nat.not_lt_zero _)) (.cons rfl (avAs_free rfl) (.cons rfl (avAs_free rfl) (.cons rfl (.c (lstC_ren rfl (by decide))) .nil))) (.row (by decide) rfl (fr_map fun _ => rfl) .nil)) (clerestoryref2_Lower_j12_ok hzb h hself hK0 hr)
  · replace h := ifF hc1 h
    refine Sv.exit ?_
    exact hK0 b_ zb hzb h _ (weak_canon [0] rfl (by decide) (by decide) (fun b h => absurd h (Nat.not_lt_zero _)) (.cons rfl (.c (lstC_ren rfl (by decide))) .nil) (.row (by decide) rfl (fr_map fun _ => rfl) .nil))
/-- clerestory/clerestoryref2.Lower -/
noncomputable def clerestoryref2_Lower (s_ : (List UInt8)) : Option (List UInt8) :=
  lim fun kk => clerestoryref2_Lower_l0 (fun (b_1 : (List Int)) => 
      some (byts b_1)) kk (ints s_) 0
theorem clerestoryref2_Lower_ok {mL : Int} {s_ : (List UInt8)} {r : (List UInt8)} (h : clerestoryref2_Lower s_ = some r) : CPure Tryd.prog (GG mL) 40 [(S s_)] (S r) := by
  refine acalls_of_sv hmix c40 (R := clerestoryref2_Lower_post r) ?_
  unfold clerestoryref2_Lower at h
  refine Sv.seq ?_
  refine Sv.region ?_
  refine un (a1 rfl ?_)
  refine dnil ?_
  refine Sv.seq ?_
  refine Sv.region ?_
  refine un (a1 rfl ?_)
  refine un (a2v (v := (lstV false 0 1 (ints s_).length)) (h' := upd _ 0 (lstB false 1 ((ints s_).map (eK .u8)))) (n' := 1) rfl (s_toBytes rfl) (fun h => by cases h) ?_)
  refine un (a1 rfl ?_)
  refine dnil ?_
  refine Sv.seq ?_
  refine Sv.seq ?_
  refine Sv.region ?_
  refine un (a1 rfl ?_)
  refine dnil ?_
  refine Sv.block ?_
  obtain ⟨kk, h⟩ := lim_some h
  refine Sv.weak (weak_canon [0] rfl (by decide) (by decide) (fun b h => absurd h (Nat.not_lt_zero _)) (.cons rfl (avAs_free rfl) (.cons rfl (.c (lstC_ren rfl (by decide))) .nil)) (.row (by decide) rfl (fr_map fun _ => rfl) .nil)) (clerestoryref2_Lower_l0_ok (fun h => by cases h) h ?_ (fun s hs => hs))
  · intro b_1 zb_1 hzb_1 h _ hw1
    refine Sv.weak hw1 ?_
    refine Sv.seq ?_
    refine Sv.region ?_
    refine un (a1 rfl ?_)
    refine un (a1 (v := (S (byts b_1))) (s_ofBytes (xs := b_1) rfl (slc_lst rfl (List.length_map _).symm (map_nil_of hzb_1))) ?_)
    refine un (a1 rfl ?_)
    refine dnil ?_
    refine Sv.ret ?_
    replace h := Option.some.inj h
    subst h
    exact ⟨_, .refl _, _, rfl, ⟨upd (fun _ => none) 0 (some (S (byts b_1))), (fun _ => none), 0⟩, (S (byts b_1)), weak_canon [] rfl List.nodup_nil (Nat.le_refl _) (fun b h => absurd h (Nat.not_lt_zero _)) (.cons rfl (avAs_free rfl) .nil) .nil, rfl, rfl, rfl, rfl⟩
def a41 : AFunc := ⟨0, [(.tmp 0), (.tmp 1)], (.seq (.region [⟨(some 0), (.mov (.const (.c (.ro true 1 [])))), none⟩, ⟨(some 1), (.mov (.const (.c (.ro true 1 [])))), none⟩])
 (.seq (.region [⟨(some 2), (.bslice 1 [(.str [])] 17 [(0, (.const (.c (.str [98, 108, 97, 99, 107])))), (1, (.const (.c (.str [115, 105, 108, 118, 101, 114])))), (2, (.const (.c (.str [103, 114, 97, 121])))), (3, (.const (.c (.str [119, 104, 105, 116, 101])))), (4, (.const (.c (.str [109, 97, 114, 111, 111, 110])))), (5, (.const (.c (.str [114, 101, 100])))), (6, (.const (.c (.str [112, 117, 114, 112, 108, 101])))), (7, (.const (.c (.str [102, 117, 99, 104, 115, 105, 97])))), (8, (.const (.c (.str [103, 114, 101, 101, 110])))), (9, (.const (.c (.str [108, 105, 109, 101])))), (10, (.const (.c (.str [111, 108, 105, 118, 101])))), (11, (.const (.c (.str [121, 101, 108, 108, 111, 119])))), (12, (.const (.c (.str [110, 97, 118, 121])))), (13, (.const (.c (.str [98, 108, 117, 101])))), (14, (.const (.c (.str [116, 101, 97, 108])))), (15, (.const (.c (.str [97, 113, 117, 97])))), (16, (.const (.c (.str [111, 114, 97, 110, 103, 101]))))]), none⟩, ⟨(some 3), (.bslice 1 [(.val (.int .i64 0))] 17 [(0, (.const (.c (.val (.int .i64 0))))), (1, (.const (.c (.val (.int .i64 12632256))))), (2, (.const (.c (.val (.int .i64 8421504))))), (3, (.const (.c (.val (.int .i64 16777215))))), (4, (.const (.c (.val (.int .i64 8388608))))), (5, (.const (.c (.val (.int .i64 16711680))))), (6, (.const (.c (.val (.int .i64 8388736))))), (7, (.const (.c (.val (.int .i64 16711935))))), (8, (.const (.c (.val (.int .i64 32768))))), (9, (.const (.c (.val (.int .i64 65280))))), (10, (.const (.c (.val (.int .i64 8421376))))), (11, (.const (.c (.val (.int .i64 16776960))))), (12, (.const (.c (.val (.int .i64 128))))), (13, (.const (.c (.val (.int .i64 255))))), (14, (.const (.c (.val (.int .i64 32896))))), (15, (.const (.c (.val (.int .i64 65535))))), (16, (.const (.c (.val (.int .i64 16753920)))))]), none⟩, ⟨(some 0), (.mov (.tmp 2)), none⟩, ⟨(some 1), (.mov (.tmp 3)), none⟩])
 .ret))⟩
set_option maxRecDepth 100000 in
theorem c41 : compFunc Tryd.prog 41 = some a41 := by kernel_rfl
def clerestoryref2_ColorNames_post (r : ((List (List UInt8)) × (List Int))) : AV → Heap → Nat → Prop := fun v h' n' => ∃ z0 : Bool, (z0 = true → r.1 = []) ∧ ∃ z1 : Bool, (z1 = true → r.2 = []) ∧ v = (.tup [(lstV z0 0 1 r.1.length), (lstV z1 1 1 r.2.length)]) ∧ (h' = (upd (upd (fun _ => none) 0 (lstB z0 1 (r.1.map eStr))) 1 (lstB z1 1 (r.2.map eI)))) ∧ n' = 2
def clerestoryref2_ColorNames_t0 : List (List UInt8) := [[98, 108, 97, 99, 107], [115, 105, 108, 118, 101, 114], [103, 114, 97, 121], [119, 104, 105, 116, 101], [109, 97, 114, 111, 111, 110], [114, 101, 100], [112, 117, 114, 112, 108, 101], [102, 117, 99, 104, 115, 105, 97], [103, 114, 101, 101, 110], [108, 105, 109, 101], [111, 108, 105, 118, 101], [121, 101, 108, 108, 111, 119], [110, 97, 118, 121], [98, 108, 117, 101], [116, 101, 97, 108], [97, 113, 117, 97], [111, 114, 97, 110, 103, 101]]
def clerestoryref2_ColorNames_t1 : List Int := [0, 12632256, 8421504, 16777215, 8388608, 16711680, 8388736, 16711935, 32768, 65280, 8421376, 16776960, 128, 255, 32896, 65535, 16753920]
/-- clerestory/clerestoryref2.ColorNames -/
noncomputable def clerestoryref2_ColorNames : Option ((List (List UInt8)) × (List Int)) :=
  some (clerestoryref2_ColorNames_t0, clerestoryref2_ColorNames_t1)
theorem clerestoryref2_ColorNames_ok {mL : Int} {r : ((List (List UInt8)) × (List Int))} (h : clerestoryref2_ColorNames = some r) : ACalls Tryd.prog (GG mL) 41 [] (fun _ => none) 0 (clerestoryref2_ColorNames_post r) := by
  refine acalls_of_sv hmix c41 (R := clerestoryref2_ColorNames_post r) ?_
  unfold clerestoryref2_ColorNames at h
  refine Sv.seq ?_
  refine Sv.region ?_
  refine un (a1 rfl ?_)
  refine un (a1 rfl ?_)
  refine dnil ?_
  refine Sv.seq ?_
  refine Sv.region ?_
  refine un (a2v (v := (lstV false 0 1 clerestoryref2_ColorNames_t0.length)) (h' := upd _ 0 (lstB false 1 (clerestoryref2_ColorNames_t0.map eStr))) (n' := 1) rfl rfl (fun h => by cases h) ?_)
  refine un (a2v (v := (lstV false 1 1 clerestoryref2_ColorNames_t1.length)) (h' := upd _ 1 (lstB false 1 (clerestoryref2_ColorNames_t1.map eI))) (n' := 2) rfl rfl (fun h => by cases h) ?_)
  refine un (a1 rfl ?_)
  refine un (a1 rfl ?_)
  refine dnil ?_
  refine Sv.ret ?_
  replace h := Option.some.inj h
  subst h
  exact ⟨_, .refl _, _, rfl, ⟨upd (fun _ => none) 0 (some (.tup [(lstV false 0 1 clerestoryref2_ColorNames_t0.length), (lstV false 1 1 clerestoryref2_ColorNames_t1.length)])), (upd (upd (fun _ => none) 0 (lstB false 1 (clerestoryref2_ColorNames_t0.map eStr))) 1 (lstB false 1 (clerestoryref2_ColorNames_t1.map eI))), 2⟩, (.tup [(lstV false 0 1 clerestoryref2_ColorNames_t0.length), (lstV false 1 1 clerestoryref2_ColorNames_t1.length)]), weak_canon2 [0, 1] [0, 1] (by decide) (by decide) (fun b h => absurd h (Nat.not_lt_zero _)) (.cons (by decide) (.cons (by decide) .nil)) (.cons rfl (avAs_tup (.cons (.c (lstC_ren rfl (by decide))) (.cons (.c (lstC_ren rfl (by decide))) .nil))) .nil) (.row (by decide) rfl (fr_map fun _ => rfl) (.row (by decide) rfl (fr_map fun _ => rfl) .nil)), rfl, false, (fun h => by cases h), false, (fun h => by cases h), rfl, rfl, rfl⟩
def a87 : AFunc := ⟨1, [(.tmp 2)], (.seq (.region [⟨(some 2), (.mov (.const (.c (.val (.bool false))))), none⟩])
 (.seq (.region [⟨(some 3), (.mov (.tmp 0)), none⟩, ⟨(some 4), (.bin .geq (.tmp 3) (.const (.c (.val (.int .u8 48))))), none⟩, ⟨(some 5), (.mov (.tmp 4)), none⟩, ⟨(some 6), (.mov (.tmp 0)), (some (5, true))⟩, ⟨(some 7), (.bin .leq (.tmp 6) (.const (.c (.val (.int .u8 57))))), (some (5, true))⟩, ⟨(some 8), (.pick (.tmp 5) (.tmp 7) (.const (.c (.val (.bool false))))), none⟩, ⟨(some 2), (.mov (.tmp 8)), none⟩])
 .ret))⟩
set_option maxRecDepth 100000 in
theorem c87 : compFunc Tryd.prog 87 = some a87 := by kernel_rfl
def clerestoryref2_digit_post (r : Bool) : AV → Heap → Nat → Prop := fun v h' n' => v = (B r) ∧ (h' = (fun _ => none)) ∧ n' = 0
/-- clerestory/clerestoryref2.digit -/
def clerestoryref2_digit (c_ : Int) : Bool :=
  ((decide (48 ≤ c_)) && (decide (c_ ≤ 57)))
theorem clerestoryref2_digit_ok {mL : Int} (c_ : Int) : CPure Tryd.prog (GG mL) 87 [(.c (.val (.int .u8 c_)))] (B (clerestoryref2_digit c_)) := by
  generalize h : clerestoryref2_digit c_ = o
  refine acalls_of_sv hmix c87 (R := clerestoryref2_digit_post o) ?_
  unfold clerestoryref2_digit at h
  refine Sv.seq ?_
  refine Sv.region ?_
  refine un (a1 rfl ?_)
  refine dnil ?_
  refine Sv.seq ?_
  refine Sv.region ?_
  refine un (a1 rfl ?_)
  refine un (a1 (v := (B (decide (48 ≤ c_)))) rfl ?_)
  refine un (a1 rfl ?_)
  refine gjoin 3 (d := 8) (v := (B ((decide (48 ≤ c_)) && (decide (c_ ≤ 57))))) (fun X hX => ?_) ?_
  · refine split2 (fun hc1 => ?_) (fun hc1 => ?_)
    · refine gt rfl (a1 rfl ?_)
      refine gt rfl (a1 (v := (B (decide (c_ ≤ 57)))) rfl ?_)
      refine un (a1 (v := (B (decide (c_ ≤ 57)))) rfl ?_)
      refine dnil ?_
      exact hX _ (.putEq (by rw [hc1]; rfl) (.skip _ _ (.skip _ _ (.putEq (by rw [hc1]) (.refl _)) rfl) rfl))
    · refine gs rfl rfl ?_
      refine gs rfl rfl ?_
      refine un (a1 (v := (B false)) rfl ?_)
      refine dnil ?_
      exact hX _ (.putEq (by rw [hc1]; rfl) (.skip _ _ (.skip _ _ (.putEq (by rw [hc1]) (.refl _)) rfl) rfl))
  refine un (a1 rfl ?_)
  refine dnil ?_
  refine Sv.ret ?_
  subst h
  exact ⟨_, .refl _, _, rfl, ⟨upd (fun _ => none) 0 (some (B ((decide (48 ≤ c_)) && (decide (c_ ≤ 57))))), (fun _ => none), 0⟩, (B ((decide (48 ≤ c_)) && (decide (c_ ≤ 57)))), weak_canon [] rfl List.nodup_nil (Nat.le_refl _) (fun b h => absurd h (Nat.not_lt_zero _)) (.cons rfl (avAs_free rfl) .nil) .nil, rfl, rfl, rfl, rfl⟩
def a64 : AFunc := ⟨1, [(.tmp 2)], (.seq (.region [⟨(some 2), (.mov (.const (.c (.val (.int .i64 0))))), none⟩])
 (.seq (.seq (.region [⟨(some 3), (.mov (.tmp 0)), none⟩, ⟨(some 4), (.call 87 [(.tmp 3)]), none⟩])
 (.cond (.tmp 4) (.seq (.region [⟨(some 5), (.mov (.tmp 0)), none⟩, ⟨(some 6), (.bin .sub (.tmp 5) (.const (.c (.val (.int .u8 48))))), none⟩, ⟨(some 7), (.conv .i64 (.tmp 6)), none⟩, ⟨(some 2), (.mov (.tmp 7)), none⟩])
 .ret) .skip))
 (.seq (.seq (.region [⟨(some 8), (.mov (.tmp 0)), none⟩, ⟨(some 9), (.bin .geq (.tmp 8) (.const (.c (.val (.int .u8 97))))), none⟩, ⟨(some 10), (.mov (.tmp 9)), none⟩, ⟨(some 11), (.mov (.tmp 0)), (some (10, true))⟩, ⟨(some 12), (.bin .leq (.tmp 11) (.const (.c (.val (.int .u8 102))))), (some (10, true))⟩, ⟨(some 13), (.pick (.tmp 10) (.tmp 12) (.const (.c (.val (.bool false))))), none⟩])
 (.cond (.tmp 13) (.seq (.region [⟨(some 14), (.mov (.tmp 0)), none⟩, ⟨(some 15), (.bin .sub (.tmp 14) (.const (.c (.val (.int .u8 97))))), none⟩, ⟨(some 16), (.conv .i64 (.tmp 15)), none⟩, ⟨(some 17), (.bin .add (.tmp 16) (.const (.c (.val (.int .i64 10))))), none⟩, ⟨(some 2), (.mov (.tmp 17)), none⟩])
 .ret) .skip))
 (.seq (.region [⟨(some 2), (.mov (.const (.c (.val (.int .i64 (-1)))))), none⟩])
 .ret))))⟩
set_option maxRecDepth 100000 in
theorem c64 : compFunc Tryd.prog 64 = some a64 := by kernel_rfl
def clerestoryref2_hex_post (r : Int) : AV → Heap → Nat → Prop := fun v h' n' => v = (I r) ∧ (h' = (fun _ => none)) ∧ n' = 0
/-- clerestory/clerestoryref2.hex -/
def clerestoryref2_hex (c_ : Int) : Int :=
  if (clerestoryref2_digit c_) then
    (wr .i64 (wr .u8 (c_ - 48)))
  else
    if ((decide (97 ≤ c_)) && (decide (c_ ≤ 102))) then
      (wi ((wr .i64 (wr .u8 (c_ - 97))) + 10))
    else
      (-1)
theorem clerestoryref2_hex_ok {mL : Int} (c_ : Int) : CPure Tryd.prog (GG mL) 64 [(.c (.val (.int .u8 c_)))] (I (clerestoryref2_hex c_)) := by
  generalize h : clerestoryref2_hex c_ = o
  refine acalls_of_sv hmix c64 (R := clerestoryref2_hex_post o) ?_
  unfold clerestoryref2_hex at h
  refine Sv.seq ?_
  refine Sv.region ?_
  refine un (a1 rfl ?_)
  refine dnil ?_
  refine Sv.seq ?_
  refine Sv.seq ?_
  refine Sv.region ?_
  refine un (a1 rfl ?_)
  refine un (ac_pure (clerestoryref2_digit_ok (mL := mL) c_) rfl rfl rfl ?_)
  refine dnil ?_
  refine Sv.cond (b := (clerestoryref2_digit c_)) rfl (fun hc1 => ?_) (fun hc1 => ?_)
  · replace h := ifT hc1 h
    refine Sv.seq ?_
    refine Sv.region ?_
    refine un (a1 rfl ?_)
    refine un (a1 (v := (.c (.val (.int .u8 (wr .u8 (c_ - 48)))))) rfl ?_)
    refine un (a1 (v := (I (wr .i64 (wr .u8 (c_ - 48))))) rfl ?_)
    refine un (a1 rfl ?_)
    refine dnil ?_
    refine Sv.ret ?_
    subst h
    exact ⟨_, .refl _, _, rfl, ⟨upd (fun _ => none) 0 (some (I (wr .i64 (wr .u8 (c_ - 48))))), (fun _ => none), 0⟩, (I (wr .i64 (wr .u8 (c_ - 48)))), weak_canon [] rfl List.nodup_nil (Nat.le_refl _) (fun b h => absurd h (Nat.not_lt_zero _)) (.cons rfl (avAs_free rfl) .nil) .nil, rfl, rfl, rfl, rfl⟩
  · replace h := ifF hc1 h
    refine Sv.skip ?_
    refine Sv.seq ?_
    refine Sv.seq ?_
    refine Sv.region ?_
    refine un (a1 rfl ?_)
    refine un (a1 (v := (B (decide (97 ≤ c_)))) rfl ?_)
    refine un (a1 rfl ?_)
    refine gjoin 3 (d := 13) (v := (B ((decide (97 ≤ c_)) && (decide (c_ ≤ 102))))) (fun X hX => ?_) ?_
    · refine split2 (fun hc2 => ?_) (fun hc2 => ?_)
      · refine gt rfl (a1 rfl ?_)
        refine gt rfl (a1 (v := (B (decide (c_ ≤ 102)))) rfl ?_)
        refine un (a1 (v := (B (decide (c_ ≤ 102)))) rfl ?_)
        refine dnil ?_
        exact hX _ (.putEq (by rw [hc2]; rfl) (.skip _ _ (.skip _ _ (.putEq (by rw [hc2]) (.refl _)) rfl) rfl))
      · refine gs rfl rfl ?_
        refine gs rfl rfl ?_
        refine un (a1 (v := (B false)) rfl ?_)
        refine dnil ?_
        exact hX _ (.putEq (by rw [hc2]; rfl) (.skip _ _ (.skip _ _ (.putEq (by rw [hc2]) (.refl _)) rfl) rfl))
    refine dnil ?_
    refine Sv.cond (b := ((decide (97 ≤ c_)) && (decide (c_ ≤ 102)))) rfl (fun hc3 => ?_) (fun hc3 => ?_)
    · replace h := ifT hc3 h
      refine Sv.seq ?_
      refine Sv.region ?_
      refine un (a1 rfl ?_)
      refine un (a1 (v := (.c (.val (.int .u8 (wr .u8 (c_ - 97)))))) rfl ?_)
      refine un (a1 (v := (I (wr .i64 (wr .u8 (c_ - 97))))) rfl ?_)
      refine un (a1 (v := (I (wi ((wr .i64 (wr .u8 (c_ - 97))) + 10)))) rfl ?_)
      refine un (a1 rfl ?_)
      refine dnil ?_
      refine Sv.ret ?_
      subst h
      exact ⟨_, .refl _, _, rfl, ⟨upd (fun _ => none) 0 (some (I (wi ((wr .i64 (wr .u8 (c_ - 97))) + 10)))), (fun _ => none), 0⟩, (I (wi ((wr .i64 (wr .u8 (c_ - 97))) + 10))), weak_canon [] rfl List.nodup_nil (Nat.le_refl _) (fun b h => absurd h (Nat.not_lt_zero _)) (.cons rfl (avAs_free rfl) .nil) .nil, rfl, rfl, rfl, rfl⟩
    · replace h := ifF hc3 h
      refine Sv.skip ?_
      refine Sv.seq ?_
      refine Sv.region ?_
      refine un (a1 rfl ?_)
      refine dnil ?_
      refine Sv.ret ?_
      subst h
      exact ⟨_, .refl _, _, rfl, ⟨upd (fun _ => none) 0 (some (I (-1))), (fun _ => none), 0⟩, (I (-1)), weak_canon [] rfl List.nodup_nil (Nat.le_refl _) (fun b h => absurd h (Nat.not_lt_zero _)) (.cons rfl (avAs_free rfl) .nil) .nil, rfl, rfl, rfl, rfl⟩
def a42_c0 : ACode := (.region [⟨(some 29), (.mov (.tmp 5)), none⟩, ⟨(some 30), (.bin .add (.tmp 29) (.const (.c (.val (.int .i64 1))))), none⟩, ⟨(some 5), (.mov (.tmp 30)), none⟩])
def a42_c1 : ACode := (.seq (.seq (.region [⟨(some 25), (.mov (.tmp 5)), none⟩, ⟨(some 26), (.mov (.tmp 0)), none⟩, ⟨(some 27), (.lenS (.tmp 26)), none⟩, ⟨(some 28), (.bin .lss (.tmp 25) (.tmp 27)), none⟩])
 (.cond (.tmp 28) .skip (.exit 0)))
 (.seq (.block 1 (.seq (.region [⟨(some 31), (.mov (.tmp 0)), none⟩, ⟨(some 32), (.mov (.tmp 5)), none⟩, ⟨(some 33), (.idxS (.tmp 31) (.tmp 32)), none⟩, ⟨(some 34), (.call 64 [(.tmp 33)]), none⟩, ⟨(some 6), (.mov (.tmp 34)), none⟩])
 (.seq (.seq (.region [⟨(some 35), (.mov (.tmp 6)), none⟩, ⟨(some 36), (.bin .lss (.tmp 35) (.const (.c (.val (.int .i64 0))))), none⟩])
 (.cond (.tmp 36) (.seq (.region [⟨(some 2), (.mov (.const (.c (.val (.int .i64 0))))), none⟩, ⟨(some 3), (.mov (.const (.c (.val (.bool false))))), none⟩])
 .ret) .skip))
 (.seq (.region [⟨(some 37), (.mov (.tmp 4)), none⟩, ⟨(some 38), (.bin .mul (.const (.c (.val (.int .i64 16)))) (.tmp 37)), none⟩, ⟨(some 39), (.mov (.tmp 6)), none⟩, ⟨(some 40), (.bin .add (.tmp 38) (.tmp 39)), none⟩, ⟨(some 4), (.mov (.tmp 40)), none⟩])
 (.seq (.region [⟨(some 41), (.mov (.tmp 0)), none⟩, ⟨(some 42), (.lenS (.tmp 41)), none⟩, ⟨(some 43), (.bin .lss (.tmp 42) (.const (.c (.val (.int .i64 5))))), none⟩])
 (.cond (.tmp 43) (.region [⟨(some 44), (.mov (.tmp 4)), none⟩, ⟨(some 45), (.bin .mul (.const (.c (.val (.int .i64 16)))) (.tmp 44)), none⟩, ⟨(some 46), (.mov (.tmp 6)), none⟩, ⟨(some 47), (.bin .add (.tmp 45) (.tmp 46)), none⟩, ⟨(some 4), (.mov (.tmp 47)), none⟩]) .skip))))))
 a42_c0))
def a42_c2 : ACode := (.seq (.region [⟨(some 59), (.mov (.tmp 4)), none⟩, ⟨(some 2), (.mov (.tmp 59)), none⟩, ⟨(some 3), (.mov (.const (.c (.val (.bool true))))), none⟩])
 .ret)
def a42 : AFunc := ⟨1, [(.tmp 2), (.tmp 3)], (.seq (.region [⟨(some 2), (.mov (.const (.c (.val (.int .i64 0))))), none⟩, ⟨(some 3), (.mov (.const (.c (.val (.bool false))))), none⟩])
 (.seq (.seq (.region [⟨(some 7), (.mov (.tmp 0)), none⟩, ⟨(some 8), (.lenS (.tmp 7)), none⟩, ⟨(some 9), (.bin .neq (.tmp 8) (.const (.c (.val (.int .i64 3))))), none⟩, ⟨(some 10), (.mov (.tmp 9)), none⟩, ⟨(some 11), (.mov (.tmp 0)), (some (10, true))⟩, ⟨(some 12), (.lenS (.tmp 11)), (some (10, true))⟩, ⟨(some 13), (.bin .neq (.tmp 12) (.const (.c (.val (.int .i64 4))))), (some (10, true))⟩, ⟨(some 14), (.pick (.tmp 10) (.tmp 13) (.const (.c (.val (.bool false))))), none⟩, ⟨(some 15), (.mov (.tmp 14)), none⟩, ⟨(some 16), (.mov (.tmp 0)), (some (15, true))⟩, ⟨(some 17), (.lenS (.tmp 16)), (some (15, true))⟩, ⟨(some 18), (.bin .neq (.tmp 17) (.const (.c (.val (.int .i64 6))))), (some (15, true))⟩, ⟨(some 19), (.pick (.tmp 15) (.tmp 18) (.const (.c (.val (.bool false))))), none⟩, ⟨(some 20), (.mov (.tmp 19)), none⟩, ⟨(some 21), (.mov (.tmp 0)), (some (20, true))⟩, ⟨(some 22), (.lenS (.tmp 21)), (some (20, true))⟩, ⟨(some 23), (.bin .neq (.tmp 22) (.const (.c (.val (.int .i64 8))))), (some (20, true))⟩, ⟨(some 24), (.pick (.tmp 20) (.tmp 23) (.const (.c (.val (.bool false))))), none⟩])
 (.cond (.tmp 24) (.seq (.region [⟨(some 2), (.mov (.const (.c (.val (.int .i64 0))))), none⟩, ⟨(some 3), (.mov (.const (.c (.val (.bool false))))), none⟩])
 .ret) .skip))
 (.seq (.region [⟨(some 4), (.mov (.const (.c (.val (.int .i64 0))))), none⟩])
 (.seq (.seq (.region [⟨(some 5), (.mov (.const (.c (.val (.int .i64 0))))), none⟩])
 (.block 0 (.loop a42_c1)))
 (.seq (.seq (.region [⟨(some 48), (.mov (.tmp 0)), none⟩, ⟨(some 49), (.lenS (.tmp 48)), none⟩, ⟨(some 50), (.bin .eql (.tmp 49) (.const (.c (.val (.int .i64 3))))), none⟩, ⟨(some 51), (.mov (.tmp 50)), none⟩, ⟨(some 52), (.mov (.tmp 0)), (some (51, false))⟩, ⟨(some 53), (.lenS (.tmp 52)), (some (51, false))⟩, ⟨(some 54), (.bin .eql (.tmp 53) (.const (.c (.val (.int .i64 6))))), (some (51, false))⟩, ⟨(some 55), (.pick (.tmp 51) (.const (.c (.val (.bool true)))) (.tmp 54)), none⟩])
 (.cond (.tmp 55) (.region [⟨(some 56), (.mov (.tmp 4)), none⟩, ⟨(some 57), (.bin .mul (.const (.c (.val (.int .i64 256)))) (.tmp 56)), none⟩, ⟨(some 58), (.bin .add (.tmp 57) (.const (.c (.val (.int .i64 255))))), none⟩, ⟨(some 4), (.mov (.tmp 58)), none⟩]) .skip))
 a42_c2)))))⟩
set_option maxRecDepth 100000 in
theorem c42 : compFunc Tryd.prog 42 = some a42 := by kernel_rfl
def clerestoryref2_hexColor_post (r : (Int × Bool)) : AV → Heap → Nat → Prop := fun v h' n' => v = (.tup [(I r.1), (B r.2)]) ∧ (h' = (fun _ => none)) ∧ n' = 0
noncomputable def clerestoryref2_hexColor_j3 (i_ : Int) (s_ : (List UInt8)) (self : Int → Int → Option (Int × Bool)) (K0_ : Int → Option (Int × Bool)) (n_2 : Int) : Option (Int × Bool) :=
  self n_2 (wi (i_ + 1))
theorem clerestoryref2_hexColor_j3_ok {mL : Int} {Q : AExit → St → Prop} {i_ : Int} {s_ : (List UInt8)} {self : Int → Int → Option (Int × Bool)} {K0_ : Int → Option (Int × Bool)} {n_2 : Int} {o : (Int × Bool)} (h : clerestoryref2_hexColor_j3 i_ s_ self K0_ n_2 = some o)
    (hself : ∀ (n_ : Int) (i_ : Int), self n_ i_ = some o → ∀ s, Weak 0 s ⟨(upd (upd (upd (fun _ => none) 0 (some (S s_))) 4 (some (I n_))) 5 (some (I i_))), (fun _ => none), 0⟩ → (Q) .normal s)
    (hK0 : ∀ (n_1 : Int), K0_ n_1 = some o → ∀ s, Weak 0 s ⟨(upd (upd (fun _ => none) 0 (some (S s_))) 4 (some (I n_1))), (fun _ => none), 0⟩ → Q (.exit 0) s)
    (hr : ∀ s, Ends a42.results 0 (clerestoryref2_hexColor_post o) .ret s → Q .ret s) :
    Sv Tryd.prog (GG mL) 0 a42_c0 Q ⟨(upd (upd (upd (fun _ => none) 0 (some (S s_))) 4 (some (I n_2))) 5 (some (I i_))), (fun _ => none), 0⟩ := by
  unfold clerestoryref2_hexColor_j3 at h
  refine Sv.region ?_
  refine un (a1 rfl ?_)
  refine un (a1 (v := (I (wi (i_ + 1)))) rfl ?_)
  refine un (a1 rfl ?_)
  refine dnil ?_
  exact hself n_2 (wi (i_ + 1)) h _ (weak_canon [] rfl (by decide) (by decide) (fun b h => absurd h (Nat.not_lt_zero _)) (.cons rfl (avAs_free rfl) (.cons rfl (avAs_free rfl) (.cons rfl (avAs_free rfl) .nil))) .nil)
noncomputable def clerestoryref2_hexColor_l0 (s_ : (List UInt8)) (K0_ : Int → Option (Int × Bool)) : Nat → Int → Int → Option (Int × Bool)
  | 0, _, _ => none
  | k + 1, n_, i_ =>
    if decide (i_ < (s_.length : Int)) then
      (at? s_ i_).bind fun c_ =>
      if decide ((clerestoryref2_hex (c_.toNat : Int)) < 0) then
        some (0, false)
      else
        if decide ((s_.length : Int) < 5) then
          letIn (wi (16 * (wi ((wi (16 * n_)) + (clerestoryref2_hex (c_.toNat : Int)))))) fun v45 : Int =>
          clerestoryref2_hexColor_j3 i_ s_ (clerestoryref2_hexColor_l0 s_ K0_ k) K0_ (wi (v45 + (clerestoryref2_hex (c_.toNat : Int))))
        else
          clerestoryref2_hexColor_j3 i_ s_ (clerestoryref2_hexColor_l0 s_ K0_ k) K0_ (wi ((wi (16 * n_)) + (clerestoryref2_hex (c_.toNat : Int))))
    else
      K0_ n_
theorem clerestoryref2_hexColor_l0_ok {mL : Int} {Q : AExit → St → Prop} {s_ : (List UInt8)} {K0_ : Int → Option (Int × Bool)} {k : Nat} {n_ : Int} {i_ : Int} {o : (Int × Bool)} (h : clerestoryref2_hexColor_l0 s_ K0_ k n_ i_ = some o)
    (hK0 : ∀ (n_1 : Int), K0_ n_1 = some o → ∀ s, Weak 0 s ⟨(upd (upd (fun _ => none) 0 (some (S s_))) 4 (some (I n_1))), (fun _ => none), 0⟩ → Q (.exit 0) s)
    (hr : ∀ s, Ends a42.results 0 (clerestoryref2_hexColor_post o) .ret s → Q .ret s) :
    Sv Tryd.prog (GG mL) 0 (.loop a42_c1) Q ⟨(upd (upd (upd (fun _ => none) 0 (some (S s_))) 4 (some (I n_))) 5 (some (I i_))), (fun _ => none), 0⟩ := by
  refine Sv.loop (I := fun k s => ∃ (n_ : Int), ∃ (i_ : Int), clerestoryref2_hexColor_l0 s_ K0_ k n_ i_ = some o ∧ s = ⟨(upd (upd (upd (fun _ => none) 0 (some (S s_))) 4 (some (I n_))) 5 (some (I i_))), (fun _ => none), 0⟩) (fun k s hI => ?_) ⟨n_, i_, h, rfl⟩
  clear h
  clear i_ n_
  obtain ⟨n_, i_, h, rfl⟩ := hI
  cases k with
  | zero => cases h
  | succ k =>
  rw [clerestoryref2_hexColor_l0] at h
  have hself : ∀ (n_ : Int) (i_ : Int), (clerestoryref2_hexColor_l0 s_ K0_ k) n_ i_ = some o → ∀ s, Weak 0 s ⟨(upd (upd (upd (fun _ => none) 0 (some (S s_))) 4 (some (I n_))) 5 (some (I i_))), (fun _ => none), 0⟩ → (AThen (fun s' => ∃ s'' k', Weak 0 s' s'' ∧ k' < k + 1 ∧ (fun k s => ∃ (n_ : Int), ∃ (i_ : Int), clerestoryref2_hexColor_l0 s_ K0_ k n_ i_ = some o ∧ s = ⟨(upd (upd (upd (fun _ => none) 0 (some (S s_))) 4 (some (I n_))) 5 (some (I i_))), (fun _ => none), 0⟩) k' s'') Q) .normal s := fun n_ i_ h s hw => ⟨_, k, hw, Nat.lt_succ_self k, n_, i_, h, rfl⟩
  refine Sv.seq ?_
  refine Sv.seq ?_
  refine Sv.region ?_
  refine un (a1 rfl ?_)
  refine un (a1 rfl ?_)
  refine un (a1 (v := (I (s_.length : Int))) rfl ?_)
  refine un (a1 (v := (B (decide (i_ < (s_.length : Int))))) rfl ?_)
  refine dnil ?_
  refine Sv.cond (b := decide (i_ < (s_.length : Int))) rfl (fun hc5 => ?_) (fun hc5 => ?_)
  · replace h := ifT hc5 h
    refine Sv.skip ?_
    refine Sv.seq ?_
    refine Sv.block ?_
    refine Sv.seq ?_
    refine Sv.region ?_
    refine un (a1 rfl ?_)
    refine un (a1 rfl ?_)
    obtain ⟨c_, hx1, h⟩ := bnd h
    refine un (a1 (v := (.c (.val (.int .u8 (c_.toNat : Int))))) (s_idxS rfl rfl hx1) ?_)
    refine un (ac_pure (clerestoryref2_hex_ok (mL := mL) (c_.toNat : Int)) rfl rfl rfl ?_)
    refine un (a1 rfl ?_)
    refine dnil ?_
    refine Sv.seq ?_
    refine Sv.seq ?_
    refine Sv.region ?_
    refine un (a1 rfl ?_)
    refine un (a1 (v := (B (decide ((clerestoryref2_hex (c_.toNat : Int)) < 0)))) rfl ?_)
    refine dnil ?_
    refine Sv.cond (b := decide ((clerestoryref2_hex (c_.toNat : Int)) < 0)) rfl (fun hc6 => ?_) (fun hc6 => ?_)
    · replace h := ifT hc6 h
      refine Sv.seq ?_
      refine Sv.region ?_
      refine un (a1 rfl ?_)
      refine un (a1 rfl ?_)
      refine dnil ?_
      refine Sv.ret ?_
      replace h := Option.some.inj h
      subst h
      exact hr _ ⟨_, .refl _, _, rfl, ⟨upd (fun _ => none) 0 (some (.tup [(I 0), (B false)])), (fun _ => none), 0⟩, (.tup [(I 0), (B false)]), weak_canon [] rfl List.nodup_nil (Nat.le_refl _) (fun b h => absurd h (Nat.not_lt_zero _)) (.cons rfl (avAs_tup (.cons (avAs_free rfl) (.cons (avAs_free rfl) .nil))) .nil) .nil, rfl, rfl, rfl, rfl⟩
    · replace h := ifF hc6 h
      refine Sv.skip ?_
      refine Sv.seq ?_
      refine Sv.region ?_
      refine un (a1 rfl ?_)
      refine un (a1 (v := (I (wi (16 * n_)))) rfl ?_)
      refine un (a1 rfl ?_)
      refine un (a1 (v := (I (wi ((wi (16 * n_)) + (clerestoryref2_hex (c_.toNat : Int)))))) rfl ?_)
      refine un (a1 rfl ?_)
      refine dnil ?_
      refine Sv.seq ?_
      refine Sv.region ?_
      refine un (a1 rfl ?_)
      refine un (a1 (v := (I (s_.length : Int))) rfl ?_)
      refine un (a1 (v := (B (decide ((s_.length : Int) < 5)))) rfl ?_)
      refine dnil ?_
      refine Sv.cond (b := decide ((s_.length : Int) < 5)) rfl (fun hc7 => ?_) (fun hc7 => ?_)
      · replace h := ifT hc7 h
        refine Sv.region ?_
        refine un (a1 rfl ?_)
        obtain ⟨v45, hv45⟩ : ∃ v45 : Int, v45 = (wi (16 * (wi ((wi (16 * n_)) + (clerestoryref2_hex (c_.toNat : Int)))))) := ⟨_, rfl⟩
        replace h := letAt hv45 h
        refine un (a1 (v := (I v45)) (by rw [hv45]; rfl) ?_)
        clear hv45
        refine un (a1 rfl ?_)
        refine un (a1 (v := (I (wi (v45 + (clerestoryref2_hex (c_.toNat : Int)))))) rfl ?_)
        refine un (a1 rfl ?_)
        refine dnil ?_
        exact Sv.weak (weak_canon [] rfl (by decide) (by decide) (fun b h => absurd h (Nat.not_lt_zero _)) (.cons rfl (avAs_free rfl) (.cons rfl (avAs_free rfl) (.cons rfl (avAs_free rfl) .nil))) .nil) (clerestoryref2_hexColor_j3_ok h hself hK0 hr)
      · replace h := ifF hc7 h
        refine Sv.skip ?_
        exact Sv.weak (weak_canon [] rfl (by decide) (by decide) (fun b h => absurd h (Nat.not_lt_zero _)) (.cons rfl (avAs_free rfl) (.cons rfl (avAs_free rfl) (.cons rfl (avAs_free rfl) .nil))) .nil) (clerestoryref2_hexColor_j3_ok h hself hK0 hr)
  · replace h := ifF hc5 h
    refine Sv.exit ?_
    exact hK0 n_ h _ (weak_canon [] rfl (by decide) (by decide) (fun b h => absurd h (Nat.not_lt_zero _)) (.cons rfl (avAs_free rfl) (.cons rfl (avAs_free rfl) .nil)) .nil)
noncomputable def clerestoryref2_hexColor_j4 (n_3 : Int) : Option (Int × Bool) :=
  some (n_3, true)
theorem clerestoryref2_hexColor_j4_ok {mL : Int} {n_3 : Int} {o : (Int × Bool)} (h : clerestoryref2_hexColor_j4 n_3 = some o) :
    Sv Tryd.prog (GG mL) 0 a42_c2 (Ends a42.results 0 (clerestoryref2_hexColor_post o)) ⟨(upd (fun _ => none) 4 (some (I n_3))), (fun _ => none), 0⟩ := by
  unfold clerestoryref2_hexColor_j4 at h
  refine Sv.seq ?_
  refine Sv.region ?_
  refine un (a1 rfl ?_)
  refine un (a1 rfl ?_)
  refine un (a1 rfl ?_)
  refine dnil ?_
  refine Sv.ret ?_
  replace h := Option.some.inj h
  subst h
  exact ⟨_, .refl _, _, rfl, ⟨upd (fun _ => none) 0 (some (.tup [(I n_3), (B true)])), (fun _ => none), 0⟩, (.tup [(I n_3), (B true)]), weak_canon [] rfl List.nodup_nil (Nat.le_refl _) (fun b h => absurd h (Nat.not_lt_zero _)) (.cons rfl (avAs_tup (.cons (avAs_free rfl) (.cons (avAs_free rfl) .nil))) .nil) .nil, rfl, rfl, rfl, rfl⟩
/-- clerestory/clerestoryref2.hexColor -/
noncomputable def clerestoryref2_hexColor (s_ : (List UInt8)) : Option (Int × Bool) :=
  if ((((!decide ((s_.length : Int) = 3)) && (!decide ((s_.length : Int) = 4))) && (!decide ((s_.length : Int) = 6))) && (!decide ((s_.length : Int) = 8))) then
    some (0, false)
  else
    lim fun kk => clerestoryref2_hexColor_l0 s_ (fun (n_1 : Int) => 
        if ((decide ((s_.length : Int) = 3)) || (decide ((s_.length : Int) = 6))) then
          clerestoryref2_hexColor_j4 (wi ((wi (256 * n_1)) + 255))
        else
          clerestoryref2_hexColor_j4 n_1) kk 0 0
theorem clerestoryref2_hexColor_ok {mL : Int} {s_ : (List UInt8)} {r : (Int × Bool)} (h : clerestoryref2_hexColor s_ = some r) : CPure Tryd.prog (GG mL) 42 [(S s_)] (.tup [(I r.1), (B r.2)]) := by
  refine acalls_of_sv hmix c42 (R := clerestoryref2_hexColor_post r) ?_
  unfold clerestoryref2_hexColor at h
  refine Sv.seq ?_
  refine Sv.region ?_
  refine un (a1 rfl ?_)
  refine un (a1 rfl ?_)
  refine dnil ?_
  refine Sv.seq ?_
  refine Sv.seq ?_
  refine Sv.region ?_
  refine un (a1 rfl ?_)
  refine un (a1 (v := (I (s_.length : Int))) rfl ?_)
  refine un (a1 (v := (B (!decide ((s_.length : Int) = 3)))) rfl ?_)
  refine un (a1 rfl ?_)
  refine gjoin 4 (d := 14) (v := (B ((!decide ((s_.length : Int) = 3)) && (!decide ((s_.length : Int) = 4))))) (fun X hX => ?_) ?_
  · refine split2 (fun hc1 => ?_) (fun hc1 => ?_)
    · refine gt rfl (a1 rfl ?_)
      refine gt rfl (a1 (v := (I (s_.length : Int))) rfl ?_)
      refine gt rfl (a1 (v := (B (!decide ((s_.length : Int) = 4)))) rfl ?_)
      refine un (a1 (v := (B (!decide ((s_.length : Int) = 4)))) rfl ?_)
      refine dnil ?_
      exact hX _ (.putEq (by rw [hc1]; rfl) (.skip _ _ (.skip _ _ (.skip _ _ (.putEq (by rw [hc1]) (.refl _)) rfl) rfl) rfl))
    · refine gs rfl rfl ?_
      refine gs rfl rfl ?_
      refine gs rfl rfl ?_
      refine un (a1 (v := (B false)) rfl ?_)
      refine dnil ?_
      exact hX _ (.putEq (by rw [hc1]; rfl) (.skip _ _ (.skip _ _ (.skip _ _ (.putEq (by rw [hc1]) (.refl _)) rfl) rfl) rfl))
  refine un (a1 rfl ?_)
  refine gjoin 4 (d := 19) (v := (B (((!decide ((s_.length : Int) = 3)) && (!decide ((s_.length : Int) = 4))) && (!decide ((s_.length : Int) = 6))))) (fun X hX => ?_) ?_
  · refine split2 (fun hc2 => ?_) (fun hc2 => ?_)
    · refine gt rfl (a1 rfl ?_)
      refine gt rfl (a1 (v := (I (s_.length : Int))) rfl ?_)
      refine gt rfl (a1 (v := (B (!decide ((s_.length : Int) = 6)))) rfl ?_)
      refine un (a1 (v := (B (!decide ((s_.length : Int) = 6)))) rfl ?_)
      refine dnil ?_
      exact hX _ (.putEq (by rw [hc2]; rfl) (.skip _ _ (.skip _ _ (.skip _ _ (.putEq (by rw [hc2]) (.refl _)) rfl) rfl) rfl))
    · refine gs rfl rfl ?_
      refine gs rfl rfl ?_
      refine gs rfl rfl ?_
      refine un (a1 (v := (B false)) rfl ?_)
      refine dnil ?_
      exact hX _ (.putEq (by rw [hc2]; rfl) (.skip _ _ (.skip _ _ (.skip _ _ (.putEq (by rw [hc2]) (.refl _)) rfl) rfl) rfl))
  refine un (a1 rfl ?_)
  refine gjoin 4 (d := 24) (v := (B ((((!decide ((s_.length : Int) = 3)) && (!decide ((s_.length : Int) = 4))) && (!decide ((s_.length : Int) = 6))) && (!decide ((s_.length : Int) = 8))))) (fun X hX => ?_) ?_
  · refine split2 (fun hc3 => ?_) (fun hc3 => ?_)
    · refine gt rfl (a1 rfl ?_)
      refine gt rfl (a1 (v := (I (s_.length : Int))) rfl ?_)
      refine gt rfl (a1 (v := (B (!decide ((s_.length : Int) = 8)))) rfl ?_)
      refine un (a1 (v := (B (!decide ((s_.length : Int) = 8)))) rfl ?_)
      refine dnil ?_
      exact hX _ (.putEq (by rw [hc3]; rfl) (.skip _ _ (.skip _ _ (.skip _ _ (.putEq (by rw [hc3]) (.refl _)) rfl) rfl) rfl))
    · refine gs rfl rfl ?_
      refine gs rfl rfl ?_
      refine gs rfl rfl ?_
      refine un (a1 (v := (B false)) rfl ?_)
      refine dnil ?_
      exact hX _ (.putEq (by rw [hc3]; rfl) (.skip _ _ (.skip _ _ (.skip _ _ (.putEq (by rw [hc3]) (.refl _)) rfl) rfl) rfl))
  refine dnil ?_
  refine Sv.cond (b := ((((!decide ((s_.length : Int) = 3)) && (!decide ((s_.length : Int) = 4))) && (!decide ((s_.length : Int) = 6))) && (!decide ((s_.length : Int) = 8)))) rfl (fun hc4 => ?_) (fun hc4 => ?_)
  · replace h := ifT hc4 h
    refine Sv.seq ?_
    refine Sv.region ?_
    refine un (a1 rfl ?_)
    refine un (a1 rfl ?_)
    refine dnil ?_
    refine Sv.ret ?_
    replace h := Option.some.inj h
    subst h
    exact ⟨_, .refl _, _, rfl, ⟨upd (fun _ => none) 0 (some (.tup [(I 0), (B false)])), (fun _ => none), 0⟩, (.tup [(I 0), (B false)]), weak_canon [] rfl List.nodup_nil (Nat.le_refl _) (fun b h => absurd h (Nat.not_lt_zero _)) (.cons rfl (avAs_tup (.cons (avAs_free rfl) (.cons (avAs_free rfl) .nil))) .nil) .nil, rfl, rfl, rfl, rfl⟩
  · replace h := ifF hc4 h
    refine Sv.skip ?_
    refine Sv.seq ?_
    refine Sv.region ?_
    refine un (a1 rfl ?_)
    refine dnil ?_
    refine Sv.seq ?_
    refine Sv.seq ?_
    refine Sv.region ?_
    refine un (a1 rfl ?_)
    refine dnil ?_
    refine Sv.block ?_
    obtain ⟨kk, h⟩ := lim_some h
    refine Sv.weak (weak_canon [] rfl (by decide) (by decide) (fun b h => absurd h (Nat.not_lt_zero _)) (.cons rfl (avAs_free rfl) (.cons rfl (avAs_free rfl) (.cons rfl (avAs_free rfl) .nil))) .nil) (clerestoryref2_hexColor_l0_ok h ?_ (fun s hs => hs))
    · intro n_1 h _ hw1
      refine Sv.weak hw1 ?_
      refine Sv.seq ?_
      refine Sv.seq ?_
      refine Sv.region ?_
      refine un (a1 rfl ?_)
      refine un (a1 (v := (I (s_.length : Int))) rfl ?_)
      refine un (a1 (v := (B (decide ((s_.length : Int) = 3)))) rfl ?_)
      refine un (a1 rfl ?_)
      refine gjoin 4 (d := 55) (v := (B ((decide ((s_.length : Int) = 3)) || (decide ((s_.length : Int) = 6))))) (fun X hX => ?_) ?_
      · refine split2 (fun hc8 => ?_) (fun hc8 => ?_)
        · refine gs rfl rfl ?_
          refine gs rfl rfl ?_
          refine gs rfl rfl ?_
          refine un (a1 (v := (B true)) rfl ?_)
          refine dnil ?_
          exact hX _ (.putEq (by rw [hc8]; rfl) (.skip _ _ (.skip _ _ (.skip _ _ (.putEq (by rw [hc8]) (.refl _)) rfl) rfl) rfl))
        · refine gt rfl (a1 rfl ?_)
          refine gt rfl (a1 (v := (I (s_.length : Int))) rfl ?_)
          refine gt rfl (a1 (v := (B (decide ((s_.length : Int) = 6)))) rfl ?_)
          refine un (a1 (v := (B (decide ((s_.length : Int) = 6)))) rfl ?_)
          refine dnil ?_
          exact hX _ (.putEq (by rw [hc8]; rfl) (.skip _ _ (.skip _ _ (.skip _ _ (.putEq (by rw [hc8]) (.refl _)) rfl) rfl) rfl))
      refine dnil ?_
      refine Sv.cond (b := ((decide ((s_.length : Int) = 3)) || (decide ((s_.length : Int) = 6)))) rfl (fun hc9 => ?_) (fun hc9 => ?_)
      · replace h := ifT hc9 h
        refine Sv.region ?_
        refine un (a1 rfl ?_)
        refine un (a1 (v := (I (wi (256 * n_1)))) rfl ?_)
        refine un (a1 (v := (I (wi ((wi (256 * n_1)) + 255)))) rfl ?_)
        refine un (a1 rfl ?_)
        refine dnil ?_
        exact Sv.weak (weak_canon [] rfl (by decide) (by decide) (fun b h => absurd h (Nat.not_lt_zero _)) (.cons rfl (avAs_free rfl) .nil) .nil) (clerestoryref2_hexColor_j4_ok h)
      · replace h := ifF hc9 h
        refine Sv.skip ?_
        exact Sv.weak (weak_canon [] rfl (by decide) (by decide) (fun b h => absurd h (Nat.not_lt_zero _)) (.cons rfl (avAs_free rfl) .nil) .nil) (clerestoryref2_hexColor_j4_ok h)
def a65_c0 : ACode := (.cond (.tmp 22) (.seq (.region [⟨(some 2), (.mov (.const (.c (.val (.int .i64 (-1)))))), none⟩])
 .ret) .skip)
def a65_c1 : ACode := (.seq (.seq (.region [⟨(some 23), (.mov (.tmp 4)), none⟩, ⟨(some 24), (.mov (.tmp 0)), none⟩, ⟨(some 25), (.lenS (.tmp 24)), none⟩, ⟨(some 26), (.bin .lss (.tmp 23) (.tmp 25)), none⟩])
 (.cond (.tmp 26) .skip (.exit 0)))
 (.seq (.block 1 (.seq (.seq (.region [⟨(some 29), (.mov (.tmp 0)), none⟩, ⟨(some 30), (.mov (.tmp 4)), none⟩, ⟨(some 31), (.idxS (.tmp 29) (.tmp 30)), none⟩, ⟨(some 32), (.call 87 [(.tmp 31)]), none⟩, ⟨(some 33), (.un .not (.tmp 32)), none⟩])
 (.cond (.tmp 33) (.seq (.region [⟨(some 2), (.mov (.const (.c (.val (.int .i64 (-1)))))), none⟩])
 .ret) .skip))
 (.region [⟨(some 34), (.mov (.tmp 3)), none⟩, ⟨(some 35), (.bin .mul (.const (.c (.val (.int .i64 10)))) (.tmp 34)), none⟩, ⟨(some 36), (.mov (.tmp 0)), none⟩, ⟨(some 37), (.mov (.tmp 4)), none⟩, ⟨(some 38), (.idxS (.tmp 36) (.tmp 37)), none⟩, ⟨(some 39), (.bin .sub (.tmp 38) (.const (.c (.val (.int .u8 48))))), none⟩, ⟨(some 40), (.conv .i64 (.tmp 39)), none⟩, ⟨(some 41), (.bin .add (.tmp 35) (.tmp 40)), none⟩, ⟨(some 3), (.mov (.tmp 41)), none⟩])))
 (.region [⟨(some 27), (.mov (.tmp 4)), none⟩, ⟨(some 28), (.bin .add (.tmp 27) (.const (.c (.val (.int .i64 1))))), none⟩, ⟨(some 4), (.mov (.tmp 28)), none⟩])))
def a65_c2 : ACode := (.seq (.region [⟨(some 3), (.mov (.const (.c (.val (.int .i64 0))))), none⟩])
 (.seq (.seq (.region [⟨(some 4), (.mov (.const (.c (.val (.int .i64 0))))), none⟩])
 (.block 0 (.loop a65_c1)))
 (.seq (.seq (.region [⟨(some 42), (.mov (.tmp 3)), none⟩, ⟨(some 43), (.bin .gtr (.tmp 42) (.const (.c (.val (.int .i64 255))))), none⟩])
 (.cond (.tmp 43) (.seq (.region [⟨(some 2), (.mov (.const (.c (.val (.int .i64 (-1)))))), none⟩])
 .ret) .skip))
 (.seq (.region [⟨(some 44), (.mov (.tmp 3)), none⟩, ⟨(some 2), (.mov (.tmp 44)), none⟩])
 .ret))))
def a65 : AFunc := ⟨1, [(.tmp 2)], (.seq (.region [⟨(some 2), (.mov (.const (.c (.val (.int .i64 0))))), none⟩])
 (.seq (.seq (.region [⟨(some 5), (.mov (.tmp 0)), none⟩, ⟨(some 6), (.lenS (.tmp 5)), none⟩, ⟨(some 7), (.bin .lss (.tmp 6) (.const (.c (.val (.int .i64 1))))), none⟩, ⟨(some 8), (.mov (.tmp 7)), none⟩, ⟨(some 9), (.mov (.tmp 0)), (some (8, false))⟩, ⟨(some 10), (.lenS (.tmp 9)), (some (8, false))⟩, ⟨(some 11), (.bin .gtr (.tmp 10) (.const (.c (.val (.int .i64 3))))), (some (8, false))⟩, ⟨(some 12), (.pick (.tmp 8) (.const (.c (.val (.bool true)))) (.tmp 11)), none⟩, ⟨(some 13), (.mov (.tmp 12)), none⟩, ⟨(some 14), (.mov (.tmp 0)), (some (13, false))⟩, ⟨(some 15), (.idxS (.tmp 14) (.const (.c (.val (.int .i64 0))))), (some (13, false))⟩, ⟨(some 16), (.bin .eql (.tmp 15) (.const (.c (.val (.int .u8 48))))), (some (13, false))⟩, ⟨(some 17), (.mov (.tmp 16)), (some (13, false))⟩, ⟨(some 18), (.mov (.tmp 0)), (some (17, true))⟩, ⟨(some 19), (.lenS (.tmp 18)), (some (17, true))⟩, ⟨(some 20), (.bin .gtr (.tmp 19) (.const (.c (.val (.int .i64 1))))), (some (17, true))⟩, ⟨(some 21), (.pick (.tmp 17) (.tmp 20) (.const (.c (.val (.bool false))))), (some (13, false))⟩, ⟨(some 22), (.pick (.tmp 13) (.const (.c (.val (.bool true)))) (.tmp 21)), none⟩])
 a65_c0)
 a65_c2))⟩
set_option maxRecDepth 100000 in
theorem c65 : compFunc Tryd.prog 65 = some a65 := by kernel_rfl
def clerestoryref2_part_post (r : Int) : AV → Heap → Nat → Prop := fun v h' n' => v = (I r) ∧ (h' = (fun _ => none)) ∧ n' = 0
noncomputable def clerestoryref2_part_l0 (s_ : (List UInt8)) (K0_ : Int → Option Int) : Nat → Int → Int → Option Int
  | 0, _, _ => none
  | k + 1, n_, i_ =>
    if decide (i_ < (s_.length : Int)) then
      (at? s_ i_).bind fun c_ =>
      if (!(clerestoryref2_digit (c_.toNat : Int))) then
        some (-1)
      else
        (at? s_ i_).bind fun c_1 =>
        (clerestoryref2_part_l0 s_ K0_ k) (wi ((wi (10 * n_)) + (wr .i64 (wr .u8 ((c_1.toNat : Int) - 48))))) (wi (i_ + 1))
    else
      K0_ n_
theorem clerestoryref2_part_l0_ok {mL : Int} {Q : AExit → St → Prop} {s_ : (List UInt8)} {K0_ : Int → Option Int} {k : Nat} {n_ : Int} {i_ : Int} {o : Int} (h : clerestoryref2_part_l0 s_ K0_ k n_ i_ = some o)
    (hK0 : ∀ (n_1 : Int), K0_ n_1 = some o → ∀ s, Weak 0 s ⟨(upd (fun _ => none) 3 (some (I n_1))), (fun _ => none), 0⟩ → Q (.exit 0) s)
    (hr : ∀ s, Ends a65.results 0 (clerestoryref2_part_post o) .ret s → Q .ret s) :
    Sv Tryd.prog (GG mL) 0 (.loop a65_c1) Q ⟨(upd (upd (upd (fun _ => none) 0 (some (S s_))) 3 (some (I n_))) 4 (some (I i_))), (fun _ => none), 0⟩ := by
  refine Sv.loop (I := fun k s => ∃ (n_ : Int), ∃ (i_ : Int), clerestoryref2_part_l0 s_ K0_ k n_ i_ = some o ∧ s = ⟨(upd (upd (upd (fun _ => none) 0 (some (S s_))) 3 (some (I n_))) 4 (some (I i_))), (fun _ => none), 0⟩) (fun k s hI => ?_) ⟨n_, i_, h, rfl⟩
  clear h
  clear i_ n_
  obtain ⟨n_, i_, h, rfl⟩ := hI
  cases k with
  | zero => cases h
  | succ k =>
  rw [clerestoryref2_part_l0] at h
  have hself : ∀ (n_ : Int) (i_ : Int), (clerestoryref2_part_l0 s_ K0_ k) n_ i_ = some o → ∀ s, Weak 0 s ⟨(upd (upd (upd (fun _ => none) 0 (some (S s_))) 3 (some (I n_))) 4 (some (I i_))), (fun _ => none), 0⟩ → (AThen (fun s' => ∃ s'' k', Weak 0 s' s'' ∧ k' < k + 1 ∧ (fun k s => ∃ (n_ : Int), ∃ (i_ : Int), clerestoryref2_part_l0 s_ K0_ k n_ i_ = some o ∧ s = ⟨(upd (upd (upd (fun _ => none) 0 (some (S s_))) 3 (some (I n_))) 4 (some (I i_))), (fun _ => none), 0⟩) k' s'') Q) .normal s := fun n_ i_ h s hw => ⟨_, k, hw, Nat.lt_succ_self k, n_, i_, h, rfl⟩
  refine Sv.seq ?_
  refine Sv.seq ?_
  refine Sv.region ?_
  refine un (a1 rfl ?_)
  refine un (a1 rfl ?_)
  refine un (a1 (v := (I (s_.length : Int))) rfl ?_)
  refine un (a1 (v := (B (decide (i_ < (s_.length : Int))))) rfl ?_)
  refine dnil ?_
  refine Sv.cond (b := decide (i_ < (s_.length : Int))) rfl (fun hc2 => ?_) (fun hc2 => ?_)
  · replace h := ifT hc2 h
    refine Sv.skip ?_
    refine Sv.seq ?_
    refine Sv.block ?_
    refine Sv.seq ?_
    refine Sv.seq ?_
    refine Sv.region ?_
    refine un (a1 rfl ?_)
    refine un (a1 rfl ?_)
    obtain ⟨c_, hx1, h⟩ := bnd h
    refine un (a1 (v := (.c (.val (.int .u8 (c_.toNat : Int))))) (s_idxS rfl rfl hx1) ?_)
    refine un (ac_pure (clerestoryref2_digit_ok (mL := mL) (c_.toNat : Int)) rfl rfl rfl ?_)
    refine un (a1 (v := (B (!(clerestoryref2_digit (c_.toNat : Int))))) rfl ?_)
    refine dnil ?_
    refine Sv.cond (b := (!(clerestoryref2_digit (c_.toNat : Int)))) rfl (fun hc3 => ?_) (fun hc3 => ?_)
    · replace h := ifT hc3 h
      refine Sv.seq ?_
      refine Sv.region ?_
      refine un (a1 rfl ?_)
      refine dnil ?_
      refine Sv.ret ?_
      replace h := Option.some.inj h
      subst h
      exact hr _ ⟨_, .refl _, _, rfl, ⟨upd (fun _ => none) 0 (some (I (-1))), (fun _ => none), 0⟩, (I (-1)), weak_canon [] rfl List.nodup_nil (Nat.le_refl _) (fun b h => absurd h (Nat.not_lt_zero _)) (.cons rfl (avAs_free rfl) .nil) .nil, rfl, rfl, rfl, rfl⟩
    · replace h := ifF hc3 h
      refine Sv.skip ?_
      refine Sv.region ?_
      refine un (a1 rfl ?_)
      refine un (a1 (v := (I (wi (10 * n_)))) rfl ?_)
      refine un (a1 rfl ?_)
      refine un (a1 rfl ?_)
      obtain ⟨c_1, hx2, h⟩ := bnd h
      refine un (a1 (v := (.c (.val (.int .u8 (c_1.toNat : Int))))) (s_idxS rfl rfl hx2) ?_)
      refine un (a1 (v := (.c (.val (.int .u8 (wr .u8 ((c_1.toNat : Int) - 48)))))) rfl ?_)
      refine un (a1 (v := (I (wr .i64 (wr .u8 ((c_1.toNat : Int) - 48))))) rfl ?_)
      refine un (a1 (v := (I (wi ((wi (10 * n_)) + (wr .i64 (wr .u8 ((c_1.toNat : Int) - 48))))))) rfl ?_)
      refine un (a1 rfl ?_)
      refine dnil ?_
      refine Sv.region ?_
      refine un (a1 rfl ?_)
      refine un (a1 (v := (I (wi (i_ + 1)))) rfl ?_)
      refine un (a1 rfl ?_)
      refine dnil ?_
      exact hself (wi ((wi (10 * n_)) + (wr .i64 (wr .u8 ((c_1.toNat : Int) - 48))))) (wi (i_ + 1)) h _ (weak_canon [] rfl (by decide) (by decide) (fun b h => absurd h (Nat.not_lt_zero _)) (.cons rfl (avAs_free rfl) (.cons rfl (avAs_free rfl) (.cons rfl (avAs_free rfl) .nil))) .nil)
  · replace h := ifF hc2 h
    refine Sv.exit ?_
    exact hK0 n_ h _ (weak_canon [] rfl (by decide) (by decide) (fun b h => absurd h (Nat.not_lt_zero _)) (.cons rfl (avAs_free rfl) .nil) .nil)
abbrev clerestoryref2_part_q0 (mL : Int) (o : Int) : AExit → St → Prop := AThen (Sv Tryd.prog (GG mL) 0 a65_c2 (Ends a65.results 0 (clerestoryref2_part_post o))) (Ends a65.results 0 (clerestoryref2_part_post o))
noncomputable def clerestoryref2_part_j1 (s_ : (List UInt8)) (v22 : Bool) : Option Int :=
  if v22 then
    some (-1)
  else
    lim fun kk => clerestoryref2_part_l0 s_ (fun (n_1 : Int) => 
        if decide (255 < n_1) then
          some (-1)
        else
          some n_1) kk 0 0
theorem clerestoryref2_part_j1_ok {mL : Int} {s_ : (List UInt8)} {v22 : Bool} {o : Int} (h : clerestoryref2_part_j1 s_ v22 = some o) :
    Sv Tryd.prog (GG mL) 0 a65_c0 (clerestoryref2_part_q0 mL o) ⟨(upd (upd (fun _ => none) 0 (some (S s_))) 22 (some (B v22))), (fun _ => none), 0⟩ := by
  unfold clerestoryref2_part_j1 at h
  refine Sv.cond (b := v22) rfl (fun hc1 => ?_) (fun hc1 => ?_)
  · replace h := ifT hc1 h
    refine Sv.seq ?_
    refine Sv.region ?_
    refine un (a1 rfl ?_)
    refine dnil ?_
    refine Sv.ret ?_
    replace h := Option.some.inj h
    subst h
    exact ⟨_, .refl _, _, rfl, ⟨upd (fun _ => none) 0 (some (I (-1))), (fun _ => none), 0⟩, (I (-1)), weak_canon [] rfl List.nodup_nil (Nat.le_refl _) (fun b h => absurd h (Nat.not_lt_zero _)) (.cons rfl (avAs_free rfl) .nil) .nil, rfl, rfl, rfl, rfl⟩
  · replace h := ifF hc1 h
    refine Sv.skip ?_
    refine Sv.seq ?_
    refine Sv.region ?_
    refine un (a1 rfl ?_)
    refine dnil ?_
    refine Sv.seq ?_
    refine Sv.seq ?_
    refine Sv.region ?_
    refine un (a1 rfl ?_)
    refine dnil ?_
    refine Sv.block ?_
    obtain ⟨kk, h⟩ := lim_some h
    refine Sv.weak (weak_canon [] rfl (by decide) (by decide) (fun b h => absurd h (Nat.not_lt_zero _)) (.cons rfl (avAs_free rfl) (.cons rfl (avAs_free rfl) (.cons rfl (avAs_free rfl) .nil))) .nil) (clerestoryref2_part_l0_ok h ?_ (fun s hs => hs))
    · intro n_1 h _ hw1
      refine Sv.weak hw1 ?_
      refine Sv.seq ?_
      refine Sv.seq ?_
      refine Sv.region ?_
      refine un (a1 rfl ?_)
      refine un (a1 (v := (B (decide (255 < n_1)))) rfl ?_)
      refine dnil ?_
      refine Sv.cond (b := decide (255 < n_1)) rfl (fun hc4 => ?_) (fun hc4 => ?_)
      · replace h := ifT hc4 h
        refine Sv.seq ?_
        refine Sv.region ?_
        refine un (a1 rfl ?_)
        refine dnil ?_
        refine Sv.ret ?_
        replace h := Option.some.inj h
        subst h
        exact ⟨_, .refl _, _, rfl, ⟨upd (fun _ => none) 0 (some (I (-1))), (fun _ => none), 0⟩, (I (-1)), weak_canon [] rfl List.nodup_nil (Nat.le_refl _) (fun b h => absurd h (Nat.not_lt_zero _)) (.cons rfl (avAs_free rfl) .nil) .nil, rfl, rfl, rfl, rfl⟩
      · replace h := ifF hc4 h
        refine Sv.skip ?_
        refine Sv.seq ?_
        refine Sv.region ?_
        refine un (a1 rfl ?_)
        refine un (a1 rfl ?_)
        refine dnil ?_
        refine Sv.ret ?_
        replace h := Option.some.inj h
        subst h
        exact ⟨_, .refl _, _, rfl, ⟨upd (fun _ => none) 0 (some (I n_1)), (fun _ => none), 0⟩, (I n_1), weak_canon [] rfl List.nodup_nil (Nat.le_refl _) (fun b h => absurd h (Nat.not_lt_zero _)) (.cons rfl (avAs_free rfl) .nil) .nil, rfl, rfl, rfl, rfl⟩
/-- clerestory/clerestoryref2.part -/
noncomputable def clerestoryref2_part (s_ : (List UInt8)) : Option Int :=
  if ((decide ((s_.length : Int) < 1)) || (decide (3 < (s_.length : Int)))) then
    clerestoryref2_part_j1 s_ true
  else
    (at? s_ 0).bind fun c_2 =>
    clerestoryref2_part_j1 s_ ((decide ((c_2.toNat : Int) = 48)) && (decide (1 < (s_.length : Int))))
theorem clerestoryref2_part_ok {mL : Int} {s_ : (List UInt8)} {r : Int} (h : clerestoryref2_part s_ = some r) : CPure Tryd.prog (GG mL) 65 [(S s_)] (I r) := by
  refine acalls_of_sv hmix c65 (R := clerestoryref2_part_post r) ?_
  unfold clerestoryref2_part at h
  refine Sv.seq ?_
  refine Sv.region ?_
  refine un (a1 rfl ?_)
  refine dnil ?_
  refine Sv.seq ?_
  refine Sv.seq ?_
  refine Sv.region ?_
  refine un (a1 rfl ?_)
  refine un (a1 (v := (I (s_.length : Int))) rfl ?_)
  refine un (a1 (v := (B (decide ((s_.length : Int) < 1)))) rfl ?_)
  refine un (a1 rfl ?_)
  refine gjoin 4 (d := 12) (v := (B ((decide ((s_.length : Int) < 1)) || (decide (3 < (s_.length : Int)))))) (fun X hX => ?_) ?_
  · refine split2 (fun hc5 => ?_) (fun hc5 => ?_)
    · refine gs rfl rfl ?_
      refine gs rfl rfl ?_
      refine gs rfl rfl ?_
      refine un (a1 (v := (B true)) rfl ?_)
      refine dnil ?_
      exact hX _ (.putEq (by rw [hc5]; rfl) (.skip _ _ (.skip _ _ (.skip _ _ (.putEq (by rw [hc5]) (.refl _)) rfl) rfl) rfl))
    · refine gt rfl (a1 rfl ?_)
      refine gt rfl (a1 (v := (I (s_.length : Int))) rfl ?_)
      refine gt rfl (a1 (v := (B (decide (3 < (s_.length : Int))))) rfl ?_)
      refine un (a1 (v := (B (decide (3 < (s_.length : Int))))) rfl ?_)
      refine dnil ?_
      exact hX _ (.putEq (by rw [hc5]; rfl) (.skip _ _ (.skip _ _ (.skip _ _ (.putEq (by rw [hc5]) (.refl _)) rfl) rfl) rfl))
  refine un (a1 rfl ?_)
  refine split2 (fun hc6 => ?_) (fun hc6 => ?_)
  · replace h := ifT hc6 h
    refine gs rfl rfl ?_
    refine gs rfl rfl ?_
    refine gs rfl rfl ?_
    refine gs rfl rfl ?_
    refine gu rfl ?_
    refine gu rfl ?_
    refine gu rfl ?_
    refine gs rfl rfl ?_
    refine un (a1 (v := (B true)) rfl ?_)
    refine dnil ?_
    exact Sv.weak (weak_canon [] rfl (by decide) (by decide) (fun b h => absurd h (Nat.not_lt_zero _)) (.cons rfl (avAs_free rfl) (.cons rfl (avAs_free rfl) .nil)) .nil) (clerestoryref2_part_j1_ok h)
  · replace h := ifF hc6 h
    refine gt rfl (a1 rfl ?_)
    obtain ⟨c_2, hx3, h⟩ := bnd h
    refine gt rfl (a1 (v := (.c (.val (.int .u8 (c_2.toNat : Int))))) (s_idxS rfl rfl hx3) ?_)
    refine gt rfl (a1 (v := (B (decide ((c_2.toNat : Int) = 48)))) rfl ?_)
    refine gt rfl (a1 rfl ?_)
    refine gjoin 4 (d := 21) (v := (B ((decide ((c_2.toNat : Int) = 48)) && (decide (1 < (s_.length : Int)))))) (fun X hX => ?_) ?_
    · refine split2 (fun hc7 => ?_) (fun hc7 => ?_)
      · refine gt rfl (a1 rfl ?_)
        refine gt rfl (a1 (v := (I (s_.length : Int))) rfl ?_)
        refine gt rfl (a1 (v := (B (decide (1 < (s_.length : Int))))) rfl ?_)
        refine gt rfl (a1 (v := (B (decide (1 < (s_.length : Int))))) rfl ?_)
        refine dnil ?_
        exact hX _ (.putEq (by rw [hc7]; rfl) (.skip _ _ (.skip _ _ (.skip _ _ (.putEq (by rw [hc7]) (.refl _)) rfl) rfl) rfl))
      · refine gs rfl rfl ?_
        refine gs rfl rfl ?_
        refine gs rfl rfl ?_
        refine gt rfl (a1 (v := (B false)) rfl ?_)
        refine dnil ?_
        exact hX _ (.putEq (by rw [hc7]; rfl) (.skip _ _ (.skip _ _ (.skip _ _ (.putEq (by rw [hc7]) (.refl _)) rfl) rfl) rfl))
    refine un (a1 (v := (B ((decide ((c_2.toNat : Int) = 48)) && (decide (1 < (s_.length : Int)))))) rfl ?_)
    refine dnil ?_
    exact Sv.weak (weak_canon [] rfl (by decide) (by decide) (fun b h => absurd h (Nat.not_lt_zero _)) (.cons rfl (avAs_free rfl) (.cons rfl (avAs_free rfl) .nil)) .nil) (clerestoryref2_part_j1_ok h)
def a43_c0 : ACode := (.cond (.tmp 25) (.exit 1) .skip)
def a43_c1 : ACode := (.cond (.tmp 41) (.region [⟨(some 42), (.mov (.tmp 8)), none⟩, ⟨(some 43), (.slStr (.tmp 42) (some (.const (.c (.val (.int .i64 1))))) none), none⟩, ⟨(some 8), (.mov (.tmp 43)), none⟩]) .skip)
def a43_c3 : ACode := (.seq (.region [⟨(some 44), (.mov (.tmp 8)), none⟩, ⟨(some 45), (.call 65 [(.tmp 44)]), none⟩, ⟨(some 9), (.mov (.tmp 45)), none⟩])
 (.seq (.seq (.region [⟨(some 46), (.mov (.tmp 9)), none⟩, ⟨(some 47), (.bin .lss (.tmp 46) (.const (.c (.val (.int .i64 0))))), none⟩, ⟨(some 48), (.mov (.tmp 47)), none⟩, ⟨(some 49), (.mov (.tmp 5)), (some (48, false))⟩, ⟨(some 50), (.bin .eql (.tmp 49) (.const (.c (.val (.int .i64 4))))), (some (48, false))⟩, ⟨(some 51), (.pick (.tmp 48) (.const (.c (.val (.bool true)))) (.tmp 50)), none⟩])
 (.cond (.tmp 51) (.seq (.region [⟨(some 2), (.mov (.const (.c (.val (.int .i64 0))))), none⟩, ⟨(some 3), (.mov (.const (.c (.val (.bool false))))), none⟩])
 .ret) .skip))
 (.seq (.region [⟨(some 52), (.mov (.tmp 4)), none⟩, ⟨(some 53), (.bin .mul (.const (.c (.val (.int .i64 256)))) (.tmp 52)), none⟩, ⟨(some 54), (.mov (.tmp 9)), none⟩, ⟨(some 55), (.bin .add (.tmp 53) (.tmp 54)), none⟩, ⟨(some 4), (.mov (.tmp 55)), none⟩])
 (.seq (.region [⟨(some 56), (.mov (.tmp 5)), none⟩, ⟨(some 57), (.bin .add (.tmp 56) (.const (.c (.val (.int .i64 1))))), none⟩, ⟨(some 5), (.mov (.tmp 57)), none⟩])
 (.region [⟨(some 58), (.mov (.tmp 7)), none⟩, ⟨(some 59), (.bin .add (.tmp 58) (.const (.c (.val (.int .i64 1))))), none⟩, ⟨(some 6), (.mov (.tmp 59)), none⟩])))))
def a43_c4 : ACode := (.seq (.region [⟨(some 26), (.mov (.tmp 0)), none⟩, ⟨(some 27), (.mov (.tmp 6)), none⟩, ⟨(some 28), (.mov (.tmp 7)), none⟩, ⟨(some 29), (.slStr (.tmp 26) (some (.tmp 27)) (some (.tmp 28))), none⟩, ⟨(some 8), (.mov (.tmp 29)), none⟩])
 (.seq (.seq (.region [⟨(some 30), (.mov (.tmp 5)), none⟩, ⟨(some 31), (.bin .gtr (.tmp 30) (.const (.c (.val (.int .i64 0))))), none⟩, ⟨(some 32), (.mov (.tmp 31)), none⟩, ⟨(some 33), (.mov (.tmp 8)), (some (32, true))⟩, ⟨(some 34), (.lenS (.tmp 33)), (some (32, true))⟩, ⟨(some 35), (.bin .gtr (.tmp 34) (.const (.c (.val (.int .i64 0))))), (some (32, true))⟩, ⟨(some 36), (.pick (.tmp 32) (.tmp 35) (.const (.c (.val (.bool false))))), none⟩, ⟨(some 37), (.mov (.tmp 36)), none⟩, ⟨(some 38), (.mov (.tmp 8)), (some (37, true))⟩, ⟨(some 39), (.idxS (.tmp 38) (.const (.c (.val (.int .i64 0))))), (some (37, true))⟩, ⟨(some 40), (.bin .eql (.tmp 39) (.const (.c (.val (.int .u8 32))))), (some (37, true))⟩, ⟨(some 41), (.pick (.tmp 37) (.tmp 40) (.const (.c (.val (.bool false))))), none⟩])
 a43_c1)
 a43_c3))
def a43_c2 : ACode := (.region [⟨(some 14), (.mov (.tmp 7)), none⟩, ⟨(some 15), (.bin .add (.tmp 14) (.const (.c (.val (.int .i64 1))))), none⟩, ⟨(some 7), (.mov (.tmp 15)), none⟩])
def a43_c5 : ACode := (.seq (.seq (.region [⟨(some 10), (.mov (.tmp 7)), none⟩, ⟨(some 11), (.mov (.tmp 0)), none⟩, ⟨(some 12), (.lenS (.tmp 11)), none⟩, ⟨(some 13), (.bin .leq (.tmp 10) (.tmp 12)), none⟩])
 (.cond (.tmp 13) .skip (.exit 0)))
 (.seq (.block 1 (.seq (.seq (.region [⟨(some 16), (.mov (.tmp 7)), none⟩, ⟨(some 17), (.mov (.tmp 0)), none⟩, ⟨(some 18), (.lenS (.tmp 17)), none⟩, ⟨(some 19), (.bin .lss (.tmp 16) (.tmp 18)), none⟩, ⟨(some 20), (.mov (.tmp 19)), none⟩, ⟨(some 21), (.mov (.tmp 0)), (some (20, true))⟩, ⟨(some 22), (.mov (.tmp 7)), (some (20, true))⟩, ⟨(some 23), (.idxS (.tmp 21) (.tmp 22)), (some (20, true))⟩, ⟨(some 24), (.bin .neq (.tmp 23) (.const (.c (.val (.int .u8 44))))), (some (20, true))⟩, ⟨(some 25), (.pick (.tmp 20) (.tmp 24) (.const (.c (.val (.bool false))))), none⟩])
 a43_c0)
 a43_c4))
 a43_c2))
def a43_c6 : ACode := (.seq (.region [⟨(some 65), (.mov (.tmp 4)), none⟩, ⟨(some 66), (.mov (.tmp 5)), none⟩, ⟨(some 67), (.bin .geq (.tmp 66) (.const (.c (.val (.int .i64 3))))), none⟩, ⟨(some 2), (.mov (.tmp 65)), none⟩, ⟨(some 3), (.mov (.tmp 67)), none⟩])
 .ret)
def a43 : AFunc := ⟨1, [(.tmp 2), (.tmp 3)], (.seq (.region [⟨(some 2), (.mov (.const (.c (.val (.int .i64 0))))), none⟩, ⟨(some 3), (.mov (.const (.c (.val (.bool false))))), none⟩])
 (.seq (.region [⟨(some 4), (.mov (.const (.c (.val (.int .i64 0))))), none⟩])
 (.seq (.region [⟨(some 5), (.mov (.const (.c (.val (.int .i64 0))))), none⟩])
 (.seq (.region [⟨(some 6), (.mov (.const (.c (.val (.int .i64 0))))), none⟩])
 (.seq (.seq (.region [⟨(some 7), (.mov (.const (.c (.val (.int .i64 0))))), none⟩])
 (.block 0 (.loop a43_c5)))
 (.seq (.seq (.region [⟨(some 60), (.mov (.tmp 5)), none⟩, ⟨(some 61), (.bin .eql (.tmp 60) (.const (.c (.val (.int .i64 3))))), none⟩])
 (.cond (.tmp 61) (.region [⟨(some 62), (.mov (.tmp 4)), none⟩, ⟨(some 63), (.bin .mul (.const (.c (.val (.int .i64 256)))) (.tmp 62)), none⟩, ⟨(some 64), (.bin .add (.tmp 63) (.const (.c (.val (.int .i64 255))))), none⟩, ⟨(some 4), (.mov (.tmp 64)), none⟩]) .skip))
 a43_c6))))))⟩
set_option maxRecDepth 100000 in
theorem c43 : compFunc Tryd.prog 43 = some a43 := by kernel_rfl
def clerestoryref2_rgbColor_post (r : (Int × Bool)) : AV → Heap → Nat → Prop := fun v h' n' => v = (.tup [(I r.1), (B r.2)]) ∧ (h' = (fun _ => none)) ∧ n' = 0
noncomputable def clerestoryref2_rgbColor_j38 (i_ : Int) (s_ : (List UInt8)) (self : Int → Int → Int → Int → Option (Int × Bool)) (K0_ : Int → Int → Option (Int × Bool)) (n_2 : Int) (many2 : Int) (from_1 : Int) : Option (Int × Bool) :=
  self n_2 many2 from_1 (wi (i_ + 1))
theorem clerestoryref2_rgbColor_j38_ok {mL : Int} {Q : AExit → St → Prop} {i_ : Int} {s_ : (List UInt8)} {self : Int → Int → Int → Int → Option (Int × Bool)} {K0_ : Int → Int → Option (Int × Bool)} {n_2 : Int} {many2 : Int} {from_1 : Int} {o : (Int × Bool)} (h : clerestoryref2_rgbColor_j38 i_ s_ self K0_ n_2 many2 from_1 = some o)
    (hself : ∀ (n_ : Int) (many : Int) (from_ : Int) (i_ : Int), self n_ many from_ i_ = some o → ∀ s, Weak 0 s ⟨(upd (upd (upd (upd (upd (fun _ => none) 0 (some (S s_))) 4 (some (I n_))) 5 (some (I many))) 6 (some (I from_))) 7 (some (I i_))), (fun _ => none), 0⟩ → (Q) .normal s)
    (hK0 : ∀ (n_1 : Int) (many1 : Int), K0_ n_1 many1 = some o → ∀ s, Weak 0 s ⟨(upd (upd (fun _ => none) 4 (some (I n_1))) 5 (some (I many1))), (fun _ => none), 0⟩ → Q (.exit 0) s)
    (hr : ∀ s, Ends a43.results 0 (clerestoryref2_rgbColor_post o) .ret s → Q .ret s) :
    Sv Tryd.prog (GG mL) 0 a43_c2 Q ⟨(upd (upd (upd (upd (upd (fun _ => none) 0 (some (S s_))) 4 (some (I n_2))) 5 (some (I many2))) 6 (some (I from_1))) 7 (some (I i_))), (fun _ => none), 0⟩ := by
  unfold clerestoryref2_rgbColor_j38 at h
  refine Sv.region ?_
  refine un (a1 rfl ?_)
  refine un (a1 (v := (I (wi (i_ + 1)))) rfl ?_)
  refine un (a1 rfl ?_)
  refine dnil ?_
  exact hself n_2 many2 from_1 (wi (i_ + 1)) h _ (weak_canon [] rfl (by decide) (by decide) (fun b h => absurd h (Nat.not_lt_zero _)) (.cons rfl (avAs_free rfl) (.cons rfl (avAs_free rfl) (.cons rfl (avAs_free rfl) (.cons rfl (avAs_free rfl) (.cons rfl (avAs_free rfl) .nil))))) .nil)
abbrev clerestoryref2_rgbColor_q0 (mL : Int) (Q : AExit → St → Prop) : AExit → St → Prop := AThen (Sv Tryd.prog (GG mL) 0 a43_c2 Q) Q
abbrev clerestoryref2_rgbColor_q1 (mL : Int) (Q : AExit → St → Prop) : AExit → St → Prop := ABlock 1 (clerestoryref2_rgbColor_q0 mL Q)
noncomputable def clerestoryref2_rgbColor_j41 (many : Int) (i_ : Int) (s_ : (List UInt8)) (n_ : Int) (self : Int → Int → Int → Int → Option (Int × Bool)) (K0_ : Int → Int → Option (Int × Bool)) (w_ : (List UInt8)) : Option (Int × Bool) :=
  (clerestoryref2_part w_).bind fun r_1 =>
  if ((decide (r_1 < 0)) || (decide (many = 4))) then
    some (0, false)
  else
    clerestoryref2_rgbColor_j38 i_ s_ self K0_ (wi ((wi (256 * n_)) + r_1)) (wi (many + 1)) (wi (i_ + 1))
theorem clerestoryref2_rgbColor_j41_ok {mL : Int} {Q : AExit → St → Prop} {many : Int} {i_ : Int} {s_ : (List UInt8)} {n_ : Int} {self : Int → Int → Int → Int → Option (Int × Bool)} {K0_ : Int → Int → Option (Int × Bool)} {w_ : (List UInt8)} {o : (Int × Bool)} (h : clerestoryref2_rgbColor_j41 many i_ s_ n_ self K0_ w_ = some o)
    (hself : ∀ (n_ : Int) (many : Int) (from_ : Int) (i_ : Int), self n_ many from_ i_ = some o → ∀ s, Weak 0 s ⟨(upd (upd (upd (upd (upd (fun _ => none) 0 (some (S s_))) 4 (some (I n_))) 5 (some (I many))) 6 (some (I from_))) 7 (some (I i_))), (fun _ => none), 0⟩ → (Q) .normal s)
    (hK0 : ∀ (n_1 : Int) (many1 : Int), K0_ n_1 many1 = some o → ∀ s, Weak 0 s ⟨(upd (upd (fun _ => none) 4 (some (I n_1))) 5 (some (I many1))), (fun _ => none), 0⟩ → Q (.exit 0) s)
    (hr : ∀ s, Ends a43.results 0 (clerestoryref2_rgbColor_post o) .ret s → Q .ret s) :
    Sv Tryd.prog (GG mL) 0 a43_c3 (clerestoryref2_rgbColor_q1 mL Q) ⟨(upd (upd (upd (upd (upd (fun _ => none) 0 (some (S s_))) 4 (some (I n_))) 5 (some (I many))) 7 (some (I i_))) 8 (some (S w_))), (fun _ => none), 0⟩ := by
  unfold clerestoryref2_rgbColor_j41 at h
  refine Sv.seq ?_
  refine Sv.region ?_
  refine un (a1 rfl ?_)
  obtain ⟨r_1, hr1, h⟩ := bnd h
  refine un (ac_pure (clerestoryref2_part_ok hr1) rfl rfl rfl ?_)
  refine un (a1 rfl ?_)
  refine dnil ?_
  refine Sv.seq ?_
  refine Sv.seq ?_
  refine Sv.region ?_
  refine un (a1 rfl ?_)
  refine un (a1 (v := (B (decide (r_1 < 0)))) rfl ?_)
  refine un (a1 rfl ?_)
  refine gjoin 3 (d := 51) (v := (B ((decide (r_1 < 0)) || (decide (many = 4))))) (fun X hX => ?_) ?_
  · refine split2 (fun hc3 => ?_) (fun hc3 => ?_)
    · refine gs rfl rfl ?_
      refine gs rfl rfl ?_
      refine un (a1 (v := (B true)) rfl ?_)
      refine dnil ?_
      exact hX _ (.putEq (by rw [hc3]; rfl) (.skip _ _ (.skip _ _ (.putEq (by rw [hc3]) (.refl _)) rfl) rfl))
    · refine gt rfl (a1 rfl ?_)
      refine gt rfl (a1 (v := (B (decide (many = 4)))) rfl ?_)
      refine un (a1 (v := (B (decide (many = 4)))) rfl ?_)
      refine dnil ?_
      exact hX _ (.putEq (by rw [hc3]; rfl) (.skip _ _ (.skip _ _ (.putEq (by rw [hc3]) (.refl _)) rfl) rfl))
  refine dnil ?_
  refine Sv.cond (b := ((decide (r_1 < 0)) || (decide (many = 4)))) rfl (fun hc4 => ?_) (fun hc4 => ?_)
  · replace h := ifT hc4 h
    refine Sv.seq ?_
    refine Sv.region ?_
    refine un (a1 rfl ?_)
    refine un (a1 rfl ?_)
    refine dnil ?_
    refine Sv.ret ?_
    replace h := Option.some.inj h
    subst h
    exact hr _ ⟨_, .refl _, _, rfl, ⟨upd (fun _ => none) 0 (some (.tup [(I 0), (B false)])), (fun _ => none), 0⟩, (.tup [(I 0), (B false)]), weak_canon [] rfl List.nodup_nil (Nat.le_refl _) (fun b h => absurd h (Nat.not_lt_zero _)) (.cons rfl (avAs_tup (.cons (avAs_free rfl) (.cons (avAs_free rfl) .nil))) .nil) .nil, rfl, rfl, rfl, rfl⟩
  · replace h := ifF hc4 h
    refine Sv.skip ?_
    refine Sv.seq ?_
    refine Sv.region ?_
    refine un (a1 rfl ?_)
    refine un (a1 (v := (I (wi (256 * n_)))) rfl ?_)
    refine un (a1 rfl ?_)
    refine un (a1 (v := (I (wi ((wi (256 * n_)) + r_1)))) rfl ?_)
    refine un (a1 rfl ?_)
    refine dnil ?_
    refine Sv.seq ?_
    refine Sv.region ?_
    refine un (a1 rfl ?_)
    refine un (a1 (v := (I (wi (many + 1)))) rfl ?_)
    refine un (a1 rfl ?_)
    refine dnil ?_
    refine Sv.region ?_
    refine un (a1 rfl ?_)
    refine un (a1 (v := (I (wi (i_ + 1)))) rfl ?_)
    refine un (a1 rfl ?_)
    refine dnil ?_
    exact Sv.weak (weak_canon [] rfl (by decide) (by decide) (fun b h => absurd h (Nat.not_lt_zero _)) (.cons rfl (avAs_free rfl) (.cons rfl (avAs_free rfl) (.cons rfl (avAs_free rfl) (.cons rfl (avAs_free rfl) (.cons rfl (avAs_free rfl) .nil))))) .nil) (clerestoryref2_rgbColor_j38_ok h hself hK0 hr)
abbrev clerestoryref2_rgbColor_q2 (mL : Int) (Q : AExit → St → Prop) : AExit → St → Prop := AThen (Sv Tryd.prog (GG mL) 0 a43_c3 (clerestoryref2_rgbColor_q1 mL Q)) (clerestoryref2_rgbColor_q1 mL Q)
noncomputable def clerestoryref2_rgbColor_j42 (r_ : (List UInt8)) (many : Int) (i_ : Int) (s_ : (List UInt8)) (n_ : Int) (self : Int → Int → Int → Int → Option (Int × Bool)) (K0_ : Int → Int → Option (Int × Bool)) (v41 : Bool) : Option (Int × Bool) :=
  if v41 then
    (sub? r_ 1 (r_.length : Int)).bind fun r_2 =>
    clerestoryref2_rgbColor_j41 many i_ s_ n_ self K0_ r_2
  else
    clerestoryref2_rgbColor_j41 many i_ s_ n_ self K0_ r_
theorem clerestoryref2_rgbColor_j42_ok {mL : Int} {Q : AExit → St → Prop} {r_ : (List UInt8)} {many : Int} {i_ : Int} {s_ : (List UInt8)} {n_ : Int} {self : Int → Int → Int → Int → Option (Int × Bool)} {K0_ : Int → Int → Option (Int × Bool)} {v41 : Bool} {o : (Int × Bool)} (h : clerestoryref2_rgbColor_j42 r_ many i_ s_ n_ self K0_ v41 = some o)
    (hself : ∀ (n_ : Int) (many : Int) (from_ : Int) (i_ : Int), self n_ many from_ i_ = some o → ∀ s, Weak 0 s ⟨(upd (upd (upd (upd (upd (fun _ => none) 0 (some (S s_))) 4 (some (I n_))) 5 (some (I many))) 6 (some (I from_))) 7 (some (I i_))), (fun _ => none), 0⟩ → (Q) .normal s)
    (hK0 : ∀ (n_1 : Int) (many1 : Int), K0_ n_1 many1 = some o → ∀ s, Weak 0 s ⟨(upd (upd (fun _ => none) 4 (some (I n_1))) 5 (some (I many1))), (fun _ => none), 0⟩ → Q (.exit 0) s)
    (hr : ∀ s, Ends a43.results 0 (clerestoryref2_rgbColor_post o) .ret s → Q .ret s) :
    Sv Tryd.prog (GG mL) 0 a43_c1 (clerestoryref2_rgbColor_q2 mL Q) ⟨(upd (upd (upd (upd (upd (upd (fun _ => none) 0 (some (S s_))) 4 (some (I n_))) 5 (some (I many))) 7 (some (I i_))) 8 (some (S r_))) 41 (some (B v41))), (fun _ => none), 0⟩ := by
  unfold clerestoryref2_rgbColor_j42 at h
  refine Sv.cond (b := v41) rfl (fun hc5 => ?_) (fun hc5 => ?_)
  · replace h := ifT hc5 h
    refine Sv.region ?_
    refine un (a1 rfl ?_)
    obtain ⟨r_2, hx2, h⟩ := bnd h
    refine un (a1 (v := (S r_2)) (s_slStr rfl rfl rfl hx2) ?_)
    refine un (a1 rfl ?_)
    refine dnil ?_
    exact Sv.weak (weak_canon [] rfl (by decide) (by decide) (fun b h => absurd h (Nat.not_lt_zero _)) (.cons rfl (avAs_free rfl) (.cons rfl (avAs_free rfl) (.cons rfl (avAs_free rfl) (.cons rfl (avAs_free rfl) (.cons rfl (avAs_free rfl) .nil))))) .nil) (clerestoryref2_rgbColor_j41_ok h hself hK0 hr)
  · replace h := ifF hc5 h
    refine Sv.skip ?_
    exact Sv.weak (weak_canon [] rfl (by decide) (by decide) (fun b h => absurd h (Nat.not_lt_zero _)) (.cons rfl (avAs_free rfl) (.cons rfl (avAs_free rfl) (.cons rfl (avAs_free rfl) (.cons rfl (avAs_free rfl) (.cons rfl (avAs_free rfl) .nil))))) .nil) (clerestoryref2_rgbColor_j41_ok h hself hK0 hr)
abbrev clerestoryref2_rgbColor_q3 (mL : Int) (Q : AExit → St → Prop) : AExit → St → Prop := AThen (Sv Tryd.prog (GG mL) 0 a43_c4 (clerestoryref2_rgbColor_q1 mL Q)) (clerestoryref2_rgbColor_q1 mL Q)
noncomputable def clerestoryref2_rgbColor_j39 (i_ : Int) (s_ : (List UInt8)) (n_ : Int) (many : Int) (from_ : Int) (self : Int → Int → Int → Int → Option (Int × Bool)) (K0_ : Int → Int → Option (Int × Bool)) (v25 : Bool) : Option (Int × Bool) :=
  if v25 then
    clerestoryref2_rgbColor_j38 i_ s_ self K0_ n_ many from_
  else
    (sub? s_ from_ i_).bind fun r_ =>
    if ((decide (0 < many)) && (decide (0 < (r_.length : Int)))) then
      (at? r_ 0).bind fun c_ =>
      clerestoryref2_rgbColor_j42 r_ many i_ s_ n_ self K0_ (decide ((c_.toNat : Int) = 32))
    else
      clerestoryref2_rgbColor_j42 r_ many i_ s_ n_ self K0_ false
theorem clerestoryref2_rgbColor_j39_ok {mL : Int} {Q : AExit → St → Prop} {i_ : Int} {s_ : (List UInt8)} {n_ : Int} {many : Int} {from_ : Int} {self : Int → Int → Int → Int → Option (Int × Bool)} {K0_ : Int → Int → Option (Int × Bool)} {v25 : Bool} {o : (Int × Bool)} (h : clerestoryref2_rgbColor_j39 i_ s_ n_ many from_ self K0_ v25 = some o)
    (hself : ∀ (n_ : Int) (many : Int) (from_ : Int) (i_ : Int), self n_ many from_ i_ = some o → ∀ s, Weak 0 s ⟨(upd (upd (upd (upd (upd (fun _ => none) 0 (some (S s_))) 4 (some (I n_))) 5 (some (I many))) 6 (some (I from_))) 7 (some (I i_))), (fun _ => none), 0⟩ → (Q) .normal s)
    (hK0 : ∀ (n_1 : Int) (many1 : Int), K0_ n_1 many1 = some o → ∀ s, Weak 0 s ⟨(upd (upd (fun _ => none) 4 (some (I n_1))) 5 (some (I many1))), (fun _ => none), 0⟩ → Q (.exit 0) s)
    (hr : ∀ s, Ends a43.results 0 (clerestoryref2_rgbColor_post o) .ret s → Q .ret s) :
    Sv Tryd.prog (GG mL) 0 a43_c0 (clerestoryref2_rgbColor_q3 mL Q) ⟨(upd (upd (upd (upd (upd (upd (fun _ => none) 0 (some (S s_))) 4 (some (I n_))) 5 (some (I many))) 6 (some (I from_))) 7 (some (I i_))) 25 (some (B v25))), (fun _ => none), 0⟩ := by
  unfold clerestoryref2_rgbColor_j39 at h
  refine Sv.cond (b := v25) rfl (fun hc2 => ?_) (fun hc2 => ?_)
  · replace h := ifT hc2 h
    refine Sv.exit ?_
    exact Sv.weak (weak_canon [] rfl (by decide) (by decide) (fun b h => absurd h (Nat.not_lt_zero _)) (.cons rfl (avAs_free rfl) (.cons rfl (avAs_free rfl) (.cons rfl (avAs_free rfl) (.cons rfl (avAs_free rfl) (.cons rfl (avAs_free rfl) .nil))))) .nil) (clerestoryref2_rgbColor_j38_ok h hself hK0 hr)
  · replace h := ifF hc2 h
    refine Sv.skip ?_
    refine Sv.seq ?_
    refine Sv.region ?_
    refine un (a1 rfl ?_)
    refine un (a1 rfl ?_)
    refine un (a1 rfl ?_)
    obtain ⟨r_, hx1, h⟩ := bnd h
    refine un (a1 (v := (S r_)) (s_slStr rfl rfl rfl hx1) ?_)
    refine un (a1 rfl ?_)
    refine dnil ?_
    refine Sv.seq ?_
    refine Sv.seq ?_
    refine Sv.region ?_
    refine un (a1 rfl ?_)
    refine un (a1 (v := (B (decide (0 < many)))) rfl ?_)
    refine un (a1 rfl ?_)
    refine gjoin 4 (d := 36) (v := (B ((decide (0 < many)) && (decide (0 < (r_.length : Int)))))) (fun X hX => ?_) ?_
    · refine split2 (fun hc6 => ?_) (fun hc6 => ?_)
      · refine gt rfl (a1 rfl ?_)
        refine gt rfl (a1 (v := (I (r_.length : Int))) rfl ?_)
        refine gt rfl (a1 (v := (B (decide (0 < (r_.length : Int))))) rfl ?_)
        refine un (a1 (v := (B (decide (0 < (r_.length : Int))))) rfl ?_)
        refine dnil ?_
        exact hX _ (.putEq (by rw [hc6]; rfl) (.skip _ _ (.skip _ _ (.skip _ _ (.putEq (by rw [hc6]) (.refl _)) rfl) rfl) rfl))
      · refine gs rfl rfl ?_
        refine gs rfl rfl ?_
        refine gs rfl rfl ?_
        refine un (a1 (v := (B false)) rfl ?_)
        refine dnil ?_
        exact hX _ (.putEq (by rw [hc6]; rfl) (.skip _ _ (.skip _ _ (.skip _ _ (.putEq (by rw [hc6]) (.refl _)) rfl) rfl) rfl))
    refine un (a1 rfl ?_)
    refine split2 (fun hc7 => ?_) (fun hc7 => ?_)
    · replace h := ifT hc7 h
      refine gt rfl (a1 rfl ?_)
      obtain ⟨c_, hx3, h⟩ := bnd h
      refine gt rfl (a1 (v := (.c (.val (.int .u8 (c_.toNat : Int))))) (s_idxS rfl rfl hx3) ?_)
      refine gt rfl (a1 (v := (B (decide ((c_.toNat : Int) = 32)))) rfl ?_)
      refine un (a1 (v := (B (decide ((c_.toNat : Int) = 32)))) rfl ?_)
      refine dnil ?_
      exact Sv.weak (weak_canon [] rfl (by decide) (by decide) (fun b h => absurd h (Nat.not_lt_zero _)) (.cons rfl (avAs_free rfl) (.cons rfl (avAs_free rfl) (.cons rfl (avAs_free rfl) (.cons rfl (avAs_free rfl) (.cons rfl (avAs_free rfl) (.cons rfl (avAs_free rfl) .nil)))))) .nil) (clerestoryref2_rgbColor_j42_ok h hself hK0 hr)
    · replace h := ifF hc7 h
      refine gs rfl rfl ?_
      refine gs rfl rfl ?_
      refine gs rfl rfl ?_
      refine un (a1 (v := (B false)) rfl ?_)
      refine dnil ?_
      exact Sv.weak (weak_canon [] rfl (by decide) (by decide) (fun b h => absurd h (Nat.not_lt_zero _)) (.cons rfl (avAs_free rfl) (.cons rfl (avAs_free rfl) (.cons rfl (avAs_free rfl) (.cons rfl (avAs_free rfl) (.cons rfl (avAs_free rfl) (.cons rfl (avAs_free rfl) .nil)))))) .nil) (clerestoryref2_rgbColor_j42_ok h hself hK0 hr)
noncomputable def clerestoryref2_rgbColor_l0 (s_ : (List UInt8)) (K0_ : Int → Int → Option (Int × Bool)) : Nat → Int → Int → Int → Int → Option (Int × Bool)
  | 0, _, _, _, _ => none
  | k + 1, n_, many, from_, i_ =>
    if decide (i_ ≤ (s_.length : Int)) then
      if decide (i_ < (s_.length : Int)) then
        (at? s_ i_).bind fun c_1 =>
        clerestoryref2_rgbColor_j39 i_ s_ n_ many from_ (clerestoryref2_rgbColor_l0 s_ K0_ k) K0_ (!decide ((c_1.toNat : Int) = 44))
      else
        clerestoryref2_rgbColor_j39 i_ s_ n_ many from_ (clerestoryref2_rgbColor_l0 s_ K0_ k) K0_ false
    else
      K0_ n_ many
theorem clerestoryref2_rgbColor_l0_ok {mL : Int} {Q : AExit → St → Prop} {s_ : (List UInt8)} {K0_ : Int → Int → Option (Int × Bool)} {k : Nat} {n_ : Int} {many : Int} {from_ : Int} {i_ : Int} {o : (Int × Bool)} (h : clerestoryref2_rgbColor_l0 s_ K0_ k n_ many from_ i_ = some o)
    (hK0 : ∀ (n_1 : Int) (many1 : Int), K0_ n_1 many1 = some o → ∀ s, Weak 0 s ⟨(upd (upd (fun _ => none) 4 (some (I n_1))) 5 (some (I many1))), (fun _ => none), 0⟩ → Q (.exit 0) s)
    (hr : ∀ s, Ends a43.results 0 (clerestoryref2_rgbColor_post o) .ret s → Q .ret s) :
    Sv Tryd.prog (GG mL) 0 (.loop a43_c5) Q ⟨(upd (upd (upd (upd (upd (fun _ => none) 0 (some (S s_))) 4 (some (I n_))) 5 (some (I many))) 6 (some (I from_))) 7 (some (I i_))), (fun _ => none), 0⟩ := by
  refine Sv.loop (I := fun k s => ∃ (n_ : Int), ∃ (many : Int), ∃ (from_ : Int), ∃ (i_ : Int), clerestoryref2_rgbColor_l0 s_ K0_ k n_ many from_ i_ = some o ∧ s = ⟨(upd (upd (upd (upd (upd (fun _ => none) 0 (some (S s_))) 4 (some (I n_))) 5 (some (I many))) 6 (some (I from_))) 7 (some (I i_))), (fun _ => none), 0⟩) (fun k s hI => ?_) ⟨n_, many, from_, i_, h, rfl⟩
  clear h
  clear i_ from_ many n_
  obtain ⟨n_, many, from_, i_, h, rfl⟩ := hI
  cases k with
  | zero => cases h
  | succ k =>
  rw [clerestoryref2_rgbColor_l0] at h
  have hself : ∀ (n_ : Int) (many : Int) (from_ : Int) (i_ : Int), (clerestoryref2_rgbColor_l0 s_ K0_ k) n_ many from_ i_ = some o → ∀ s, Weak 0 s ⟨(upd (upd (upd (upd (upd (fun _ => none) 0 (some (S s_))) 4 (some (I n_))) 5 (some (I many))) 6 (some (I from_))) 7 (some (I i_))), (fun _ => none), 0⟩ → (AThen (fun s' => ∃ s'' k', Weak 0 s' s'' ∧ k' < k + 1 ∧ (fun k s => ∃ (n_ : Int), ∃ (many : Int), ∃ (from_ : Int), ∃ (i_ : Int), clerestoryref2_rgbColor_l0 s_ K0_ k n_ many from_ i_ = some o ∧ s = ⟨(upd (upd (upd (upd (upd (fun _ => none) 0 (some (S s_))) 4 (some (I n_))) 5 (some (I many))) 6 (some (I from_))) 7 (some (I i_))), (fun _ => none), 0⟩) k' s'') Q) .normal s := fun n_ many from_ i_ h s hw => ⟨_, k, hw, Nat.lt_succ_self k, n_, many, from_, i_, h, rfl⟩
  refine Sv.seq ?_
  refine Sv.seq ?_
  refine Sv.region ?_
  refine un (a1 rfl ?_)
  refine un (a1 rfl ?_)
  refine un (a1 (v := (I (s_.length : Int))) rfl ?_)
  refine un (a1 (v := (B (decide (i_ ≤ (s_.length : Int))))) rfl ?_)
  refine dnil ?_
  refine Sv.cond (b := decide (i_ ≤ (s_.length : Int))) rfl (fun hc1 => ?_) (fun hc1 => ?_)
  · replace h := ifT hc1 h
    refine Sv.skip ?_
    refine Sv.seq ?_
    refine Sv.block ?_
    refine Sv.seq ?_
    refine Sv.seq ?_
    refine Sv.region ?_
    refine un (a1 rfl ?_)
    refine un (a1 rfl ?_)
    refine un (a1 (v := (I (s_.length : Int))) rfl ?_)
    refine un (a1 (v := (B (decide (i_ < (s_.length : Int))))) rfl ?_)
    refine un (a1 rfl ?_)
    refine split2 (fun hc8 => ?_) (fun hc8 => ?_)
    · replace h := ifT hc8 h
      refine gt rfl (a1 rfl ?_)
      refine gt rfl (a1 rfl ?_)
      obtain ⟨c_1, hx4, h⟩ := bnd h
      refine gt rfl (a1 (v := (.c (.val (.int .u8 (c_1.toNat : Int))))) (s_idxS rfl rfl hx4) ?_)
      refine gt rfl (a1 (v := (B (!decide ((c_1.toNat : Int) = 44)))) rfl ?_)
      refine un (a1 (v := (B (!decide ((c_1.toNat : Int) = 44)))) rfl ?_)
      refine dnil ?_
      exact Sv.weak (weak_canon [] rfl (by decide) (by decide) (fun b h => absurd h (Nat.not_lt_zero _)) (.cons rfl (avAs_free rfl) (.cons rfl (avAs_free rfl) (.cons rfl (avAs_free rfl) (.cons rfl (avAs_free rfl) (.cons rfl (avAs_free rfl) (.cons rfl (avAs_free rfl) .nil)))))) .nil) (clerestoryref2_rgbColor_j39_ok h hself hK0 hr)
    · replace h := ifF hc8 h
      refine gs rfl rfl ?_
      refine gs rfl rfl ?_
      refine gs rfl rfl ?_
      refine gs rfl rfl ?_
      refine un (a1 (v := (B false)) rfl ?_)
      refine dnil ?_
      exact Sv.weak (weak_canon [] rfl (by decide) (by decide) (fun b h => absurd h (Nat.not_lt_zero _)) (.cons rfl (avAs_free rfl) (.cons rfl (avAs_free rfl) (.cons rfl (avAs_free rfl) (.cons rfl (avAs_free rfl) (.cons rfl (avAs_free rfl) (.cons rfl (avAs_free rfl) .nil)))))) .nil) (clerestoryref2_rgbColor_j39_ok h hself hK0 hr)
  · replace h := ifF hc1 h
    refine Sv.exit ?_
    exact hK0 n_ many h _ (weak_canon [] rfl (by decide) (by decide) (fun b h => absurd h (Nat.not_lt_zero _)) (.cons rfl (avAs_free rfl) (.cons rfl (avAs_free rfl) .nil)) .nil)
noncomputable def clerestoryref2_rgbColor_j43 (many1 : Int) (n_3 : Int) : Option (Int × Bool) :=
  some (n_3, decide (3 ≤ many1))
theorem clerestoryref2_rgbColor_j43_ok {mL : Int} {many1 : Int} {n_3 : Int} {o : (Int × Bool)} (h : clerestoryref2_rgbColor_j43 many1 n_3 = some o) :
    Sv Tryd.prog (GG mL) 0 a43_c6 (Ends a43.results 0 (clerestoryref2_rgbColor_post o)) ⟨(upd (upd (fun _ => none) 4 (some (I n_3))) 5 (some (I many1))), (fun _ => none), 0⟩ := by
  unfold clerestoryref2_rgbColor_j43 at h
  refine Sv.seq ?_
  refine Sv.region ?_
  refine un (a1 rfl ?_)
  refine un (a1 rfl ?_)
  refine un (a1 (v := (B (decide (3 ≤ many1)))) rfl ?_)
  refine un (a1 rfl ?_)
  refine un (a1 rfl ?_)
  refine dnil ?_
  refine Sv.ret ?_
  replace h := Option.some.inj h
  subst h
  exact ⟨_, .refl _, _, rfl, ⟨upd (fun _ => none) 0 (some (.tup [(I n_3), (B (decide (3 ≤ many1)))])), (fun _ => none), 0⟩, (.tup [(I n_3), (B (decide (3 ≤ many1)))]), weak_canon [] rfl List.nodup_nil (Nat.le_refl _) (fun b h => absurd h (Nat.not_lt_zero _)) (.cons rfl (avAs_tup (.cons (avAs_free rfl) (.cons (avAs_free rfl) .nil))) .nil) .nil, rfl, rfl, rfl, rfl⟩
/-- clerestory/clerestoryref2.rgbColor -/
noncomputable def clerestoryref2_rgbColor (s_ : (List UInt8)) : Option (Int × Bool) :=
  lim fun kk => clerestoryref2_rgbColor_l0 s_ (fun (n_1 : Int) (many1 : Int) => 
      if decide (many1 = 3) then
        clerestoryref2_rgbColor_j43 many1 (wi ((wi (256 * n_1)) + 255))
      else
        clerestoryref2_rgbColor_j43 many1 n_1) kk 0 0 0 0
theorem clerestoryref2_rgbColor_ok {mL : Int} {s_ : (List UInt8)} {r : (Int × Bool)} (h : clerestoryref2_rgbColor s_ = some r) : CPure Tryd.prog (GG mL) 43 [(S s_)] (.tup [(I r.1), (B r.2)]) := by
  refine acalls_of_sv hmix c43 (R := clerestoryref2_rgbColor_post r) ?_
  unfold clerestoryref2_rgbColor at h
  refine Sv.seq ?_
  refine Sv.region ?_
  refine un (a1 rfl ?_)
  refine un (a1 rfl ?_)
  refine dnil ?_
  refine Sv.seq ?_
  refine Sv.region ?_
  refine un (a1 rfl ?_)
  refine dnil ?_
  refine Sv.seq ?_
  refine Sv.region ?_
  refine un (a1 rfl ?_)
  refine dnil ?_
  refine Sv.seq ?_
  refine Sv.region ?_
  refine un (a1 rfl ?_)
  refine dnil ?_
  refine Sv.seq ?_
  refine Sv.seq ?_
  refine Sv.region ?_
  refine un (a1 rfl ?_)
  refine dnil ?_
  refine Sv.block ?_
  obtain ⟨kk, h⟩ := lim_some h
  refine Sv.weak (weak_canon [] rfl (by decide) (by decide) (fun b h => absurd h (Nat.not_lt_zero _)) (.cons rfl (avAs_free rfl) (.cons rfl (avAs_free rfl) (.cons rfl (avAs_free rfl) (.cons rfl (avAs_free rfl) (.cons rfl (avAs_free rfl) .nil))))) .nil) (clerestoryref2_rgbColor_l0_ok h ?_ (fun s hs => hs))
  · intro n_1 many1 h _ hw1
    refine Sv.weak hw1 ?_
    refine Sv.seq ?_
    refine Sv.seq ?_
    refine Sv.region ?_
    refine un (a1 rfl ?_)
    refine un (a1 (v := (B (decide (many1 = 3)))) rfl ?_)
    refine dnil ?_
    refine Sv.cond (b := decide (many1 = 3)) rfl (fun hc9 => ?_) (fun hc9 => ?_)
    · replace h := ifT hc9 h
      refine Sv.region ?_
      refine un (a1 rfl ?_)
      refine un (a1 (v := (I (wi (256 * n_1)))) rfl ?_)
      refine un (a1 (v := (I (wi ((wi (256 * n_1)) + 255)))) rfl ?_)
      refine un (a1 rfl ?_)
      refine dnil ?_
      exact Sv.weak (weak_canon [] rfl (by decide) (by decide) (fun b h => absurd h (Nat.not_lt_zero _)) (.cons rfl (avAs_free rfl) (.cons rfl (avAs_free rfl) .nil)) .nil) (clerestoryref2_rgbColor_j43_ok h)
    · replace h := ifF hc9 h
      refine Sv.skip ?_
      exact Sv.weak (weak_canon [] rfl (by decide) (by decide) (fun b h => absurd h (Nat.not_lt_zero _)) (.cons rfl (avAs_free rfl) (.cons rfl (avAs_free rfl) .nil)) .nil) (clerestoryref2_rgbColor_j43_ok h)
def a14_c0 : ACode := (.seq (.seq (.region [⟨(some 15), (.mov (.tmp 6)), none⟩, ⟨(some 16), (.mov (.tmp 4)), none⟩, ⟨(some 17), (.len (.tmp 16)), none⟩, ⟨(some 18), (.bin .lss (.tmp 15) (.tmp 17)), none⟩])
 (.cond (.tmp 18) .skip (.exit 0)))
 (.seq (.block 1 (.seq (.region [⟨(some 21), (.mov (.tmp 4)), none⟩, ⟨(some 22), (.mov (.tmp 6)), none⟩, ⟨(some 23), (.iaddr 1 (.tmp 21) (.tmp 22)), none⟩, ⟨(some 24), (.load false 1 (.tmp 23)), none⟩, ⟨(some 25), (.mov (.tmp 0)), none⟩, ⟨(some 26), (.bin .eql (.tmp 24) (.tmp 25)), none⟩])
 (.cond (.tmp 26) (.seq (.region [⟨(some 27), (.mov (.tmp 5)), none⟩, ⟨(some 28), (.mov (.tmp 6)), none⟩, ⟨(some 29), (.iaddr 1 (.tmp 27) (.tmp 28)), none⟩, ⟨(some 30), (.load false 1 (.tmp 29)), none⟩, ⟨(some 31), (.bin .mul (.const (.c (.val (.int .i64 256)))) (.tmp 30)), none⟩, ⟨(some 32), (.bin .add (.tmp 31) (.const (.c (.val (.int .i64 255))))), none⟩, ⟨(some 2), (.mov (.tmp 32)), none⟩, ⟨(some 3), (.mov (.const (.c (.val (.bool true))))), none⟩])
 .ret) .skip)))
 (.region [⟨(some 19), (.mov (.tmp 6)), none⟩, ⟨(some 20), (.bin .add (.tmp 19) (.const (.c (.val (.int .i64 1))))), none⟩, ⟨(some 6), (.mov (.tmp 20)), none⟩])))
def a14_c1 : ACode := (.cond (.tmp 40) (.seq (.region [⟨(some 41), (.mov (.tmp 0)), none⟩, ⟨(some 42), (.slStr (.tmp 41) (some (.const (.c (.val (.int .i64 1))))) none), none⟩, ⟨(some 43), (.call 42 [(.tmp 42)]), none⟩, ⟨(some 44), (.ext (.tmp 43) 0), none⟩, ⟨(some 45), (.ext (.tmp 43) 1), none⟩, ⟨(some 2), (.mov (.tmp 44)), none⟩, ⟨(some 3), (.mov (.tmp 45)), none⟩])
 .ret) .skip)
def a14_c2 : ACode := (.cond (.tmp 66) (.seq (.region [⟨(some 67), (.mov (.tmp 0)), none⟩, ⟨(some 68), (.mov (.tmp 0)), none⟩, ⟨(some 69), (.lenS (.tmp 68)), none⟩, ⟨(some 70), (.bin .sub (.tmp 69) (.const (.c (.val (.int .i64 1))))), none⟩, ⟨(some 71), (.slStr (.tmp 67) (some (.const (.c (.val (.int .i64 4))))) (some (.tmp 70))), none⟩, ⟨(some 72), (.call 43 [(.tmp 71)]), none⟩, ⟨(some 73), (.ext (.tmp 72) 0), none⟩, ⟨(some 74), (.ext (.tmp 72) 1), none⟩, ⟨(some 2), (.mov (.tmp 73)), none⟩, ⟨(some 3), (.mov (.tmp 74)), none⟩])
 .ret) .skip)
def a14_c3 : ACode := (.seq (.region [⟨(some 2), (.mov (.const (.c (.val (.int .i64 0))))), none⟩, ⟨(some 3), (.mov (.const (.c (.val (.bool false))))), none⟩])
 .ret)
def a14_c4 : ACode := (.seq (.seq (.region [⟨(some 46), (.mov (.tmp 0)), none⟩, ⟨(some 47), (.lenS (.tmp 46)), none⟩, ⟨(some 48), (.bin .gtr (.tmp 47) (.const (.c (.val (.int .i64 5))))), none⟩, ⟨(some 49), (.mov (.tmp 48)), none⟩, ⟨(some 50), (.mov (.tmp 0)), (some (49, true))⟩, ⟨(some 51), (.lenS (.tmp 50)), (some (49, true))⟩, ⟨(some 52), (.bin .lss (.tmp 51) (.const (.c (.val (.int .i64 60))))), (some (49, true))⟩, ⟨(some 53), (.pick (.tmp 49) (.tmp 52) (.const (.c (.val (.bool false))))), none⟩, ⟨(some 54), (.mov (.tmp 53)), none⟩, ⟨(some 55), (.mov (.tmp 0)), (some (54, true))⟩, ⟨(some 56), (.slStr (.tmp 55) none (some (.const (.c (.val (.int .i64 4)))))), (some (54, true))⟩, ⟨(some 57), (.bin .eql (.tmp 56) (.const (.c (.str [114, 103, 98, 40])))), (some (54, true))⟩, ⟨(some 58), (.pick (.tmp 54) (.tmp 57) (.const (.c (.val (.bool false))))), none⟩, ⟨(some 59), (.mov (.tmp 58)), none⟩, ⟨(some 60), (.mov (.tmp 0)), (some (59, true))⟩, ⟨(some 61), (.mov (.tmp 0)), (some (59, true))⟩, ⟨(some 62), (.lenS (.tmp 61)), (some (59, true))⟩, ⟨(some 63), (.bin .sub (.tmp 62) (.const (.c (.val (.int .i64 1))))), (some (59, true))⟩, ⟨(some 64), (.idxS (.tmp 60) (.tmp 63)), (some (59, true))⟩, ⟨(some 65), (.bin .eql (.tmp 64) (.const (.c (.val (.int .u8 41))))), (some (59, true))⟩, ⟨(some 66), (.pick (.tmp 59) (.tmp 65) (.const (.c (.val (.bool false))))), none⟩])
 a14_c2)
 a14_c3)
def a14 : AFunc := ⟨1, [(.tmp 2), (.tmp 3)], (.seq (.region [⟨(some 2), (.mov (.const (.c (.val (.int .i64 0))))), none⟩, ⟨(some 3), (.mov (.const (.c (.val (.bool false))))), none⟩])
 (.seq (.region [⟨(some 7), (.mov (.tmp 0)), none⟩, ⟨(some 8), (.call 40 [(.tmp 7)]), none⟩, ⟨(some 0), (.mov (.tmp 8)), none⟩])
 (.seq (.seq (.region [⟨(some 9), (.mov (.tmp 0)), none⟩, ⟨(some 10), (.bin .eql (.tmp 9) (.const (.c (.str [116, 114, 97, 110, 115, 112, 97, 114, 101, 110, 116])))), none⟩])
 (.cond (.tmp 10) (.seq (.region [⟨(some 2), (.mov (.const (.c (.val (.int .i64 0))))), none⟩, ⟨(some 3), (.mov (.const (.c (.val (.bool true))))), none⟩])
 .ret) .skip))
 (.seq (.region [⟨(some 12), (.call 41 []), none⟩, ⟨(some 11), (.mov (.tmp 12)), none⟩, ⟨(some 13), (.ext (.tmp 11) 0), none⟩, ⟨(some 14), (.ext (.tmp 11) 1), none⟩, ⟨(some 4), (.mov (.tmp 13)), none⟩, ⟨(some 5), (.mov (.tmp 14)), none⟩])
 (.seq (.seq (.region [⟨(some 6), (.mov (.const (.c (.val (.int .i64 0))))), none⟩])
 (.block 0 (.loop a14_c0)))
 (.seq (.seq (.region [⟨(some 33), (.mov (.tmp 0)), none⟩, ⟨(some 34), (.lenS (.tmp 33)), none⟩, ⟨(some 35), (.bin .gtr (.tmp 34) (.const (.c (.val (.int .i64 0))))), none⟩, ⟨(some 36), (.mov (.tmp 35)), none⟩, ⟨(some 37), (.mov (.tmp 0)), (some (36, true))⟩, ⟨(some 38), (.idxS (.tmp 37) (.const (.c (.val (.int .i64 0))))), (some (36, true))⟩, ⟨(some 39), (.bin .eql (.tmp 38) (.const (.c (.val (.int .u8 35))))), (some (36, true))⟩, ⟨(some 40), (.pick (.tmp 36) (.tmp 39) (.const (.c (.val (.bool false))))), none⟩])
 a14_c1)
 a14_c4))))))⟩
set_option maxRecDepth 100000 in
theorem c14 : compFunc Tryd.prog 14 = some a14 := by kernel_rfl
def clerestoryref2_ColorOf_post (r : (Int × Bool)) : AV → Heap → Nat → Prop := fun v h' n' => v = (.tup [(I r.1), (B r.2)]) ∧ (h' = (fun _ => none)) ∧ n' = 0
noncomputable def clerestoryref2_ColorOf_l0 (r_ : (List UInt8)) (K0_ : Unit → Option (Int × Bool)) : Nat → (List (List UInt8)) → (List Int) → Int → Option (Int × Bool)
  | 0, _, _, _ => none
  | k + 1, names, codes, i_ =>
    if decide (i_ < (names.length : Int)) then
      (at? names i_).bind fun x_ =>
      if decide (x_ = r_) then
        (at? codes i_).bind fun x_1 =>
        some ((wi ((wi (256 * x_1)) + 255)), true)
      else
        (clerestoryref2_ColorOf_l0 r_ K0_ k) names codes (wi (i_ + 1))
    else
      K0_ ()
theorem clerestoryref2_ColorOf_l0_ok {mL : Int} {Q : AExit → St → Prop} {r_ : (List UInt8)} {K0_ : Unit → Option (Int × Bool)} {k : Nat} {names : (List (List UInt8))} {codes : (List Int)} {i_ : Int} {znames : Bool} (hznames : znames = true → names = []) {zcodes : Bool} (hzcodes : zcodes = true → codes = []) {o : (Int × Bool)} (h : clerestoryref2_ColorOf_l0 r_ K0_ k names codes i_ = some o)
    (hK0 : ∀ (_ : Unit), K0_ () = some o → ∀ s, Weak 0 s ⟨(upd (fun _ => none) 0 (some (S r_))), (fun _ => none), 0⟩ → Q (.exit 0) s)
    (hr : ∀ s, Ends a14.results 0 (clerestoryref2_ColorOf_post o) .ret s → Q .ret s) :
    Sv Tryd.prog (GG mL) 0 (.loop a14_c0) Q ⟨(upd (upd (upd (upd (fun _ => none) 0 (some (S r_))) 4 (some (lstV znames 0 1 names.length))) 5 (some (lstV zcodes 1 1 codes.length))) 6 (some (I i_))), (upd (upd (fun _ => none) 0 (lstB znames 1 (names.map eStr))) 1 (lstB zcodes 1 (codes.map eI))), 2⟩ := by
  refine Sv.loop (I := fun k s => ∃ (names : (List (List UInt8))), ∃ (codes : (List Int)), ∃ (i_ : Int), ∃ (znames : Bool), (znames = true → names = []) ∧ ∃ (zcodes : Bool), (zcodes = true → codes = []) ∧ clerestoryref2_ColorOf_l0 r_ K0_ k names codes i_ = some o ∧ s = ⟨(upd (upd (upd (upd (fun _ => none) 0 (some (S r_))) 4 (some (lstV znames 0 1 names.length))) 5 (some (lstV zcodes 1 1 codes.length))) 6 (some (I i_))), (upd (upd (fun _ => none) 0 (lstB znames 1 (names.map eStr))) 1 (lstB zcodes 1 (codes.map eI))), 2⟩) (fun k s hI => ?_) ⟨names, codes, i_, znames, hznames, zcodes, hzcodes, h, rfl⟩
  clear h
  clear hzcodes hznames zcodes znames i_ codes names
  obtain ⟨names, codes, i_, znames, hznames, zcodes, hzcodes, h, rfl⟩ := hI
  cases k with
  | zero => cases h
  | succ k =>
  rw [clerestoryref2_ColorOf_l0] at h
  have hself : ∀ (names : (List (List UInt8))) (codes : (List Int)) (i_ : Int) (znames : Bool) (_ : znames = true → names = []) (zcodes : Bool) (_ : zcodes = true → codes = []), (clerestoryref2_ColorOf_l0 r_ K0_ k) names codes i_ = some o → ∀ s, Weak 0 s ⟨(upd (upd (upd (upd (fun _ => none) 0 (some (S r_))) 4 (some (lstV znames 0 1 names.length))) 5 (some (lstV zcodes 1 1 codes.length))) 6 (some (I i_))), (upd (upd (fun _ => none) 0 (lstB znames 1 (names.map eStr))) 1 (lstB zcodes 1 (codes.map eI))), 2⟩ → (AThen (fun s' => ∃ s'' k', Weak 0 s' s'' ∧ k' < k + 1 ∧ (fun k s => ∃ (names : (List (List UInt8))), ∃ (codes : (List Int)), ∃ (i_ : Int), ∃ (znames : Bool), (znames = true → names = []) ∧ ∃ (zcodes : Bool), (zcodes = true → codes = []) ∧ clerestoryref2_ColorOf_l0 r_ K0_ k names codes i_ = some o ∧ s = ⟨(upd (upd (upd (upd (fun _ => none) 0 (some (S r_))) 4 (some (lstV znames 0 1 names.length))) 5 (some (lstV zcodes 1 1 codes.length))) 6 (some (I i_))), (upd (upd (fun _ => none) 0 (lstB znames 1 (names.map eStr))) 1 (lstB zcodes 1 (codes.map eI))), 2⟩) k' s'') Q) .normal s := fun names codes i_ znames hznames zcodes hzcodes h s hw => ⟨_, k, hw, Nat.lt_succ_self k, names, codes, i_, znames, hznames, zcodes, hzcodes, h, rfl⟩
  refine Sv.seq ?_
  refine Sv.seq ?_
  refine Sv.region ?_
  refine un (a1 rfl ?_)
  refine un (a1 rfl ?_)
  refine un (a1 (v := (I (names.length : Int))) (s_lenL rfl (len_nil_of hznames)) ?_)
  refine un (a1 (v := (B (decide (i_ < (names.length : Int))))) rfl ?_)
  refine dnil ?_
  refine Sv.cond (b := decide (i_ < (names.length : Int))) rfl (fun hc2 => ?_) (fun hc2 => ?_)
  · replace h := ifT hc2 h
    refine Sv.skip ?_
    refine Sv.seq ?_
    refine Sv.block ?_
    refine Sv.seq ?_
    refine Sv.region ?_
    refine un (a1 rfl ?_)
    refine un (a1 rfl ?_)
    obtain ⟨x_, hx1, h⟩ := bnd h
    refine un (a1 (v := (.c (.ref 0 1 i_.toNat 0))) (s_iaddrL rfl rfl hznames hx1) ?_)
    refine un (a1 (v := (S x_)) (s_loadL (z := znames) (e := eStr) rfl rfl hznames hx1 rfl rfl) ?_)
    refine un (a1 rfl ?_)
    refine un (a1 (v := (B (decide (x_ = r_)))) rfl ?_)
    refine dnil ?_
    refine Sv.cond (b := decide (x_ = r_)) rfl (fun hc3 => ?_) (fun hc3 => ?_)
    · replace h := ifT hc3 h
      refine Sv.seq ?_
      refine Sv.region ?_
      refine un (a1 rfl ?_)
      refine un (a1 rfl ?_)
      obtain ⟨x_1, hx2, h⟩ := bnd h
      refine un (a1 (v := (.c (.ref 1 1 i_.toNat 0))) (s_iaddrL rfl rfl hzcodes hx2) ?_)
      refine un (a1 (v := (I x_1)) (s_loadL (z := zcodes) (e := eI) rfl rfl hzcodes hx2 rfl rfl) ?_)
      refine un (a1 (v := (I (wi (256 * x_1)))) rfl ?_)
      refine un (a1 (v := (I (wi ((wi (256 * x_1)) + 255)))) rfl ?_)
      refine un (a1 rfl ?_)
      refine un (a1 rfl ?_)
      refine dnil ?_
      refine Sv.ret ?_
      replace h := Option.some.inj h
      subst h
      exact hr _ ⟨_, .refl _, _, rfl, ⟨upd (fun _ => none) 0 (some (.tup [(I (wi ((wi (256 * x_1)) + 255))), (B true)])), (fun _ => none), 0⟩, (.tup [(I (wi ((wi (256 * x_1)) + 255))), (B true)]), weak_canon [] rfl List.nodup_nil (Nat.le_refl _) (fun b h => absurd h (Nat.not_lt_zero _)) (.cons rfl (avAs_tup (.cons (avAs_free rfl) (.cons (avAs_free rfl) .nil))) .nil) .nil, rfl, rfl, rfl, rfl⟩
    · replace h := ifF hc3 h
      refine Sv.skip ?_
      refine Sv.region ?_
      refine un (a1 rfl ?_)
      refine un (a1 (v := (I (wi (i_ + 1)))) rfl ?_)
      refine un (a1 rfl ?_)
      refine dnil ?_
      exact hself names codes (wi (i_ + 1)) znames hznames zcodes hzcodes h _ (weak_canon [0, 1] rfl (by decide) (by decide) (fun b h => absurd h (Nat.not_lt_zero _)) (.cons rfl (avAs_free rfl) (.cons rfl (.c (lstC_ren rfl (by decide))) (.cons rfl (.c (lstC_ren rfl (by decide))) (.cons rfl (avAs_free rfl) .nil)))) (.row (by decide) rfl (fr_map fun _ => rfl) (.row (by decide) rfl (fr_map fun _ => rfl) .nil)))
  · replace h := ifF hc2 h
    refine Sv.exit ?_
    exact hK0 () h _ (weak_canon [] rfl (by decide) (by decide) (fun b h => absurd h (Nat.not_lt_zero _)) (.cons rfl (avAs_free rfl) .nil) .nil)
abbrev clerestoryref2_ColorOf_q0 (mL : Int) (o : (Int × Bool)) : AExit → St → Prop := AThen (Sv Tryd.prog (GG mL) 0 a14_c3 (Ends a14.results 0 (clerestoryref2_ColorOf_post o))) (Ends a14.results 0 (clerestoryref2_ColorOf_post o))
noncomputable def clerestoryref2_ColorOf_j2 (r_ : (List UInt8)) (v66 : Bool) : Option (Int × Bool) :=
  if v66 then
    (sub? r_ 4 (wi ((r_.length : Int) - 1))).bind fun r_4 =>
    (clerestoryref2_rgbColor r_4).bind fun r_5 =>
    some (r_5.1, r_5.2)
  else
    some (0, false)
theorem clerestoryref2_ColorOf_j2_ok {mL : Int} {r_ : (List UInt8)} {v66 : Bool} {o : (Int × Bool)} (h : clerestoryref2_ColorOf_j2 r_ v66 = some o) :
    Sv Tryd.prog (GG mL) 0 a14_c2 (clerestoryref2_ColorOf_q0 mL o) ⟨(upd (upd (fun _ => none) 0 (some (S r_))) 66 (some (B v66))), (fun _ => none), 0⟩ := by
  unfold clerestoryref2_ColorOf_j2 at h
  refine Sv.cond (b := v66) rfl (fun hc5 => ?_) (fun hc5 => ?_)
  · replace h := ifT hc5 h
    refine Sv.seq ?_
    refine Sv.region ?_
    refine un (a1 rfl ?_)
    refine un (a1 rfl ?_)
    refine un (a1 (v := (I (r_.length : Int))) rfl ?_)
    refine un (a1 (v := (I (wi ((r_.length : Int) - 1)))) rfl ?_)
    obtain ⟨r_4, hx4, h⟩ := bnd h
    refine un (a1 (v := (S r_4)) (s_slStr rfl rfl rfl hx4) ?_)
    obtain ⟨r_5, hr4, h⟩ := bnd h
    refine un (ac_pure (clerestoryref2_rgbColor_ok hr4) rfl rfl rfl ?_)
    refine un (a1 (v := (I r_5.1)) rfl ?_)
    refine un (a1 (v := (B r_5.2)) rfl ?_)
    refine un (a1 rfl ?_)
    refine un (a1 rfl ?_)
    refine dnil ?_
    refine Sv.ret ?_
    replace h := Option.some.inj h
    subst h
    exact ⟨_, .refl _, _, rfl, ⟨upd (fun _ => none) 0 (some (.tup [(I r_5.1), (B r_5.2)])), (fun _ => none), 0⟩, (.tup [(I r_5.1), (B r_5.2)]), weak_canon [] rfl List.nodup_nil (Nat.le_refl _) (fun b h => absurd h (Nat.not_lt_zero _)) (.cons rfl (avAs_tup (.cons (avAs_free rfl) (.cons (avAs_free rfl) .nil))) .nil) .nil, rfl, rfl, rfl, rfl⟩
  · replace h := ifF hc5 h
    refine Sv.skip ?_
    refine Sv.seq ?_
    refine Sv.region ?_
    refine un (a1 rfl ?_)
    refine un (a1 rfl ?_)
    refine dnil ?_
    refine Sv.ret ?_
    replace h := Option.some.inj h
    subst h
    exact ⟨_, .refl _, _, rfl, ⟨upd (fun _ => none) 0 (some (.tup [(I 0), (B false)])), (fun _ => none), 0⟩, (.tup [(I 0), (B false)]), weak_canon [] rfl List.nodup_nil (Nat.le_refl _) (fun b h => absurd h (Nat.not_lt_zero _)) (.cons rfl (avAs_tup (.cons (avAs_free rfl) (.cons (avAs_free rfl) .nil))) .nil) .nil, rfl, rfl, rfl, rfl⟩
abbrev clerestoryref2_ColorOf_q1 (mL : Int) (o : (Int × Bool)) : AExit → St → Prop := AThen (Sv Tryd.prog (GG mL) 0 a14_c4 (Ends a14.results 0 (clerestoryref2_ColorOf_post o))) (Ends a14.results 0 (clerestoryref2_ColorOf_post o))
noncomputable def clerestoryref2_ColorOf_j1 (r_ : (List UInt8)) (v40 : Bool) : Option (Int × Bool) :=
  if v40 then
    (sub? r_ 1 (r_.length : Int)).bind fun r_2 =>
    (clerestoryref2_hexColor r_2).bind fun r_3 =>
    some (r_3.1, r_3.2)
  else
    if ((decide (5 < (r_.length : Int))) && (decide ((r_.length : Int) < 60))) then
      (sub? r_ 0 4).bind fun r_6 =>
      if decide (r_6 = [114, 103, 98, 40]) then
        (at? r_ (wi ((r_.length : Int) - 1))).bind fun c_ =>
        clerestoryref2_ColorOf_j2 r_ (decide ((c_.toNat : Int) = 41))
      else
        clerestoryref2_ColorOf_j2 r_ false
    else
      clerestoryref2_ColorOf_j2 r_ false
theorem clerestoryref2_ColorOf_j1_ok {mL : Int} {r_ : (List UInt8)} {v40 : Bool} {o : (Int × Bool)} (h : clerestoryref2_ColorOf_j1 r_ v40 = some o) :
    Sv Tryd.prog (GG mL) 0 a14_c1 (clerestoryref2_ColorOf_q1 mL o) ⟨(upd (upd (fun _ => none) 0 (some (S r_))) 40 (some (B v40))), (fun _ => none), 0⟩ := by
  unfold clerestoryref2_ColorOf_j1 at h
  refine Sv.cond (b := v40) rfl (fun hc4 => ?_) (fun hc4 => ?_)
  · replace h := ifT hc4 h
    refine Sv.seq ?_
    refine Sv.region ?_
    refine un (a1 rfl ?_)
    obtain ⟨r_2, hx3, h⟩ := bnd h
    refine un (a1 (v := (S r_2)) (s_slStr rfl rfl rfl hx3) ?_)
    obtain ⟨r_3, hr3, h⟩ := bnd h
    refine un (ac_pure (clerestoryref2_hexColor_ok hr3) rfl rfl rfl ?_)
    refine un (a1 (v := (I r_3.1)) rfl ?_)
    refine un (a1 (v := (B r_3.2)) rfl ?_)
    refine un (a1 rfl ?_)
    refine un (a1 rfl ?_)
    refine dnil ?_
    refine Sv.ret ?_
    replace h := Option.some.inj h
    subst h
    exact ⟨_, .refl _, _, rfl, ⟨upd (fun _ => none) 0 (some (.tup [(I r_3.1), (B r_3.2)])), (fun _ => none), 0⟩, (.tup [(I r_3.1), (B r_3.2)]), weak_canon [] rfl List.nodup_nil (Nat.le_refl _) (fun b h => absurd h (Nat.not_lt_zero _)) (.cons rfl (avAs_tup (.cons (avAs_free rfl) (.cons (avAs_free rfl) .nil))) .nil) .nil, rfl, rfl, rfl, rfl⟩
  · replace h := ifF hc4 h
    refine Sv.skip ?_
    refine Sv.seq ?_
    refine Sv.seq ?_
    refine Sv.region ?_
    refine un (a1 rfl ?_)
    refine un (a1 (v := (I (r_.length : Int))) rfl ?_)
    refine un (a1 (v := (B (decide (5 < (r_.length : Int))))) rfl ?_)
    refine un (a1 rfl ?_)
    refine gjoin 4 (d := 53) (v := (B ((decide (5 < (r_.length : Int))) && (decide ((r_.length : Int) < 60))))) (fun X hX => ?_) ?_
    · refine split2 (fun hc6 => ?_) (fun hc6 => ?_)
      · refine gt rfl (a1 rfl ?_)
        refine gt rfl (a1 (v := (I (r_.length : Int))) rfl ?_)
        refine gt rfl (a1 (v := (B (decide ((r_.length : Int) < 60)))) rfl ?_)
        refine un (a1 (v := (B (decide ((r_.length : Int) < 60)))) rfl ?_)
        refine dnil ?_
        exact hX _ (.putEq (by rw [hc6]; rfl) (.skip _ _ (.skip _ _ (.skip _ _ (.putEq (by rw [hc6]) (.refl _)) rfl) rfl) rfl))
      · refine gs rfl rfl ?_
        refine gs rfl rfl ?_
        refine gs rfl rfl ?_
        refine un (a1 (v := (B false)) rfl ?_)
        refine dnil ?_
        exact hX _ (.putEq (by rw [hc6]; rfl) (.skip _ _ (.skip _ _ (.skip _ _ (.putEq (by rw [hc6]) (.refl _)) rfl) rfl) rfl))
    refine un (a1 rfl ?_)
    refine split2 (fun hc7 => ?_) (fun hc7 => ?_)
    · replace h := ifT hc7 h
      refine gt rfl (a1 rfl ?_)
      obtain ⟨r_6, hx5, h⟩ := bnd h
      refine gt rfl (a1 (v := (S r_6)) (s_slStr rfl rfl rfl hx5) ?_)
      refine gt rfl (a1 (v := (B (decide (r_6 = [114, 103, 98, 40])))) rfl ?_)
      refine un (a1 (v := (B (decide (r_6 = [114, 103, 98, 40])))) rfl ?_)
      refine un (a1 rfl ?_)
      refine split2 (fun hc8 => ?_) (fun hc8 => ?_)
      · replace h := ifT hc8 h
        refine gt rfl (a1 rfl ?_)
        refine gt rfl (a1 rfl ?_)
        refine gt rfl (a1 (v := (I (r_.length : Int))) rfl ?_)
        refine gt rfl (a1 (v := (I (wi ((r_.length : Int) - 1)))) rfl ?_)
        obtain ⟨c_, hx6, h⟩ := bnd h
        refine gt rfl (a1 (v := (.c (.val (.int .u8 (c_.toNat : Int))))) (s_idxS rfl rfl hx6) ?_)
        refine gt rfl (a1 (v := (B (decide ((c_.toNat : Int) = 41)))) rfl ?_)
        refine un (a1 (v := (B (decide ((c_.toNat : Int) = 41)))) rfl ?_)
        refine dnil ?_
        exact Sv.weak (weak_canon [] rfl (by decide) (by decide) (fun b h => absurd h (Nat.not_lt_zero _)) (.cons rfl (avAs_free rfl) (.cons rfl (avAs_free rfl) .nil)) .nil) (clerestoryref2_ColorOf_j2_ok h)
      · replace h := ifF hc8 h
        refine gs rfl rfl ?_
        refine gs rfl rfl ?_
        refine gs rfl rfl ?_
        refine gs rfl rfl ?_
        refine gs rfl rfl ?_
        refine gs rfl rfl ?_
        refine un (a1 (v := (B false)) rfl ?_)
        refine dnil ?_
        exact Sv.weak (weak_canon [] rfl (by decide) (by decide) (fun b h => absurd h (Nat.not_lt_zero _)) (.cons rfl (avAs_free rfl) (.cons rfl (avAs_free rfl) .nil)) .nil) (clerestoryref2_ColorOf_j2_ok h)
    · replace h := ifF hc7 h
      refine gs rfl rfl ?_
      refine gs rfl rfl ?_
      refine gs rfl rfl ?_
      refine un (a1 (v := (B false)) rfl ?_)
      refine un (a1 rfl ?_)
      refine gs rfl rfl ?_
      refine gs rfl rfl ?_
      refine gs rfl rfl ?_
      refine gs rfl rfl ?_
      refine gs rfl rfl ?_
      refine gs rfl rfl ?_
      refine un (a1 (v := (B false)) rfl ?_)
      refine dnil ?_
      exact Sv.weak (weak_canon [] rfl (by decide) (by decide) (fun b h => absurd h (Nat.not_lt_zero _)) (.cons rfl (avAs_free rfl) (.cons rfl (avAs_free rfl) .nil)) .nil) (clerestoryref2_ColorOf_j2_ok h)
/-- clerestory/clerestoryref2.ColorOf -/
noncomputable def clerestoryref2_ColorOf (s_ : (List UInt8)) : Option (Int × Bool) :=
  (clerestoryref2_Lower s_).bind fun r_ =>
  if decide (r_ = [116, 114, 97, 110, 115, 112, 97, 114, 101, 110, 116]) then
    some (0, true)
  else
    (clerestoryref2_ColorNames).bind fun r_1 =>
    lim fun kk => clerestoryref2_ColorOf_l0 r_ (fun (_ : Unit) => 
        if decide (0 < (r_.length : Int)) then
          (at? r_ 0).bind fun c_1 =>
          clerestoryref2_ColorOf_j1 r_ (decide ((c_1.toNat : Int) = 35))
        else
          clerestoryref2_ColorOf_j1 r_ false) kk r_1.1 r_1.2 0
theorem clerestoryref2_ColorOf_ok {mL : Int} {s_ : (List UInt8)} {r : (Int × Bool)} (h : clerestoryref2_ColorOf s_ = some r) : CPure Tryd.prog (GG mL) 14 [(S s_)] (.tup [(I r.1), (B r.2)]) := by
  refine acalls_of_sv hmix c14 (R := clerestoryref2_ColorOf_post r) ?_
  unfold clerestoryref2_ColorOf at h
  refine Sv.seq ?_
  refine Sv.region ?_
  refine un (a1 rfl ?_)
  refine un (a1 rfl ?_)
  refine dnil ?_
  refine Sv.seq ?_
  refine Sv.region ?_
  refine un (a1 rfl ?_)
  obtain ⟨r_, hr1, h⟩ := bnd h
  refine un (ac_pure (clerestoryref2_Lower_ok hr1) rfl rfl rfl ?_)
  refine un (a1 rfl ?_)
  refine dnil ?_
  refine Sv.seq ?_
  refine Sv.seq ?_
  refine Sv.region ?_
  refine un (a1 rfl ?_)
  refine un (a1 (v := (B (decide (r_ = [116, 114, 97, 110, 115, 112, 97, 114, 101, 110, 116])))) rfl ?_)
  refine dnil ?_
  refine Sv.cond (b := decide (r_ = [116, 114, 97, 110, 115, 112, 97, 114, 101, 110, 116])) rfl (fun hc1 => ?_) (fun hc1 => ?_)
  · replace h := ifT hc1 h
    refine Sv.seq ?_
    refine Sv.region ?_
    refine un (a1 rfl ?_)
    refine un (a1 rfl ?_)
    refine dnil ?_
    refine Sv.ret ?_
    replace h := Option.some.inj h
    subst h
    exact ⟨_, .refl _, _, rfl, ⟨upd (fun _ => none) 0 (some (.tup [(I 0), (B true)])), (fun _ => none), 0⟩, (.tup [(I 0), (B true)]), weak_canon [] rfl List.nodup_nil (Nat.le_refl _) (fun b h => absurd h (Nat.not_lt_zero _)) (.cons rfl (avAs_tup (.cons (avAs_free rfl) (.cons (avAs_free rfl) .nil))) .nil) .nil, rfl, rfl, rfl, rfl⟩
  · replace h := ifF hc1 h
    refine Sv.skip ?_
    refine Sv.seq ?_
    refine Sv.region ?_
    obtain ⟨r_1, hr2, h⟩ := bnd h
    refine un (ac_gen (bs := []) («as» := []) (h2 := _) (h1 := (fun _ => none)) (clerestoryref2_ColorNames_ok hr2) rfl .nil (hsub_refl _) (.nil _) (fun _ => rfl) (by decide) (by decide) .nil .nil ?_)
    rintro _ _ _ hn ⟨z_, hz_, z_1, hz_1, rfl, rfl, rfl⟩
    refine ⟨.inl rfl, (upd (upd (rem [] _) 0 (lstB z_ 1 (r_1.1.map eStr))) 1 (lstB z_1 1 (r_1.2.map eI))), fun hbd => (m3_cons (m3_row rfl (fr_map fun _ => rfl)) (m3_cons (m3_row rfl (fr_map fun _ => rfl)) (m3_rem (in_nil _) (.cons (by decide) (.cons (by decide) .nil)) hbd))), (.tup [(lstV z_ 0 1 r_1.1.length), (lstV z_1 1 1 r_1.2.length)]), 2, (by cases z_ <;> cases z_1 <;> rfl), rfl, ?_⟩
    refine un (a1 rfl ?_)
    refine un (a1 (v := (lstV z_ 0 1 r_1.1.length)) rfl ?_)
    refine un (a1 (v := (lstV z_1 1 1 r_1.2.length)) rfl ?_)
    refine un (a1 rfl ?_)
    refine un (a1 rfl ?_)
    refine dnil ?_
    refine Sv.seq ?_
    refine Sv.seq ?_
    refine Sv.region ?_
    refine un (a1 rfl ?_)
    refine dnil ?_
    refine Sv.block ?_
    obtain ⟨kk, h⟩ := lim_some h
    refine Sv.weak (weak_canon [0, 1] rfl (by decide) (by decide) (fun b h => absurd h (Nat.not_lt_zero _)) (.cons rfl (avAs_free rfl) (.cons rfl (.c (lstC_ren rfl (by decide))) (.cons rfl (.c (lstC_ren rfl (by decide))) (.cons rfl (avAs_free rfl) .nil)))) (.row (by decide) rfl (fr_map fun _ => rfl) (.row (by decide) rfl (fr_map fun _ => rfl) .nil))) (clerestoryref2_ColorOf_l0_ok hz_ hz_1 h ?_ (fun s hs => hs))
    · intro _ h _ hw1
      refine Sv.weak hw1 ?_
      refine Sv.seq ?_
      refine Sv.seq ?_
      refine Sv.region ?_
      refine un (a1 rfl ?_)
      refine un (a1 (v := (I (r_.length : Int))) rfl ?_)
      refine un (a1 (v := (B (decide (0 < (r_.length : Int))))) rfl ?_)
      refine un (a1 rfl ?_)
      refine split2 (fun hc9 => ?_) (fun hc9 => ?_)
      · replace h := ifT hc9 h
        refine gt rfl (a1 rfl ?_)
        obtain ⟨c_1, hx7, h⟩ := bnd h
        refine gt rfl (a1 (v := (.c (.val (.int .u8 (c_1.toNat : Int))))) (s_idxS rfl rfl hx7) ?_)
        refine gt rfl (a1 (v := (B (decide ((c_1.toNat : Int) = 35)))) rfl ?_)
        refine un (a1 (v := (B (decide ((c_1.toNat : Int) = 35)))) rfl ?_)
        refine dnil ?_
        exact Sv.weak (weak_canon [] rfl (by decide) (by decide) (fun b h => absurd h (Nat.not_lt_zero _)) (.cons rfl (avAs_free rfl) (.cons rfl (avAs_free rfl) .nil)) .nil) (clerestoryref2_ColorOf_j1_ok h)
      · replace h := ifF hc9 h
        refine gs rfl rfl ?_
        refine gs rfl rfl ?_
        refine gs rfl rfl ?_
        refine un (a1 (v := (B false)) rfl ?_)
        refine dnil ?_
        exact Sv.weak (weak_canon [] rfl (by decide) (by decide) (fun b h => absurd h (Nat.not_lt_zero _)) (.cons rfl (avAs_free rfl) (.cons rfl (avAs_free rfl) .nil)) .nil) (clerestoryref2_ColorOf_j1_ok h)
def a4 : AFunc := ⟨1, [(.tmp 2)], (.seq (.region [⟨(some 2), (.mov (.const (.c (.val (.bool false))))), none⟩])
 (.seq (.region [⟨(some 8), (.call 12 []), none⟩, ⟨(some 3), (.mov (.tmp 8)), none⟩])
 (.seq (.region [⟨(some 10), (.mov (.tmp 0)), none⟩, ⟨(some 11), (.call 13 [(.tmp 10)]), none⟩, ⟨(some 9), (.mov (.tmp 11)), none⟩, ⟨(some 12), (.ext (.tmp 9) 0), none⟩, ⟨(some 13), (.ext (.tmp 9) 1), none⟩, ⟨(some 4), (.mov (.tmp 12)), none⟩, ⟨(some 5), (.mov (.tmp 13)), none⟩])
 (.seq (.region [⟨(some 15), (.mov (.tmp 0)), none⟩, ⟨(some 16), (.call 14 [(.tmp 15)]), none⟩, ⟨(some 14), (.mov (.tmp 16)), none⟩, ⟨(some 17), (.ext (.tmp 14) 0), none⟩, ⟨(some 18), (.ext (.tmp 14) 1), none⟩, ⟨(some 6), (.mov (.tmp 17)), none⟩, ⟨(some 7), (.mov (.tmp 18)), none⟩])
 (.seq (.seq (.region [⟨(some 19), (.mov (.tmp 7)), none⟩, ⟨(some 20), (.un .not (.tmp 19)), none⟩])
 (.cond (.tmp 20) (.seq (.region [⟨(some 21), (.mov (.tmp 3)), none⟩, ⟨(some 22), (.mov (.tmp 21)), none⟩, ⟨(some 23), (.mov (.tmp 4)), (some (22, true))⟩, ⟨(some 24), (.bin .eql (.tmp 23) (.const (.c (.val (.int .i64 0))))), (some (22, true))⟩, ⟨(some 25), (.pick (.tmp 22) (.tmp 24) (.const (.c (.val (.bool false))))), none⟩, ⟨(some 26), (.mov (.tmp 25)), none⟩, ⟨(some 27), (.mov (.tmp 5)), (some (26, true))⟩, ⟨(some 28), (.bin .eql (.tmp 27) (.const (.c (.val (.int .i64 4))))), (some (26, true))⟩, ⟨(some 29), (.pick (.tmp 26) (.tmp 28) (.const (.c (.val (.bool false))))), none⟩, ⟨(some 2), (.mov (.tmp 29)), none⟩])
 .ret) .skip))
 (.seq (.region [⟨(some 30), (.mov (.tmp 3)), none⟩, ⟨(some 31), (.mov (.tmp 30)), none⟩, ⟨(some 32), (.mov (.tmp 4)), (some (31, true))⟩, ⟨(some 33), (.mov (.tmp 6)), (some (31, true))⟩, ⟨(some 34), (.bin .eql (.tmp 32) (.tmp 33)), (some (31, true))⟩, ⟨(some 35), (.pick (.tmp 31) (.tmp 34) (.const (.c (.val (.bool false))))), none⟩, ⟨(some 36), (.mov (.tmp 35)), none⟩, ⟨(some 37), (.mov (.tmp 5)), (some (36, true))⟩, ⟨(some 38), (.bin .eql (.tmp 37) (.const (.c (.val (.int .i64 0))))), (some (36, true))⟩, ⟨(some 39), (.pick (.tmp 36) (.tmp 38) (.const (.c (.val (.bool false))))), none⟩, ⟨(some 2), (.mov (.tmp 39)), none⟩])
 .ret))))))⟩
set_option maxRecDepth 100000 in
theorem c4 : compFunc Tryd.prog 4 = some a4 := by kernel_rfl
def clerestorylaw2_ColorReads_post (r : Bool) : AV → Heap → Nat → Prop := fun v h' n' => v = (B r) ∧ (h' = (fun _ => none)) ∧ n' = 0
/-- clerestory/clerestorylaw2.ColorReads -/
noncomputable def clerestorylaw2_ColorReads (s_ : (List UInt8)) : Option Bool :=
  (clerestorylaw2_red).bind fun r_ =>
  (color_Read s_).bind fun r_1 =>
  (clerestoryref2_ColorOf s_).bind fun r_2 =>
  if (!r_2.2) then
    some ((r_ && (decide (r_1.1 = 0))) && (decide (r_1.2 = 4)))
  else
    some ((r_ && (decide (r_1.1 = r_2.1))) && (decide (r_1.2 = 0)))
theorem clerestorylaw2_ColorReads_ok {mL : Int} {s_ : (List UInt8)} {r : Bool} (h : clerestorylaw2_ColorReads s_ = some r) : CPure Tryd.prog (GG mL) 4 [(S s_)] (B r) := by
  refine acalls_of_sv hmix c4 (R := clerestorylaw2_ColorReads_post r) ?_
  unfold clerestorylaw2_ColorReads at h
  refine Sv.seq ?_
  refine Sv.region ?_
  refine un (a1 rfl ?_)
  refine dnil ?_
  refine Sv.seq ?_
  refine Sv.region ?_
  obtain ⟨r_, hr1, h⟩ := bnd h
  refine un (ac_pure (clerestorylaw2_red_ok hr1) rfl rfl rfl ?_)
  refine un (a1 rfl ?_)
  refine dnil ?_
  refine Sv.seq ?_
  refine Sv.region ?_
  refine un (a1 rfl ?_)
  obtain ⟨r_1, hr2, h⟩ := bnd h
  refine un (ac_pure (color_Read_ok hr2) rfl rfl rfl ?_)
  refine un (a1 rfl ?_)
  refine un (a1 (v := (I r_1.1)) rfl ?_)
  refine un (a1 (v := (I r_1.2)) rfl ?_)
  refine un (a1 rfl ?_)
  refine un (a1 rfl ?_)
  refine dnil ?_
  refine Sv.seq ?_
  refine Sv.region ?_
  refine un (a1 rfl ?_)
  obtain ⟨r_2, hr3, h⟩ := bnd h
  refine un (ac_pure (clerestoryref2_ColorOf_ok hr3) rfl rfl rfl ?_)
  refine un (a1 rfl ?_)
  refine un (a1 (v := (I r_2.1)) rfl ?_)
  refine un (a1 (v := (B r_2.2)) rfl ?_)
  refine un (a1 rfl ?_)
  refine un (a1 rfl ?_)
  refine dnil ?_
  refine Sv.seq ?_
  refine Sv.seq ?_
  refine Sv.region ?_
  refine un (a1 rfl ?_)
  refine un (a1 (v := (B (!r_2.2))) rfl ?_)
  refine dnil ?_
  refine Sv.cond (b := (!r_2.2)) rfl (fun hc1 => ?_) (fun hc1 => ?_)
  · replace h := ifT hc1 h
    refine Sv.seq ?_
    refine Sv.region ?_
    refine un (a1 rfl ?_)
    refine un (a1 rfl ?_)
    refine gjoin 3 (d := 25) (v := (B (r_ && (decide (r_1.1 = 0))))) (fun X hX => ?_) ?_
    · refine split2 (fun hc2 => ?_) (fun hc2 => ?_)
      · refine gt rfl (a1 rfl ?_)
        refine gt rfl (a1 (v := (B (decide (r_1.1 = 0)))) rfl ?_)
        refine un (a1 (v := (B (decide (r_1.1 = 0)))) rfl ?_)
        refine dnil ?_
        exact hX _ (.putEq (by rw [hc2]; rfl) (.skip _ _ (.skip _ _ (.putEq (by rw [hc2]) (.refl _)) rfl) rfl))
      · refine gs rfl rfl ?_
        refine gs rfl rfl ?_
        refine un (a1 (v := (B false)) rfl ?_)
        refine dnil ?_
        exact hX _ (.putEq (by rw [hc2]; rfl) (.skip _ _ (.skip _ _ (.putEq (by rw [hc2]) (.refl _)) rfl) rfl))
    refine un (a1 rfl ?_)
    refine gjoin 3 (d := 29) (v := (B ((r_ && (decide (r_1.1 = 0))) && (decide (r_1.2 = 4))))) (fun X hX => ?_) ?_
    · refine split2 (fun hc3 => ?_) (fun hc3 => ?_)
      · refine gt rfl (a1 rfl ?_)
        refine gt rfl (a1 (v := (B (decide (r_1.2 = 4)))) rfl ?_)
        refine un (a1 (v := (B (decide (r_1.2 = 4)))) rfl ?_)
        refine dnil ?_
        exact hX _ (.putEq (by rw [hc3]; rfl) (.skip _ _ (.skip _ _ (.putEq (by rw [hc3]) (.refl _)) rfl) rfl))
      · refine gs rfl rfl ?_
        refine gs rfl rfl ?_
        refine un (a1 (v := (B false)) rfl ?_)
        refine dnil ?_
        exact hX _ (.putEq (by rw [hc3]; rfl) (.skip _ _ (.skip _ _ (.putEq (by rw [hc3]) (.refl _)) rfl) rfl))
    refine un (a1 rfl ?_)
    refine dnil ?_
    refine Sv.ret ?_
    replace h := Option.some.inj h
    subst h
    exact ⟨_, .refl _, _, rfl, ⟨upd (fun _ => none) 0 (some (B ((r_ && (decide (r_1.1 = 0))) && (decide (r_1.2 = 4))))), (fun _ => none), 0⟩, (B ((r_ && (decide (r_1.1 = 0))) && (decide (r_1.2 = 4)))), weak_canon [] rfl List.nodup_nil (Nat.le_refl _) (fun b h => absurd h (Nat.not_lt_zero _)) (.cons rfl (avAs_free rfl) .nil) .nil, rfl, rfl, rfl, rfl⟩
  · replace h := ifF hc1 h
    refine Sv.skip ?_
    refine Sv.seq ?_
    refine Sv.region ?_
    refine un (a1 rfl ?_)
    refine un (a1 rfl ?_)
    refine gjoin 4 (d := 35) (v := (B (r_ && (decide (r_1.1 = r_2.1))))) (fun X hX => ?_) ?_
    · refine split2 (fun hc4 => ?_) (fun hc4 => ?_)
      · refine gt rfl (a1 rfl ?_)
        refine gt rfl (a1 rfl ?_)
        refine gt rfl (a1 (v := (B (decide (r_1.1 = r_2.1)))) rfl ?_)
        refine un (a1 (v := (B (decide (r_1.1 = r_2.1)))) rfl ?_)
        refine dnil ?_
        exact hX _ (.putEq (by rw [hc4]; rfl) (.skip _ _ (.skip _ _ (.skip _ _ (.putEq (by rw [hc4]) (.refl _)) rfl) rfl) rfl))
      · refine gs rfl rfl ?_
        refine gs rfl rfl ?_
        refine gs rfl rfl ?_
        refine un (a1 (v := (B false)) rfl ?_)
        refine dnil ?_
        exact hX _ (.putEq (by rw [hc4]; rfl) (.skip _ _ (.skip _ _ (.skip _ _ (.putEq (by rw [hc4]) (.refl _)) rfl) rfl) rfl))
    refine un (a1 rfl ?_)
    refine gjoin 3 (d := 39) (v := (B ((r_ && (decide (r_1.1 = r_2.1))) && (decide (r_1.2 = 0))))) (fun X hX => ?_) ?_
    · refine split2 (fun hc5 => ?_) (fun hc5 => ?_)
      · refine gt rfl (a1 rfl ?_)
        refine gt rfl (a1 (v := (B (decide (r_1.2 = 0)))) rfl ?_)
        refine un (a1 (v := (B (decide (r_1.2 = 0)))) rfl ?_)
        refine dnil ?_
        exact hX _ (.putEq (by rw [hc5]; rfl) (.skip _ _ (.skip _ _ (.putEq (by rw [hc5]) (.refl _)) rfl) rfl))
      · refine gs rfl rfl ?_
        refine gs rfl rfl ?_
        refine un (a1 (v := (B false)) rfl ?_)
        refine dnil ?_
        exact hX _ (.putEq (by rw [hc5]; rfl) (.skip _ _ (.skip _ _ (.putEq (by rw [hc5]) (.refl _)) rfl) rfl))
    refine un (a1 rfl ?_)
    refine dnil ?_
    refine Sv.ret ?_
    replace h := Option.some.inj h
    subst h
    exact ⟨_, .refl _, _, rfl, ⟨upd (fun _ => none) 0 (some (B ((r_ && (decide (r_1.1 = r_2.1))) && (decide (r_1.2 = 0))))), (fun _ => none), 0⟩, (B ((r_ && (decide (r_1.1 = r_2.1))) && (decide (r_1.2 = 0)))), weak_canon [] rfl List.nodup_nil (Nat.le_refl _) (fun b h => absurd h (Nat.not_lt_zero _)) (.cons rfl (avAs_free rfl) .nil) .nil, rfl, rfl, rfl, rfl⟩
end Go.Proofs.YtmpdhpfimmahfaaDoorBv
