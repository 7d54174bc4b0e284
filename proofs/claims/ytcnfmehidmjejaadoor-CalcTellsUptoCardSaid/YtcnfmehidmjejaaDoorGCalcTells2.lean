/- Printed by a program of mine (bgen.py): plain functions, and the walks that show that the code comes to what they answer. -/
import Derived.Test.YtcnfmehidmjejaaDoorGCalcTells1
namespace Go.Proofs.YtcnfmehidmjejaaDoorBv
open Go
set_option linter.unusedVariables false
set_option linter.unusedSimpArgs false
set_option maxRecDepth 100000
def a11_c1 : ACode := (.seq (.region [⟨(some 32), (.mov (.tmp 5)), none⟩, ⟨(some 33), (.faddr 1 (.tmp 1)), none⟩, ⟨(some 34), (.load false 1 (.tmp 33)), none⟩, ⟨(some 35), (.bin .add (.tmp 32) (.tmp 34)), none⟩, ⟨(some 2), (.mov (.tmp 35)), none⟩])
 .ret)
def a11_c0 : ACode := (.seq (.region [⟨(some 15), (.mov (.tmp 4)), none⟩, ⟨(some 16), (.mov (.tmp 3)), none⟩, ⟨(some 17), (.bin .quo (.tmp 16) (.const (.c (.val (.int .i64 1000))))), none⟩, ⟨(some 18), (.call 21 [(.tmp 17)]), none⟩, ⟨(some 19), (.bin .add (.tmp 15) (.tmp 18)), none⟩, ⟨(some 5), (.mov (.tmp 19)), none⟩])
 (.seq (.seq (.region [⟨(some 20), (.mov (.tmp 3)), none⟩, ⟨(some 21), (.bin .rem (.tmp 20) (.const (.c (.val (.int .i64 1000))))), none⟩, ⟨(some 22), (.bin .add (.const (.c (.val (.int .i64 1000)))) (.tmp 21)), none⟩, ⟨(some 23), (.call 21 [(.tmp 22)]), none⟩, ⟨(some 24), (.slStr (.tmp 23) (some (.const (.c (.val (.int .i64 1))))) none), none⟩, ⟨(some 25), (.call 22 [(.tmp 24), (.const (.c (.str [48])))]), none⟩, ⟨(some 6), (.mov (.tmp 25)), none⟩])
 (.seq (.region [⟨(some 26), (.mov (.tmp 6)), none⟩, ⟨(some 27), (.bin .neq (.tmp 26) (.const (.c (.str [])))), none⟩])
 (.cond (.tmp 27) (.region [⟨(some 28), (.mov (.tmp 5)), none⟩, ⟨(some 29), (.mov (.tmp 6)), none⟩, ⟨(some 30), (.bin .add (.const (.c (.str [46]))) (.tmp 29)), none⟩, ⟨(some 31), (.bin .add (.tmp 28) (.tmp 30)), none⟩, ⟨(some 5), (.mov (.tmp 31)), none⟩]) .skip)))
 a11_c1))
def a11 : AFunc := ⟨1, [(.tmp 2)], (.seq (.region [⟨(some 1), (.box (.tmp 0)), none⟩, ⟨(some 2), (.mov (.const (.c (.str [])))), none⟩])
 (.seq (.region [⟨(some 7), (.faddr 0 (.tmp 1)), none⟩, ⟨(some 8), (.load false 1 (.tmp 7)), none⟩, ⟨(some 9), (.mm true [(.tmp 8), (.const (.c (.val (.int .i64 (-1000000000)))))]), none⟩, ⟨(some 10), (.mm false [(.tmp 9), (.const (.c (.val (.int .i64 1000000000))))]), none⟩, ⟨(some 3), (.mov (.tmp 10)), none⟩])
 (.seq (.region [⟨(some 4), (.mov (.const (.c (.str [])))), none⟩])
 (.seq (.seq (.region [⟨(some 11), (.mov (.tmp 3)), none⟩, ⟨(some 12), (.bin .lss (.tmp 11) (.const (.c (.val (.int .i64 0))))), none⟩])
 (.cond (.tmp 12) (.region [⟨(some 13), (.mov (.tmp 3)), none⟩, ⟨(some 14), (.un .neg (.tmp 13)), none⟩, ⟨(some 4), (.mov (.const (.c (.str [45])))), none⟩, ⟨(some 3), (.mov (.tmp 14)), none⟩]) .skip))
 a11_c0))))⟩
set_option maxRecDepth 100000 in
theorem c11 : compFunc Tryd.prog 11 = some a11 := by kernel_rfl
def dim_Text_post (r : (List UInt8)) : AV → Heap → Nat → Prop := fun v h' n' => v = (S r) ∧ (h' = (fun _ => none)) ∧ n' = 0
noncomputable def dim_Text_j2 (d_ : TSDim) (s_ : (List UInt8)) : Option (List UInt8) :=
  (cat? s_ d_.Unit).bind fun r_2 =>
  some r_2
theorem dim_Text_j2_ok {mL : Int} {d_ : TSDim} {s_ : (List UInt8)} {o : (List UInt8)} (h : dim_Text_j2 d_ s_ = some o) :
    Sv Tryd.prog (GG mL) 0 a11_c1 (Ends a11.results 0 (dim_Text_post o)) ⟨(upd (upd (fun _ => none) 1 (some (.c (.ref 0 2 0 0)))) 5 (some (S s_))), (upd (fun _ => none) 0 (some (.cells 2 [[cI d_.Num, .str d_.Unit]]))), 1⟩ := by
  unfold dim_Text_j2 at h
  refine Sv.seq ?_
  refine Sv.region ?_
  refine un (a1 rfl ?_)
  refine un (a1 (v := (.c (.ref 0 2 0 1))) rfl ?_)
  refine un (a1 (v := (S d_.Unit)) rfl ?_)
  obtain ⟨r_2, hx2, h⟩ := bnd h
  refine un (a1 (v := (S r_2)) (s_cat rfl rfl hx2) ?_)
  refine un (a1 rfl ?_)
  refine dnil ?_
  refine Sv.ret ?_
  replace h := Option.some.inj h
  subst h
  exact ⟨_, .refl _, _, rfl, ⟨upd (fun _ => none) 0 (some (S r_2)), (fun _ => none), 0⟩, (S r_2), weak_canon [] rfl List.nodup_nil (Nat.le_refl _) (fun b h => absurd h (Nat.not_lt_zero _)) (.cons rfl (avAs_free rfl) .nil) .nil, rfl, rfl, rfl, rfl⟩
noncomputable def dim_Text_j1 (d_ : TSDim) (n_ : Int) (sign : (List UInt8)) : Option (List UInt8) :=
  (strconv_Itoa (wi (n_.tdiv 1000))).bind fun r_ =>
  (cat? sign r_).bind fun r_1 =>
  (strconv_Itoa (wi (1000 + (n_.tmod 1000)))).bind fun r_3 =>
  (sub? r_3 1 (r_3.length : Int)).bind fun r_4 =>
  (strings_TrimRight r_4 [48]).bind fun r_5 =>
  if (!decide (r_5 = [])) then
    (cat? [46] r_5).bind fun r_6 =>
    (cat? r_1 r_6).bind fun r_7 =>
    dim_Text_j2 d_ r_7
  else
    dim_Text_j2 d_ r_1
theorem dim_Text_j1_ok {mL : Int} {d_ : TSDim} {n_ : Int} {sign : (List UInt8)} {o : (List UInt8)} (h : dim_Text_j1 d_ n_ sign = some o) :
    Sv Tryd.prog (GG mL) 0 a11_c0 (Ends a11.results 0 (dim_Text_post o)) ⟨(upd (upd (upd (fun _ => none) 1 (some (.c (.ref 0 2 0 0)))) 3 (some (I n_))) 4 (some (S sign))), (upd (fun _ => none) 0 (some (.cells 2 [[cI d_.Num, .str d_.Unit]]))), 1⟩ := by
  unfold dim_Text_j1 at h
  refine Sv.seq ?_
  refine Sv.region ?_
  refine un (a1 rfl ?_)
  refine un (a1 rfl ?_)
  refine un (a1 (v := (I (wi (n_.tdiv 1000)))) rfl ?_)
  obtain ⟨r_, hr1, h⟩ := bnd h
  refine un (ac_pure (strconv_Itoa_ok hr1) rfl rfl rfl ?_)
  obtain ⟨r_1, hx1, h⟩ := bnd h
  refine un (a1 (v := (S r_1)) (s_cat rfl rfl hx1) ?_)
  refine un (a1 rfl ?_)
  refine dnil ?_
  refine Sv.seq ?_
  refine Sv.seq ?_
  refine Sv.region ?_
  refine un (a1 rfl ?_)
  refine un (a1 (v := (I (n_.tmod 1000))) rfl ?_)
  refine un (a1 (v := (I (wi (1000 + (n_.tmod 1000))))) rfl ?_)
  obtain ⟨r_3, hr2, h⟩ := bnd h
  refine un (ac_pure (strconv_Itoa_ok hr2) rfl rfl rfl ?_)
  obtain ⟨r_4, hx3, h⟩ := bnd h
  refine un (a1 (v := (S r_4)) (s_slStr rfl rfl rfl hx3) ?_)
  obtain ⟨r_5, hr3, h⟩ := bnd h
  refine un (ac_pure (strings_TrimRight_ok hr3) rfl rfl rfl ?_)
  refine un (a1 rfl ?_)
  refine dnil ?_
  refine Sv.seq ?_
  refine Sv.region ?_
  refine un (a1 rfl ?_)
  refine un (a1 (v := (B (!decide (r_5 = [])))) rfl ?_)
  refine dnil ?_
  refine Sv.cond (b := (!decide (r_5 = []))) rfl (fun hc1 => ?_) (fun hc1 => ?_)
  · replace h := ifT hc1 h
    refine Sv.region ?_
    refine un (a1 rfl ?_)
    refine un (a1 rfl ?_)
    obtain ⟨r_6, hx4, h⟩ := bnd h
    refine un (a1 (v := (S r_6)) (s_cat rfl rfl hx4) ?_)
    obtain ⟨r_7, hx5, h⟩ := bnd h
    refine un (a1 (v := (S r_7)) (s_cat rfl rfl hx5) ?_)
    refine un (a1 rfl ?_)
    refine dnil ?_
    exact Sv.weak (weak_canon [0] rfl (by decide) (by decide) (fun b h => absurd h (Nat.not_lt_zero _)) (.cons rfl (avAs_free rfl) (.cons rfl (.c (.ref rfl (by decide))) .nil)) (.box (by decide) rfl (blkAs_cells (.cons (.same rfl) (.cons (.same rfl) .nil))) .nil)) (dim_Text_j2_ok h)
  · replace h := ifF hc1 h
    refine Sv.skip ?_
    exact Sv.weak (weak_canon [0] rfl (by decide) (by decide) (fun b h => absurd h (Nat.not_lt_zero _)) (.cons rfl (avAs_free rfl) (.cons rfl (.c (.ref rfl (by decide))) .nil)) (.box (by decide) rfl (blkAs_cells (.cons (.same rfl) (.cons (.same rfl) .nil))) .nil)) (dim_Text_j2_ok h)
/-- clerestory/dim.Text -/
noncomputable def dim_Text (d_ : TSDim) : Option (List UInt8) :=
  if decide ((mn (mx d_.Num (-1000000000)) 1000000000) < 0) then
    dim_Text_j1 d_ (wi (0 - (mn (mx d_.Num (-1000000000)) 1000000000))) [45]
  else
    dim_Text_j1 d_ (mn (mx d_.Num (-1000000000)) 1000000000) []
theorem dim_Text_ok {mL : Int} {d_ : TSDim} {r : (List UInt8)} (h : dim_Text d_ = some r) : CPure Tryd.prog (GG mL) 11 [(.agg [cI d_.Num, .str d_.Unit])] (S r) := by
  refine acalls_of_sv hmix c11 (R := dim_Text_post r) ?_
  unfold dim_Text at h
  refine Sv.seq ?_
  refine Sv.region ?_
  refine un (a2v (v := (.c (.ref 0 2 0 0))) (h' := upd _ 0 (some (.cells 2 [[cI d_.Num, .str d_.Unit]]))) (n' := 1) rfl rfl (fun h => by cases h) ?_)
  refine un (a1 rfl ?_)
  refine dnil ?_
  refine Sv.seq ?_
  refine Sv.region ?_
  refine un (a1 (v := (.c (.ref 0 2 0 0))) rfl ?_)
  refine un (a1 (v := (I d_.Num)) rfl ?_)
  refine un (a1 (v := (I (mx d_.Num (-1000000000)))) (s_mx rfl rfl) ?_)
  refine un (a1 (v := (I (mn (mx d_.Num (-1000000000)) 1000000000))) (s_mn rfl rfl) ?_)
  refine un (a1 rfl ?_)
  refine dnil ?_
  refine Sv.seq ?_
  refine Sv.region ?_
  refine un (a1 rfl ?_)
  refine dnil ?_
  refine Sv.seq ?_
  refine Sv.seq ?_
  refine Sv.region ?_
  refine un (a1 rfl ?_)
  refine un (a1 (v := (B (decide ((mn (mx d_.Num (-1000000000)) 1000000000) < 0)))) rfl ?_)
  refine dnil ?_
  refine Sv.cond (b := decide ((mn (mx d_.Num (-1000000000)) 1000000000) < 0)) rfl (fun hc2 => ?_) (fun hc2 => ?_)
  · replace h := ifT hc2 h
    refine Sv.region ?_
    refine un (a1 rfl ?_)
    refine un (a1 (v := (I (wi (0 - (mn (mx d_.Num (-1000000000)) 1000000000))))) rfl ?_)
    refine un (a1 rfl ?_)
    refine un (a1 rfl ?_)
    refine dnil ?_
    exact Sv.weak (weak_canon [0] rfl (by decide) (by decide) (fun b h => absurd h (Nat.not_lt_zero _)) (.cons rfl (avAs_free rfl) (.cons rfl (avAs_free rfl) (.cons rfl (.c (.ref rfl (by decide))) .nil))) (.box (by decide) rfl (blkAs_cells (.cons (.same rfl) (.cons (.same rfl) .nil))) .nil)) (dim_Text_j1_ok h)
  · replace h := ifF hc2 h
    refine Sv.skip ?_
    exact Sv.weak (weak_canon [0] rfl (by decide) (by decide) (fun b h => absurd h (Nat.not_lt_zero _)) (.cons rfl (avAs_free rfl) (.cons rfl (avAs_free rfl) (.cons rfl (.c (.ref rfl (by decide))) .nil))) (.box (by decide) rfl (blkAs_cells (.cons (.same rfl) (.cons (.same rfl) .nil))) .nil)) (dim_Text_j1_ok h)
def a12 : AFunc := ⟨1, [(.tmp 2)], (.seq (.region [⟨(some 2), (.mov (.const (.c (.str [])))), none⟩])
 (.seq (.seq (.region [⟨(some 3), (.mov (.tmp 0)), none⟩])
 (.block 0 (.seq (.region [⟨(some 5), (.bin .eql (.tmp 3) (.const (.c (.val (.int .i64 6))))), none⟩, ⟨(some 4), (.mov (.tmp 5)), none⟩])
 (.cond (.tmp 4) (.seq (.region [⟨(some 2), (.mov (.const (.c (.str [109, 105, 110])))), none⟩])
 .ret) (.seq (.region [⟨(some 7), (.bin .eql (.tmp 3) (.const (.c (.val (.int .i64 7))))), none⟩, ⟨(some 6), (.mov (.tmp 7)), none⟩])
 (.cond (.tmp 6) (.seq (.region [⟨(some 2), (.mov (.const (.c (.str [109, 97, 120])))), none⟩])
 .ret) (.seq (.region [⟨(some 9), (.bin .eql (.tmp 3) (.const (.c (.val (.int .i64 8))))), none⟩, ⟨(some 8), (.mov (.tmp 9)), none⟩])
 (.cond (.tmp 8) (.seq (.region [⟨(some 2), (.mov (.const (.c (.str [99, 108, 97, 109, 112])))), none⟩])
 .ret) .skip))))))))
 (.seq (.region [⟨(some 2), (.mov (.const (.c (.str [])))), none⟩])
 .ret)))⟩
set_option maxRecDepth 100000 in
theorem c12 : compFunc Tryd.prog 12 = some a12 := by kernel_rfl
def calc_word_post (r : (List UInt8)) : AV → Heap → Nat → Prop := fun v h' n' => v = (S r) ∧ (h' = (fun _ => none)) ∧ n' = 0
/-- clerestory/calc.word -/
def calc_word (kind : Int) : (List UInt8) :=
  if decide (kind = 6) then
    [109, 105, 110]
  else
    if decide (kind = 7) then
      [109, 97, 120]
    else
      if decide (kind = 8) then
        [99, 108, 97, 109, 112]
      else
        []
theorem calc_word_ok {mL : Int} (kind : Int) : CPure Tryd.prog (GG mL) 12 [(I kind)] (S (calc_word kind)) := by
  generalize h : calc_word kind = o
  refine acalls_of_sv hmix c12 (R := calc_word_post o) ?_
  unfold calc_word at h
  refine Sv.seq ?_
  refine Sv.region ?_
  refine un (a1 rfl ?_)
  refine dnil ?_
  refine Sv.seq ?_
  refine Sv.seq ?_
  refine Sv.region ?_
  refine un (a1 rfl ?_)
  refine dnil ?_
  refine Sv.block ?_
  refine Sv.seq ?_
  refine Sv.region ?_
  refine un (a1 (v := (B (decide (kind = 6)))) rfl ?_)
  refine un (a1 rfl ?_)
  refine dnil ?_
  refine Sv.cond (b := decide (kind = 6)) rfl (fun hc1 => ?_) (fun hc1 => ?_)
  · replace h := ifT hc1 h
    refine Sv.seq ?_
    refine Sv.region ?_
    refine un (a1 rfl ?_)
    refine dnil ?_
    refine Sv.ret ?_
    subst h
    exact ⟨_, .refl _, _, rfl, ⟨upd (fun _ => none) 0 (some (S [109, 105, 110])), (fun _ => none), 0⟩, (S [109, 105, 110]), weak_canon [] rfl List.nodup_nil (Nat.le_refl _) (fun b h => absurd h (Nat.not_lt_zero _)) (.cons rfl (avAs_free rfl) .nil) .nil, rfl, rfl, rfl, rfl⟩
  · replace h := ifF hc1 h
    refine Sv.seq ?_
    refine Sv.region ?_
    refine un (a1 (v := (B (decide (kind = 7)))) rfl ?_)
    refine un (a1 rfl ?_)
    refine dnil ?_
    refine Sv.cond (b := decide (kind = 7)) rfl (fun hc2 => ?_) (fun hc2 => ?_)
    · replace h := ifT hc2 h
      refine Sv.seq ?_
      refine Sv.region ?_
      refine un (a1 rfl ?_)
      refine dnil ?_
      refine Sv.ret ?_
      subst h
      exact ⟨_, .refl _, _, rfl, ⟨upd (fun _ => none) 0 (some (S [109, 97, 120])), (fun _ => none), 0⟩, (S [109, 97, 120]), weak_canon [] rfl List.nodup_nil (Nat.le_refl _) (fun b h => absurd h (Nat.not_lt_zero _)) (.cons rfl (avAs_free rfl) .nil) .nil, rfl, rfl, rfl, rfl⟩
    · replace h := ifF hc2 h
      refine Sv.seq ?_
      refine Sv.region ?_
      refine un (a1 (v := (B (decide (kind = 8)))) rfl ?_)
      refine un (a1 rfl ?_)
      refine dnil ?_
      refine Sv.cond (b := decide (kind = 8)) rfl (fun hc3 => ?_) (fun hc3 => ?_)
      · replace h := ifT hc3 h
        refine Sv.seq ?_
        refine Sv.region ?_
        refine un (a1 rfl ?_)
        refine dnil ?_
        refine Sv.ret ?_
        subst h
        exact ⟨_, .refl _, _, rfl, ⟨upd (fun _ => none) 0 (some (S [99, 108, 97, 109, 112])), (fun _ => none), 0⟩, (S [99, 108, 97, 109, 112]), weak_canon [] rfl List.nodup_nil (Nat.le_refl _) (fun b h => absurd h (Nat.not_lt_zero _)) (.cons rfl (avAs_free rfl) .nil) .nil, rfl, rfl, rfl, rfl⟩
      · replace h := ifF hc3 h
        refine Sv.skip ?_
        refine Sv.seq ?_
        refine Sv.region ?_
        refine un (a1 rfl ?_)
        refine dnil ?_
        refine Sv.ret ?_
        subst h
        exact ⟨_, .refl _, _, rfl, ⟨upd (fun _ => none) 0 (some (S [])), (fun _ => none), 0⟩, (S []), weak_canon [] rfl List.nodup_nil (Nat.le_refl _) (fun b h => absurd h (Nat.not_lt_zero _)) (.cons rfl (avAs_free rfl) .nil) .nil, rfl, rfl, rfl, rfl⟩
def a14 : AFunc := ⟨1, [(.tmp 2)], (.seq (.region [⟨(some 2), (.mov (.const (.c (.str [])))), none⟩])
 (.seq (.seq (.region [⟨(some 3), (.mov (.tmp 0)), none⟩])
 (.block 0 (.seq (.region [⟨(some 5), (.bin .eql (.tmp 3) (.const (.c (.val (.int .i64 2))))), none⟩, ⟨(some 4), (.mov (.tmp 5)), none⟩])
 (.cond (.tmp 4) (.seq (.region [⟨(some 2), (.mov (.const (.c (.str [32, 43, 32])))), none⟩])
 .ret) (.seq (.region [⟨(some 7), (.bin .eql (.tmp 3) (.const (.c (.val (.int .i64 3))))), none⟩, ⟨(some 6), (.mov (.tmp 7)), none⟩])
 (.cond (.tmp 6) (.seq (.region [⟨(some 2), (.mov (.const (.c (.str [32, 45, 32])))), none⟩])
 .ret) (.seq (.region [⟨(some 9), (.bin .eql (.tmp 3) (.const (.c (.val (.int .i64 4))))), none⟩, ⟨(some 8), (.mov (.tmp 9)), none⟩])
 (.cond (.tmp 8) (.seq (.region [⟨(some 2), (.mov (.const (.c (.str [32, 42, 32])))), none⟩])
 .ret) (.seq (.region [⟨(some 11), (.bin .eql (.tmp 3) (.const (.c (.val (.int .i64 5))))), none⟩, ⟨(some 10), (.mov (.tmp 11)), none⟩])
 (.cond (.tmp 10) (.seq (.region [⟨(some 2), (.mov (.const (.c (.str [32, 47, 32])))), none⟩])
 .ret) .skip))))))))))
 (.seq (.region [⟨(some 2), (.mov (.const (.c (.str [44, 32])))), none⟩])
 .ret)))⟩
set_option maxRecDepth 100000 in
theorem c14 : compFunc Tryd.prog 14 = some a14 := by kernel_rfl
def calc_sign_post (r : (List UInt8)) : AV → Heap → Nat → Prop := fun v h' n' => v = (S r) ∧ (h' = (fun _ => none)) ∧ n' = 0
/-- clerestory/calc.sign -/
def calc_sign (kind : Int) : (List UInt8) :=
  if decide (kind = 2) then
    [32, 43, 32]
  else
    if decide (kind = 3) then
      [32, 45, 32]
    else
      if decide (kind = 4) then
        [32, 42, 32]
      else
        if decide (kind = 5) then
          [32, 47, 32]
        else
          [44, 32]
theorem calc_sign_ok {mL : Int} (kind : Int) : CPure Tryd.prog (GG mL) 14 [(I kind)] (S (calc_sign kind)) := by
  generalize h : calc_sign kind = o
  refine acalls_of_sv hmix c14 (R := calc_sign_post o) ?_
  unfold calc_sign at h
  refine Sv.seq ?_
  refine Sv.region ?_
  refine un (a1 rfl ?_)
  refine dnil ?_
  refine Sv.seq ?_
  refine Sv.seq ?_
  refine Sv.region ?_
  refine un (a1 rfl ?_)
  refine dnil ?_
  refine Sv.block ?_
  refine Sv.seq ?_
  refine Sv.region ?_
  refine un (a1 (v := (B (decide (kind = 2)))) rfl ?_)
  refine un (a1 rfl ?_)
  refine dnil ?_
  refine Sv.cond (b := decide (kind = 2)) rfl (fun hc1 => ?_) (fun hc1 => ?_)
  · replace h := ifT hc1 h
    refine Sv.seq ?_
    refine Sv.region ?_
    refine un (a1 rfl ?_)
    refine dnil ?_
    refine Sv.ret ?_
    subst h
    exact ⟨_, .refl _, _, rfl, ⟨upd (fun _ => none) 0 (some (S [32, 43, 32])), (fun _ => none), 0⟩, (S [32, 43, 32]), weak_canon [] rfl List.nodup_nil (Nat.le_refl _) (fun b h => absurd h (Nat.not_lt_zero _)) (.cons rfl (avAs_free rfl) .nil) .nil, rfl, rfl, rfl, rfl⟩
  · replace h := ifF hc1 h
    refine Sv.seq ?_
    refine Sv.region ?_
    refine un (a1 (v := (B (decide (kind = 3)))) rfl ?_)
    refine un (a1 rfl ?_)
    refine dnil ?_
    refine Sv.cond (b := decide (kind = 3)) rfl (fun hc2 => ?_) (fun hc2 => ?_)
    · replace h := ifT hc2 h
      refine Sv.seq ?_
      refine Sv.region ?_
      refine un (a1 rfl ?_)
      refine dnil ?_
      refine Sv.ret ?_
      subst h
      exact ⟨_, .refl _, _, rfl, ⟨upd (fun _ => none) 0 (some (S [32, 45, 32])), (fun _ => none), 0⟩, (S [32, 45, 32]), weak_canon [] rfl List.nodup_nil (Nat.le_refl _) (fun b h => absurd h (Nat.not_lt_zero _)) (.cons rfl (avAs_free rfl) .nil) .nil, rfl, rfl, rfl, rfl⟩
    · replace h := ifF hc2 h
      refine Sv.seq ?_
      refine Sv.region ?_
      refine un (a1 (v := (B (decide (kind = 4)))) rfl ?_)
      refine un (a1 rfl ?_)
      refine dnil ?_
      refine Sv.cond (b := decide (kind = 4)) rfl (fun hc3 => ?_) (fun hc3 => ?_)
      · replace h := ifT hc3 h
        refine Sv.seq ?_
        refine Sv.region ?_
        refine un (a1 rfl ?_)
        refine dnil ?_
        refine Sv.ret ?_
        subst h
        exact ⟨_, .refl _, _, rfl, ⟨upd (fun _ => none) 0 (some (S [32, 42, 32])), (fun _ => none), 0⟩, (S [32, 42, 32]), weak_canon [] rfl List.nodup_nil (Nat.le_refl _) (fun b h => absurd h (Nat.not_lt_zero _)) (.cons rfl (avAs_free rfl) .nil) .nil, rfl, rfl, rfl, rfl⟩
      · replace h := ifF hc3 h
        refine Sv.seq ?_
        refine Sv.region ?_
        refine un (a1 (v := (B (decide (kind = 5)))) rfl ?_)
        refine un (a1 rfl ?_)
        refine dnil ?_
        refine Sv.cond (b := decide (kind = 5)) rfl (fun hc4 => ?_) (fun hc4 => ?_)
        · replace h := ifT hc4 h
          refine Sv.seq ?_
          refine Sv.region ?_
          refine un (a1 rfl ?_)
          refine dnil ?_
          refine Sv.ret ?_
          subst h
          exact ⟨_, .refl _, _, rfl, ⟨upd (fun _ => none) 0 (some (S [32, 47, 32])), (fun _ => none), 0⟩, (S [32, 47, 32]), weak_canon [] rfl List.nodup_nil (Nat.le_refl _) (fun b h => absurd h (Nat.not_lt_zero _)) (.cons rfl (avAs_free rfl) .nil) .nil, rfl, rfl, rfl, rfl⟩
        · replace h := ifF hc4 h
          refine Sv.skip ?_
          refine Sv.seq ?_
          refine Sv.region ?_
          refine un (a1 rfl ?_)
          refine dnil ?_
          refine Sv.ret ?_
          subst h
          exact ⟨_, .refl _, _, rfl, ⟨upd (fun _ => none) 0 (some (S [44, 32])), (fun _ => none), 0⟩, (S [44, 32]), weak_canon [] rfl List.nodup_nil (Nat.le_refl _) (fun b h => absurd h (Nat.not_lt_zero _)) (.cons rfl (avAs_free rfl) .nil) .nil, rfl, rfl, rfl, rfl⟩
noncomputable abbrev strings_Builder_Grow (l : List UInt8) (x0 : Int) : Option (List UInt8) := bGrow? x0
/-- (*strings.Builder).Grow, by my own walk of it -/
theorem strings_Builder_Grow_ok {mL : Int} {z : Bool} {l : List UInt8} {x0 : Int} {r : List UInt8} (hz : z = true → l = []) (h : strings_Builder_Grow l x0 = some r) : ACalls Tryd.prog (GG mL) 23 [.c (.ref 0 2 0 0), (I x0)] (bldH 52 5 true []) 2 (bPost 52 5 (.tup []) r) := bGrow_ok blays bL4 b165 h
noncomputable abbrev strings_Builder_WriteString (l : List UInt8) (x0 : (List UInt8)) : Option (List UInt8) := bWriteString? l x0
/-- (*strings.Builder).WriteString, by my own walk of it -/
theorem strings_Builder_WriteString_ok {mL : Int} {z : Bool} {l : List UInt8} {x0 : (List UInt8)} {r : List UInt8} (hz : z = true → l = []) (h : strings_Builder_WriteString l x0 = some r) : ACalls Tryd.prog (GG mL) 24 [.c (.ref 0 2 0 0), (S x0)] (bldH 52 5 z l) 2 (bPost 52 5 (.tup [.c (.val (.int .i64 (x0.length : Int))), .c (.val .nilIface)]) r) := bWriteString_ok blays b166 hz h
def a13_c1 : ACode := (.seq (.region [⟨(some 42), (.bin .lss (.tmp 41) (.tmp 40)), none⟩])
 (.seq (.cond (.tmp 42) .skip (.exit 1))
 (.seq (.block 2 (.seq (.region [⟨(some 43), (.iaddr 1 (.tmp 39) (.tmp 41)), none⟩, ⟨(some 44), (.load false 1 (.tmp 43)), none⟩, ⟨(some 7), (.mov (.tmp 44)), none⟩])
 (.seq (.seq (.region [⟨(some 45), (.mov (.tmp 7)), none⟩, ⟨(some 46), (.lenS (.tmp 45)), none⟩, ⟨(some 47), (.mov (.tmp 5)), none⟩, ⟨(some 48), (.bin .sub (.const (.c (.val (.int .i64 9223372036854775807)))) (.tmp 47)), none⟩, ⟨(some 49), (.bin .gtr (.tmp 46) (.tmp 48)), none⟩])
 (.cond (.tmp 49) (.region [⟨(some 50), .mkif, none⟩, ⟨none, .bad, none⟩]) .skip))
 (.region [⟨(some 51), (.mov (.tmp 5)), none⟩, ⟨(some 52), (.mov (.tmp 7)), none⟩, ⟨(some 53), (.lenS (.tmp 52)), none⟩, ⟨(some 54), (.bin .add (.tmp 51) (.tmp 53)), none⟩, ⟨(some 5), (.mov (.tmp 54)), none⟩]))))
 (.region [⟨(some 55), (.bin .add (.tmp 41) (.const (.c (.val (.int .i64 1))))), none⟩, ⟨(some 41), (.mov (.tmp 55)), none⟩]))))
def a13_c2 : ACode := (.seq (.region [⟨(some 66), (.bin .lss (.tmp 65) (.tmp 64)), none⟩])
 (.seq (.cond (.tmp 66) .skip (.exit 3))
 (.seq (.block 4 (.seq (.region [⟨(some 67), (.iaddr 1 (.tmp 63) (.tmp 65)), none⟩, ⟨(some 68), (.load false 1 (.tmp 67)), none⟩, ⟨(some 10), (.mov (.tmp 68)), none⟩])
 (.seq (.region [⟨(some 69), (.mov (.tmp 1)), none⟩, ⟨(some 70), (.call 24 [(.tmp 8), (.tmp 69)]), none⟩])
 (.region [⟨(some 71), (.mov (.tmp 10)), none⟩, ⟨(some 72), (.call 24 [(.tmp 8), (.tmp 71)]), none⟩]))))
 (.region [⟨(some 73), (.bin .add (.tmp 65) (.const (.c (.val (.int .i64 1))))), none⟩, ⟨(some 65), (.mov (.tmp 73)), none⟩]))))
def a13_c0 : ACode := (.seq (.seq (.region [⟨(some 39), (.mov (.tmp 0)), none⟩, ⟨(some 40), (.len (.tmp 39)), none⟩, ⟨(some 41), (.mov (.const (.c (.val (.int .i64 0))))), none⟩])
 (.block 1 (.loop a13_c1)))
 (.seq (.region [⟨(some 8), (.boxB 52), none⟩])
 (.seq (.region [⟨(some 56), (.mov (.tmp 5)), none⟩, ⟨(some 57), (.call 23 [(.tmp 8), (.tmp 56)]), none⟩])
 (.seq (.region [⟨(some 58), (.mov (.tmp 0)), none⟩, ⟨(some 59), (.iaddr 1 (.tmp 58) (.const (.c (.val (.int .i64 0))))), none⟩, ⟨(some 60), (.load false 1 (.tmp 59)), none⟩, ⟨(some 61), (.call 24 [(.tmp 8), (.tmp 60)]), none⟩])
 (.seq (.seq (.region [⟨(some 62), (.mov (.tmp 0)), none⟩, ⟨(some 63), (.slSl 1 (.tmp 62) (some (.const (.c (.val (.int .i64 1))))) none none), none⟩, ⟨(some 64), (.len (.tmp 63)), none⟩, ⟨(some 65), (.mov (.const (.c (.val (.int .i64 0))))), none⟩])
 (.block 3 (.loop a13_c2)))
 (.seq (.region [⟨(some 74), (.call 25 [(.tmp 8)]), none⟩, ⟨(some 4), (.mov (.tmp 74)), none⟩])
 .ret))))))
def a13 : AFunc := ⟨2, [(.tmp 4)], (.seq (.region [⟨(some 4), (.mov (.const (.c (.str [])))), none⟩])
 (.seq (.seq (.region [⟨(some 11), (.mov (.tmp 0)), none⟩, ⟨(some 12), (.len (.tmp 11)), none⟩])
 (.block 0 (.seq (.region [⟨(some 14), (.bin .eql (.tmp 12) (.const (.c (.val (.int .i64 0))))), none⟩, ⟨(some 13), (.mov (.tmp 14)), none⟩])
 (.cond (.tmp 13) (.seq (.region [⟨(some 4), (.mov (.const (.c (.str [])))), none⟩])
 .ret) (.seq (.region [⟨(some 16), (.bin .eql (.tmp 12) (.const (.c (.val (.int .i64 1))))), none⟩, ⟨(some 15), (.mov (.tmp 16)), none⟩])
 (.cond (.tmp 15) (.seq (.region [⟨(some 17), (.mov (.tmp 0)), none⟩, ⟨(some 18), (.iaddr 1 (.tmp 17) (.const (.c (.val (.int .i64 0))))), none⟩, ⟨(some 19), (.load false 1 (.tmp 18)), none⟩, ⟨(some 4), (.mov (.tmp 19)), none⟩])
 .ret) .skip))))))
 (.seq (.region [⟨(some 5), (.mov (.const (.c (.val (.int .i64 0))))), none⟩])
 (.seq (.seq (.region [⟨(some 20), (.mov (.tmp 1)), none⟩, ⟨(some 21), (.lenS (.tmp 20)), none⟩, ⟨(some 22), (.bin .gtr (.tmp 21) (.const (.c (.val (.int .i64 0))))), none⟩])
 (.cond (.tmp 22) (.seq (.seq (.region [⟨(some 23), (.mov (.tmp 1)), none⟩, ⟨(some 24), (.lenS (.tmp 23)), none⟩, ⟨(some 25), (.mov (.tmp 0)), none⟩, ⟨(some 26), (.len (.tmp 25)), none⟩, ⟨(some 27), (.bin .sub (.tmp 26) (.const (.c (.val (.int .i64 1))))), none⟩, ⟨(some 28), (.bin .quo (.const (.c (.val (.int .i64 9223372036854775807)))) (.tmp 27)), none⟩, ⟨(some 29), (.bin .geq (.tmp 24) (.tmp 28)), none⟩])
 (.cond (.tmp 29) (.region [⟨(some 30), .mkif, none⟩, ⟨none, .bad, none⟩]) .skip))
 (.region [⟨(some 31), (.mov (.tmp 5)), none⟩, ⟨(some 32), (.mov (.tmp 1)), none⟩, ⟨(some 33), (.lenS (.tmp 32)), none⟩, ⟨(some 34), (.mov (.tmp 0)), none⟩, ⟨(some 35), (.len (.tmp 34)), none⟩, ⟨(some 36), (.bin .sub (.tmp 35) (.const (.c (.val (.int .i64 1))))), none⟩, ⟨(some 37), (.bin .mul (.tmp 33) (.tmp 36)), none⟩, ⟨(some 38), (.bin .add (.tmp 31) (.tmp 37)), none⟩, ⟨(some 5), (.mov (.tmp 38)), none⟩])) .skip))
 a13_c0))))⟩
set_option maxRecDepth 100000 in
theorem c13 : compFunc Tryd.prog 13 = some a13 := by kernel_rfl
def strings_Join_post (r : (List UInt8)) : AV → Heap → Nat → Prop := fun v h' n' => v = (S r) ∧ (h' = (fun _ => none)) ∧ n' = 0
abbrev strings_Join_l0_E1 (elems : (List (List UInt8))) (sep : (List UInt8)) (F_ : Int → Option (List UInt8)) (o : (List UInt8)) (R_ : St → Prop) : Prop := ∀ (n_2 : Int), F_ n_2 = some o → ∀ s, Weak 0 s ⟨(upd (upd (upd (fun _ => none) 0 (some (.c (.ro false 1 (elems.map eStr))))) 1 (some (S sep))) 5 (some (I n_2))), (fun _ => none), 0⟩ → R_ s
abbrev strings_Join_l0_I (elems : (List (List UInt8))) (sep : (List UInt8)) (F_ : Nat → Int → Int → Option (List UInt8)) (o : (List UInt8)) : Nat → St → Prop := fun k s => ∃ (n_1 : Int), ∃ (v41 : Int), F_ k n_1 v41 = some o ∧ s = ⟨(upd (upd (upd (upd (upd (upd (fun _ => none) 0 (some (.c (.ro false 1 (elems.map eStr))))) 1 (some (S sep))) 5 (some (I n_1))) 39 (some (.c (.ro false 1 (elems.map eStr))))) 40 (some (I (elems.length : Int)))) 41 (some (I v41))), (fun _ => none), 0⟩
abbrev strings_Join_l0_H (elems : (List (List UInt8))) (sep : (List UInt8)) (F_ : Int → Int → Option (List UInt8)) (o : (List UInt8)) (R_ : St → Prop) : Prop := ∀ (n_1 : Int) (v41 : Int), F_ n_1 v41 = some o → ∀ s, Weak 0 s ⟨(upd (upd (upd (upd (upd (upd (fun _ => none) 0 (some (.c (.ro false 1 (elems.map eStr))))) 1 (some (S sep))) 5 (some (I n_1))) 39 (some (.c (.ro false 1 (elems.map eStr))))) 40 (some (I (elems.length : Int)))) 41 (some (I v41))), (fun _ => none), 0⟩ → R_ s
noncomputable def strings_Join_l0 (elems : (List (List UInt8))) (sep : (List UInt8)) (K1_ : Int → Option (List UInt8)) : Nat → Int → Int → Option (List UInt8)
  | 0, _, _ => none
  | k + 1, n_1, v41 =>
    if decide (v41 < (elems.length : Int)) then
      (at? elems v41).bind fun x_1 =>
      if decide ((wi (9223372036854775807 - n_1)) < (x_1.length : Int)) then
        none
      else
        (strings_Join_l0 elems sep K1_ k) (wi (n_1 + (x_1.length : Int))) (wi (v41 + 1))
    else
      K1_ n_1
theorem strings_Join_l0_ok {mL : Int} {Q : AExit → St → Prop} {elems : (List (List UInt8))} {sep : (List UInt8)} {K1_ : Int → Option (List UInt8)} {k : Nat} {n_1 : Int} {v41 : Int} {o : (List UInt8)} (h : strings_Join_l0 elems sep K1_ k n_1 v41 = some o)
    (hK1 : strings_Join_l0_E1 elems sep K1_ o (Q (.exit 1)))
    (hr : ∀ s, Ends a13.results 0 (strings_Join_post o) .ret s → Q .ret s) :
    Sv Tryd.prog (GG mL) 0 (.loop a13_c1) Q ⟨(upd (upd (upd (upd (upd (upd (fun _ => none) 0 (some (.c (.ro false 1 (elems.map eStr))))) 1 (some (S sep))) 5 (some (I n_1))) 39 (some (.c (.ro false 1 (elems.map eStr))))) 40 (some (I (elems.length : Int)))) 41 (some (I v41))), (fun _ => none), 0⟩ := by
  refine Sv.loop (I := strings_Join_l0_I elems sep (strings_Join_l0 elems sep K1_) o) (fun k s hI => ?_) ⟨n_1, v41, h, rfl⟩
  clear h
  clear v41 n_1
  obtain ⟨n_1, v41, h, rfl⟩ := hI
  cases k with
  | zero => cases h
  | succ k =>
  rw [strings_Join_l0] at h
  have hself : strings_Join_l0_H elems sep (strings_Join_l0 elems sep K1_ k) o (rnd 0 (strings_Join_l0_I elems sep (strings_Join_l0 elems sep K1_) o) k Q) := fun n_1 v41 h s hw => ⟨_, k, hw, Nat.lt_succ_self k, n_1, v41, h, rfl⟩
  refine Sv.seq ?_
  refine Sv.region ?_
  refine un (a1 (v := (B (decide (v41 < (elems.length : Int))))) rfl ?_)
  refine dnil ?_
  refine Sv.seq ?_
  refine Sv.cond (b := decide (v41 < (elems.length : Int))) rfl (fun hc3 => ?_) (fun hc3 => ?_)
  · replace h := ifT hc3 h
    refine Sv.skip ?_
    refine Sv.seq ?_
    refine Sv.block ?_
    refine Sv.seq ?_
    refine Sv.region ?_
    obtain ⟨x_1, hx2, h⟩ := bnd h
    refine un (a1 (v := (.c (.rop [.str x_1]))) (s_iaddr (e := eStr) (xs := elems) rfl rfl hx2) ?_)
    refine un (a1 (v := (S x_1)) rfl ?_)
    refine un (a1 rfl ?_)
    refine dnil ?_
    refine Sv.seq ?_
    refine Sv.seq ?_
    refine Sv.region ?_
    refine un (a1 rfl ?_)
    refine un (a1 (v := (I (x_1.length : Int))) rfl ?_)
    refine un (a1 rfl ?_)
    refine un (a1 (v := (I (wi (9223372036854775807 - n_1)))) rfl ?_)
    refine un (a1 (v := (B (decide ((wi (9223372036854775807 - n_1)) < (x_1.length : Int))))) rfl ?_)
    refine dnil ?_
    refine Sv.cond (b := decide ((wi (9223372036854775807 - n_1)) < (x_1.length : Int))) rfl (fun hc4 => ?_) (fun hc4 => ?_)
    · replace h := ifT hc4 h
      refine Sv.region ?_
      refine un (a1 (v := (.c (.opq))) rfl ?_)
      cases h
    · replace h := ifF hc4 h
      refine Sv.skip ?_
      refine Sv.region ?_
      refine un (a1 rfl ?_)
      refine un (a1 rfl ?_)
      refine un (a1 (v := (I (x_1.length : Int))) rfl ?_)
      refine un (a1 (v := (I (wi (n_1 + (x_1.length : Int))))) rfl ?_)
      refine un (a1 rfl ?_)
      refine dnil ?_
      refine Sv.region ?_
      refine un (a1 (v := (I (wi (v41 + 1)))) rfl ?_)
      refine un (a1 rfl ?_)
      refine dnil ?_
      exact hself (wi (n_1 + (x_1.length : Int))) (wi (v41 + 1)) h _ (weak_canon [] rfl (by decide) (by decide) (fun b h => absurd h (Nat.not_lt_zero _)) (.cons rfl (avAs_free rfl) (.cons rfl (avAs_free rfl) (.cons rfl (avAs_free rfl) (.cons rfl (avAs_free rfl) (.cons rfl (avAs_free rfl) (.cons rfl (avAs_free rfl) .nil)))))) .nil)
  · replace h := ifF hc3 h
    refine Sv.exit ?_
    exact hK1 n_1 h _ (weak_canon [] rfl (by decide) (by decide) (fun b h => absurd h (Nat.not_lt_zero _)) (.cons rfl (avAs_free rfl) (.cons rfl (avAs_free rfl) (.cons rfl (avAs_free rfl) .nil))) .nil)
abbrev strings_Join_l1_E3 (F_ : (List UInt8) → Option (List UInt8)) (o : (List UInt8)) (R_ : St → Prop) : Prop := ∀ (b_1 : (List UInt8)) (zb_1 : Bool) (_ : zb_1 = true → b_1 = []), F_ b_1 = some o → ∀ s, Weak 0 s ⟨(upd (fun _ => none) 8 (some (.c (.ref 0 2 0 0)))), (upd (upd (fun _ => none) 0 (some (.bld 52 zb_1 1 b_1.length))) 1 (bufB zb_1 5 b_1)), 2⟩ → R_ s
abbrev strings_Join_l1_I (sep : (List UInt8)) (r_2 : (List (List UInt8))) (F_ : Nat → (List UInt8) → Int → Option (List UInt8)) (o : (List UInt8)) : Nat → St → Prop := fun k s => ∃ (b_ : (List UInt8)), ∃ (v65 : Int), ∃ (zb : Bool), (zb = true → b_ = []) ∧ F_ k b_ v65 = some o ∧ s = ⟨(upd (upd (upd (upd (upd (fun _ => none) 1 (some (S sep))) 8 (some (.c (.ref 0 2 0 0)))) 63 (some (.c (.ro false 1 (r_2.map eStr))))) 64 (some (I (r_2.length : Int)))) 65 (some (I v65))), (upd (upd (fun _ => none) 0 (some (.bld 52 zb 1 b_.length))) 1 (bufB zb 5 b_)), 2⟩
abbrev strings_Join_l1_H (sep : (List UInt8)) (r_2 : (List (List UInt8))) (F_ : (List UInt8) → Int → Option (List UInt8)) (o : (List UInt8)) (R_ : St → Prop) : Prop := ∀ (b_ : (List UInt8)) (v65 : Int) (zb : Bool) (_ : zb = true → b_ = []), F_ b_ v65 = some o → ∀ s, Weak 0 s ⟨(upd (upd (upd (upd (upd (fun _ => none) 1 (some (S sep))) 8 (some (.c (.ref 0 2 0 0)))) 63 (some (.c (.ro false 1 (r_2.map eStr))))) 64 (some (I (r_2.length : Int)))) 65 (some (I v65))), (upd (upd (fun _ => none) 0 (some (.bld 52 zb 1 b_.length))) 1 (bufB zb 5 b_)), 2⟩ → R_ s
noncomputable def strings_Join_l1 (r_2 : (List (List UInt8))) (sep : (List UInt8)) (K3_ : (List UInt8) → Option (List UInt8)) : Nat → (List UInt8) → Int → Option (List UInt8)
  | 0, _, _ => none
  | k + 1, b_, v65 =>
    if decide (v65 < (r_2.length : Int)) then
      (at? r_2 v65).bind fun x_3 =>
      (strings_Builder_WriteString b_ sep).bind fun r_3 =>
      (strings_Builder_WriteString r_3 x_3).bind fun r_4 =>
      (strings_Join_l1 r_2 sep K3_ k) r_4 (wi (v65 + 1))
    else
      K3_ b_
theorem strings_Join_l1_ok {mL : Int} {Q : AExit → St → Prop} {r_2 : (List (List UInt8))} {sep : (List UInt8)} {K3_ : (List UInt8) → Option (List UInt8)} {k : Nat} {b_ : (List UInt8)} {v65 : Int} {zb : Bool} (hzb : zb = true → b_ = []) {o : (List UInt8)} (h : strings_Join_l1 r_2 sep K3_ k b_ v65 = some o)
    (hK3 : strings_Join_l1_E3 K3_ o (Q (.exit 3)))
    (hr : ∀ s, Ends a13.results 0 (strings_Join_post o) .ret s → Q .ret s) :
    Sv Tryd.prog (GG mL) 0 (.loop a13_c2) Q ⟨(upd (upd (upd (upd (upd (fun _ => none) 1 (some (S sep))) 8 (some (.c (.ref 0 2 0 0)))) 63 (some (.c (.ro false 1 (r_2.map eStr))))) 64 (some (I (r_2.length : Int)))) 65 (some (I v65))), (upd (upd (fun _ => none) 0 (some (.bld 52 zb 1 b_.length))) 1 (bufB zb 5 b_)), 2⟩ := by
  refine Sv.loop (I := strings_Join_l1_I sep r_2 (strings_Join_l1 r_2 sep K3_) o) (fun k s hI => ?_) ⟨b_, v65, zb, hzb, h, rfl⟩
  clear h
  clear hzb zb v65 b_
  obtain ⟨b_, v65, zb, hzb, h, rfl⟩ := hI
  cases k with
  | zero => cases h
  | succ k =>
  rw [strings_Join_l1] at h
  have hself : strings_Join_l1_H sep r_2 (strings_Join_l1 r_2 sep K3_ k) o (rnd 0 (strings_Join_l1_I sep r_2 (strings_Join_l1 r_2 sep K3_) o) k Q) := fun b_ v65 zb hzb h s hw => ⟨_, k, hw, Nat.lt_succ_self k, b_, v65, zb, hzb, h, rfl⟩
  refine Sv.seq ?_
  refine Sv.region ?_
  refine un (a1 (v := (B (decide (v65 < (r_2.length : Int))))) rfl ?_)
  refine dnil ?_
  refine Sv.seq ?_
  refine Sv.cond (b := decide (v65 < (r_2.length : Int))) rfl (fun hc5 => ?_) (fun hc5 => ?_)
  · replace h := ifT hc5 h
    refine Sv.skip ?_
    refine Sv.seq ?_
    refine Sv.block ?_
    refine Sv.seq ?_
    refine Sv.region ?_
    obtain ⟨x_3, hx5, h⟩ := bnd h
    refine un (a1 (v := (.c (.rop [.str x_3]))) (s_iaddr (e := eStr) (xs := r_2) rfl rfl hx5) ?_)
    refine un (a1 (v := (S x_3)) rfl ?_)
    refine un (a1 rfl ?_)
    refine dnil ?_
    refine Sv.seq ?_
    refine Sv.region ?_
    refine un (a1 rfl ?_)
    obtain ⟨r_3, hr3, h⟩ := bnd h
    refine un (ac_gen (bs := [0, 1]) («as» := [(.c (.ref 0 2 0 0)), (S sep)]) (h2 := _) (h1 := (upd (upd (fun _ => none) 0 (some (.bld 52 zb 1 b_.length))) 1 (bufB zb 5 b_))) (strings_Builder_WriteString_ok (z := zb) (l := b_) hzb hr3) rfl (.cons (.c (.ref rfl (by decide))) (.cons (avAs_free rfl) .nil)) (hsub_refl _) (.cons rfl (.cons rfl (.nil _))) (fun h => by cases h) (by decide) (by decide) (.cons (.c (.ref rfl (by decide))) (.cons (avAs_free rfl) .nil)) (.buf (by decide) rfl (.box (by decide) rfl (.bld rfl (by decide)) .nil)) ?_)
    rintro _ _ _ hn ⟨z_2, hz_2, rfl, rfl, rfl⟩
    refine ⟨.inl rfl, (upd (upd (rem [0, 1] _) 0 (some (.bld 52 z_2 2 r_3.length))) 2 (bufB z_2 5 r_3)), fun hbd => (m3_cons (m3_buf rfl) (m3_cons (m3_box rfl rfl) (m3_rem (in_cons (by decide) (in_cons (by decide) (in_nil _))) (.cons (by decide) (.cons (by decide) .nil)) hbd))), (.tup [(I (sep.length : Int)), (.c (.val .nilIface))]), 3, (by cases z_2 <;> rfl), rfl, ?_⟩
    refine dnil ?_
    refine Sv.region ?_
    refine un (a1 rfl ?_)
    obtain ⟨r_4, hr4, h⟩ := bnd h
    refine un (ac_gen (bs := [0, 2]) («as» := [(.c (.ref 0 2 0 0)), (S x_3)]) (h2 := _) (h1 := (upd (upd (fun _ => none) 0 (some (.bld 52 z_2 2 r_3.length))) 2 (bufB z_2 5 r_3))) (strings_Builder_WriteString_ok (z := z_2) (l := r_3) hz_2 hr4) rfl (.cons (.c (.ref rfl (by decide))) (.cons (avAs_free rfl) .nil)) (hsub_refl _) (.cons rfl (.cons rfl (.nil _))) (fun h => by cases h) (by decide) (by decide) (.cons (.c (.ref rfl (by decide))) (.cons (avAs_free rfl) .nil)) (.buf (by decide) rfl (.box (by decide) rfl (.bld rfl (by decide)) .nil)) ?_)
    rintro _ _ _ hn ⟨z_3, hz_3, rfl, rfl, rfl⟩
    refine ⟨.inl rfl, (upd (upd (rem [0, 2] _) 0 (some (.bld 52 z_3 3 r_4.length))) 3 (bufB z_3 5 r_4)), fun hbd => (m3_cons (m3_buf rfl) (m3_cons (m3_box rfl rfl) (m3_rem (in_cons (by decide) (in_cons (by decide) (in_nil _))) (.cons (by decide) (.cons (by decide) .nil)) hbd))), (.tup [(I (x_3.length : Int)), (.c (.val .nilIface))]), 4, (by cases z_3 <;> rfl), rfl, ?_⟩
    refine dnil ?_
    refine Sv.region ?_
    refine un (a1 (v := (I (wi (v65 + 1)))) rfl ?_)
    refine un (a1 rfl ?_)
    refine dnil ?_
    exact hself r_4 (wi (v65 + 1)) z_3 hz_3 h _ (weak_canon [0, 3] rfl (by decide) (by decide) (fun b h => absurd h (Nat.not_lt_zero _)) (.cons rfl (avAs_free rfl) (.cons rfl (avAs_free rfl) (.cons rfl (avAs_free rfl) (.cons rfl (.c (.ref rfl (by decide))) (.cons rfl (avAs_free rfl) .nil))))) (.buf (by decide) rfl (.box (by decide) rfl (.bld rfl (by decide)) .nil)))
  · replace h := ifF hc5 h
    refine Sv.exit ?_
    exact hK3 b_ zb hzb h _ (weak_canon [0, 1] rfl (by decide) (by decide) (fun b h => absurd h (Nat.not_lt_zero _)) (.cons rfl (.c (.ref rfl (by decide))) .nil) (.buf (by decide) rfl (.box (by decide) rfl (.bld rfl (by decide)) .nil)))
noncomputable def strings_Join_j1 (elems : (List (List UInt8))) (sep : (List UInt8)) (n_ : Int) : Option (List UInt8) :=
  limF fun kk1 => strings_Join_l0 elems sep (fun (n_2 : Int) => 
      (strings_Builder_Grow ([] : List UInt8) n_2).bind fun r_ =>
      (at? elems 0).bind fun x_2 =>
      (strings_Builder_WriteString r_ x_2).bind fun r_1 =>
      (sub? elems 1 (elems.length : Int)).bind fun r_2 =>
      limF fun kk => strings_Join_l1 r_2 sep (fun (b_1 : (List UInt8)) => 
          some b_1) kk r_1 0) kk1 n_ 0
theorem strings_Join_j1_ok {mL : Int} {elems : (List (List UInt8))} {sep : (List UInt8)} {n_ : Int} {o : (List UInt8)} (h : strings_Join_j1 elems sep n_ = some o) :
    Sv Tryd.prog (GG mL) 0 a13_c0 (Ends a13.results 0 (strings_Join_post o)) ⟨(upd (upd (upd (fun _ => none) 0 (some (.c (.ro false 1 (elems.map eStr))))) 1 (some (S sep))) 5 (some (I n_))), (fun _ => none), 0⟩ := by
  unfold strings_Join_j1 at h
  refine Sv.seq ?_
  refine Sv.seq ?_
  refine Sv.region ?_
  refine un (a1 rfl ?_)
  refine un (a1 (v := (I (elems.length : Int))) (s_len (e := eStr) (xs := elems) rfl) ?_)
  refine un (a1 rfl ?_)
  refine dnil ?_
  refine Sv.block ?_
  obtain ⟨kk1, h⟩ := limF_some h
  refine Sv.weak (weak_canon [] rfl (by decide) (by decide) (fun b h => absurd h (Nat.not_lt_zero _)) (.cons rfl (avAs_free rfl) (.cons rfl (avAs_free rfl) (.cons rfl (avAs_free rfl) (.cons rfl (avAs_free rfl) (.cons rfl (avAs_free rfl) (.cons rfl (avAs_free rfl) .nil)))))) .nil) (strings_Join_l0_ok h ?_ (fun s hs => hs))
  · intro n_2 h _ hw1
    refine Sv.weak hw1 ?_
    refine Sv.seq ?_
    refine Sv.region ?_
    refine un (a2v (v := (.c (.ref 1 2 0 0))) (h' := upd _ 1 (some (.bld 52 true 0 ([] : List UInt8).length))) (n' := 2) rfl rfl (fun h => by cases h) ?_)
    refine dnil ?_
    refine Sv.seq ?_
    refine Sv.region ?_
    refine un (a1 rfl ?_)
    obtain ⟨r_, hr1, h⟩ := bnd h
    refine un (ac_gen (bs := [1, 0]) («as» := [(.c (.ref 1 2 0 0)), (I n_2)]) (h2 := _) (h1 := (upd (fun _ => none) 1 (some (.bld 52 true 0 ([] : List UInt8).length)))) (strings_Builder_Grow_ok (z := true) (l := ([] : List UInt8)) (fun _ => rfl) hr1) rfl (.cons (.c (.ref rfl (by decide))) (.cons (avAs_free rfl) .nil)) (hsub_refl _) (.cons rfl (.nil _)) (fun h => by cases h) (by decide) (by decide) (.cons (.c (.ref rfl (by decide))) (.cons (avAs_free rfl) .nil)) (.nonB (by decide) (.box (by decide) rfl (.bldN (by decide)) .nil)) ?_)
    rintro _ _ _ hn ⟨z_, hz_, rfl, rfl, rfl⟩
    refine ⟨.inl rfl, (upd (upd (rem [1, 0] _) 1 (some (.bld 52 z_ 2 r_.length))) 2 (bufB z_ 5 r_)), fun hbd => (m3_cons (m3_buf rfl) (m3_cons (m3_box rfl rfl) (m3_rem (in_cons (by decide) (in_nil _)) (.cons (by decide) (.cons (by decide) .nil)) hbd))), (.tup []), 3, (by cases z_ <;> rfl), rfl, ?_⟩
    refine dnil ?_
    refine Sv.seq ?_
    refine Sv.region ?_
    refine un (a1 rfl ?_)
    obtain ⟨x_2, hx3, h⟩ := bnd h
    refine un (a1 (v := (.c (.rop [.str x_2]))) (s_iaddr (e := eStr) (xs := elems) rfl rfl hx3) ?_)
    refine un (a1 (v := (S x_2)) rfl ?_)
    obtain ⟨r_1, hr2, h⟩ := bnd h
    refine un (ac_gen (bs := [1, 2]) («as» := [(.c (.ref 1 2 0 0)), (S x_2)]) (h2 := _) (h1 := (upd (upd (fun _ => none) 1 (some (.bld 52 z_ 2 r_.length))) 2 (bufB z_ 5 r_))) (strings_Builder_WriteString_ok (z := z_) (l := r_) hz_ hr2) rfl (.cons (.c (.ref rfl (by decide))) (.cons (avAs_free rfl) .nil)) (hsub_refl _) (.cons rfl (.cons rfl (.nil _))) (fun h => by cases h) (by decide) (by decide) (.cons (.c (.ref rfl (by decide))) (.cons (avAs_free rfl) .nil)) (.buf (by decide) rfl (.box (by decide) rfl (.bld rfl (by decide)) .nil)) ?_)
    rintro _ _ _ hn ⟨z_1, hz_1, rfl, rfl, rfl⟩
    refine ⟨.inl rfl, (upd (upd (rem [1, 2] _) 1 (some (.bld 52 z_1 3 r_1.length))) 3 (bufB z_1 5 r_1)), fun hbd => (m3_cons (m3_buf rfl) (m3_cons (m3_box rfl rfl) (m3_rem (in_cons (by decide) (in_cons (by decide) (in_nil _))) (.cons (by decide) (.cons (by decide) .nil)) hbd))), (.tup [(I (x_2.length : Int)), (.c (.val .nilIface))]), 4, (by cases z_1 <;> rfl), rfl, ?_⟩
    refine dnil ?_
    refine Sv.seq ?_
    refine Sv.seq ?_
    refine Sv.region ?_
    refine un (a1 rfl ?_)
    obtain ⟨r_2, hx4, h⟩ := bnd h
    refine un (a1 (v := (.c (.ro false 1 (r_2.map eStr)))) (s_slSl (e := eStr) rfl rfl rfl hx4) ?_)
    refine un (a1 (v := (I (r_2.length : Int))) (s_len (e := eStr) (xs := r_2) rfl) ?_)
    refine un (a1 rfl ?_)
    refine dnil ?_
    refine Sv.block ?_
    obtain ⟨kk, h⟩ := limF_some h
    refine Sv.weak (weak_canon [1, 3] rfl (by decide) (by decide) (fun b h => absurd h (Nat.not_lt_zero _)) (.cons rfl (avAs_free rfl) (.cons rfl (avAs_free rfl) (.cons rfl (avAs_free rfl) (.cons rfl (.c (.ref rfl (by decide))) (.cons rfl (avAs_free rfl) .nil))))) (.buf (by decide) rfl (.box (by decide) rfl (.bld rfl (by decide)) .nil))) (strings_Join_l1_ok hz_1 h ?_ (fun s hs => hs))
    · intro b_1 zb_1 hzb_1 h _ hw2
      refine Sv.weak hw2 ?_
      refine Sv.seq ?_
      refine Sv.region ?_
      refine un (ac_gen (bs := [0, 1]) («as» := [(.c (.ref 0 2 0 0))]) (h2 := _) (h1 := (upd (upd (fun _ => none) 0 (some (.bld 52 zb_1 1 b_1.length))) 1 (bufB zb_1 5 b_1))) (strings_Builder_String_ok (z := zb_1) (l := b_1) hzb_1) rfl (.cons (.c (.ref rfl (by decide))) .nil) (hsub_refl _) (.cons rfl (.cons rfl (.nil _))) (fun h => by cases h) (by decide) (by decide) (.cons (.c (.ref rfl (by decide))) .nil) (.buf (by decide) rfl (.box (by decide) rfl (.bld rfl (by decide)) .nil)) ?_)
      rintro _ _ _ hn ⟨rfl, rfl, rfl⟩
      refine ⟨.inl rfl, (rem [0, 1] _), fun hbd => (m3_rem (in_cons (by decide) (in_cons (by decide) (in_nil _))) (.nil) hbd), (S b_1), 2, rfl, rfl, ?_⟩
      refine un (a1 rfl ?_)
      refine dnil ?_
      refine Sv.ret ?_
      replace h := Option.some.inj h
      subst h
      exact ⟨_, .refl _, _, rfl, ⟨upd (fun _ => none) 0 (some (S b_1)), (fun _ => none), 0⟩, (S b_1), weak_canon [] rfl List.nodup_nil (Nat.le_refl _) (fun b h => absurd h (Nat.not_lt_zero _)) (.cons rfl (avAs_free rfl) .nil) .nil, rfl, rfl, rfl, rfl⟩
/-- strings.Join -/
noncomputable def strings_Join (elems : (List (List UInt8))) (sep : (List UInt8)) : Option (List UInt8) :=
  if decide ((elems.length : Int) = 0) then
    some []
  else
    if decide ((elems.length : Int) = 1) then
      (at? elems 0).bind fun x_ =>
      some x_
    else
      if decide (0 < (sep.length : Int)) then
        (quo? .i64 9223372036854775807 (wi ((elems.length : Int) - 1))).bind fun r_5 =>
        if decide (r_5 ≤ (sep.length : Int)) then
          none
        else
          strings_Join_j1 elems sep (wi (0 + (wi ((sep.length : Int) * (wi ((elems.length : Int) - 1))))))
      else
        strings_Join_j1 elems sep 0
theorem strings_Join_ok {mL : Int} {elems : (List (List UInt8))} {sep : (List UInt8)} {r : (List UInt8)} (h : strings_Join elems sep = some r) : CPure Tryd.prog (GG mL) 13 [(.c (.ro false 1 (elems.map eStr))), (S sep)] (S r) := by
  refine acalls_of_sv hmix c13 (R := strings_Join_post r) ?_
  unfold strings_Join at h
  refine Sv.seq ?_
  refine Sv.region ?_
  refine un (a1 rfl ?_)
  refine dnil ?_
  refine Sv.seq ?_
  refine Sv.seq ?_
  refine Sv.region ?_
  refine un (a1 rfl ?_)
  refine un (a1 (v := (I (elems.length : Int))) (s_len (e := eStr) (xs := elems) rfl) ?_)
  refine dnil ?_
  refine Sv.block ?_
  refine Sv.seq ?_
  refine Sv.region ?_
  refine un (a1 (v := (B (decide ((elems.length : Int) = 0)))) rfl ?_)
  refine un (a1 rfl ?_)
  refine dnil ?_
  refine Sv.cond (b := decide ((elems.length : Int) = 0)) rfl (fun hc1 => ?_) (fun hc1 => ?_)
  · replace h := ifT hc1 h
    refine Sv.seq ?_
    refine Sv.region ?_
    refine un (a1 rfl ?_)
    refine dnil ?_
    refine Sv.ret ?_
    replace h := Option.some.inj h
    subst h
    exact ⟨_, .refl _, _, rfl, ⟨upd (fun _ => none) 0 (some (S [])), (fun _ => none), 0⟩, (S []), weak_canon [] rfl List.nodup_nil (Nat.le_refl _) (fun b h => absurd h (Nat.not_lt_zero _)) (.cons rfl (avAs_free rfl) .nil) .nil, rfl, rfl, rfl, rfl⟩
  · replace h := ifF hc1 h
    refine Sv.seq ?_
    refine Sv.region ?_
    refine un (a1 (v := (B (decide ((elems.length : Int) = 1)))) rfl ?_)
    refine un (a1 rfl ?_)
    refine dnil ?_
    refine Sv.cond (b := decide ((elems.length : Int) = 1)) rfl (fun hc2 => ?_) (fun hc2 => ?_)
    · replace h := ifT hc2 h
      refine Sv.seq ?_
      refine Sv.region ?_
      refine un (a1 rfl ?_)
      obtain ⟨x_, hx1, h⟩ := bnd h
      refine un (a1 (v := (.c (.rop [.str x_]))) (s_iaddr (e := eStr) (xs := elems) rfl rfl hx1) ?_)
      refine un (a1 (v := (S x_)) rfl ?_)
      refine un (a1 rfl ?_)
      refine dnil ?_
      refine Sv.ret ?_
      replace h := Option.some.inj h
      subst h
      exact ⟨_, .refl _, _, rfl, ⟨upd (fun _ => none) 0 (some (S x_)), (fun _ => none), 0⟩, (S x_), weak_canon [] rfl List.nodup_nil (Nat.le_refl _) (fun b h => absurd h (Nat.not_lt_zero _)) (.cons rfl (avAs_free rfl) .nil) .nil, rfl, rfl, rfl, rfl⟩
    · replace h := ifF hc2 h
      refine Sv.skip ?_
      refine Sv.seq ?_
      refine Sv.region ?_
      refine un (a1 rfl ?_)
      refine dnil ?_
      refine Sv.seq ?_
      refine Sv.seq ?_
      refine Sv.region ?_
      refine un (a1 rfl ?_)
      refine un (a1 (v := (I (sep.length : Int))) rfl ?_)
      refine un (a1 (v := (B (decide (0 < (sep.length : Int))))) rfl ?_)
      refine dnil ?_
      refine Sv.cond (b := decide (0 < (sep.length : Int))) rfl (fun hc6 => ?_) (fun hc6 => ?_)
      · replace h := ifT hc6 h
        refine Sv.seq ?_
        refine Sv.seq ?_
        refine Sv.region ?_
        refine un (a1 rfl ?_)
        refine un (a1 (v := (I (sep.length : Int))) rfl ?_)
        refine un (a1 rfl ?_)
        refine un (a1 (v := (I (elems.length : Int))) (s_len (e := eStr) (xs := elems) rfl) ?_)
        refine un (a1 (v := (I (wi ((elems.length : Int) - 1)))) rfl ?_)
        obtain ⟨r_5, hx6, h⟩ := bnd h
        refine un (a1 (v := (I r_5)) (s_quo rfl rfl hx6) ?_)
        refine un (a1 (v := (B (decide (r_5 ≤ (sep.length : Int))))) rfl ?_)
        refine dnil ?_
        refine Sv.cond (b := decide (r_5 ≤ (sep.length : Int))) rfl (fun hc7 => ?_) (fun hc7 => ?_)
        · replace h := ifT hc7 h
          refine Sv.region ?_
          refine un (a1 (v := (.c (.opq))) rfl ?_)
          cases h
        · replace h := ifF hc7 h
          refine Sv.skip ?_
          refine Sv.region ?_
          refine un (a1 rfl ?_)
          refine un (a1 rfl ?_)
          refine un (a1 (v := (I (sep.length : Int))) rfl ?_)
          refine un (a1 rfl ?_)
          refine un (a1 (v := (I (elems.length : Int))) (s_len (e := eStr) (xs := elems) rfl) ?_)
          refine un (a1 (v := (I (wi ((elems.length : Int) - 1)))) rfl ?_)
          refine un (a1 (v := (I (wi ((sep.length : Int) * (wi ((elems.length : Int) - 1)))))) rfl ?_)
          refine un (a1 (v := (I (wi (0 + (wi ((sep.length : Int) * (wi ((elems.length : Int) - 1)))))))) rfl ?_)
          refine un (a1 rfl ?_)
          refine dnil ?_
          exact Sv.weak (weak_canon [] rfl (by decide) (by decide) (fun b h => absurd h (Nat.not_lt_zero _)) (.cons rfl (avAs_free rfl) (.cons rfl (avAs_free rfl) (.cons rfl (avAs_free rfl) .nil))) .nil) (strings_Join_j1_ok h)
      · replace h := ifF hc6 h
        refine Sv.skip ?_
        exact Sv.weak (weak_canon [] rfl (by decide) (by decide) (fun b h => absurd h (Nat.not_lt_zero _)) (.cons rfl (avAs_free rfl) (.cons rfl (avAs_free rfl) (.cons rfl (avAs_free rfl) .nil))) .nil) (strings_Join_j1_ok h)
def a6_c0 : ACode := (.seq (.region [⟨(some 19), (.bin .lss (.tmp 18) (.tmp 17)), none⟩])
 (.seq (.cond (.tmp 19) .skip (.exit 0))
 (.seq (.block 1 (.seq (.region [⟨(some 20), (.iaddr 4 (.tmp 16) (.tmp 18)), none⟩, ⟨(some 21), (.load true 4 (.tmp 20)), none⟩, ⟨(some 5), (.box (.const (.agg [(.val (.int .i64 0)), (.val (.int .i64 0)), (.str []), (.ro true 4 [])]))), none⟩, ⟨none, (.store 4 (.tmp 5) (.tmp 21)), none⟩])
 (.region [⟨(some 22), (.mov (.tmp 3)), none⟩, ⟨(some 23), (.load true 4 (.tmp 5)), none⟩, ⟨(some 24), (.call 6 [(.tmp 23)]), none⟩, ⟨(some 25), (.bslice 1 [(.str [])] 1 [(0, (.tmp 24))]), none⟩, ⟨(some 26), (.app 1 16 (.tmp 22) (.tmp 25)), none⟩, ⟨(some 3), (.mov (.tmp 26)), none⟩])))
 (.region [⟨(some 27), (.bin .add (.tmp 18) (.const (.c (.val (.int .i64 1))))), none⟩, ⟨(some 18), (.mov (.tmp 27)), none⟩]))))
def a6 : AFunc := ⟨1, [(.tmp 2)], (.seq (.region [⟨(some 1), (.box (.tmp 0)), none⟩, ⟨(some 2), (.mov (.const (.c (.str [])))), none⟩])
 (.seq (.seq (.region [⟨(some 6), (.load true 4 (.tmp 1)), none⟩, ⟨(some 7), (.call 10 [(.tmp 6)]), none⟩, ⟨(some 8), (.un .not (.tmp 7)), none⟩])
 (.cond (.tmp 8) (.seq (.region [⟨(some 2), (.mov (.const (.c (.str [])))), none⟩])
 .ret) .skip))
 (.seq (.seq (.region [⟨(some 9), (.faddr 0 (.tmp 1)), none⟩, ⟨(some 10), (.load false 1 (.tmp 9)), none⟩, ⟨(some 11), (.bin .eql (.tmp 10) (.const (.c (.val (.int .i64 1))))), none⟩])
 (.cond (.tmp 11) (.seq (.region [⟨(some 12), (.faddr 1 (.tmp 1)), none⟩, ⟨(some 13), (.load true 2 (.tmp 12)), none⟩, ⟨(some 14), (.call 11 [(.tmp 13)]), none⟩, ⟨(some 2), (.mov (.tmp 14)), none⟩])
 .ret) .skip))
 (.seq (.region [⟨(some 3), (.mov (.const (.c (.ro true 1 [])))), none⟩])
 (.seq (.seq (.region [⟨(some 15), (.faddr 3 (.tmp 1)), none⟩, ⟨(some 16), (.load false 1 (.tmp 15)), none⟩, ⟨(some 17), (.len (.tmp 16)), none⟩, ⟨(some 18), (.mov (.const (.c (.val (.int .i64 0))))), none⟩])
 (.block 0 (.loop a6_c0)))
 (.seq (.drawn (.fin [(⟨(some 28), (.faddr 0 (.tmp 1)), none⟩, (0, 0)), (⟨(some 29), (.load false 1 (.tmp 28)), none⟩, (0, 1)), (⟨(some 32), (.mov (.tmp 3)), none⟩, (0, 4)), (⟨(some 33), (.faddr 0 (.tmp 1)), none⟩, (0, 5)), (⟨(some 34), (.load false 1 (.tmp 33)), none⟩, (0, 6)), (⟨(some 30), (.call 12 [(.tmp 29)]), none⟩, (1, 2)), (⟨(some 31), (.bin .add (.tmp 30) (.const (.c (.str [40])))), none⟩, (0, 3)), (⟨(some 35), (.call 14 [(.tmp 34)]), none⟩, (2, 7)), (⟨(some 36), (.call 13 [(.tmp 32), (.tmp 35)]), none⟩, (2, 8)), (⟨(some 37), (.bin .add (.tmp 31) (.tmp 36)), none⟩, (0, 9)), (⟨(some 38), (.bin .add (.tmp 37) (.const (.c (.str [41])))), none⟩, (0, 10)), (⟨(some 2), (.mov (.tmp 38)), none⟩, (0, 11))]))
 .ret))))))⟩
set_option maxRecDepth 100000 in
theorem c6 : compFunc Tryd.prog 6 = some a6 := by kernel_rfl
def calc_Text_post (r : (List UInt8)) : AV → Heap → Nat → Prop := fun v h' n' => v = (S r) ∧ (h' = (fun _ => none)) ∧ n' = 0
def calc_Text_Rec (mL : Int) (recf : TSTerm → Option (List UInt8)) : Prop := ∀ (t_ : TSTerm) (r : (List UInt8)), recf t_ = some r → CPure Tryd.prog (GG mL) 6 [(.agg [cI t_.Kind, cI t_.Dim.Num, .str t_.Dim.Unit, .ro false 4 (t_.Subs.map eRaw)])] (S r)
abbrev calc_Text_l0_E0 (t_ : TSTerm) (F_ : (List (List UInt8)) → Option (List UInt8)) (o : (List UInt8)) (R_ : St → Prop) : Prop := ∀ (subs1 : (List (List UInt8))) (zsubs1 : Bool) (_ : zsubs1 = true → subs1 = []), F_ subs1 = some o → ∀ s, Weak 0 s ⟨(upd (upd (fun _ => none) 1 (some (.c (.ref 0 4 0 0)))) 3 (some (lstV zsubs1 1 1 subs1.length))), (upd (upd (fun _ => none) 0 (some (.cells 4 [[cI t_.Kind, cI t_.Dim.Num, .str t_.Dim.Unit, .ro false 4 (t_.Subs.map eRaw)]]))) 1 (lstB zsubs1 1 (subs1.map eStr))), 2⟩ → R_ s
abbrev calc_Text_l0_I (t_ : TSTerm) (F_ : Nat → (List (List UInt8)) → Int → Option (List UInt8)) (o : (List UInt8)) : Nat → St → Prop := fun k s => ∃ (subs : (List (List UInt8))), ∃ (v18 : Int), ∃ (zsubs : Bool), (zsubs = true → subs = []) ∧ F_ k subs v18 = some o ∧ s = ⟨(upd (upd (upd (upd (upd (fun _ => none) 1 (some (.c (.ref 0 4 0 0)))) 3 (some (lstV zsubs 1 1 subs.length))) 16 (some (.c (.ro false 4 (t_.Subs.map eRaw))))) 17 (some (I (t_.Subs.length : Int)))) 18 (some (I v18))), (upd (upd (fun _ => none) 0 (some (.cells 4 [[cI t_.Kind, cI t_.Dim.Num, .str t_.Dim.Unit, .ro false 4 (t_.Subs.map eRaw)]]))) 1 (lstB zsubs 1 (subs.map eStr))), 2⟩
abbrev calc_Text_l0_H (t_ : TSTerm) (F_ : (List (List UInt8)) → Int → Option (List UInt8)) (o : (List UInt8)) (R_ : St → Prop) : Prop := ∀ (subs : (List (List UInt8))) (v18 : Int) (zsubs : Bool) (_ : zsubs = true → subs = []), F_ subs v18 = some o → ∀ s, Weak 0 s ⟨(upd (upd (upd (upd (upd (fun _ => none) 1 (some (.c (.ref 0 4 0 0)))) 3 (some (lstV zsubs 1 1 subs.length))) 16 (some (.c (.ro false 4 (t_.Subs.map eRaw))))) 17 (some (I (t_.Subs.length : Int)))) 18 (some (I v18))), (upd (upd (fun _ => none) 0 (some (.cells 4 [[cI t_.Kind, cI t_.Dim.Num, .str t_.Dim.Unit, .ro false 4 (t_.Subs.map eRaw)]]))) 1 (lstB zsubs 1 (subs.map eStr))), 2⟩ → R_ s
noncomputable def calc_Text_l0 (t_ : TSTerm) (recf : TSTerm → Option (List UInt8)) (K0_ : (List (List UInt8)) → Option (List UInt8)) : Nat → (List (List UInt8)) → Int → Option (List UInt8)
  | 0, _, _ => none
  | k + 1, subs, v18 =>
    if decide (v18 < (t_.Subs.length : Int)) then
      (at? t_.Subs v18).bind fun r_1 =>
      (d_TSTerm r_1.c).bind fun x_ =>
      (recf x_).bind fun r_2 =>
      (app? 16 subs [r_2]).bind fun r_3 =>
      (calc_Text_l0 t_ recf K0_ k) r_3 (wi (v18 + 1))
    else
      K0_ subs
theorem calc_Text_l0_ok {mL : Int} {Q : AExit → St → Prop} {t_ : TSTerm} {recf : TSTerm → Option (List UInt8)} {K0_ : (List (List UInt8)) → Option (List UInt8)} {k : Nat} {subs : (List (List UInt8))} {v18 : Int} {zsubs : Bool} (hzsubs : zsubs = true → subs = []) {o : (List UInt8)} (h : calc_Text_l0 t_ recf K0_ k subs v18 = some o)
    (hK0 : calc_Text_l0_E0 t_ K0_ o (Q (.exit 0)))
    (hr : ∀ s, Ends a6.results 0 (calc_Text_post o) .ret s → Q .ret s)
    (hrec : calc_Text_Rec mL recf) :
    Sv Tryd.prog (GG mL) 0 (.loop a6_c0) Q ⟨(upd (upd (upd (upd (upd (fun _ => none) 1 (some (.c (.ref 0 4 0 0)))) 3 (some (lstV zsubs 1 1 subs.length))) 16 (some (.c (.ro false 4 (t_.Subs.map eRaw))))) 17 (some (I (t_.Subs.length : Int)))) 18 (some (I v18))), (upd (upd (fun _ => none) 0 (some (.cells 4 [[cI t_.Kind, cI t_.Dim.Num, .str t_.Dim.Unit, .ro false 4 (t_.Subs.map eRaw)]]))) 1 (lstB zsubs 1 (subs.map eStr))), 2⟩ := by
  refine Sv.loop (I := calc_Text_l0_I t_ (calc_Text_l0 t_ recf K0_) o) (fun k s hI => ?_) ⟨subs, v18, zsubs, hzsubs, h, rfl⟩
  clear h
  clear hzsubs zsubs v18 subs
  obtain ⟨subs, v18, zsubs, hzsubs, h, rfl⟩ := hI
  cases k with
  | zero => cases h
  | succ k =>
  rw [calc_Text_l0] at h
  have hself : calc_Text_l0_H t_ (calc_Text_l0 t_ recf K0_ k) o (rnd 0 (calc_Text_l0_I t_ (calc_Text_l0 t_ recf K0_) o) k Q) := fun subs v18 zsubs hzsubs h s hw => ⟨_, k, hw, Nat.lt_succ_self k, subs, v18, zsubs, hzsubs, h, rfl⟩
  refine Sv.seq ?_
  refine Sv.region ?_
  refine un (a1 (v := (B (decide (v18 < (t_.Subs.length : Int))))) rfl ?_)
  refine dnil ?_
  refine Sv.seq ?_
  refine Sv.cond (b := decide (v18 < (t_.Subs.length : Int))) rfl (fun hc3 => ?_) (fun hc3 => ?_)
  · replace h := ifT hc3 h
    refine Sv.skip ?_
    refine Sv.seq ?_
    refine Sv.block ?_
    refine Sv.seq ?_
    refine Sv.region ?_
    obtain ⟨r_1, hr2, h⟩ := bnd h
    obtain ⟨x_, hd, h⟩ := bnd h
    have hx1 : at? t_.Subs v18 = some (⟨e_TSTerm x_, rfl⟩ : Raw) := by rw [hr2, raw_eq rfl (d_TSTerm_s hd)]
    refine un (a1 (v := (.c (.rop [cI x_.Kind, cI x_.Dim.Num, .str x_.Dim.Unit, .ro false 4 (x_.Subs.map eRaw)]))) (s_iaddr (e := eRaw) (xs := t_.Subs) rfl rfl hx1) ?_)
    refine un (a1 (v := (.agg [cI x_.Kind, cI x_.Dim.Num, .str x_.Dim.Unit, .ro false 4 (x_.Subs.map eRaw)])) rfl ?_)
    refine un (a2v (v := (.c (.ref 2 4 0 0))) (h' := upd _ 2 (some (.cells 4 [[cI 0, cI 0, .str [], .ro true 4 []]]))) (n' := 3) rfl rfl (fun h => by cases h) ?_)
    refine un (a2n (h' := upd _ 2 (some (.cells 4 [[cI x_.Kind, cI x_.Dim.Num, .str x_.Dim.Unit, .ro false 4 (x_.Subs.map eRaw)]]))) (n' := 3) rfl rfl (fun h => by cases h) ?_)
    refine dnil ?_
    refine Sv.region ?_
    refine un (a1 rfl ?_)
    refine un (a1 (v := (.agg [cI x_.Kind, cI x_.Dim.Num, .str x_.Dim.Unit, .ro false 4 (x_.Subs.map eRaw)])) rfl ?_)
    obtain ⟨r_2, hr3, h⟩ := bnd h
    refine un (ac_pure (hrec x_ _ hr3) rfl rfl rfl ?_)
    refine un (a2v (v := (lstV false 3 1 [r_2].length)) (h' := upd _ 3 (lstB false 1 ([r_2].map eStr))) (n' := 4) rfl rfl (fun h => by cases h) ?_)
    obtain ⟨r_3, hr4, h⟩ := bnd h
    have hz1 : (zsubs && [r_2].isEmpty) = true → r_3 = [] := app_nil (z := zsubs) (ys := [r_2]) hzsubs hr4
    refine un (a2v rfl (s_app (xs := subs) (ys := [r_2]) (e := eStr) (z := zsubs) (b := 1) rfl rfl hzsubs rfl rfl (slc_lst rfl (List.length_map _).symm (map_nil_of (fun h => by cases h))) hr4) (fun h => by cases h) ?_)
    refine un (a1 rfl ?_)
    refine dnil ?_
    refine Sv.region ?_
    refine un (a1 (v := (I (wi (v18 + 1)))) rfl ?_)
    refine un (a1 rfl ?_)
    refine dnil ?_
    exact hself r_3 (wi (v18 + 1)) (zsubs && [r_2].isEmpty) hz1 h _ (weak_canon [0, 4] rfl (by decide) (by decide) (fun b h => absurd h (Nat.not_lt_zero _)) (.cons rfl (avAs_free rfl) (.cons rfl (avAs_free rfl) (.cons rfl (avAs_free rfl) (.cons rfl (.c (lstC_ren rfl (by decide))) (.cons rfl (.c (.ref rfl (by decide))) .nil))))) (.row (by decide) rfl (fr_map fun _ => rfl) (.box (by decide) rfl (blkAs_cells (.cons (.same rfl) (.cons (.same rfl) (.cons (.same rfl) (.cons (.same rfl) .nil))))) .nil)))
  · replace h := ifF hc3 h
    refine Sv.exit ?_
    exact hK0 subs zsubs hzsubs h _ (weak_canon [0, 1] rfl (by decide) (by decide) (fun b h => absurd h (Nat.not_lt_zero _)) (.cons rfl (.c (lstC_ren rfl (by decide))) (.cons rfl (.c (.ref rfl (by decide))) .nil)) (.row (by decide) rfl (fr_map fun _ => rfl) (.box (by decide) rfl (blkAs_cells (.cons (.same rfl) (.cons (.same rfl) (.cons (.same rfl) (.cons (.same rfl) .nil))))) .nil)))
/-- clerestory/calc.Text -/
noncomputable def calc_Text_r : Nat → TSTerm → Option (List UInt8)
  | 0, _ => none
  | k + 1, t_ =>
    if (!(calc_shaped t_)) then
      some []
    else
      if decide (t_.Kind = 1) then
        (dim_Text t_.Dim).bind fun r_ =>
        some r_
      else
        limF fun kk => calc_Text_l0 t_ (calc_Text_r k) (fun (subs1 : (List (List UInt8))) => 
            (cat? (calc_word t_.Kind) [40]).bind fun r_4 =>
            (strings_Join subs1 (calc_sign t_.Kind)).bind fun r_5 =>
            (cat? r_4 r_5).bind fun r_6 =>
            (cat? r_6 [41]).bind fun r_7 =>
            some r_7) kk ([] : List (List UInt8)) 0
noncomputable def calc_Text (t_ : TSTerm) : Option (List UInt8) :=
  limF fun kr => calc_Text_r kr t_
theorem calc_Text_r_ok {mL : Int} (k : Nat) : calc_Text_Rec mL (calc_Text_r k) := by
  induction k with
  | zero => intro t_ r h; cases h
  | succ k hrec =>
  intro t_ r h
  refine acalls_of_sv hmix c6 (R := calc_Text_post r) ?_
  rw [calc_Text_r] at h
  refine Sv.seq ?_
  refine Sv.region ?_
  refine un (a2v (v := (.c (.ref 0 4 0 0))) (h' := upd _ 0 (some (.cells 4 [[cI t_.Kind, cI t_.Dim.Num, .str t_.Dim.Unit, .ro false 4 (t_.Subs.map eRaw)]]))) (n' := 1) rfl rfl (fun h => by cases h) ?_)
  refine un (a1 rfl ?_)
  refine dnil ?_
  refine Sv.seq ?_
  refine Sv.seq ?_
  refine Sv.region ?_
  refine un (a1 (v := (.agg [cI t_.Kind, cI t_.Dim.Num, .str t_.Dim.Unit, .ro false 4 (t_.Subs.map eRaw)])) rfl ?_)
  refine un (ac_pure (calc_shaped_ok (mL := mL) t_) rfl rfl rfl ?_)
  refine un (a1 (v := (B (!(calc_shaped t_)))) rfl ?_)
  refine dnil ?_
  refine Sv.cond (b := (!(calc_shaped t_))) rfl (fun hc1 => ?_) (fun hc1 => ?_)
  · replace h := ifT hc1 h
    refine Sv.seq ?_
    refine Sv.region ?_
    refine un (a1 rfl ?_)
    refine dnil ?_
    refine Sv.ret ?_
    replace h := Option.some.inj h
    subst h
    exact ⟨_, .refl _, _, rfl, ⟨upd (fun _ => none) 0 (some (S [])), (fun _ => none), 0⟩, (S []), weak_canon [] rfl List.nodup_nil (Nat.le_refl _) (fun b h => absurd h (Nat.not_lt_zero _)) (.cons rfl (avAs_free rfl) .nil) .nil, rfl, rfl, rfl, rfl⟩
  · replace h := ifF hc1 h
    refine Sv.skip ?_
    refine Sv.seq ?_
    refine Sv.seq ?_
    refine Sv.region ?_
    refine un (a1 (v := (.c (.ref 0 4 0 0))) rfl ?_)
    refine un (a1 (v := (I t_.Kind)) rfl ?_)
    refine un (a1 (v := (B (decide (t_.Kind = 1)))) rfl ?_)
    refine dnil ?_
    refine Sv.cond (b := decide (t_.Kind = 1)) rfl (fun hc2 => ?_) (fun hc2 => ?_)
    · replace h := ifT hc2 h
      refine Sv.seq ?_
      refine Sv.region ?_
      refine un (a1 (v := (.c (.ref 0 4 0 1))) rfl ?_)
      refine un (a1 (v := (.agg [cI t_.Dim.Num, .str t_.Dim.Unit])) rfl ?_)
      obtain ⟨r_, hr1, h⟩ := bnd h
      refine un (ac_pure (dim_Text_ok hr1) rfl rfl rfl ?_)
      refine un (a1 rfl ?_)
      refine dnil ?_
      refine Sv.ret ?_
      replace h := Option.some.inj h
      subst h
      exact ⟨_, .refl _, _, rfl, ⟨upd (fun _ => none) 0 (some (S r_)), (fun _ => none), 0⟩, (S r_), weak_canon [] rfl List.nodup_nil (Nat.le_refl _) (fun b h => absurd h (Nat.not_lt_zero _)) (.cons rfl (avAs_free rfl) .nil) .nil, rfl, rfl, rfl, rfl⟩
    · replace h := ifF hc2 h
      refine Sv.skip ?_
      refine Sv.seq ?_
      refine Sv.region ?_
      refine un (a1 rfl ?_)
      refine dnil ?_
      refine Sv.seq ?_
      refine Sv.seq ?_
      refine Sv.region ?_
      refine un (a1 (v := (.c (.ref 0 4 0 3))) rfl ?_)
      refine un (a1 (v := (.c (.ro false 4 (t_.Subs.map eRaw)))) rfl ?_)
      refine un (a1 (v := (I (t_.Subs.length : Int))) (s_len (e := eRaw) (xs := t_.Subs) rfl) ?_)
      refine un (a1 rfl ?_)
      refine dnil ?_
      refine Sv.block ?_
      obtain ⟨kk, h⟩ := limF_some h
      refine Sv.weak (weak_canon [0, 1000] rfl (by decide) (by decide) (fun b h => absurd h (Nat.not_lt_zero _)) (.cons rfl (avAs_free rfl) (.cons rfl (avAs_free rfl) (.cons rfl (avAs_free rfl) (.cons rfl (.c (.same rfl)) (.cons rfl (.c (.ref rfl (by decide))) .nil))))) (.non (by decide) (.box (by decide) rfl (blkAs_cells (.cons (.same rfl) (.cons (.same rfl) (.cons (.same rfl) (.cons (.same rfl) .nil))))) .nil))) (calc_Text_l0_ok (fun _ => rfl) h ?_ (fun s hs => hs) hrec)
      · intro subs1 zsubs1 hzsubs1 h _ hw1
        refine Sv.weak hw1 ?_
        refine Sv.seq ?_
        refine Sv.drawn ?_
        refine un (a1 (v := (.c (.ref 0 4 0 0))) rfl ?_)
        refine un (a1 (v := (I t_.Kind)) rfl ?_)
        refine un (a1 rfl ?_)
        refine un (a1 (v := (.c (.ref 0 4 0 0))) rfl ?_)
        refine un (a1 (v := (I t_.Kind)) rfl ?_)
        refine un (ac_pure (calc_word_ok (mL := mL) t_.Kind) rfl rfl rfl ?_)
        obtain ⟨r_4, hx2, h⟩ := bnd h
        refine un (a1 (v := (S r_4)) (s_cat rfl rfl hx2) ?_)
        refine un (ac_pure (calc_sign_ok (mL := mL) t_.Kind) rfl rfl rfl ?_)
        obtain ⟨r_5, hr5, h⟩ := bnd h
        refine un (ac_lend (h2 := (upd _ 1 none)) (strings_Join_ok hr5) rfl (.cons (.c (lstC_ro (es := List.map eStr subs1) rfl (List.length_map eStr).symm (map_nil_of hzsubs1) (gone rfl) (fr_map fun _ => rfl))) (.cons (avAs_free rfl) .nil)) (hsub_none (hsub_refl _)) rfl rfl (.inr rfl) ?_)
        obtain ⟨r_6, hx3, h⟩ := bnd h
        refine un (a1 (v := (S r_6)) (s_cat rfl rfl hx3) ?_)
        obtain ⟨r_7, hx4, h⟩ := bnd h
        refine un (a1 (v := (S r_7)) (s_cat rfl rfl hx4) ?_)
        refine un (a1 rfl ?_)
        refine dnil ?_
        refine Sv.ret ?_
        replace h := Option.some.inj h
        subst h
        exact ⟨_, .refl _, _, rfl, ⟨upd (fun _ => none) 0 (some (S r_7)), (fun _ => none), 0⟩, (S r_7), weak_canon [] rfl List.nodup_nil (Nat.le_refl _) (fun b h => absurd h (Nat.not_lt_zero _)) (.cons rfl (avAs_free rfl) .nil) .nil, rfl, rfl, rfl, rfl⟩
theorem calc_Text_ok {mL : Int} {t_ : TSTerm} {r : (List UInt8)} (h : calc_Text t_ = some r) : CPure Tryd.prog (GG mL) 6 [(.agg [cI t_.Kind, cI t_.Dim.Num, .str t_.Dim.Unit, .ro false 4 (t_.Subs.map eRaw)])] (S r) := by
  unfold calc_Text at h
  obtain ⟨k, h⟩ := limF_some h
  exact calc_Text_r_ok k t_  r h
theorem calc_Text_rec {mL : Int} : calc_Text_Rec mL calc_Text := fun t_ r h => calc_Text_ok h
def a4_c0 : ACode := .ret
def a4 : AFunc := ⟨0, [(.tmp 0)], (.seq (.region [⟨(some 0), (.mov (.const (.c (.val (.bool false))))), none⟩])
 (.seq (.region [⟨(some 4), (.call 8 [(.const (.c (.str [99, 97, 108, 99, 40, 49, 112, 120, 32, 42, 32, 50, 41])))]), none⟩, ⟨(some 3), (.mov (.tmp 4)), none⟩, ⟨(some 5), (.ext (.tmp 3) 0), none⟩, ⟨(some 6), (.ext (.tmp 3) 1), none⟩, ⟨(some 1), (.box (.const (.agg [(.val (.int .i64 0)), (.val (.int .i64 0)), (.str []), (.ro true 4 [])]))), none⟩, ⟨none, (.store 4 (.tmp 1) (.tmp 5)), none⟩, ⟨(some 2), (.mov (.tmp 6)), none⟩])
 (.seq (.region [⟨(some 7), (.mov (.tmp 2)), none⟩, ⟨(some 8), (.bin .eql (.tmp 7) (.const (.c (.val (.int .i64 0))))), none⟩, ⟨(some 9), (.mov (.tmp 8)), none⟩, ⟨(some 10), (.load true 4 (.tmp 1)), (some (9, true))⟩, ⟨(some 11), (.call 6 [(.tmp 10)]), (some (9, true))⟩, ⟨(some 12), (.bin .eql (.tmp 11) (.const (.c (.str [40, 49, 112, 120, 32, 42, 32, 50, 41])))), (some (9, true))⟩, ⟨(some 13), (.pick (.tmp 9) (.tmp 12) (.const (.c (.val (.bool false))))), none⟩, ⟨(some 0), (.mov (.tmp 13)), none⟩])
 a4_c0)))⟩
set_option maxRecDepth 100000 in
theorem c4 : compFunc Tryd.prog 4 = some a4 := by kernel_rfl
def clerestorylaw2_twice_post (r : Bool) : AV → Heap → Nat → Prop := fun v h' n' => v = (B r) ∧ (h' = (fun _ => none)) ∧ n' = 0
noncomputable def clerestorylaw2_twice_j1 (v0 : Bool) : Option Bool :=
  some v0
theorem clerestorylaw2_twice_j1_ok {mL : Int} {v0 : Bool} {o : Bool} (h : clerestorylaw2_twice_j1 v0 = some o) :
    Sv Tryd.prog (GG mL) 0 a4_c0 (Ends a4.results 0 (clerestorylaw2_twice_post o)) ⟨(upd (fun _ => none) 0 (some (B v0))), (fun _ => none), 0⟩ := by
  unfold clerestorylaw2_twice_j1 at h
  refine Sv.ret ?_
  replace h := Option.some.inj h
  subst h
  exact ⟨_, .refl _, _, rfl, ⟨upd (fun _ => none) 0 (some (B v0)), (fun _ => none), 0⟩, (B v0), weak_canon [] rfl List.nodup_nil (Nat.le_refl _) (fun b h => absurd h (Nat.not_lt_zero _)) (.cons rfl (avAs_free rfl) .nil) .nil, rfl, rfl, rfl, rfl⟩
/-- clerestory/clerestorylaw2.twice -/
noncomputable def clerestorylaw2_twice : Option Bool :=
  (calc_Read [99, 97, 108, 99, 40, 49, 112, 120, 32, 42, 32, 50, 41]).bind fun r_ =>
  if decide (r_.2 = 0) then
    (calc_Text r_.1).bind fun r_1 =>
    clerestorylaw2_twice_j1 (decide (r_1 = [40, 49, 112, 120, 32, 42, 32, 50, 41]))
  else
    clerestorylaw2_twice_j1 false
theorem clerestorylaw2_twice_ok {mL : Int} {r : Bool} (h : clerestorylaw2_twice = some r) : CPure Tryd.prog (GG mL) 4 [] (B r) := by
  refine acalls_of_sv hmix c4 (R := clerestorylaw2_twice_post r) ?_
  unfold clerestorylaw2_twice at h
  refine Sv.seq ?_
  refine Sv.region ?_
  refine un (a1 rfl ?_)
  refine dnil ?_
  refine Sv.seq ?_
  refine Sv.region ?_
  obtain ⟨r_, hr1, h⟩ := bnd h
  refine un (ac_pure (calc_Read_ok hr1) rfl rfl rfl ?_)
  refine un (a1 rfl ?_)
  refine un (a1 (v := (.agg [cI r_.1.Kind, cI r_.1.Dim.Num, .str r_.1.Dim.Unit, .ro false 4 (r_.1.Subs.map eRaw)])) rfl ?_)
  refine un (a1 (v := (I r_.2)) rfl ?_)
  refine un (a2v (v := (.c (.ref 0 4 0 0))) (h' := upd _ 0 (some (.cells 4 [[cI 0, cI 0, .str [], .ro true 4 []]]))) (n' := 1) rfl rfl (fun h => by cases h) ?_)
  refine un (a2n (h' := upd _ 0 (some (.cells 4 [[cI r_.1.Kind, cI r_.1.Dim.Num, .str r_.1.Dim.Unit, .ro false 4 (r_.1.Subs.map eRaw)]]))) (n' := 1) rfl rfl (fun h => by cases h) ?_)
  refine un (a1 rfl ?_)
  refine dnil ?_
  refine Sv.seq ?_
  refine Sv.region ?_
  refine un (a1 rfl ?_)
  refine un (a1 (v := (B (decide (r_.2 = 0)))) rfl ?_)
  refine un (a1 rfl ?_)
  refine split2 (fun hc1 => ?_) (fun hc1 => ?_)
  · replace h := ifT hc1 h
    refine gt rfl (a1 (v := (.agg [cI r_.1.Kind, cI r_.1.Dim.Num, .str r_.1.Dim.Unit, .ro false 4 (r_.1.Subs.map eRaw)])) rfl ?_)
    obtain ⟨r_1, hr2, h⟩ := bnd h
    refine gt rfl (ac_pure (calc_Text_ok hr2) rfl rfl rfl ?_)
    refine gt rfl (a1 (v := (B (decide (r_1 = [40, 49, 112, 120, 32, 42, 32, 50, 41])))) rfl ?_)
    refine un (a1 (v := (B (decide (r_1 = [40, 49, 112, 120, 32, 42, 32, 50, 41])))) rfl ?_)
    refine un (a1 rfl ?_)
    refine dnil ?_
    exact Sv.weak (weak_canon [] rfl (by decide) (by decide) (fun b h => absurd h (Nat.not_lt_zero _)) (.cons rfl (avAs_free rfl) .nil) .nil) (clerestorylaw2_twice_j1_ok h)
  · replace h := ifF hc1 h
    refine gs rfl rfl ?_
    refine gs rfl rfl ?_
    refine gs rfl rfl ?_
    refine un (a1 (v := (B false)) rfl ?_)
    refine un (a1 rfl ?_)
    refine dnil ?_
    exact Sv.weak (weak_canon [] rfl (by decide) (by decide) (fun b h => absurd h (Nat.not_lt_zero _)) (.cons rfl (avAs_free rfl) .nil) .nil) (clerestorylaw2_twice_j1_ok h)
def a9 : AFunc := ⟨1, [(.tmp 2)], (.seq (.region [⟨(some 1), (.box (.tmp 0)), none⟩, ⟨(some 2), (.mov (.const (.c (.val (.bool false))))), none⟩])
 (.seq (.region [⟨(some 4), (.faddr 3 (.tmp 1)), none⟩, ⟨(some 5), (.load false 1 (.tmp 4)), none⟩, ⟨(some 6), (.len (.tmp 5)), none⟩, ⟨(some 3), (.mov (.tmp 6)), none⟩])
 (.seq (.seq (.region [⟨(some 7), (.faddr 0 (.tmp 1)), none⟩, ⟨(some 8), (.load false 1 (.tmp 7)), none⟩, ⟨(some 9), (.bin .eql (.tmp 8) (.const (.c (.val (.int .i64 1))))), none⟩])
 (.cond (.tmp 9) (.seq (.region [⟨(some 10), (.mov (.tmp 3)), none⟩, ⟨(some 11), (.bin .eql (.tmp 10) (.const (.c (.val (.int .i64 0))))), none⟩, ⟨(some 2), (.mov (.tmp 11)), none⟩])
 .ret) .skip))
 (.seq (.seq (.region [⟨(some 12), (.faddr 0 (.tmp 1)), none⟩, ⟨(some 13), (.load false 1 (.tmp 12)), none⟩, ⟨(some 14), (.bin .geq (.tmp 13) (.const (.c (.val (.int .i64 2))))), none⟩, ⟨(some 15), (.mov (.tmp 14)), none⟩, ⟨(some 16), (.faddr 0 (.tmp 1)), (some (15, true))⟩, ⟨(some 17), (.load false 1 (.tmp 16)), (some (15, true))⟩, ⟨(some 18), (.bin .leq (.tmp 17) (.const (.c (.val (.int .i64 5))))), (some (15, true))⟩, ⟨(some 19), (.pick (.tmp 15) (.tmp 18) (.const (.c (.val (.bool false))))), none⟩])
 (.cond (.tmp 19) (.seq (.region [⟨(some 20), (.mov (.tmp 3)), none⟩, ⟨(some 21), (.bin .eql (.tmp 20) (.const (.c (.val (.int .i64 2))))), none⟩, ⟨(some 2), (.mov (.tmp 21)), none⟩])
 .ret) .skip))
 (.seq (.seq (.region [⟨(some 22), (.faddr 0 (.tmp 1)), none⟩, ⟨(some 23), (.load false 1 (.tmp 22)), none⟩, ⟨(some 24), (.bin .eql (.tmp 23) (.const (.c (.val (.int .i64 6))))), none⟩, ⟨(some 25), (.mov (.tmp 24)), none⟩, ⟨(some 26), (.faddr 0 (.tmp 1)), (some (25, false))⟩, ⟨(some 27), (.load false 1 (.tmp 26)), (some (25, false))⟩, ⟨(some 28), (.bin .eql (.tmp 27) (.const (.c (.val (.int .i64 7))))), (some (25, false))⟩, ⟨(some 29), (.pick (.tmp 25) (.const (.c (.val (.bool true)))) (.tmp 28)), none⟩])
 (.cond (.tmp 29) (.seq (.region [⟨(some 30), (.mov (.tmp 3)), none⟩, ⟨(some 31), (.bin .geq (.tmp 30) (.const (.c (.val (.int .i64 1))))), none⟩, ⟨(some 2), (.mov (.tmp 31)), none⟩])
 .ret) .skip))
 (.seq (.region [⟨(some 32), (.faddr 0 (.tmp 1)), none⟩, ⟨(some 33), (.load false 1 (.tmp 32)), none⟩, ⟨(some 34), (.bin .eql (.tmp 33) (.const (.c (.val (.int .i64 8))))), none⟩, ⟨(some 35), (.mov (.tmp 34)), none⟩, ⟨(some 36), (.mov (.tmp 3)), (some (35, true))⟩, ⟨(some 37), (.bin .eql (.tmp 36) (.const (.c (.val (.int .i64 3))))), (some (35, true))⟩, ⟨(some 38), (.pick (.tmp 35) (.tmp 37) (.const (.c (.val (.bool false))))), none⟩, ⟨(some 2), (.mov (.tmp 38)), none⟩])
 .ret))))))⟩
set_option maxRecDepth 100000 in
theorem c9 : compFunc Tryd.prog 9 = some a9 := by kernel_rfl
def clerestoryref2_TermMay_post (r : Bool) : AV → Heap → Nat → Prop := fun v h' n' => v = (B r) ∧ (h' = (fun _ => none)) ∧ n' = 0
/-- clerestory/clerestoryref2.TermMay -/
def clerestoryref2_TermMay (t_ : TSTerm) : Bool :=
  if decide (t_.Kind = 1) then
    decide ((t_.Subs.length : Int) = 0)
  else
    if ((decide (2 ≤ t_.Kind)) && (decide (t_.Kind ≤ 5))) then
      decide ((t_.Subs.length : Int) = 2)
    else
      if ((decide (t_.Kind = 6)) || (decide (t_.Kind = 7))) then
        decide (1 ≤ (t_.Subs.length : Int))
      else
        ((decide (t_.Kind = 8)) && (decide ((t_.Subs.length : Int) = 3)))
theorem clerestoryref2_TermMay_ok {mL : Int} (t_ : TSTerm) : CPure Tryd.prog (GG mL) 9 [(.agg [cI t_.Kind, cI t_.Dim.Num, .str t_.Dim.Unit, .ro false 4 (t_.Subs.map eRaw)])] (B (clerestoryref2_TermMay t_)) := by
  generalize h : clerestoryref2_TermMay t_ = o
  refine acalls_of_sv hmix c9 (R := clerestoryref2_TermMay_post o) ?_
  unfold clerestoryref2_TermMay at h
  refine Sv.seq ?_
  refine Sv.region ?_
  refine un (a2v (v := (.c (.ref 0 4 0 0))) (h' := upd _ 0 (some (.cells 4 [[cI t_.Kind, cI t_.Dim.Num, .str t_.Dim.Unit, .ro false 4 (t_.Subs.map eRaw)]]))) (n' := 1) rfl rfl (fun h => by cases h) ?_)
  refine un (a1 rfl ?_)
  refine dnil ?_
  refine Sv.seq ?_
  refine Sv.region ?_
  refine un (a1 (v := (.c (.ref 0 4 0 3))) rfl ?_)
  refine un (a1 (v := (.c (.ro false 4 (t_.Subs.map eRaw)))) rfl ?_)
  refine un (a1 (v := (I (t_.Subs.length : Int))) (s_len (e := eRaw) (xs := t_.Subs) rfl) ?_)
  refine un (a1 rfl ?_)
  refine dnil ?_
  refine Sv.seq ?_
  refine Sv.seq ?_
  refine Sv.region ?_
  refine un (a1 (v := (.c (.ref 0 4 0 0))) rfl ?_)
  refine un (a1 (v := (I t_.Kind)) rfl ?_)
  refine un (a1 (v := (B (decide (t_.Kind = 1)))) rfl ?_)
  refine dnil ?_
  refine Sv.cond (b := decide (t_.Kind = 1)) rfl (fun hc1 => ?_) (fun hc1 => ?_)
  · replace h := ifT hc1 h
    refine Sv.seq ?_
    refine Sv.region ?_
    refine un (a1 rfl ?_)
    refine un (a1 (v := (B (decide ((t_.Subs.length : Int) = 0)))) rfl ?_)
    refine un (a1 rfl ?_)
    refine dnil ?_
    refine Sv.ret ?_
    subst h
    exact ⟨_, .refl _, _, rfl, ⟨upd (fun _ => none) 0 (some (B (decide ((t_.Subs.length : Int) = 0)))), (fun _ => none), 0⟩, (B (decide ((t_.Subs.length : Int) = 0))), weak_canon [] rfl List.nodup_nil (Nat.le_refl _) (fun b h => absurd h (Nat.not_lt_zero _)) (.cons rfl (avAs_free rfl) .nil) .nil, rfl, rfl, rfl, rfl⟩
  · replace h := ifF hc1 h
    refine Sv.skip ?_
    refine Sv.seq ?_
    refine Sv.seq ?_
    refine Sv.region ?_
    refine un (a1 (v := (.c (.ref 0 4 0 0))) rfl ?_)
    refine un (a1 (v := (I t_.Kind)) rfl ?_)
    refine un (a1 (v := (B (decide (2 ≤ t_.Kind)))) rfl ?_)
    refine un (a1 rfl ?_)
    refine gjoin 4 (d := 19) (v := (B ((decide (2 ≤ t_.Kind)) && (decide (t_.Kind ≤ 5))))) (fun X hX => ?_) ?_
    · refine split2 (fun hc2 => ?_) (fun hc2 => ?_)
      · refine gt rfl (a1 (v := (.c (.ref 0 4 0 0))) rfl ?_)
        refine gt rfl (a1 (v := (I t_.Kind)) rfl ?_)
        refine gt rfl (a1 (v := (B (decide (t_.Kind ≤ 5)))) rfl ?_)
        refine un (a1 (v := (B (decide (t_.Kind ≤ 5)))) rfl ?_)
        refine dnil ?_
        exact hX _ (.putEq (by rw [hc2]; rfl) (.skip _ _ (.skip _ _ (.skip _ _ (.putEq (by rw [hc2]) (.refl _)) rfl) rfl) rfl))
      · refine gs rfl rfl ?_
        refine gs rfl rfl ?_
        refine gs rfl rfl ?_
        refine un (a1 (v := (B false)) rfl ?_)
        refine dnil ?_
        exact hX _ (.putEq (by rw [hc2]; rfl) (.skip _ _ (.skip _ _ (.skip _ _ (.putEq (by rw [hc2]) (.refl _)) rfl) rfl) rfl))
    refine dnil ?_
    refine Sv.cond (b := ((decide (2 ≤ t_.Kind)) && (decide (t_.Kind ≤ 5)))) rfl (fun hc3 => ?_) (fun hc3 => ?_)
    · replace h := ifT hc3 h
      refine Sv.seq ?_
      refine Sv.region ?_
      refine un (a1 rfl ?_)
      refine un (a1 (v := (B (decide ((t_.Subs.length : Int) = 2)))) rfl ?_)
      refine un (a1 rfl ?_)
      refine dnil ?_
      refine Sv.ret ?_
      subst h
      exact ⟨_, .refl _, _, rfl, ⟨upd (fun _ => none) 0 (some (B (decide ((t_.Subs.length : Int) = 2)))), (fun _ => none), 0⟩, (B (decide ((t_.Subs.length : Int) = 2))), weak_canon [] rfl List.nodup_nil (Nat.le_refl _) (fun b h => absurd h (Nat.not_lt_zero _)) (.cons rfl (avAs_free rfl) .nil) .nil, rfl, rfl, rfl, rfl⟩
    · replace h := ifF hc3 h
      refine Sv.skip ?_
      refine Sv.seq ?_
      refine Sv.seq ?_
      refine Sv.region ?_
      refine un (a1 (v := (.c (.ref 0 4 0 0))) rfl ?_)
      refine un (a1 (v := (I t_.Kind)) rfl ?_)
      refine un (a1 (v := (B (decide (t_.Kind = 6)))) rfl ?_)
      refine un (a1 rfl ?_)
      refine gjoin 4 (d := 29) (v := (B ((decide (t_.Kind = 6)) || (decide (t_.Kind = 7))))) (fun X hX => ?_) ?_
      · refine split2 (fun hc4 => ?_) (fun hc4 => ?_)
        · refine gs rfl rfl ?_
          refine gs rfl rfl ?_
          refine gs rfl rfl ?_
          refine un (a1 (v := (B true)) rfl ?_)
          refine dnil ?_
          exact hX _ (.putEq (by rw [hc4]; rfl) (.skip _ _ (.skip _ _ (.skip _ _ (.putEq (by rw [hc4]) (.refl _)) rfl) rfl) rfl))
        · refine gt rfl (a1 (v := (.c (.ref 0 4 0 0))) rfl ?_)
          refine gt rfl (a1 (v := (I t_.Kind)) rfl ?_)
          refine gt rfl (a1 (v := (B (decide (t_.Kind = 7)))) rfl ?_)
          refine un (a1 (v := (B (decide (t_.Kind = 7)))) rfl ?_)
          refine dnil ?_
          exact hX _ (.putEq (by rw [hc4]; rfl) (.skip _ _ (.skip _ _ (.skip _ _ (.putEq (by rw [hc4]) (.refl _)) rfl) rfl) rfl))
      refine dnil ?_
      refine Sv.cond (b := ((decide (t_.Kind = 6)) || (decide (t_.Kind = 7)))) rfl (fun hc5 => ?_) (fun hc5 => ?_)
      · replace h := ifT hc5 h
        refine Sv.seq ?_
        refine Sv.region ?_
        refine un (a1 rfl ?_)
        refine un (a1 (v := (B (decide (1 ≤ (t_.Subs.length : Int))))) rfl ?_)
        refine un (a1 rfl ?_)
        refine dnil ?_
        refine Sv.ret ?_
        subst h
        exact ⟨_, .refl _, _, rfl, ⟨upd (fun _ => none) 0 (some (B (decide (1 ≤ (t_.Subs.length : Int))))), (fun _ => none), 0⟩, (B (decide (1 ≤ (t_.Subs.length : Int)))), weak_canon [] rfl List.nodup_nil (Nat.le_refl _) (fun b h => absurd h (Nat.not_lt_zero _)) (.cons rfl (avAs_free rfl) .nil) .nil, rfl, rfl, rfl, rfl⟩
      · replace h := ifF hc5 h
        refine Sv.skip ?_
        refine Sv.seq ?_
        refine Sv.region ?_
        refine un (a1 (v := (.c (.ref 0 4 0 0))) rfl ?_)
        refine un (a1 (v := (I t_.Kind)) rfl ?_)
        refine un (a1 (v := (B (decide (t_.Kind = 8)))) rfl ?_)
        refine un (a1 rfl ?_)
        refine gjoin 3 (d := 38) (v := (B ((decide (t_.Kind = 8)) && (decide ((t_.Subs.length : Int) = 3))))) (fun X hX => ?_) ?_
        · refine split2 (fun hc6 => ?_) (fun hc6 => ?_)
          · refine gt rfl (a1 rfl ?_)
            refine gt rfl (a1 (v := (B (decide ((t_.Subs.length : Int) = 3)))) rfl ?_)
            refine un (a1 (v := (B (decide ((t_.Subs.length : Int) = 3)))) rfl ?_)
            refine dnil ?_
            exact hX _ (.putEq (by rw [hc6]; rfl) (.skip _ _ (.skip _ _ (.putEq (by rw [hc6]) (.refl _)) rfl) rfl))
          · refine gs rfl rfl ?_
            refine gs rfl rfl ?_
            refine un (a1 (v := (B false)) rfl ?_)
            refine dnil ?_
            exact hX _ (.putEq (by rw [hc6]; rfl) (.skip _ _ (.skip _ _ (.putEq (by rw [hc6]) (.refl _)) rfl) rfl))
        refine un (a1 rfl ?_)
        refine dnil ?_
        refine Sv.ret ?_
        subst h
        exact ⟨_, .refl _, _, rfl, ⟨upd (fun _ => none) 0 (some (B ((decide (t_.Kind = 8)) && (decide ((t_.Subs.length : Int) = 3))))), (fun _ => none), 0⟩, (B ((decide (t_.Kind = 8)) && (decide ((t_.Subs.length : Int) = 3)))), weak_canon [] rfl List.nodup_nil (Nat.le_refl _) (fun b h => absurd h (Nat.not_lt_zero _)) (.cons rfl (avAs_free rfl) .nil) .nil, rfl, rfl, rfl, rfl⟩
def a5_c0 : ACode := (.seq (.seq (.region [⟨(some 8), (.mov (.tmp 4)), none⟩, ⟨(some 9), (.faddr 3 (.tmp 1)), none⟩, ⟨(some 10), (.load false 1 (.tmp 9)), none⟩, ⟨(some 11), (.len (.tmp 10)), none⟩, ⟨(some 12), (.bin .lss (.tmp 8) (.tmp 11)), none⟩, ⟨(some 13), (.mov (.tmp 12)), none⟩, ⟨(some 14), (.mov (.tmp 3)), (some (13, true))⟩, ⟨(some 15), (.bin .leq (.tmp 14) (.const (.c (.val (.int .i64 30))))), (some (13, true))⟩, ⟨(some 16), (.pick (.tmp 13) (.tmp 15) (.const (.c (.val (.bool false))))), none⟩])
 (.cond (.tmp 16) .skip (.exit 0)))
 (.seq (.block 1 (.region [⟨(some 19), (.mov (.tmp 3)), none⟩, ⟨(some 20), (.faddr 3 (.tmp 1)), none⟩, ⟨(some 21), (.load false 1 (.tmp 20)), none⟩, ⟨(some 22), (.mov (.tmp 4)), none⟩, ⟨(some 23), (.iaddr 4 (.tmp 21) (.tmp 22)), none⟩, ⟨(some 24), (.load true 4 (.tmp 23)), none⟩, ⟨(some 25), (.call 5 [(.tmp 24)]), none⟩, ⟨(some 26), (.bin .add (.tmp 19) (.tmp 25)), none⟩, ⟨(some 3), (.mov (.tmp 26)), none⟩]))
 (.region [⟨(some 17), (.mov (.tmp 4)), none⟩, ⟨(some 18), (.bin .add (.tmp 17) (.const (.c (.val (.int .i64 1))))), none⟩, ⟨(some 4), (.mov (.tmp 18)), none⟩])))
def a5 : AFunc := ⟨1, [(.tmp 2)], (.seq (.region [⟨(some 1), (.box (.tmp 0)), none⟩, ⟨(some 2), (.mov (.const (.c (.val (.int .i64 0))))), none⟩])
 (.seq (.seq (.region [⟨(some 5), (.load true 4 (.tmp 1)), none⟩, ⟨(some 6), (.call 9 [(.tmp 5)]), none⟩, ⟨(some 7), (.un .not (.tmp 6)), none⟩])
 (.cond (.tmp 7) (.seq (.region [⟨(some 2), (.mov (.const (.c (.val (.int .i64 31))))), none⟩])
 .ret) .skip))
 (.seq (.region [⟨(some 3), (.mov (.const (.c (.val (.int .i64 1))))), none⟩])
 (.seq (.seq (.region [⟨(some 4), (.mov (.const (.c (.val (.int .i64 0))))), none⟩])
 (.block 0 (.loop a5_c0)))
 (.seq (.region [⟨(some 27), (.mov (.tmp 3)), none⟩, ⟨(some 2), (.mov (.tmp 27)), none⟩])
 .ret)))))⟩
set_option maxRecDepth 100000 in
theorem c5 : compFunc Tryd.prog 5 = some a5 := by kernel_rfl
def clerestoryref2_TermCount_post (r : Int) : AV → Heap → Nat → Prop := fun v h' n' => v = (I r) ∧ (h' = (fun _ => none)) ∧ n' = 0
def clerestoryref2_TermCount_Rec (mL : Int) (recf : TSTerm → Option Int) : Prop := ∀ (t_ : TSTerm) (r : Int), recf t_ = some r → CPure Tryd.prog (GG mL) 5 [(.agg [cI t_.Kind, cI t_.Dim.Num, .str t_.Dim.Unit, .ro false 4 (t_.Subs.map eRaw)])] (I r)
abbrev clerestoryref2_TermCount_l0_E0 (F_ : Int → Option Int) (o : Int) (R_ : St → Prop) : Prop := ∀ (n_1 : Int), F_ n_1 = some o → ∀ s, Weak 0 s ⟨(upd (fun _ => none) 3 (some (I n_1))), (fun _ => none), 0⟩ → R_ s
abbrev clerestoryref2_TermCount_l0_I (t_ : TSTerm) (F_ : Nat → Int → Int → Option Int) (o : Int) : Nat → St → Prop := fun k s => ∃ (n_ : Int), ∃ (i_ : Int), F_ k n_ i_ = some o ∧ s = ⟨(upd (upd (upd (fun _ => none) 1 (some (.c (.ref 0 4 0 0)))) 3 (some (I n_))) 4 (some (I i_))), (upd (fun _ => none) 0 (some (.cells 4 [[cI t_.Kind, cI t_.Dim.Num, .str t_.Dim.Unit, .ro false 4 (t_.Subs.map eRaw)]]))), 1⟩
abbrev clerestoryref2_TermCount_l0_H (t_ : TSTerm) (F_ : Int → Int → Option Int) (o : Int) (R_ : St → Prop) : Prop := ∀ (n_ : Int) (i_ : Int), F_ n_ i_ = some o → ∀ s, Weak 0 s ⟨(upd (upd (upd (fun _ => none) 1 (some (.c (.ref 0 4 0 0)))) 3 (some (I n_))) 4 (some (I i_))), (upd (fun _ => none) 0 (some (.cells 4 [[cI t_.Kind, cI t_.Dim.Num, .str t_.Dim.Unit, .ro false 4 (t_.Subs.map eRaw)]]))), 1⟩ → R_ s
noncomputable def clerestoryref2_TermCount_l0 (t_ : TSTerm) (recf : TSTerm → Option Int) (K0_ : Int → Option Int) : Nat → Int → Int → Option Int
  | 0, _, _ => none
  | k + 1, n_, i_ =>
    if ((decide (i_ < (t_.Subs.length : Int))) && (decide (n_ ≤ 30))) then
      (at? t_.Subs i_).bind fun r_ =>
      (d_TSTerm r_.c).bind fun x_ =>
      (recf x_).bind fun r_1 =>
      (clerestoryref2_TermCount_l0 t_ recf K0_ k) (wi (n_ + r_1)) (wi (i_ + 1))
    else
      K0_ n_
theorem clerestoryref2_TermCount_l0_ok {mL : Int} {Q : AExit → St → Prop} {t_ : TSTerm} {recf : TSTerm → Option Int} {K0_ : Int → Option Int} {k : Nat} {n_ : Int} {i_ : Int} {o : Int} (h : clerestoryref2_TermCount_l0 t_ recf K0_ k n_ i_ = some o)
    (hK0 : clerestoryref2_TermCount_l0_E0 K0_ o (Q (.exit 0)))
    (hr : ∀ s, Ends a5.results 0 (clerestoryref2_TermCount_post o) .ret s → Q .ret s)
    (hrec : clerestoryref2_TermCount_Rec mL recf) :
    Sv Tryd.prog (GG mL) 0 (.loop a5_c0) Q ⟨(upd (upd (upd (fun _ => none) 1 (some (.c (.ref 0 4 0 0)))) 3 (some (I n_))) 4 (some (I i_))), (upd (fun _ => none) 0 (some (.cells 4 [[cI t_.Kind, cI t_.Dim.Num, .str t_.Dim.Unit, .ro false 4 (t_.Subs.map eRaw)]]))), 1⟩ := by
  refine Sv.loop (I := clerestoryref2_TermCount_l0_I t_ (clerestoryref2_TermCount_l0 t_ recf K0_) o) (fun k s hI => ?_) ⟨n_, i_, h, rfl⟩
  clear h
  clear i_ n_
  obtain ⟨n_, i_, h, rfl⟩ := hI
  cases k with
  | zero => cases h
  | succ k =>
  rw [clerestoryref2_TermCount_l0] at h
  have hself : clerestoryref2_TermCount_l0_H t_ (clerestoryref2_TermCount_l0 t_ recf K0_ k) o (rnd 0 (clerestoryref2_TermCount_l0_I t_ (clerestoryref2_TermCount_l0 t_ recf K0_) o) k Q) := fun n_ i_ h s hw => ⟨_, k, hw, Nat.lt_succ_self k, n_, i_, h, rfl⟩
  refine Sv.seq ?_
  refine Sv.seq ?_
  refine Sv.region ?_
  refine un (a1 rfl ?_)
  refine un (a1 (v := (.c (.ref 0 4 0 3))) rfl ?_)
  refine un (a1 (v := (.c (.ro false 4 (t_.Subs.map eRaw)))) rfl ?_)
  refine un (a1 (v := (I (t_.Subs.length : Int))) (s_len (e := eRaw) (xs := t_.Subs) rfl) ?_)
  refine un (a1 (v := (B (decide (i_ < (t_.Subs.length : Int))))) rfl ?_)
  refine un (a1 rfl ?_)
  refine gjoin 3 (d := 16) (v := (B ((decide (i_ < (t_.Subs.length : Int))) && (decide (n_ ≤ 30))))) (fun X hX => ?_) ?_
  · refine split2 (fun hc2 => ?_) (fun hc2 => ?_)
    · refine gt rfl (a1 rfl ?_)
      refine gt rfl (a1 (v := (B (decide (n_ ≤ 30)))) rfl ?_)
      refine un (a1 (v := (B (decide (n_ ≤ 30)))) rfl ?_)
      refine dnil ?_
      exact hX _ (.putEq (by rw [hc2]; rfl) (.skip _ _ (.skip _ _ (.putEq (by rw [hc2]) (.refl _)) rfl) rfl))
    · refine gs rfl rfl ?_
      refine gs rfl rfl ?_
      refine un (a1 (v := (B false)) rfl ?_)
      refine dnil ?_
      exact hX _ (.putEq (by rw [hc2]; rfl) (.skip _ _ (.skip _ _ (.putEq (by rw [hc2]) (.refl _)) rfl) rfl))
  refine dnil ?_
  refine Sv.cond (b := ((decide (i_ < (t_.Subs.length : Int))) && (decide (n_ ≤ 30)))) rfl (fun hc3 => ?_) (fun hc3 => ?_)
  · replace h := ifT hc3 h
    refine Sv.skip ?_
    refine Sv.seq ?_
    refine Sv.block ?_
    refine Sv.region ?_
    refine un (a1 rfl ?_)
    refine un (a1 (v := (.c (.ref 0 4 0 3))) rfl ?_)
    refine un (a1 (v := (.c (.ro false 4 (t_.Subs.map eRaw)))) rfl ?_)
    refine un (a1 rfl ?_)
    obtain ⟨r_, hr1, h⟩ := bnd h
    obtain ⟨x_, hd, h⟩ := bnd h
    have hx1 : at? t_.Subs i_ = some (⟨e_TSTerm x_, rfl⟩ : Raw) := by rw [hr1, raw_eq rfl (d_TSTerm_s hd)]
    refine un (a1 (v := (.c (.rop [cI x_.Kind, cI x_.Dim.Num, .str x_.Dim.Unit, .ro false 4 (x_.Subs.map eRaw)]))) (s_iaddr (e := eRaw) (xs := t_.Subs) rfl rfl hx1) ?_)
    refine un (a1 (v := (.agg [cI x_.Kind, cI x_.Dim.Num, .str x_.Dim.Unit, .ro false 4 (x_.Subs.map eRaw)])) rfl ?_)
    obtain ⟨r_1, hr2, h⟩ := bnd h
    refine un (ac_pure (hrec x_ _ hr2) rfl rfl rfl ?_)
    refine un (a1 (v := (I (wi (n_ + r_1)))) rfl ?_)
    refine un (a1 rfl ?_)
    refine dnil ?_
    refine Sv.region ?_
    refine un (a1 rfl ?_)
    refine un (a1 (v := (I (wi (i_ + 1)))) rfl ?_)
    refine un (a1 rfl ?_)
    refine dnil ?_
    exact hself (wi (n_ + r_1)) (wi (i_ + 1)) h _ (weak_canon [0] rfl (by decide) (by decide) (fun b h => absurd h (Nat.not_lt_zero _)) (.cons rfl (avAs_free rfl) (.cons rfl (avAs_free rfl) (.cons rfl (.c (.ref rfl (by decide))) .nil))) (.box (by decide) rfl (blkAs_cells (.cons (.same rfl) (.cons (.same rfl) (.cons (.same rfl) (.cons (.same rfl) .nil))))) .nil))
  · replace h := ifF hc3 h
    refine Sv.exit ?_
    exact hK0 n_ h _ (weak_canon [] rfl (by decide) (by decide) (fun b h => absurd h (Nat.not_lt_zero _)) (.cons rfl (avAs_free rfl) .nil) .nil)
/-- clerestory/clerestoryref2.TermCount -/
noncomputable def clerestoryref2_TermCount_r : Nat → TSTerm → Option Int
  | 0, _ => none
  | k + 1, t_ =>
    if (!(clerestoryref2_TermMay t_)) then
      some 31
    else
      lim fun kk => clerestoryref2_TermCount_l0 t_ (clerestoryref2_TermCount_r k) (fun (n_1 : Int) => 
          some n_1) kk 1 0
noncomputable def clerestoryref2_TermCount (t_ : TSTerm) : Option Int :=
  lim fun kr => clerestoryref2_TermCount_r kr t_
theorem clerestoryref2_TermCount_r_ok {mL : Int} (k : Nat) : clerestoryref2_TermCount_Rec mL (clerestoryref2_TermCount_r k) := by
  induction k with
  | zero => intro t_ r h; cases h
  | succ k hrec =>
  intro t_ r h
  refine acalls_of_sv hmix c5 (R := clerestoryref2_TermCount_post r) ?_
  rw [clerestoryref2_TermCount_r] at h
  refine Sv.seq ?_
  refine Sv.region ?_
  refine un (a2v (v := (.c (.ref 0 4 0 0))) (h' := upd _ 0 (some (.cells 4 [[cI t_.Kind, cI t_.Dim.Num, .str t_.Dim.Unit, .ro false 4 (t_.Subs.map eRaw)]]))) (n' := 1) rfl rfl (fun h => by cases h) ?_)
  refine un (a1 rfl ?_)
  refine dnil ?_
  refine Sv.seq ?_
  refine Sv.seq ?_
  refine Sv.region ?_
  refine un (a1 (v := (.agg [cI t_.Kind, cI t_.Dim.Num, .str t_.Dim.Unit, .ro false 4 (t_.Subs.map eRaw)])) rfl ?_)
  refine un (ac_pure (clerestoryref2_TermMay_ok (mL := mL) t_) rfl rfl rfl ?_)
  refine un (a1 (v := (B (!(clerestoryref2_TermMay t_)))) rfl ?_)
  refine dnil ?_
  refine Sv.cond (b := (!(clerestoryref2_TermMay t_))) rfl (fun hc1 => ?_) (fun hc1 => ?_)
  · replace h := ifT hc1 h
    refine Sv.seq ?_
    refine Sv.region ?_
    refine un (a1 rfl ?_)
    refine dnil ?_
    refine Sv.ret ?_
    replace h := Option.some.inj h
    subst h
    exact ⟨_, .refl _, _, rfl, ⟨upd (fun _ => none) 0 (some (I 31)), (fun _ => none), 0⟩, (I 31), weak_canon [] rfl List.nodup_nil (Nat.le_refl _) (fun b h => absurd h (Nat.not_lt_zero _)) (.cons rfl (avAs_free rfl) .nil) .nil, rfl, rfl, rfl, rfl⟩
  · replace h := ifF hc1 h
    refine Sv.skip ?_
    refine Sv.seq ?_
    refine Sv.region ?_
    refine un (a1 rfl ?_)
    refine dnil ?_
    refine Sv.seq ?_
    refine Sv.seq ?_
    refine Sv.region ?_
    refine un (a1 rfl ?_)
    refine dnil ?_
    refine Sv.block ?_
    obtain ⟨kk, h⟩ := lim_some h
    refine Sv.weak (weak_canon [0] rfl (by decide) (by decide) (fun b h => absurd h (Nat.not_lt_zero _)) (.cons rfl (avAs_free rfl) (.cons rfl (avAs_free rfl) (.cons rfl (.c (.ref rfl (by decide))) .nil))) (.box (by decide) rfl (blkAs_cells (.cons (.same rfl) (.cons (.same rfl) (.cons (.same rfl) (.cons (.same rfl) .nil))))) .nil)) (clerestoryref2_TermCount_l0_ok h ?_ (fun s hs => hs) hrec)
    · intro n_1 h _ hw1
      refine Sv.weak hw1 ?_
      refine Sv.seq ?_
      refine Sv.region ?_
      refine un (a1 rfl ?_)
      refine un (a1 rfl ?_)
      refine dnil ?_
      refine Sv.ret ?_
      replace h := Option.some.inj h
      subst h
      exact ⟨_, .refl _, _, rfl, ⟨upd (fun _ => none) 0 (some (I n_1)), (fun _ => none), 0⟩, (I n_1), weak_canon [] rfl List.nodup_nil (Nat.le_refl _) (fun b h => absurd h (Nat.not_lt_zero _)) (.cons rfl (avAs_free rfl) .nil) .nil, rfl, rfl, rfl, rfl⟩
theorem clerestoryref2_TermCount_ok {mL : Int} {t_ : TSTerm} {r : Int} (h : clerestoryref2_TermCount t_ = some r) : CPure Tryd.prog (GG mL) 5 [(.agg [cI t_.Kind, cI t_.Dim.Num, .str t_.Dim.Unit, .ro false 4 (t_.Subs.map eRaw)])] (I r) := by
  unfold clerestoryref2_TermCount at h
  obtain ⟨k, h⟩ := lim_some h
  exact clerestoryref2_TermCount_r_ok k t_  r h
theorem clerestoryref2_TermCount_rec {mL : Int} : clerestoryref2_TermCount_Rec mL clerestoryref2_TermCount := fun t_ r h => clerestoryref2_TermCount_ok h
def a10_calc_shaped1_c1 : ACode := (.cond (.tmp 20) (.seq (.region [⟨(some 23), (.mov (.tmp 3)), none⟩, ⟨(some 24), (.bin .gtr (.tmp 23) (.const (.c (.val (.int .i64 0))))), none⟩, ⟨(some 2), (.mov (.tmp 24)), none⟩])
 .ret) (.seq (.region [⟨(some 26), (.bin .eql (.tmp 8) (.const (.c (.val (.int .i64 8))))), none⟩, ⟨(some 25), (.mov (.tmp 26)), none⟩])
 (.cond (.tmp 25) (.seq (.region [⟨(some 27), (.mov (.tmp 3)), none⟩, ⟨(some 28), (.bin .eql (.tmp 27) (.const (.c (.val (.int .i64 3))))), none⟩, ⟨(some 2), (.mov (.tmp 28)), none⟩])
 .ret) .skip)))
def a10_calc_shaped1_c0 : ACode := (.cond (.tmp 13) (.seq (.region [⟨(some 18), (.mov (.tmp 3)), none⟩, ⟨(some 19), (.bin .eql (.tmp 18) (.const (.c (.val (.int .i64 2))))), none⟩, ⟨(some 2), (.mov (.tmp 19)), none⟩])
 .ret) (.seq (.seq (.region [⟨(some 21), (.bin .eql (.tmp 8) (.const (.c (.val (.int .i64 6))))), none⟩, ⟨(some 20), (.mov (.tmp 21)), none⟩])
 (.cond (.tmp 20) .skip (.region [⟨(some 22), (.bin .eql (.tmp 8) (.const (.c (.val (.int .i64 7))))), none⟩, ⟨(some 20), (.mov (.tmp 22)), none⟩])))
 a10_calc_shaped1_c1))
def a10_calc_shaped1_c2 : ACode := (.seq (.region [⟨(some 2), (.mov (.const (.c (.val (.bool false))))), none⟩])
 .ret)
def calc_shaped1_post (r : Bool) : AV → Heap → Nat → Prop := fun v h' n' => v = (B r) ∧ (h' = (fun _ => none)) ∧ n' = 0
abbrev calc_shaped1_q0 (mL : Int) (o : Bool) : AExit → St → Prop := AThen (Sv Tryd.prog (GG mL) 0 a10_calc_shaped1_c2 (Ends a10.results 0 (calc_shaped1_post o))) (Ends a10.results 0 (calc_shaped1_post o))
abbrev calc_shaped1_q1 (mL : Int) (o : Bool) : AExit → St → Prop := ABlock 0 (calc_shaped1_q0 mL o)
def calc_shaped1_j2 (t_ : TSTerm) (v20 : Bool) : Bool :=
  if v20 then
    decide (0 < (t_.Subs.length : Int))
  else
    if decide (t_.Kind = 8) then
      decide ((t_.Subs.length : Int) = 3)
    else
      false
theorem calc_shaped1_j2_ok {mL : Int} {t_ : TSTerm} {v20 : Bool} {o : Bool} (h : calc_shaped1_j2 t_ v20 = o) :
    Sv Tryd.prog (GG mL) 0 a10_calc_shaped1_c1 (calc_shaped1_q1 mL o) ⟨(upd (upd (upd (fun _ => none) 3 (some (I (t_.Subs.length : Int)))) 8 (some (I t_.Kind))) 20 (some (B v20))), (fun _ => none), 0⟩ := by
  unfold calc_shaped1_j2 at h
  refine Sv.cond (b := v20) rfl (fun hc3 => ?_) (fun hc3 => ?_)
  · replace h := ifT hc3 h
    refine Sv.seq ?_
    refine Sv.region ?_
    refine un (a1 rfl ?_)
    refine un (a1 (v := (B (decide (0 < (t_.Subs.length : Int))))) rfl ?_)
    refine un (a1 rfl ?_)
    refine dnil ?_
    refine Sv.ret ?_
    subst h
    exact ⟨_, .refl _, _, rfl, ⟨upd (fun _ => none) 0 (some (B (decide (0 < (t_.Subs.length : Int))))), (fun _ => none), 0⟩, (B (decide (0 < (t_.Subs.length : Int)))), weak_canon [] rfl List.nodup_nil (Nat.le_refl _) (fun b h => absurd h (Nat.not_lt_zero _)) (.cons rfl (avAs_free rfl) .nil) .nil, rfl, rfl, rfl, rfl⟩
  · replace h := ifF hc3 h
    refine Sv.seq ?_
    refine Sv.region ?_
    refine un (a1 (v := (B (decide (t_.Kind = 8)))) rfl ?_)
    refine un (a1 rfl ?_)
    refine dnil ?_
    refine Sv.cond (b := decide (t_.Kind = 8)) rfl (fun hc4 => ?_) (fun hc4 => ?_)
    · replace h := ifT hc4 h
      refine Sv.seq ?_
      refine Sv.region ?_
      refine un (a1 rfl ?_)
      refine un (a1 (v := (B (decide ((t_.Subs.length : Int) = 3)))) rfl ?_)
      refine un (a1 rfl ?_)
      refine dnil ?_
      refine Sv.ret ?_
      subst h
      exact ⟨_, .refl _, _, rfl, ⟨upd (fun _ => none) 0 (some (B (decide ((t_.Subs.length : Int) = 3)))), (fun _ => none), 0⟩, (B (decide ((t_.Subs.length : Int) = 3))), weak_canon [] rfl List.nodup_nil (Nat.le_refl _) (fun b h => absurd h (Nat.not_lt_zero _)) (.cons rfl (avAs_free rfl) .nil) .nil, rfl, rfl, rfl, rfl⟩
    · replace h := ifF hc4 h
      refine Sv.skip ?_
      refine Sv.seq ?_
      refine Sv.region ?_
      refine un (a1 rfl ?_)
      refine dnil ?_
      refine Sv.ret ?_
      subst h
      exact ⟨_, .refl _, _, rfl, ⟨upd (fun _ => none) 0 (some (B false)), (fun _ => none), 0⟩, (B false), weak_canon [] rfl List.nodup_nil (Nat.le_refl _) (fun b h => absurd h (Nat.not_lt_zero _)) (.cons rfl (avAs_free rfl) .nil) .nil, rfl, rfl, rfl, rfl⟩
def calc_shaped1_j1 (t_ : TSTerm) (v13 : Bool) : Bool :=
  if v13 then
    decide ((t_.Subs.length : Int) = 2)
  else
    if decide (t_.Kind = 6) then
      calc_shaped1_j2 t_ (decide (t_.Kind = 6))
    else
      calc_shaped1_j2 t_ (decide (t_.Kind = 7))
theorem calc_shaped1_j1_ok {mL : Int} {t_ : TSTerm} {v13 : Bool} {o : Bool} (h : calc_shaped1_j1 t_ v13 = o) :
    Sv Tryd.prog (GG mL) 0 a10_calc_shaped1_c0 (calc_shaped1_q1 mL o) ⟨(upd (upd (upd (fun _ => none) 3 (some (I (t_.Subs.length : Int)))) 8 (some (I t_.Kind))) 13 (some (B v13))), (fun _ => none), 0⟩ := by
  unfold calc_shaped1_j1 at h
  refine Sv.cond (b := v13) rfl (fun hc2 => ?_) (fun hc2 => ?_)
  · replace h := ifT hc2 h
    refine Sv.seq ?_
    refine Sv.region ?_
    refine un (a1 rfl ?_)
    refine un (a1 (v := (B (decide ((t_.Subs.length : Int) = 2)))) rfl ?_)
    refine un (a1 rfl ?_)
    refine dnil ?_
    refine Sv.ret ?_
    subst h
    exact ⟨_, .refl _, _, rfl, ⟨upd (fun _ => none) 0 (some (B (decide ((t_.Subs.length : Int) = 2)))), (fun _ => none), 0⟩, (B (decide ((t_.Subs.length : Int) = 2))), weak_canon [] rfl List.nodup_nil (Nat.le_refl _) (fun b h => absurd h (Nat.not_lt_zero _)) (.cons rfl (avAs_free rfl) .nil) .nil, rfl, rfl, rfl, rfl⟩
  · replace h := ifF hc2 h
    refine Sv.seq ?_
    refine Sv.seq ?_
    refine Sv.region ?_
    refine un (a1 (v := (B (decide (t_.Kind = 6)))) rfl ?_)
    refine un (a1 rfl ?_)
    refine dnil ?_
    refine Sv.cond (b := decide (t_.Kind = 6)) rfl (fun hc5 => ?_) (fun hc5 => ?_)
    · replace h := ifT hc5 h
      refine Sv.skip ?_
      exact Sv.weak (weak_canon [] rfl (by decide) (by decide) (fun b h => absurd h (Nat.not_lt_zero _)) (.cons rfl (avAs_free rfl) (.cons rfl (avAs_free rfl) (.cons rfl (avAs_free rfl) .nil))) .nil) (calc_shaped1_j2_ok h)
    · replace h := ifF hc5 h
      refine Sv.region ?_
      refine un (a1 (v := (B (decide (t_.Kind = 7)))) rfl ?_)
      refine un (a1 rfl ?_)
      refine dnil ?_
      exact Sv.weak (weak_canon [] rfl (by decide) (by decide) (fun b h => absurd h (Nat.not_lt_zero _)) (.cons rfl (avAs_free rfl) (.cons rfl (avAs_free rfl) (.cons rfl (avAs_free rfl) .nil))) .nil) (calc_shaped1_j2_ok h)
/-- clerestory/calc.shaped -/
def calc_shaped1 (t_ : TSTerm) : Bool :=
  if decide (t_.Kind = 1) then
    decide ((t_.Subs.length : Int) = 0)
  else
    if decide (t_.Kind = 2) then
      calc_shaped1_j1 t_ (decide (t_.Kind = 2))
    else
      if decide (t_.Kind = 3) then
        calc_shaped1_j1 t_ (decide (t_.Kind = 3))
      else
        if decide (t_.Kind = 4) then
          calc_shaped1_j1 t_ (decide (t_.Kind = 4))
        else
          calc_shaped1_j1 t_ (decide (t_.Kind = 5))
theorem calc_shaped1_ok {mL : Int} (t_ : TSTerm) : CPure Tryd.prog (GG mL) 10 [(.agg [cI t_.Kind, cI t_.Dim.Num, .str t_.Dim.Unit, .ro false 4 (t_.Subs.map eRaw)])] (B (calc_shaped1 t_)) := by
  generalize h : calc_shaped1 t_ = o
  refine acalls_of_sv hmix c10 (R := calc_shaped1_post o) ?_
  unfold calc_shaped1 at h
  refine Sv.seq ?_
  refine Sv.region ?_
  refine un (a2v (v := (.c (.ref 0 4 0 0))) (h' := upd _ 0 (some (.cells 4 [[cI t_.Kind, cI t_.Dim.Num, .str t_.Dim.Unit, .ro false 4 (t_.Subs.map eRaw)]]))) (n' := 1) rfl rfl (fun h => by cases h) ?_)
  refine un (a1 rfl ?_)
  refine dnil ?_
  refine Sv.seq ?_
  refine Sv.region ?_
  refine un (a1 (v := (.c (.ref 0 4 0 3))) rfl ?_)
  refine un (a1 (v := (.c (.ro false 4 (t_.Subs.map eRaw)))) rfl ?_)
  refine un (a1 (v := (I (t_.Subs.length : Int))) (s_len (e := eRaw) (xs := t_.Subs) rfl) ?_)
  refine un (a1 rfl ?_)
  refine dnil ?_
  refine Sv.seq ?_
  refine Sv.seq ?_
  refine Sv.region ?_
  refine un (a1 (v := (.c (.ref 0 4 0 0))) rfl ?_)
  refine un (a1 (v := (I t_.Kind)) rfl ?_)
  refine dnil ?_
  refine Sv.block ?_
  refine Sv.seq ?_
  refine Sv.region ?_
  refine un (a1 (v := (B (decide (t_.Kind = 1)))) rfl ?_)
  refine un (a1 rfl ?_)
  refine dnil ?_
  refine Sv.cond (b := decide (t_.Kind = 1)) rfl (fun hc1 => ?_) (fun hc1 => ?_)
  · replace h := ifT hc1 h
    refine Sv.seq ?_
    refine Sv.region ?_
    refine un (a1 rfl ?_)
    refine un (a1 (v := (B (decide ((t_.Subs.length : Int) = 0)))) rfl ?_)
    refine un (a1 rfl ?_)
    refine dnil ?_
    refine Sv.ret ?_
    subst h
    exact ⟨_, .refl _, _, rfl, ⟨upd (fun _ => none) 0 (some (B (decide ((t_.Subs.length : Int) = 0)))), (fun _ => none), 0⟩, (B (decide ((t_.Subs.length : Int) = 0))), weak_canon [] rfl List.nodup_nil (Nat.le_refl _) (fun b h => absurd h (Nat.not_lt_zero _)) (.cons rfl (avAs_free rfl) .nil) .nil, rfl, rfl, rfl, rfl⟩
  · replace h := ifF hc1 h
    refine Sv.seq ?_
    refine Sv.seq ?_
    refine Sv.region ?_
    refine un (a1 (v := (B (decide (t_.Kind = 2)))) rfl ?_)
    refine un (a1 rfl ?_)
    refine dnil ?_
    refine Sv.cond (b := decide (t_.Kind = 2)) rfl (fun hc6 => ?_) (fun hc6 => ?_)
    · replace h := ifT hc6 h
      refine Sv.skip ?_
      exact Sv.weak (weak_canon [] rfl (by decide) (by decide) (fun b h => absurd h (Nat.not_lt_zero _)) (.cons rfl (avAs_free rfl) (.cons rfl (avAs_free rfl) (.cons rfl (avAs_free rfl) .nil))) .nil) (calc_shaped1_j1_ok h)
    · replace h := ifF hc6 h
      refine Sv.seq ?_
      refine Sv.region ?_
      refine un (a1 (v := (B (decide (t_.Kind = 3)))) rfl ?_)
      refine un (a1 rfl ?_)
      refine dnil ?_
      refine Sv.cond (b := decide (t_.Kind = 3)) rfl (fun hc7 => ?_) (fun hc7 => ?_)
      · replace h := ifT hc7 h
        refine Sv.skip ?_
        exact Sv.weak (weak_canon [] rfl (by decide) (by decide) (fun b h => absurd h (Nat.not_lt_zero _)) (.cons rfl (avAs_free rfl) (.cons rfl (avAs_free rfl) (.cons rfl (avAs_free rfl) .nil))) .nil) (calc_shaped1_j1_ok h)
      · replace h := ifF hc7 h
        refine Sv.seq ?_
        refine Sv.region ?_
        refine un (a1 (v := (B (decide (t_.Kind = 4)))) rfl ?_)
        refine un (a1 rfl ?_)
        refine dnil ?_
        refine Sv.cond (b := decide (t_.Kind = 4)) rfl (fun hc8 => ?_) (fun hc8 => ?_)
        · replace h := ifT hc8 h
          refine Sv.skip ?_
          exact Sv.weak (weak_canon [] rfl (by decide) (by decide) (fun b h => absurd h (Nat.not_lt_zero _)) (.cons rfl (avAs_free rfl) (.cons rfl (avAs_free rfl) (.cons rfl (avAs_free rfl) .nil))) .nil) (calc_shaped1_j1_ok h)
        · replace h := ifF hc8 h
          refine Sv.region ?_
          refine un (a1 (v := (B (decide (t_.Kind = 5)))) rfl ?_)
          refine un (a1 rfl ?_)
          refine dnil ?_
          exact Sv.weak (weak_canon [] rfl (by decide) (by decide) (fun b h => absurd h (Nat.not_lt_zero _)) (.cons rfl (avAs_free rfl) (.cons rfl (avAs_free rfl) (.cons rfl (avAs_free rfl) .nil))) .nil) (calc_shaped1_j1_ok h)
def a11_dim_Text1_c1 : ACode := (.seq (.region [⟨(some 32), (.mov (.tmp 5)), none⟩, ⟨(some 33), (.faddr 1 (.tmp 1)), none⟩, ⟨(some 34), (.load false 1 (.tmp 33)), none⟩, ⟨(some 35), (.bin .add (.tmp 32) (.tmp 34)), none⟩, ⟨(some 2), (.mov (.tmp 35)), none⟩])
 .ret)
def a11_dim_Text1_c0 : ACode := (.seq (.region [⟨(some 15), (.mov (.tmp 4)), none⟩, ⟨(some 16), (.mov (.tmp 3)), none⟩, ⟨(some 17), (.bin .quo (.tmp 16) (.const (.c (.val (.int .i64 1000))))), none⟩, ⟨(some 18), (.call 21 [(.tmp 17)]), none⟩, ⟨(some 19), (.bin .add (.tmp 15) (.tmp 18)), none⟩, ⟨(some 5), (.mov (.tmp 19)), none⟩])
 (.seq (.seq (.region [⟨(some 20), (.mov (.tmp 3)), none⟩, ⟨(some 21), (.bin .rem (.tmp 20) (.const (.c (.val (.int .i64 1000))))), none⟩, ⟨(some 22), (.bin .add (.const (.c (.val (.int .i64 1000)))) (.tmp 21)), none⟩, ⟨(some 23), (.call 21 [(.tmp 22)]), none⟩, ⟨(some 24), (.slStr (.tmp 23) (some (.const (.c (.val (.int .i64 1))))) none), none⟩, ⟨(some 25), (.call 22 [(.tmp 24), (.const (.c (.str [48])))]), none⟩, ⟨(some 6), (.mov (.tmp 25)), none⟩])
 (.seq (.region [⟨(some 26), (.mov (.tmp 6)), none⟩, ⟨(some 27), (.bin .neq (.tmp 26) (.const (.c (.str [])))), none⟩])
 (.cond (.tmp 27) (.region [⟨(some 28), (.mov (.tmp 5)), none⟩, ⟨(some 29), (.mov (.tmp 6)), none⟩, ⟨(some 30), (.bin .add (.const (.c (.str [46]))) (.tmp 29)), none⟩, ⟨(some 31), (.bin .add (.tmp 28) (.tmp 30)), none⟩, ⟨(some 5), (.mov (.tmp 31)), none⟩]) .skip)))
 a11_dim_Text1_c1))
def dim_Text1_post (r : (List UInt8)) : AV → Heap → Nat → Prop := fun v h' n' => v = (S r) ∧ (h' = (fun _ => none)) ∧ n' = 0
noncomputable def dim_Text1_j2 (d_ : TSDim) (s_ : (List UInt8)) : Option (List UInt8) :=
  (cat? s_ d_.Unit).bind fun r_2 =>
  some r_2
theorem dim_Text1_j2_ok {mL : Int} {d_ : TSDim} {s_ : (List UInt8)} {o : (List UInt8)} (h : dim_Text1_j2 d_ s_ = some o) :
    Sv Tryd.prog (GG mL) 0 a11_dim_Text1_c1 (Ends a11.results 0 (dim_Text1_post o)) ⟨(upd (upd (fun _ => none) 1 (some (.c (.ref 0 2 0 0)))) 5 (some (S s_))), (upd (fun _ => none) 0 (some (.cells 2 [[cI d_.Num, .str d_.Unit]]))), 1⟩ := by
  unfold dim_Text1_j2 at h
  refine Sv.seq ?_
  refine Sv.region ?_
  refine un (a1 rfl ?_)
  refine un (a1 (v := (.c (.ref 0 2 0 1))) rfl ?_)
  refine un (a1 (v := (S d_.Unit)) rfl ?_)
  obtain ⟨r_2, hx2, h⟩ := bnd h
  refine un (a1 (v := (S r_2)) (s_cat rfl rfl hx2) ?_)
  refine un (a1 rfl ?_)
  refine dnil ?_
  refine Sv.ret ?_
  replace h := Option.some.inj h
  subst h
  exact ⟨_, .refl _, _, rfl, ⟨upd (fun _ => none) 0 (some (S r_2)), (fun _ => none), 0⟩, (S r_2), weak_canon [] rfl List.nodup_nil (Nat.le_refl _) (fun b h => absurd h (Nat.not_lt_zero _)) (.cons rfl (avAs_free rfl) .nil) .nil, rfl, rfl, rfl, rfl⟩
noncomputable def dim_Text1_j1 (d_ : TSDim) (n_ : Int) (sign : (List UInt8)) : Option (List UInt8) :=
  (strconv_Itoa (wi (n_.tdiv 1000))).bind fun r_ =>
  (cat? sign r_).bind fun r_1 =>
  (strconv_Itoa (wi (1000 + (n_.tmod 1000)))).bind fun r_3 =>
  (sub? r_3 1 (r_3.length : Int)).bind fun r_4 =>
  (strings_TrimRight r_4 [48]).bind fun r_5 =>
  if (!decide (r_5 = [])) then
    (cat? [46] r_5).bind fun r_6 =>
    (cat? r_1 r_6).bind fun r_7 =>
    dim_Text1_j2 d_ r_7
  else
    dim_Text1_j2 d_ r_1
theorem dim_Text1_j1_ok {mL : Int} {d_ : TSDim} {n_ : Int} {sign : (List UInt8)} {o : (List UInt8)} (h : dim_Text1_j1 d_ n_ sign = some o) :
    Sv Tryd.prog (GG mL) 0 a11_dim_Text1_c0 (Ends a11.results 0 (dim_Text1_post o)) ⟨(upd (upd (upd (fun _ => none) 1 (some (.c (.ref 0 2 0 0)))) 3 (some (I n_))) 4 (some (S sign))), (upd (fun _ => none) 0 (some (.cells 2 [[cI d_.Num, .str d_.Unit]]))), 1⟩ := by
  unfold dim_Text1_j1 at h
  refine Sv.seq ?_
  refine Sv.region ?_
  refine un (a1 rfl ?_)
  refine un (a1 rfl ?_)
  refine un (a1 (v := (I (wi (n_.tdiv 1000)))) rfl ?_)
  obtain ⟨r_, hr1, h⟩ := bnd h
  refine un (ac_pure (strconv_Itoa_ok hr1) rfl rfl rfl ?_)
  obtain ⟨r_1, hx1, h⟩ := bnd h
  refine un (a1 (v := (S r_1)) (s_cat rfl rfl hx1) ?_)
  refine un (a1 rfl ?_)
  refine dnil ?_
  refine Sv.seq ?_
  refine Sv.seq ?_
  refine Sv.region ?_
  refine un (a1 rfl ?_)
  refine un (a1 (v := (I (n_.tmod 1000))) rfl ?_)
  refine un (a1 (v := (I (wi (1000 + (n_.tmod 1000))))) rfl ?_)
  obtain ⟨r_3, hr2, h⟩ := bnd h
  refine un (ac_pure (strconv_Itoa_ok hr2) rfl rfl rfl ?_)
  obtain ⟨r_4, hx3, h⟩ := bnd h
  refine un (a1 (v := (S r_4)) (s_slStr rfl rfl rfl hx3) ?_)
  obtain ⟨r_5, hr3, h⟩ := bnd h
  refine un (ac_pure (strings_TrimRight_ok hr3) rfl rfl rfl ?_)
  refine un (a1 rfl ?_)
  refine dnil ?_
  refine Sv.seq ?_
  refine Sv.region ?_
  refine un (a1 rfl ?_)
  refine un (a1 (v := (B (!decide (r_5 = [])))) rfl ?_)
  refine dnil ?_
  refine Sv.cond (b := (!decide (r_5 = []))) rfl (fun hc1 => ?_) (fun hc1 => ?_)
  · replace h := ifT hc1 h
    refine Sv.region ?_
    refine un (a1 rfl ?_)
    refine un (a1 rfl ?_)
    obtain ⟨r_6, hx4, h⟩ := bnd h
    refine un (a1 (v := (S r_6)) (s_cat rfl rfl hx4) ?_)
    obtain ⟨r_7, hx5, h⟩ := bnd h
    refine un (a1 (v := (S r_7)) (s_cat rfl rfl hx5) ?_)
    refine un (a1 rfl ?_)
    refine dnil ?_
    exact Sv.weak (weak_canon [0] rfl (by decide) (by decide) (fun b h => absurd h (Nat.not_lt_zero _)) (.cons rfl (avAs_free rfl) (.cons rfl (.c (.ref rfl (by decide))) .nil)) (.box (by decide) rfl (blkAs_cells (.cons (.same rfl) (.cons (.same rfl) .nil))) .nil)) (dim_Text1_j2_ok h)
  · replace h := ifF hc1 h
    refine Sv.skip ?_
    exact Sv.weak (weak_canon [0] rfl (by decide) (by decide) (fun b h => absurd h (Nat.not_lt_zero _)) (.cons rfl (avAs_free rfl) (.cons rfl (.c (.ref rfl (by decide))) .nil)) (.box (by decide) rfl (blkAs_cells (.cons (.same rfl) (.cons (.same rfl) .nil))) .nil)) (dim_Text1_j2_ok h)
/-- clerestory/dim.Text -/
noncomputable def dim_Text1 (d_ : TSDim) : Option (List UInt8) :=
  if decide ((mn (mx d_.Num (-1000000000)) 1000000000) < 0) then
    dim_Text1_j1 d_ (wi (0 - (mn (mx d_.Num (-1000000000)) 1000000000))) [45]
  else
    dim_Text1_j1 d_ (mn (mx d_.Num (-1000000000)) 1000000000) []
theorem dim_Text1_ok {mL : Int} {d_ : TSDim} {r : (List UInt8)} (h : dim_Text1 d_ = some r) : CPure Tryd.prog (GG mL) 11 [(.agg [cI d_.Num, .str d_.Unit])] (S r) := by
  refine acalls_of_sv hmix c11 (R := dim_Text1_post r) ?_
  unfold dim_Text1 at h
  refine Sv.seq ?_
  refine Sv.region ?_
  refine un (a2v (v := (.c (.ref 0 2 0 0))) (h' := upd _ 0 (some (.cells 2 [[cI d_.Num, .str d_.Unit]]))) (n' := 1) rfl rfl (fun h => by cases h) ?_)
  refine un (a1 rfl ?_)
  refine dnil ?_
  refine Sv.seq ?_
  refine Sv.region ?_
  refine un (a1 (v := (.c (.ref 0 2 0 0))) rfl ?_)
  refine un (a1 (v := (I d_.Num)) rfl ?_)
  refine un (a1 (v := (I (mx d_.Num (-1000000000)))) (s_mx rfl rfl) ?_)
  refine un (a1 (v := (I (mn (mx d_.Num (-1000000000)) 1000000000))) (s_mn rfl rfl) ?_)
  refine un (a1 rfl ?_)
  refine dnil ?_
  refine Sv.seq ?_
  refine Sv.region ?_
  refine un (a1 rfl ?_)
  refine dnil ?_
  refine Sv.seq ?_
  refine Sv.seq ?_
  refine Sv.region ?_
  refine un (a1 rfl ?_)
  refine un (a1 (v := (B (decide ((mn (mx d_.Num (-1000000000)) 1000000000) < 0)))) rfl ?_)
  refine dnil ?_
  refine Sv.cond (b := decide ((mn (mx d_.Num (-1000000000)) 1000000000) < 0)) rfl (fun hc2 => ?_) (fun hc2 => ?_)
  · replace h := ifT hc2 h
    refine Sv.region ?_
    refine un (a1 rfl ?_)
    refine un (a1 (v := (I (wi (0 - (mn (mx d_.Num (-1000000000)) 1000000000))))) rfl ?_)
    refine un (a1 rfl ?_)
    refine un (a1 rfl ?_)
    refine dnil ?_
    exact Sv.weak (weak_canon [0] rfl (by decide) (by decide) (fun b h => absurd h (Nat.not_lt_zero _)) (.cons rfl (avAs_free rfl) (.cons rfl (avAs_free rfl) (.cons rfl (.c (.ref rfl (by decide))) .nil))) (.box (by decide) rfl (blkAs_cells (.cons (.same rfl) (.cons (.same rfl) .nil))) .nil)) (dim_Text1_j1_ok h)
  · replace h := ifF hc2 h
    refine Sv.skip ?_
    exact Sv.weak (weak_canon [0] rfl (by decide) (by decide) (fun b h => absurd h (Nat.not_lt_zero _)) (.cons rfl (avAs_free rfl) (.cons rfl (avAs_free rfl) (.cons rfl (.c (.ref rfl (by decide))) .nil))) (.box (by decide) rfl (blkAs_cells (.cons (.same rfl) (.cons (.same rfl) .nil))) .nil)) (dim_Text1_j1_ok h)
def calc_word1_post (r : (List UInt8)) : AV → Heap → Nat → Prop := fun v h' n' => v = (S r) ∧ (h' = (fun _ => none)) ∧ n' = 0
/-- clerestory/calc.word -/
def calc_word1 (kind : Int) : (List UInt8) :=
  if decide (kind = 6) then
    [109, 105, 110]
  else
    if decide (kind = 7) then
      [109, 97, 120]
    else
      if decide (kind = 8) then
        [99, 108, 97, 109, 112]
      else
        []
theorem calc_word1_ok {mL : Int} (kind : Int) : CPure Tryd.prog (GG mL) 12 [(I kind)] (S (calc_word1 kind)) := by
  generalize h : calc_word1 kind = o
  refine acalls_of_sv hmix c12 (R := calc_word1_post o) ?_
  unfold calc_word1 at h
  refine Sv.seq ?_
  refine Sv.region ?_
  refine un (a1 rfl ?_)
  refine dnil ?_
  refine Sv.seq ?_
  refine Sv.seq ?_
  refine Sv.region ?_
  refine un (a1 rfl ?_)
  refine dnil ?_
  refine Sv.block ?_
  refine Sv.seq ?_
  refine Sv.region ?_
  refine un (a1 (v := (B (decide (kind = 6)))) rfl ?_)
  refine un (a1 rfl ?_)
  refine dnil ?_
  refine Sv.cond (b := decide (kind = 6)) rfl (fun hc1 => ?_) (fun hc1 => ?_)
  · replace h := ifT hc1 h
    refine Sv.seq ?_
    refine Sv.region ?_
    refine un (a1 rfl ?_)
    refine dnil ?_
    refine Sv.ret ?_
    subst h
    exact ⟨_, .refl _, _, rfl, ⟨upd (fun _ => none) 0 (some (S [109, 105, 110])), (fun _ => none), 0⟩, (S [109, 105, 110]), weak_canon [] rfl List.nodup_nil (Nat.le_refl _) (fun b h => absurd h (Nat.not_lt_zero _)) (.cons rfl (avAs_free rfl) .nil) .nil, rfl, rfl, rfl, rfl⟩
  · replace h := ifF hc1 h
    refine Sv.seq ?_
    refine Sv.region ?_
    refine un (a1 (v := (B (decide (kind = 7)))) rfl ?_)
    refine un (a1 rfl ?_)
    refine dnil ?_
    refine Sv.cond (b := decide (kind = 7)) rfl (fun hc2 => ?_) (fun hc2 => ?_)
    · replace h := ifT hc2 h
      refine Sv.seq ?_
      refine Sv.region ?_
      refine un (a1 rfl ?_)
      refine dnil ?_
      refine Sv.ret ?_
      subst h
      exact ⟨_, .refl _, _, rfl, ⟨upd (fun _ => none) 0 (some (S [109, 97, 120])), (fun _ => none), 0⟩, (S [109, 97, 120]), weak_canon [] rfl List.nodup_nil (Nat.le_refl _) (fun b h => absurd h (Nat.not_lt_zero _)) (.cons rfl (avAs_free rfl) .nil) .nil, rfl, rfl, rfl, rfl⟩
    · replace h := ifF hc2 h
      refine Sv.seq ?_
      refine Sv.region ?_
      refine un (a1 (v := (B (decide (kind = 8)))) rfl ?_)
      refine un (a1 rfl ?_)
      refine dnil ?_
      refine Sv.cond (b := decide (kind = 8)) rfl (fun hc3 => ?_) (fun hc3 => ?_)
      · replace h := ifT hc3 h
        refine Sv.seq ?_
        refine Sv.region ?_
        refine un (a1 rfl ?_)
        refine dnil ?_
        refine Sv.ret ?_
        subst h
        exact ⟨_, .refl _, _, rfl, ⟨upd (fun _ => none) 0 (some (S [99, 108, 97, 109, 112])), (fun _ => none), 0⟩, (S [99, 108, 97, 109, 112]), weak_canon [] rfl List.nodup_nil (Nat.le_refl _) (fun b h => absurd h (Nat.not_lt_zero _)) (.cons rfl (avAs_free rfl) .nil) .nil, rfl, rfl, rfl, rfl⟩
      · replace h := ifF hc3 h
        refine Sv.skip ?_
        refine Sv.seq ?_
        refine Sv.region ?_
        refine un (a1 rfl ?_)
        refine dnil ?_
        refine Sv.ret ?_
        subst h
        exact ⟨_, .refl _, _, rfl, ⟨upd (fun _ => none) 0 (some (S [])), (fun _ => none), 0⟩, (S []), weak_canon [] rfl List.nodup_nil (Nat.le_refl _) (fun b h => absurd h (Nat.not_lt_zero _)) (.cons rfl (avAs_free rfl) .nil) .nil, rfl, rfl, rfl, rfl⟩
def calc_sign1_post (r : (List UInt8)) : AV → Heap → Nat → Prop := fun v h' n' => v = (S r) ∧ (h' = (fun _ => none)) ∧ n' = 0
/-- clerestory/calc.sign -/
def calc_sign1 (kind : Int) : (List UInt8) :=
  if decide (kind = 2) then
    [32, 43, 32]
  else
    if decide (kind = 3) then
      [32, 45, 32]
    else
      if decide (kind = 4) then
        [32, 42, 32]
      else
        if decide (kind = 5) then
          [32, 47, 32]
        else
          [44, 32]
theorem calc_sign1_ok {mL : Int} (kind : Int) : CPure Tryd.prog (GG mL) 14 [(I kind)] (S (calc_sign1 kind)) := by
  generalize h : calc_sign1 kind = o
  refine acalls_of_sv hmix c14 (R := calc_sign1_post o) ?_
  unfold calc_sign1 at h
  refine Sv.seq ?_
  refine Sv.region ?_
  refine un (a1 rfl ?_)
  refine dnil ?_
  refine Sv.seq ?_
  refine Sv.seq ?_
  refine Sv.region ?_
  refine un (a1 rfl ?_)
  refine dnil ?_
  refine Sv.block ?_
  refine Sv.seq ?_
  refine Sv.region ?_
  refine un (a1 (v := (B (decide (kind = 2)))) rfl ?_)
  refine un (a1 rfl ?_)
  refine dnil ?_
  refine Sv.cond (b := decide (kind = 2)) rfl (fun hc1 => ?_) (fun hc1 => ?_)
  · replace h := ifT hc1 h
    refine Sv.seq ?_
    refine Sv.region ?_
    refine un (a1 rfl ?_)
    refine dnil ?_
    refine Sv.ret ?_
    subst h
    exact ⟨_, .refl _, _, rfl, ⟨upd (fun _ => none) 0 (some (S [32, 43, 32])), (fun _ => none), 0⟩, (S [32, 43, 32]), weak_canon [] rfl List.nodup_nil (Nat.le_refl _) (fun b h => absurd h (Nat.not_lt_zero _)) (.cons rfl (avAs_free rfl) .nil) .nil, rfl, rfl, rfl, rfl⟩
  · replace h := ifF hc1 h
    refine Sv.seq ?_
    refine Sv.region ?_
    refine un (a1 (v := (B (decide (kind = 3)))) rfl ?_)
    refine un (a1 rfl ?_)
    refine dnil ?_
    refine Sv.cond (b := decide (kind = 3)) rfl (fun hc2 => ?_) (fun hc2 => ?_)
    · replace h := ifT hc2 h
      refine Sv.seq ?_
      refine Sv.region ?_
      refine un (a1 rfl ?_)
      refine dnil ?_
      refine Sv.ret ?_
      subst h
      exact ⟨_, .refl _, _, rfl, ⟨upd (fun _ => none) 0 (some (S [32, 45, 32])), (fun _ => none), 0⟩, (S [32, 45, 32]), weak_canon [] rfl List.nodup_nil (Nat.le_refl _) (fun b h => absurd h (Nat.not_lt_zero _)) (.cons rfl (avAs_free rfl) .nil) .nil, rfl, rfl, rfl, rfl⟩
    · replace h := ifF hc2 h
      refine Sv.seq ?_
      refine Sv.region ?_
      refine un (a1 (v := (B (decide (kind = 4)))) rfl ?_)
      refine un (a1 rfl ?_)
      refine dnil ?_
      refine Sv.cond (b := decide (kind = 4)) rfl (fun hc3 => ?_) (fun hc3 => ?_)
      · replace h := ifT hc3 h
        refine Sv.seq ?_
        refine Sv.region ?_
        refine un (a1 rfl ?_)
        refine dnil ?_
        refine Sv.ret ?_
        subst h
        exact ⟨_, .refl _, _, rfl, ⟨upd (fun _ => none) 0 (some (S [32, 42, 32])), (fun _ => none), 0⟩, (S [32, 42, 32]), weak_canon [] rfl List.nodup_nil (Nat.le_refl _) (fun b h => absurd h (Nat.not_lt_zero _)) (.cons rfl (avAs_free rfl) .nil) .nil, rfl, rfl, rfl, rfl⟩
      · replace h := ifF hc3 h
        refine Sv.seq ?_
        refine Sv.region ?_
        refine un (a1 (v := (B (decide (kind = 5)))) rfl ?_)
        refine un (a1 rfl ?_)
        refine dnil ?_
        refine Sv.cond (b := decide (kind = 5)) rfl (fun hc4 => ?_) (fun hc4 => ?_)
        · replace h := ifT hc4 h
          refine Sv.seq ?_
          refine Sv.region ?_
          refine un (a1 rfl ?_)
          refine dnil ?_
          refine Sv.ret ?_
          subst h
          exact ⟨_, .refl _, _, rfl, ⟨upd (fun _ => none) 0 (some (S [32, 47, 32])), (fun _ => none), 0⟩, (S [32, 47, 32]), weak_canon [] rfl List.nodup_nil (Nat.le_refl _) (fun b h => absurd h (Nat.not_lt_zero _)) (.cons rfl (avAs_free rfl) .nil) .nil, rfl, rfl, rfl, rfl⟩
        · replace h := ifF hc4 h
          refine Sv.skip ?_
          refine Sv.seq ?_
          refine Sv.region ?_
          refine un (a1 rfl ?_)
          refine dnil ?_
          refine Sv.ret ?_
          subst h
          exact ⟨_, .refl _, _, rfl, ⟨upd (fun _ => none) 0 (some (S [44, 32])), (fun _ => none), 0⟩, (S [44, 32]), weak_canon [] rfl List.nodup_nil (Nat.le_refl _) (fun b h => absurd h (Nat.not_lt_zero _)) (.cons rfl (avAs_free rfl) .nil) .nil, rfl, rfl, rfl, rfl⟩
def a13_strings_Join1_c1 : ACode := (.seq (.region [⟨(some 42), (.bin .lss (.tmp 41) (.tmp 40)), none⟩])
 (.seq (.cond (.tmp 42) .skip (.exit 1))
 (.seq (.block 2 (.seq (.region [⟨(some 43), (.iaddr 1 (.tmp 39) (.tmp 41)), none⟩, ⟨(some 44), (.load false 1 (.tmp 43)), none⟩, ⟨(some 7), (.mov (.tmp 44)), none⟩])
 (.seq (.seq (.region [⟨(some 45), (.mov (.tmp 7)), none⟩, ⟨(some 46), (.lenS (.tmp 45)), none⟩, ⟨(some 47), (.mov (.tmp 5)), none⟩, ⟨(some 48), (.bin .sub (.const (.c (.val (.int .i64 9223372036854775807)))) (.tmp 47)), none⟩, ⟨(some 49), (.bin .gtr (.tmp 46) (.tmp 48)), none⟩])
 (.cond (.tmp 49) (.region [⟨(some 50), .mkif, none⟩, ⟨none, .bad, none⟩]) .skip))
 (.region [⟨(some 51), (.mov (.tmp 5)), none⟩, ⟨(some 52), (.mov (.tmp 7)), none⟩, ⟨(some 53), (.lenS (.tmp 52)), none⟩, ⟨(some 54), (.bin .add (.tmp 51) (.tmp 53)), none⟩, ⟨(some 5), (.mov (.tmp 54)), none⟩]))))
 (.region [⟨(some 55), (.bin .add (.tmp 41) (.const (.c (.val (.int .i64 1))))), none⟩, ⟨(some 41), (.mov (.tmp 55)), none⟩]))))
def a13_strings_Join1_c2 : ACode := (.seq (.region [⟨(some 66), (.bin .lss (.tmp 65) (.tmp 64)), none⟩])
 (.seq (.cond (.tmp 66) .skip (.exit 3))
 (.seq (.block 4 (.seq (.region [⟨(some 67), (.iaddr 1 (.tmp 63) (.tmp 65)), none⟩, ⟨(some 68), (.load false 1 (.tmp 67)), none⟩, ⟨(some 10), (.mov (.tmp 68)), none⟩])
 (.seq (.region [⟨(some 69), (.mov (.tmp 1)), none⟩, ⟨(some 70), (.call 24 [(.tmp 8), (.tmp 69)]), none⟩])
 (.region [⟨(some 71), (.mov (.tmp 10)), none⟩, ⟨(some 72), (.call 24 [(.tmp 8), (.tmp 71)]), none⟩]))))
 (.region [⟨(some 73), (.bin .add (.tmp 65) (.const (.c (.val (.int .i64 1))))), none⟩, ⟨(some 65), (.mov (.tmp 73)), none⟩]))))
def a13_strings_Join1_c0 : ACode := (.seq (.seq (.region [⟨(some 39), (.mov (.tmp 0)), none⟩, ⟨(some 40), (.len (.tmp 39)), none⟩, ⟨(some 41), (.mov (.const (.c (.val (.int .i64 0))))), none⟩])
 (.block 1 (.loop a13_strings_Join1_c1)))
 (.seq (.region [⟨(some 8), (.boxB 52), none⟩])
 (.seq (.region [⟨(some 56), (.mov (.tmp 5)), none⟩, ⟨(some 57), (.call 23 [(.tmp 8), (.tmp 56)]), none⟩])
 (.seq (.region [⟨(some 58), (.mov (.tmp 0)), none⟩, ⟨(some 59), (.iaddr 1 (.tmp 58) (.const (.c (.val (.int .i64 0))))), none⟩, ⟨(some 60), (.load false 1 (.tmp 59)), none⟩, ⟨(some 61), (.call 24 [(.tmp 8), (.tmp 60)]), none⟩])
 (.seq (.seq (.region [⟨(some 62), (.mov (.tmp 0)), none⟩, ⟨(some 63), (.slSl 1 (.tmp 62) (some (.const (.c (.val (.int .i64 1))))) none none), none⟩, ⟨(some 64), (.len (.tmp 63)), none⟩, ⟨(some 65), (.mov (.const (.c (.val (.int .i64 0))))), none⟩])
 (.block 3 (.loop a13_strings_Join1_c2)))
 (.seq (.region [⟨(some 74), (.call 25 [(.tmp 8)]), none⟩, ⟨(some 4), (.mov (.tmp 74)), none⟩])
 .ret))))))
def strings_Join1_post (r : (List UInt8)) : AV → Heap → Nat → Prop := fun v h' n' => v = (S r) ∧ (h' = (fun _ => none)) ∧ n' = 0
abbrev strings_Join1_l0_E1 (elems : (List (List UInt8))) (sep : (List UInt8)) (F_ : Int → Option (List UInt8)) (o : (List UInt8)) (R_ : St → Prop) : Prop := ∀ (n_2 : Int), F_ n_2 = some o → ∀ s, Weak 0 s ⟨(upd (upd (upd (fun _ => none) 0 (some (.c (.ro false 1 (elems.map eStr))))) 1 (some (S sep))) 5 (some (I n_2))), (fun _ => none), 0⟩ → R_ s
abbrev strings_Join1_l0_I (elems : (List (List UInt8))) (sep : (List UInt8)) (F_ : Nat → Int → Int → Option (List UInt8)) (o : (List UInt8)) : Nat → St → Prop := fun k s => ∃ (n_1 : Int), ∃ (v41 : Int), F_ k n_1 v41 = some o ∧ s = ⟨(upd (upd (upd (upd (upd (upd (fun _ => none) 0 (some (.c (.ro false 1 (elems.map eStr))))) 1 (some (S sep))) 5 (some (I n_1))) 39 (some (.c (.ro false 1 (elems.map eStr))))) 40 (some (I (elems.length : Int)))) 41 (some (I v41))), (fun _ => none), 0⟩
abbrev strings_Join1_l0_H (elems : (List (List UInt8))) (sep : (List UInt8)) (F_ : Int → Int → Option (List UInt8)) (o : (List UInt8)) (R_ : St → Prop) : Prop := ∀ (n_1 : Int) (v41 : Int), F_ n_1 v41 = some o → ∀ s, Weak 0 s ⟨(upd (upd (upd (upd (upd (upd (fun _ => none) 0 (some (.c (.ro false 1 (elems.map eStr))))) 1 (some (S sep))) 5 (some (I n_1))) 39 (some (.c (.ro false 1 (elems.map eStr))))) 40 (some (I (elems.length : Int)))) 41 (some (I v41))), (fun _ => none), 0⟩ → R_ s
noncomputable def strings_Join1_l0 (elems : (List (List UInt8))) (sep : (List UInt8)) (K1_ : Int → Option (List UInt8)) : Nat → Int → Int → Option (List UInt8)
  | 0, _, _ => none
  | k + 1, n_1, v41 =>
    if decide (v41 < (elems.length : Int)) then
      (at? elems v41).bind fun x_1 =>
      if decide ((wi (9223372036854775807 - n_1)) < (x_1.length : Int)) then
        none
      else
        (strings_Join1_l0 elems sep K1_ k) (wi (n_1 + (x_1.length : Int))) (wi (v41 + 1))
    else
      K1_ n_1
theorem strings_Join1_l0_ok {mL : Int} {Q : AExit → St → Prop} {elems : (List (List UInt8))} {sep : (List UInt8)} {K1_ : Int → Option (List UInt8)} {k : Nat} {n_1 : Int} {v41 : Int} {o : (List UInt8)} (h : strings_Join1_l0 elems sep K1_ k n_1 v41 = some o)
    (hK1 : strings_Join1_l0_E1 elems sep K1_ o (Q (.exit 1)))
    (hr : ∀ s, Ends a13.results 0 (strings_Join1_post o) .ret s → Q .ret s) :
    Sv Tryd.prog (GG mL) 0 (.loop a13_strings_Join1_c1) Q ⟨(upd (upd (upd (upd (upd (upd (fun _ => none) 0 (some (.c (.ro false 1 (elems.map eStr))))) 1 (some (S sep))) 5 (some (I n_1))) 39 (some (.c (.ro false 1 (elems.map eStr))))) 40 (some (I (elems.length : Int)))) 41 (some (I v41))), (fun _ => none), 0⟩ := by
  refine Sv.loop (I := strings_Join1_l0_I elems sep (strings_Join1_l0 elems sep K1_) o) (fun k s hI => ?_) ⟨n_1, v41, h, rfl⟩
  clear h
  clear v41 n_1
  obtain ⟨n_1, v41, h, rfl⟩ := hI
  cases k with
  | zero => cases h
  | succ k =>
  rw [strings_Join1_l0] at h
  have hself : strings_Join1_l0_H elems sep (strings_Join1_l0 elems sep K1_ k) o (rnd 0 (strings_Join1_l0_I elems sep (strings_Join1_l0 elems sep K1_) o) k Q) := fun n_1 v41 h s hw => ⟨_, k, hw, Nat.lt_succ_self k, n_1, v41, h, rfl⟩
  refine Sv.seq ?_
  refine Sv.region ?_
  refine un (a1 (v := (B (decide (v41 < (elems.length : Int))))) rfl ?_)
  refine dnil ?_
  refine Sv.seq ?_
  refine Sv.cond (b := decide (v41 < (elems.length : Int))) rfl (fun hc3 => ?_) (fun hc3 => ?_)
  · replace h := ifT hc3 h
    refine Sv.skip ?_
    refine Sv.seq ?_
    refine Sv.block ?_
    refine Sv.seq ?_
    refine Sv.region ?_
    obtain ⟨x_1, hx2, h⟩ := bnd h
    refine un (a1 (v := (.c (.rop [.str x_1]))) (s_iaddr (e := eStr) (xs := elems) rfl rfl hx2) ?_)
    refine un (a1 (v := (S x_1)) rfl ?_)
    refine un (a1 rfl ?_)
    refine dnil ?_
    refine Sv.seq ?_
    refine Sv.seq ?_
    refine Sv.region ?_
    refine un (a1 rfl ?_)
    refine un (a1 (v := (I (x_1.length : Int))) rfl ?_)
    refine un (a1 rfl ?_)
    refine un (a1 (v := (I (wi (9223372036854775807 - n_1)))) rfl ?_)
    refine un (a1 (v := (B (decide ((wi (9223372036854775807 - n_1)) < (x_1.length : Int))))) rfl ?_)
    refine dnil ?_
    refine Sv.cond (b := decide ((wi (9223372036854775807 - n_1)) < (x_1.length : Int))) rfl (fun hc4 => ?_) (fun hc4 => ?_)
    · replace h := ifT hc4 h
      refine Sv.region ?_
      refine un (a1 (v := (.c (.opq))) rfl ?_)
      cases h
    · replace h := ifF hc4 h
      refine Sv.skip ?_
      refine Sv.region ?_
      refine un (a1 rfl ?_)
      refine un (a1 rfl ?_)
      refine un (a1 (v := (I (x_1.length : Int))) rfl ?_)
      refine un (a1 (v := (I (wi (n_1 + (x_1.length : Int))))) rfl ?_)
      refine un (a1 rfl ?_)
      refine dnil ?_
      refine Sv.region ?_
      refine un (a1 (v := (I (wi (v41 + 1)))) rfl ?_)
      refine un (a1 rfl ?_)
      refine dnil ?_
      exact hself (wi (n_1 + (x_1.length : Int))) (wi (v41 + 1)) h _ (weak_canon [] rfl (by decide) (by decide) (fun b h => absurd h (Nat.not_lt_zero _)) (.cons rfl (avAs_free rfl) (.cons rfl (avAs_free rfl) (.cons rfl (avAs_free rfl) (.cons rfl (avAs_free rfl) (.cons rfl (avAs_free rfl) (.cons rfl (avAs_free rfl) .nil)))))) .nil)
  · replace h := ifF hc3 h
    refine Sv.exit ?_
    exact hK1 n_1 h _ (weak_canon [] rfl (by decide) (by decide) (fun b h => absurd h (Nat.not_lt_zero _)) (.cons rfl (avAs_free rfl) (.cons rfl (avAs_free rfl) (.cons rfl (avAs_free rfl) .nil))) .nil)
abbrev strings_Join1_l1_E3 (F_ : (List UInt8) → Option (List UInt8)) (o : (List UInt8)) (R_ : St → Prop) : Prop := ∀ (b_1 : (List UInt8)) (zb_1 : Bool) (_ : zb_1 = true → b_1 = []), F_ b_1 = some o → ∀ s, Weak 0 s ⟨(upd (fun _ => none) 8 (some (.c (.ref 0 2 0 0)))), (upd (upd (fun _ => none) 0 (some (.bld 52 zb_1 1 b_1.length))) 1 (bufB zb_1 5 b_1)), 2⟩ → R_ s
abbrev strings_Join1_l1_I (sep : (List UInt8)) (r_2 : (List (List UInt8))) (F_ : Nat → (List UInt8) → Int → Option (List UInt8)) (o : (List UInt8)) : Nat → St → Prop := fun k s => ∃ (b_ : (List UInt8)), ∃ (v65 : Int), ∃ (zb : Bool), (zb = true → b_ = []) ∧ F_ k b_ v65 = some o ∧ s = ⟨(upd (upd (upd (upd (upd (fun _ => none) 1 (some (S sep))) 8 (some (.c (.ref 0 2 0 0)))) 63 (some (.c (.ro false 1 (r_2.map eStr))))) 64 (some (I (r_2.length : Int)))) 65 (some (I v65))), (upd (upd (fun _ => none) 0 (some (.bld 52 zb 1 b_.length))) 1 (bufB zb 5 b_)), 2⟩
abbrev strings_Join1_l1_H (sep : (List UInt8)) (r_2 : (List (List UInt8))) (F_ : (List UInt8) → Int → Option (List UInt8)) (o : (List UInt8)) (R_ : St → Prop) : Prop := ∀ (b_ : (List UInt8)) (v65 : Int) (zb : Bool) (_ : zb = true → b_ = []), F_ b_ v65 = some o → ∀ s, Weak 0 s ⟨(upd (upd (upd (upd (upd (fun _ => none) 1 (some (S sep))) 8 (some (.c (.ref 0 2 0 0)))) 63 (some (.c (.ro false 1 (r_2.map eStr))))) 64 (some (I (r_2.length : Int)))) 65 (some (I v65))), (upd (upd (fun _ => none) 0 (some (.bld 52 zb 1 b_.length))) 1 (bufB zb 5 b_)), 2⟩ → R_ s
noncomputable def strings_Join1_l1 (r_2 : (List (List UInt8))) (sep : (List UInt8)) (K3_ : (List UInt8) → Option (List UInt8)) : Nat → (List UInt8) → Int → Option (List UInt8)
  | 0, _, _ => none
  | k + 1, b_, v65 =>
    if decide (v65 < (r_2.length : Int)) then
      (at? r_2 v65).bind fun x_3 =>
      (strings_Builder_WriteString b_ sep).bind fun r_3 =>
      (strings_Builder_WriteString r_3 x_3).bind fun r_4 =>
      (strings_Join1_l1 r_2 sep K3_ k) r_4 (wi (v65 + 1))
    else
      K3_ b_
theorem strings_Join1_l1_ok {mL : Int} {Q : AExit → St → Prop} {r_2 : (List (List UInt8))} {sep : (List UInt8)} {K3_ : (List UInt8) → Option (List UInt8)} {k : Nat} {b_ : (List UInt8)} {v65 : Int} {zb : Bool} (hzb : zb = true → b_ = []) {o : (List UInt8)} (h : strings_Join1_l1 r_2 sep K3_ k b_ v65 = some o)
    (hK3 : strings_Join1_l1_E3 K3_ o (Q (.exit 3)))
    (hr : ∀ s, Ends a13.results 0 (strings_Join1_post o) .ret s → Q .ret s) :
    Sv Tryd.prog (GG mL) 0 (.loop a13_strings_Join1_c2) Q ⟨(upd (upd (upd (upd (upd (fun _ => none) 1 (some (S sep))) 8 (some (.c (.ref 0 2 0 0)))) 63 (some (.c (.ro false 1 (r_2.map eStr))))) 64 (some (I (r_2.length : Int)))) 65 (some (I v65))), (upd (upd (fun _ => none) 0 (some (.bld 52 zb 1 b_.length))) 1 (bufB zb 5 b_)), 2⟩ := by
  refine Sv.loop (I := strings_Join1_l1_I sep r_2 (strings_Join1_l1 r_2 sep K3_) o) (fun k s hI => ?_) ⟨b_, v65, zb, hzb, h, rfl⟩
  clear h
  clear hzb zb v65 b_
  obtain ⟨b_, v65, zb, hzb, h, rfl⟩ := hI
  cases k with
  | zero => cases h
  | succ k =>
  rw [strings_Join1_l1] at h
  have hself : strings_Join1_l1_H sep r_2 (strings_Join1_l1 r_2 sep K3_ k) o (rnd 0 (strings_Join1_l1_I sep r_2 (strings_Join1_l1 r_2 sep K3_) o) k Q) := fun b_ v65 zb hzb h s hw => ⟨_, k, hw, Nat.lt_succ_self k, b_, v65, zb, hzb, h, rfl⟩
  refine Sv.seq ?_
  refine Sv.region ?_
  refine un (a1 (v := (B (decide (v65 < (r_2.length : Int))))) rfl ?_)
  refine dnil ?_
  refine Sv.seq ?_
  refine Sv.cond (b := decide (v65 < (r_2.length : Int))) rfl (fun hc5 => ?_) (fun hc5 => ?_)
  · replace h := ifT hc5 h
    refine Sv.skip ?_
    refine Sv.seq ?_
    refine Sv.block ?_
    refine Sv.seq ?_
    refine Sv.region ?_
    obtain ⟨x_3, hx5, h⟩ := bnd h
    refine un (a1 (v := (.c (.rop [.str x_3]))) (s_iaddr (e := eStr) (xs := r_2) rfl rfl hx5) ?_)
    refine un (a1 (v := (S x_3)) rfl ?_)
    refine un (a1 rfl ?_)
    refine dnil ?_
    refine Sv.seq ?_
    refine Sv.region ?_
    refine un (a1 rfl ?_)
    obtain ⟨r_3, hr3, h⟩ := bnd h
    refine un (ac_gen (bs := [0, 1]) («as» := [(.c (.ref 0 2 0 0)), (S sep)]) (h2 := _) (h1 := (upd (upd (fun _ => none) 0 (some (.bld 52 zb 1 b_.length))) 1 (bufB zb 5 b_))) (strings_Builder_WriteString_ok (z := zb) (l := b_) hzb hr3) rfl (.cons (.c (.ref rfl (by decide))) (.cons (avAs_free rfl) .nil)) (hsub_refl _) (.cons rfl (.cons rfl (.nil _))) (fun h => by cases h) (by decide) (by decide) (.cons (.c (.ref rfl (by decide))) (.cons (avAs_free rfl) .nil)) (.buf (by decide) rfl (.box (by decide) rfl (.bld rfl (by decide)) .nil)) ?_)
    rintro _ _ _ hn ⟨z_2, hz_2, rfl, rfl, rfl⟩
    refine ⟨.inl rfl, (upd (upd (rem [0, 1] _) 0 (some (.bld 52 z_2 2 r_3.length))) 2 (bufB z_2 5 r_3)), fun hbd => (m3_cons (m3_buf rfl) (m3_cons (m3_box rfl rfl) (m3_rem (in_cons (by decide) (in_cons (by decide) (in_nil _))) (.cons (by decide) (.cons (by decide) .nil)) hbd))), (.tup [(I (sep.length : Int)), (.c (.val .nilIface))]), 3, (by cases z_2 <;> rfl), rfl, ?_⟩
    refine dnil ?_
    refine Sv.region ?_
    refine un (a1 rfl ?_)
    obtain ⟨r_4, hr4, h⟩ := bnd h
    refine un (ac_gen (bs := [0, 2]) («as» := [(.c (.ref 0 2 0 0)), (S x_3)]) (h2 := _) (h1 := (upd (upd (fun _ => none) 0 (some (.bld 52 z_2 2 r_3.length))) 2 (bufB z_2 5 r_3))) (strings_Builder_WriteString_ok (z := z_2) (l := r_3) hz_2 hr4) rfl (.cons (.c (.ref rfl (by decide))) (.cons (avAs_free rfl) .nil)) (hsub_refl _) (.cons rfl (.cons rfl (.nil _))) (fun h => by cases h) (by decide) (by decide) (.cons (.c (.ref rfl (by decide))) (.cons (avAs_free rfl) .nil)) (.buf (by decide) rfl (.box (by decide) rfl (.bld rfl (by decide)) .nil)) ?_)
    rintro _ _ _ hn ⟨z_3, hz_3, rfl, rfl, rfl⟩
    refine ⟨.inl rfl, (upd (upd (rem [0, 2] _) 0 (some (.bld 52 z_3 3 r_4.length))) 3 (bufB z_3 5 r_4)), fun hbd => (m3_cons (m3_buf rfl) (m3_cons (m3_box rfl rfl) (m3_rem (in_cons (by decide) (in_cons (by decide) (in_nil _))) (.cons (by decide) (.cons (by decide) .nil)) hbd))), (.tup [(I (x_3.length : Int)), (.c (.val .nilIface))]), 4, (by cases z_3 <;> rfl), rfl, ?_⟩
    refine dnil ?_
    refine Sv.region ?_
    refine un (a1 (v := (I (wi (v65 + 1)))) rfl ?_)
    refine un (a1 rfl ?_)
    refine dnil ?_
    exact hself r_4 (wi (v65 + 1)) z_3 hz_3 h _ (weak_canon [0, 3] rfl (by decide) (by decide) (fun b h => absurd h (Nat.not_lt_zero _)) (.cons rfl (avAs_free rfl) (.cons rfl (avAs_free rfl) (.cons rfl (avAs_free rfl) (.cons rfl (.c (.ref rfl (by decide))) (.cons rfl (avAs_free rfl) .nil))))) (.buf (by decide) rfl (.box (by decide) rfl (.bld rfl (by decide)) .nil)))
  · replace h := ifF hc5 h
    refine Sv.exit ?_
    exact hK3 b_ zb hzb h _ (weak_canon [0, 1] rfl (by decide) (by decide) (fun b h => absurd h (Nat.not_lt_zero _)) (.cons rfl (.c (.ref rfl (by decide))) .nil) (.buf (by decide) rfl (.box (by decide) rfl (.bld rfl (by decide)) .nil)))
noncomputable def strings_Join1_j1 (elems : (List (List UInt8))) (sep : (List UInt8)) (n_ : Int) : Option (List UInt8) :=
  lim fun kk1 => strings_Join1_l0 elems sep (fun (n_2 : Int) => 
      (strings_Builder_Grow ([] : List UInt8) n_2).bind fun r_ =>
      (at? elems 0).bind fun x_2 =>
      (strings_Builder_WriteString r_ x_2).bind fun r_1 =>
      (sub? elems 1 (elems.length : Int)).bind fun r_2 =>
      lim fun kk => strings_Join1_l1 r_2 sep (fun (b_1 : (List UInt8)) => 
          some b_1) kk r_1 0) kk1 n_ 0
theorem strings_Join1_j1_ok {mL : Int} {elems : (List (List UInt8))} {sep : (List UInt8)} {n_ : Int} {o : (List UInt8)} (h : strings_Join1_j1 elems sep n_ = some o) :
    Sv Tryd.prog (GG mL) 0 a13_strings_Join1_c0 (Ends a13.results 0 (strings_Join1_post o)) ⟨(upd (upd (upd (fun _ => none) 0 (some (.c (.ro false 1 (elems.map eStr))))) 1 (some (S sep))) 5 (some (I n_))), (fun _ => none), 0⟩ := by
  unfold strings_Join1_j1 at h
  refine Sv.seq ?_
  refine Sv.seq ?_
  refine Sv.region ?_
  refine un (a1 rfl ?_)
  refine un (a1 (v := (I (elems.length : Int))) (s_len (e := eStr) (xs := elems) rfl) ?_)
  refine un (a1 rfl ?_)
  refine dnil ?_
  refine Sv.block ?_
  obtain ⟨kk1, h⟩ := lim_some h
  refine Sv.weak (weak_canon [] rfl (by decide) (by decide) (fun b h => absurd h (Nat.not_lt_zero _)) (.cons rfl (avAs_free rfl) (.cons rfl (avAs_free rfl) (.cons rfl (avAs_free rfl) (.cons rfl (avAs_free rfl) (.cons rfl (avAs_free rfl) (.cons rfl (avAs_free rfl) .nil)))))) .nil) (strings_Join1_l0_ok h ?_ (fun s hs => hs))
  · intro n_2 h _ hw1
    refine Sv.weak hw1 ?_
    refine Sv.seq ?_
    refine Sv.region ?_
    refine un (a2v (v := (.c (.ref 1 2 0 0))) (h' := upd _ 1 (some (.bld 52 true 0 ([] : List UInt8).length))) (n' := 2) rfl rfl (fun h => by cases h) ?_)
    refine dnil ?_
    refine Sv.seq ?_
    refine Sv.region ?_
    refine un (a1 rfl ?_)
    obtain ⟨r_, hr1, h⟩ := bnd h
    refine un (ac_gen (bs := [1, 0]) («as» := [(.c (.ref 1 2 0 0)), (I n_2)]) (h2 := _) (h1 := (upd (fun _ => none) 1 (some (.bld 52 true 0 ([] : List UInt8).length)))) (strings_Builder_Grow_ok (z := true) (l := ([] : List UInt8)) (fun _ => rfl) hr1) rfl (.cons (.c (.ref rfl (by decide))) (.cons (avAs_free rfl) .nil)) (hsub_refl _) (.cons rfl (.nil _)) (fun h => by cases h) (by decide) (by decide) (.cons (.c (.ref rfl (by decide))) (.cons (avAs_free rfl) .nil)) (.nonB (by decide) (.box (by decide) rfl (.bldN (by decide)) .nil)) ?_)
    rintro _ _ _ hn ⟨z_, hz_, rfl, rfl, rfl⟩
    refine ⟨.inl rfl, (upd (upd (rem [1, 0] _) 1 (some (.bld 52 z_ 2 r_.length))) 2 (bufB z_ 5 r_)), fun hbd => (m3_cons (m3_buf rfl) (m3_cons (m3_box rfl rfl) (m3_rem (in_cons (by decide) (in_nil _)) (.cons (by decide) (.cons (by decide) .nil)) hbd))), (.tup []), 3, (by cases z_ <;> rfl), rfl, ?_⟩
    refine dnil ?_
    refine Sv.seq ?_
    refine Sv.region ?_
    refine un (a1 rfl ?_)
    obtain ⟨x_2, hx3, h⟩ := bnd h
    refine un (a1 (v := (.c (.rop [.str x_2]))) (s_iaddr (e := eStr) (xs := elems) rfl rfl hx3) ?_)
    refine un (a1 (v := (S x_2)) rfl ?_)
    obtain ⟨r_1, hr2, h⟩ := bnd h
    refine un (ac_gen (bs := [1, 2]) («as» := [(.c (.ref 1 2 0 0)), (S x_2)]) (h2 := _) (h1 := (upd (upd (fun _ => none) 1 (some (.bld 52 z_ 2 r_.length))) 2 (bufB z_ 5 r_))) (strings_Builder_WriteString_ok (z := z_) (l := r_) hz_ hr2) rfl (.cons (.c (.ref rfl (by decide))) (.cons (avAs_free rfl) .nil)) (hsub_refl _) (.cons rfl (.cons rfl (.nil _))) (fun h => by cases h) (by decide) (by decide) (.cons (.c (.ref rfl (by decide))) (.cons (avAs_free rfl) .nil)) (.buf (by decide) rfl (.box (by decide) rfl (.bld rfl (by decide)) .nil)) ?_)
    rintro _ _ _ hn ⟨z_1, hz_1, rfl, rfl, rfl⟩
    refine ⟨.inl rfl, (upd (upd (rem [1, 2] _) 1 (some (.bld 52 z_1 3 r_1.length))) 3 (bufB z_1 5 r_1)), fun hbd => (m3_cons (m3_buf rfl) (m3_cons (m3_box rfl rfl) (m3_rem (in_cons (by decide) (in_cons (by decide) (in_nil _))) (.cons (by decide) (.cons (by decide) .nil)) hbd))), (.tup [(I (x_2.length : Int)), (.c (.val .nilIface))]), 4, (by cases z_1 <;> rfl), rfl, ?_⟩
    refine dnil ?_
    refine Sv.seq ?_
    refine Sv.seq ?_
    refine Sv.region ?_
    refine un (a1 rfl ?_)
    obtain ⟨r_2, hx4, h⟩ := bnd h
    refine un (a1 (v := (.c (.ro false 1 (r_2.map eStr)))) (s_slSl (e := eStr) rfl rfl rfl hx4) ?_)
    refine un (a1 (v := (I (r_2.length : Int))) (s_len (e := eStr) (xs := r_2) rfl) ?_)
    refine un (a1 rfl ?_)
    refine dnil ?_
    refine Sv.block ?_
    obtain ⟨kk, h⟩ := lim_some h
    refine Sv.weak (weak_canon [1, 3] rfl (by decide) (by decide) (fun b h => absurd h (Nat.not_lt_zero _)) (.cons rfl (avAs_free rfl) (.cons rfl (avAs_free rfl) (.cons rfl (avAs_free rfl) (.cons rfl (.c (.ref rfl (by decide))) (.cons rfl (avAs_free rfl) .nil))))) (.buf (by decide) rfl (.box (by decide) rfl (.bld rfl (by decide)) .nil))) (strings_Join1_l1_ok hz_1 h ?_ (fun s hs => hs))
    · intro b_1 zb_1 hzb_1 h _ hw2
      refine Sv.weak hw2 ?_
      refine Sv.seq ?_
      refine Sv.region ?_
      refine un (ac_gen (bs := [0, 1]) («as» := [(.c (.ref 0 2 0 0))]) (h2 := _) (h1 := (upd (upd (fun _ => none) 0 (some (.bld 52 zb_1 1 b_1.length))) 1 (bufB zb_1 5 b_1))) (strings_Builder_String_ok (z := zb_1) (l := b_1) hzb_1) rfl (.cons (.c (.ref rfl (by decide))) .nil) (hsub_refl _) (.cons rfl (.cons rfl (.nil _))) (fun h => by cases h) (by decide) (by decide) (.cons (.c (.ref rfl (by decide))) .nil) (.buf (by decide) rfl (.box (by decide) rfl (.bld rfl (by decide)) .nil)) ?_)
      rintro _ _ _ hn ⟨rfl, rfl, rfl⟩
      refine ⟨.inl rfl, (rem [0, 1] _), fun hbd => (m3_rem (in_cons (by decide) (in_cons (by decide) (in_nil _))) (.nil) hbd), (S b_1), 2, rfl, rfl, ?_⟩
      refine un (a1 rfl ?_)
      refine dnil ?_
      refine Sv.ret ?_
      replace h := Option.some.inj h
      subst h
      exact ⟨_, .refl _, _, rfl, ⟨upd (fun _ => none) 0 (some (S b_1)), (fun _ => none), 0⟩, (S b_1), weak_canon [] rfl List.nodup_nil (Nat.le_refl _) (fun b h => absurd h (Nat.not_lt_zero _)) (.cons rfl (avAs_free rfl) .nil) .nil, rfl, rfl, rfl, rfl⟩
/-- strings.Join -/
noncomputable def strings_Join1 (elems : (List (List UInt8))) (sep : (List UInt8)) : Option (List UInt8) :=
  if decide ((elems.length : Int) = 0) then
    some []
  else
    if decide ((elems.length : Int) = 1) then
      (at? elems 0).bind fun x_ =>
      some x_
    else
      if decide (0 < (sep.length : Int)) then
        (quo? .i64 9223372036854775807 (wi ((elems.length : Int) - 1))).bind fun r_5 =>
        if decide (r_5 ≤ (sep.length : Int)) then
          none
        else
          strings_Join1_j1 elems sep (wi (0 + (wi ((sep.length : Int) * (wi ((elems.length : Int) - 1))))))
      else
        strings_Join1_j1 elems sep 0
theorem strings_Join1_ok {mL : Int} {elems : (List (List UInt8))} {sep : (List UInt8)} {r : (List UInt8)} (h : strings_Join1 elems sep = some r) : CPure Tryd.prog (GG mL) 13 [(.c (.ro false 1 (elems.map eStr))), (S sep)] (S r) := by
  refine acalls_of_sv hmix c13 (R := strings_Join1_post r) ?_
  unfold strings_Join1 at h
  refine Sv.seq ?_
  refine Sv.region ?_
  refine un (a1 rfl ?_)
  refine dnil ?_
  refine Sv.seq ?_
  refine Sv.seq ?_
  refine Sv.region ?_
  refine un (a1 rfl ?_)
  refine un (a1 (v := (I (elems.length : Int))) (s_len (e := eStr) (xs := elems) rfl) ?_)
  refine dnil ?_
  refine Sv.block ?_
  refine Sv.seq ?_
  refine Sv.region ?_
  refine un (a1 (v := (B (decide ((elems.length : Int) = 0)))) rfl ?_)
  refine un (a1 rfl ?_)
  refine dnil ?_
  refine Sv.cond (b := decide ((elems.length : Int) = 0)) rfl (fun hc1 => ?_) (fun hc1 => ?_)
  · replace h := ifT hc1 h
    refine Sv.seq ?_
    refine Sv.region ?_
    refine un (a1 rfl ?_)
    refine dnil ?_
    refine Sv.ret ?_
    replace h := Option.some.inj h
    subst h
    exact ⟨_, .refl _, _, rfl, ⟨upd (fun _ => none) 0 (some (S [])), (fun _ => none), 0⟩, (S []), weak_canon [] rfl List.nodup_nil (Nat.le_refl _) (fun b h => absurd h (Nat.not_lt_zero _)) (.cons rfl (avAs_free rfl) .nil) .nil, rfl, rfl, rfl, rfl⟩
  · replace h := ifF hc1 h
    refine Sv.seq ?_
    refine Sv.region ?_
    refine un (a1 (v := (B (decide ((elems.length : Int) = 1)))) rfl ?_)
    refine un (a1 rfl ?_)
    refine dnil ?_
    refine Sv.cond (b := decide ((elems.length : Int) = 1)) rfl (fun hc2 => ?_) (fun hc2 => ?_)
    · replace h := ifT hc2 h
      refine Sv.seq ?_
      refine Sv.region ?_
      refine un (a1 rfl ?_)
      obtain ⟨x_, hx1, h⟩ := bnd h
      refine un (a1 (v := (.c (.rop [.str x_]))) (s_iaddr (e := eStr) (xs := elems) rfl rfl hx1) ?_)
      refine un (a1 (v := (S x_)) rfl ?_)
      refine un (a1 rfl ?_)
      refine dnil ?_
      refine Sv.ret ?_
      replace h := Option.some.inj h
      subst h
      exact ⟨_, .refl _, _, rfl, ⟨upd (fun _ => none) 0 (some (S x_)), (fun _ => none), 0⟩, (S x_), weak_canon [] rfl List.nodup_nil (Nat.le_refl _) (fun b h => absurd h (Nat.not_lt_zero _)) (.cons rfl (avAs_free rfl) .nil) .nil, rfl, rfl, rfl, rfl⟩
    · replace h := ifF hc2 h
      refine Sv.skip ?_
      refine Sv.seq ?_
      refine Sv.region ?_
      refine un (a1 rfl ?_)
      refine dnil ?_
      refine Sv.seq ?_
      refine Sv.seq ?_
      refine Sv.region ?_
      refine un (a1 rfl ?_)
      refine un (a1 (v := (I (sep.length : Int))) rfl ?_)
      refine un (a1 (v := (B (decide (0 < (sep.length : Int))))) rfl ?_)
      refine dnil ?_
      refine Sv.cond (b := decide (0 < (sep.length : Int))) rfl (fun hc6 => ?_) (fun hc6 => ?_)
      · replace h := ifT hc6 h
        refine Sv.seq ?_
        refine Sv.seq ?_
        refine Sv.region ?_
        refine un (a1 rfl ?_)
        refine un (a1 (v := (I (sep.length : Int))) rfl ?_)
        refine un (a1 rfl ?_)
        refine un (a1 (v := (I (elems.length : Int))) (s_len (e := eStr) (xs := elems) rfl) ?_)
        refine un (a1 (v := (I (wi ((elems.length : Int) - 1)))) rfl ?_)
        obtain ⟨r_5, hx6, h⟩ := bnd h
        refine un (a1 (v := (I r_5)) (s_quo rfl rfl hx6) ?_)
        refine un (a1 (v := (B (decide (r_5 ≤ (sep.length : Int))))) rfl ?_)
        refine dnil ?_
        refine Sv.cond (b := decide (r_5 ≤ (sep.length : Int))) rfl (fun hc7 => ?_) (fun hc7 => ?_)
        · replace h := ifT hc7 h
          refine Sv.region ?_
          refine un (a1 (v := (.c (.opq))) rfl ?_)
          cases h
        · replace h := ifF hc7 h
          refine Sv.skip ?_
          refine Sv.region ?_
          refine un (a1 rfl ?_)
          refine un (a1 rfl ?_)
          refine un (a1 (v := (I (sep.length : Int))) rfl ?_)
          refine un (a1 rfl ?_)
          refine un (a1 (v := (I (elems.length : Int))) (s_len (e := eStr) (xs := elems) rfl) ?_)
          refine un (a1 (v := (I (wi ((elems.length : Int) - 1)))) rfl ?_)
          refine un (a1 (v := (I (wi ((sep.length : Int) * (wi ((elems.length : Int) - 1)))))) rfl ?_)
          refine un (a1 (v := (I (wi (0 + (wi ((sep.length : Int) * (wi ((elems.length : Int) - 1)))))))) rfl ?_)
          refine un (a1 rfl ?_)
          refine dnil ?_
          exact Sv.weak (weak_canon [] rfl (by decide) (by decide) (fun b h => absurd h (Nat.not_lt_zero _)) (.cons rfl (avAs_free rfl) (.cons rfl (avAs_free rfl) (.cons rfl (avAs_free rfl) .nil))) .nil) (strings_Join1_j1_ok h)
      · replace h := ifF hc6 h
        refine Sv.skip ?_
        exact Sv.weak (weak_canon [] rfl (by decide) (by decide) (fun b h => absurd h (Nat.not_lt_zero _)) (.cons rfl (avAs_free rfl) (.cons rfl (avAs_free rfl) (.cons rfl (avAs_free rfl) .nil))) .nil) (strings_Join1_j1_ok h)
def a6_calc_Text1_c0 : ACode := (.seq (.region [⟨(some 19), (.bin .lss (.tmp 18) (.tmp 17)), none⟩])
 (.seq (.cond (.tmp 19) .skip (.exit 0))
 (.seq (.block 1 (.seq (.region [⟨(some 20), (.iaddr 4 (.tmp 16) (.tmp 18)), none⟩, ⟨(some 21), (.load true 4 (.tmp 20)), none⟩, ⟨(some 5), (.box (.const (.agg [(.val (.int .i64 0)), (.val (.int .i64 0)), (.str []), (.ro true 4 [])]))), none⟩, ⟨none, (.store 4 (.tmp 5) (.tmp 21)), none⟩])
 (.region [⟨(some 22), (.mov (.tmp 3)), none⟩, ⟨(some 23), (.load true 4 (.tmp 5)), none⟩, ⟨(some 24), (.call 6 [(.tmp 23)]), none⟩, ⟨(some 25), (.bslice 1 [(.str [])] 1 [(0, (.tmp 24))]), none⟩, ⟨(some 26), (.app 1 16 (.tmp 22) (.tmp 25)), none⟩, ⟨(some 3), (.mov (.tmp 26)), none⟩])))
 (.region [⟨(some 27), (.bin .add (.tmp 18) (.const (.c (.val (.int .i64 1))))), none⟩, ⟨(some 18), (.mov (.tmp 27)), none⟩]))))
def calc_Text1_post (r : (List UInt8)) : AV → Heap → Nat → Prop := fun v h' n' => v = (S r) ∧ (h' = (fun _ => none)) ∧ n' = 0
def calc_Text1_Rec (mL : Int) (recf : TSTerm → Option (List UInt8)) : Prop := ∀ (t_ : TSTerm) (r : (List UInt8)), recf t_ = some r → CPure Tryd.prog (GG mL) 6 [(.agg [cI t_.Kind, cI t_.Dim.Num, .str t_.Dim.Unit, .ro false 4 (t_.Subs.map eRaw)])] (S r)
abbrev calc_Text1_l0_E0 (t_ : TSTerm) (F_ : (List (List UInt8)) → Option (List UInt8)) (o : (List UInt8)) (R_ : St → Prop) : Prop := ∀ (subs1 : (List (List UInt8))) (zsubs1 : Bool) (_ : zsubs1 = true → subs1 = []), F_ subs1 = some o → ∀ s, Weak 0 s ⟨(upd (upd (fun _ => none) 1 (some (.c (.ref 0 4 0 0)))) 3 (some (lstV zsubs1 1 1 subs1.length))), (upd (upd (fun _ => none) 0 (some (.cells 4 [[cI t_.Kind, cI t_.Dim.Num, .str t_.Dim.Unit, .ro false 4 (t_.Subs.map eRaw)]]))) 1 (lstB zsubs1 1 (subs1.map eStr))), 2⟩ → R_ s
abbrev calc_Text1_l0_I (t_ : TSTerm) (F_ : Nat → (List (List UInt8)) → Int → Option (List UInt8)) (o : (List UInt8)) : Nat → St → Prop := fun k s => ∃ (subs : (List (List UInt8))), ∃ (v18 : Int), ∃ (zsubs : Bool), (zsubs = true → subs = []) ∧ F_ k subs v18 = some o ∧ s = ⟨(upd (upd (upd (upd (upd (fun _ => none) 1 (some (.c (.ref 0 4 0 0)))) 3 (some (lstV zsubs 1 1 subs.length))) 16 (some (.c (.ro false 4 (t_.Subs.map eRaw))))) 17 (some (I (t_.Subs.length : Int)))) 18 (some (I v18))), (upd (upd (fun _ => none) 0 (some (.cells 4 [[cI t_.Kind, cI t_.Dim.Num, .str t_.Dim.Unit, .ro false 4 (t_.Subs.map eRaw)]]))) 1 (lstB zsubs 1 (subs.map eStr))), 2⟩
abbrev calc_Text1_l0_H (t_ : TSTerm) (F_ : (List (List UInt8)) → Int → Option (List UInt8)) (o : (List UInt8)) (R_ : St → Prop) : Prop := ∀ (subs : (List (List UInt8))) (v18 : Int) (zsubs : Bool) (_ : zsubs = true → subs = []), F_ subs v18 = some o → ∀ s, Weak 0 s ⟨(upd (upd (upd (upd (upd (fun _ => none) 1 (some (.c (.ref 0 4 0 0)))) 3 (some (lstV zsubs 1 1 subs.length))) 16 (some (.c (.ro false 4 (t_.Subs.map eRaw))))) 17 (some (I (t_.Subs.length : Int)))) 18 (some (I v18))), (upd (upd (fun _ => none) 0 (some (.cells 4 [[cI t_.Kind, cI t_.Dim.Num, .str t_.Dim.Unit, .ro false 4 (t_.Subs.map eRaw)]]))) 1 (lstB zsubs 1 (subs.map eStr))), 2⟩ → R_ s
noncomputable def calc_Text1_l0 (t_ : TSTerm) (recf : TSTerm → Option (List UInt8)) (K0_ : (List (List UInt8)) → Option (List UInt8)) : Nat → (List (List UInt8)) → Int → Option (List UInt8)
  | 0, _, _ => none
  | k + 1, subs, v18 =>
    if decide (v18 < (t_.Subs.length : Int)) then
      (at? t_.Subs v18).bind fun r_1 =>
      (d_TSTerm r_1.c).bind fun x_ =>
      (recf x_).bind fun r_2 =>
      (app? 16 subs [r_2]).bind fun r_3 =>
      (calc_Text1_l0 t_ recf K0_ k) r_3 (wi (v18 + 1))
    else
      K0_ subs
theorem calc_Text1_l0_ok {mL : Int} {Q : AExit → St → Prop} {t_ : TSTerm} {recf : TSTerm → Option (List UInt8)} {K0_ : (List (List UInt8)) → Option (List UInt8)} {k : Nat} {subs : (List (List UInt8))} {v18 : Int} {zsubs : Bool} (hzsubs : zsubs = true → subs = []) {o : (List UInt8)} (h : calc_Text1_l0 t_ recf K0_ k subs v18 = some o)
    (hK0 : calc_Text1_l0_E0 t_ K0_ o (Q (.exit 0)))
    (hr : ∀ s, Ends a6.results 0 (calc_Text1_post o) .ret s → Q .ret s)
    (hrec : calc_Text1_Rec mL recf) :
    Sv Tryd.prog (GG mL) 0 (.loop a6_calc_Text1_c0) Q ⟨(upd (upd (upd (upd (upd (fun _ => none) 1 (some (.c (.ref 0 4 0 0)))) 3 (some (lstV zsubs 1 1 subs.length))) 16 (some (.c (.ro false 4 (t_.Subs.map eRaw))))) 17 (some (I (t_.Subs.length : Int)))) 18 (some (I v18))), (upd (upd (fun _ => none) 0 (some (.cells 4 [[cI t_.Kind, cI t_.Dim.Num, .str t_.Dim.Unit, .ro false 4 (t_.Subs.map eRaw)]]))) 1 (lstB zsubs 1 (subs.map eStr))), 2⟩ := by
  refine Sv.loop (I := calc_Text1_l0_I t_ (calc_Text1_l0 t_ recf K0_) o) (fun k s hI => ?_) ⟨subs, v18, zsubs, hzsubs, h, rfl⟩
  clear h
  clear hzsubs zsubs v18 subs
  obtain ⟨subs, v18, zsubs, hzsubs, h, rfl⟩ := hI
  cases k with
  | zero => cases h
  | succ k =>
  rw [calc_Text1_l0] at h
  have hself : calc_Text1_l0_H t_ (calc_Text1_l0 t_ recf K0_ k) o (rnd 0 (calc_Text1_l0_I t_ (calc_Text1_l0 t_ recf K0_) o) k Q) := fun subs v18 zsubs hzsubs h s hw => ⟨_, k, hw, Nat.lt_succ_self k, subs, v18, zsubs, hzsubs, h, rfl⟩
  refine Sv.seq ?_
  refine Sv.region ?_
  refine un (a1 (v := (B (decide (v18 < (t_.Subs.length : Int))))) rfl ?_)
  refine dnil ?_
  refine Sv.seq ?_
  refine Sv.cond (b := decide (v18 < (t_.Subs.length : Int))) rfl (fun hc3 => ?_) (fun hc3 => ?_)
  · replace h := ifT hc3 h
    refine Sv.skip ?_
    refine Sv.seq ?_
    refine Sv.block ?_
    refine Sv.seq ?_
    refine Sv.region ?_
    obtain ⟨r_1, hr2, h⟩ := bnd h
    obtain ⟨x_, hd, h⟩ := bnd h
    have hx1 : at? t_.Subs v18 = some (⟨e_TSTerm x_, rfl⟩ : Raw) := by rw [hr2, raw_eq rfl (d_TSTerm_s hd)]
    refine un (a1 (v := (.c (.rop [cI x_.Kind, cI x_.Dim.Num, .str x_.Dim.Unit, .ro false 4 (x_.Subs.map eRaw)]))) (s_iaddr (e := eRaw) (xs := t_.Subs) rfl rfl hx1) ?_)
    refine un (a1 (v := (.agg [cI x_.Kind, cI x_.Dim.Num, .str x_.Dim.Unit, .ro false 4 (x_.Subs.map eRaw)])) rfl ?_)
    refine un (a2v (v := (.c (.ref 2 4 0 0))) (h' := upd _ 2 (some (.cells 4 [[cI 0, cI 0, .str [], .ro true 4 []]]))) (n' := 3) rfl rfl (fun h => by cases h) ?_)
    refine un (a2n (h' := upd _ 2 (some (.cells 4 [[cI x_.Kind, cI x_.Dim.Num, .str x_.Dim.Unit, .ro false 4 (x_.Subs.map eRaw)]]))) (n' := 3) rfl rfl (fun h => by cases h) ?_)
    refine dnil ?_
    refine Sv.region ?_
    refine un (a1 rfl ?_)
    refine un (a1 (v := (.agg [cI x_.Kind, cI x_.Dim.Num, .str x_.Dim.Unit, .ro false 4 (x_.Subs.map eRaw)])) rfl ?_)
    obtain ⟨r_2, hr3, h⟩ := bnd h
    refine un (ac_pure (hrec x_ _ hr3) rfl rfl rfl ?_)
    refine un (a2v (v := (lstV false 3 1 [r_2].length)) (h' := upd _ 3 (lstB false 1 ([r_2].map eStr))) (n' := 4) rfl rfl (fun h => by cases h) ?_)
    obtain ⟨r_3, hr4, h⟩ := bnd h
    have hz1 : (zsubs && [r_2].isEmpty) = true → r_3 = [] := app_nil (z := zsubs) (ys := [r_2]) hzsubs hr4
    refine un (a2v rfl (s_app (xs := subs) (ys := [r_2]) (e := eStr) (z := zsubs) (b := 1) rfl rfl hzsubs rfl rfl (slc_lst rfl (List.length_map _).symm (map_nil_of (fun h => by cases h))) hr4) (fun h => by cases h) ?_)
    refine un (a1 rfl ?_)
    refine dnil ?_
    refine Sv.region ?_
    refine un (a1 (v := (I (wi (v18 + 1)))) rfl ?_)
    refine un (a1 rfl ?_)
    refine dnil ?_
    exact hself r_3 (wi (v18 + 1)) (zsubs && [r_2].isEmpty) hz1 h _ (weak_canon [0, 4] rfl (by decide) (by decide) (fun b h => absurd h (Nat.not_lt_zero _)) (.cons rfl (avAs_free rfl) (.cons rfl (avAs_free rfl) (.cons rfl (avAs_free rfl) (.cons rfl (.c (lstC_ren rfl (by decide))) (.cons rfl (.c (.ref rfl (by decide))) .nil))))) (.row (by decide) rfl (fr_map fun _ => rfl) (.box (by decide) rfl (blkAs_cells (.cons (.same rfl) (.cons (.same rfl) (.cons (.same rfl) (.cons (.same rfl) .nil))))) .nil)))
  · replace h := ifF hc3 h
    refine Sv.exit ?_
    exact hK0 subs zsubs hzsubs h _ (weak_canon [0, 1] rfl (by decide) (by decide) (fun b h => absurd h (Nat.not_lt_zero _)) (.cons rfl (.c (lstC_ren rfl (by decide))) (.cons rfl (.c (.ref rfl (by decide))) .nil)) (.row (by decide) rfl (fr_map fun _ => rfl) (.box (by decide) rfl (blkAs_cells (.cons (.same rfl) (.cons (.same rfl) (.cons (.same rfl) (.cons (.same rfl) .nil))))) .nil)))
/-- clerestory/calc.Text -/
noncomputable def calc_Text1_r : Nat → TSTerm → Option (List UInt8)
  | 0, _ => none
  | k + 1, t_ =>
    if (!(calc_shaped1 t_)) then
      some []
    else
      if decide (t_.Kind = 1) then
        (dim_Text1 t_.Dim).bind fun r_ =>
        some r_
      else
        lim fun kk => calc_Text1_l0 t_ (calc_Text1_r k) (fun (subs1 : (List (List UInt8))) => 
            (cat? (calc_word1 t_.Kind) [40]).bind fun r_4 =>
            (strings_Join1 subs1 (calc_sign1 t_.Kind)).bind fun r_5 =>
            (cat? r_4 r_5).bind fun r_6 =>
            (cat? r_6 [41]).bind fun r_7 =>
            some r_7) kk ([] : List (List UInt8)) 0
noncomputable def calc_Text1 (t_ : TSTerm) : Option (List UInt8) :=
  lim fun kr => calc_Text1_r kr t_
theorem calc_Text1_r_ok {mL : Int} (k : Nat) : calc_Text1_Rec mL (calc_Text1_r k) := by
  induction k with
  | zero => intro t_ r h; cases h
  | succ k hrec =>
  intro t_ r h
  refine acalls_of_sv hmix c6 (R := calc_Text1_post r) ?_
  rw [calc_Text1_r] at h
  refine Sv.seq ?_
  refine Sv.region ?_
  refine un (a2v (v := (.c (.ref 0 4 0 0))) (h' := upd _ 0 (some (.cells 4 [[cI t_.Kind, cI t_.Dim.Num, .str t_.Dim.Unit, .ro false 4 (t_.Subs.map eRaw)]]))) (n' := 1) rfl rfl (fun h => by cases h) ?_)
  refine un (a1 rfl ?_)
  refine dnil ?_
  refine Sv.seq ?_
  refine Sv.seq ?_
  refine Sv.region ?_
  refine un (a1 (v := (.agg [cI t_.Kind, cI t_.Dim.Num, .str t_.Dim.Unit, .ro false 4 (t_.Subs.map eRaw)])) rfl ?_)
  refine un (ac_pure (calc_shaped1_ok (mL := mL) t_) rfl rfl rfl ?_)
  refine un (a1 (v := (B (!(calc_shaped1 t_)))) rfl ?_)
  refine dnil ?_
  refine Sv.cond (b := (!(calc_shaped1 t_))) rfl (fun hc1 => ?_) (fun hc1 => ?_)
  · replace h := ifT hc1 h
    refine Sv.seq ?_
    refine Sv.region ?_
    refine un (a1 rfl ?_)
    refine dnil ?_
    refine Sv.ret ?_
    replace h := Option.some.inj h
    subst h
    exact ⟨_, .refl _, _, rfl, ⟨upd (fun _ => none) 0 (some (S [])), (fun _ => none), 0⟩, (S []), weak_canon [] rfl List.nodup_nil (Nat.le_refl _) (fun b h => absurd h (Nat.not_lt_zero _)) (.cons rfl (avAs_free rfl) .nil) .nil, rfl, rfl, rfl, rfl⟩
  · replace h := ifF hc1 h
    refine Sv.skip ?_
    refine Sv.seq ?_
    refine Sv.seq ?_
    refine Sv.region ?_
    refine un (a1 (v := (.c (.ref 0 4 0 0))) rfl ?_)
    refine un (a1 (v := (I t_.Kind)) rfl ?_)
    refine un (a1 (v := (B (decide (t_.Kind = 1)))) rfl ?_)
    refine dnil ?_
    refine Sv.cond (b := decide (t_.Kind = 1)) rfl (fun hc2 => ?_) (fun hc2 => ?_)
    · replace h := ifT hc2 h
      refine Sv.seq ?_
      refine Sv.region ?_
      refine un (a1 (v := (.c (.ref 0 4 0 1))) rfl ?_)
      refine un (a1 (v := (.agg [cI t_.Dim.Num, .str t_.Dim.Unit])) rfl ?_)
      obtain ⟨r_, hr1, h⟩ := bnd h
      refine un (ac_pure (dim_Text1_ok hr1) rfl rfl rfl ?_)
      refine un (a1 rfl ?_)
      refine dnil ?_
      refine Sv.ret ?_
      replace h := Option.some.inj h
      subst h
      exact ⟨_, .refl _, _, rfl, ⟨upd (fun _ => none) 0 (some (S r_)), (fun _ => none), 0⟩, (S r_), weak_canon [] rfl List.nodup_nil (Nat.le_refl _) (fun b h => absurd h (Nat.not_lt_zero _)) (.cons rfl (avAs_free rfl) .nil) .nil, rfl, rfl, rfl, rfl⟩
    · replace h := ifF hc2 h
      refine Sv.skip ?_
      refine Sv.seq ?_
      refine Sv.region ?_
      refine un (a1 rfl ?_)
      refine dnil ?_
      refine Sv.seq ?_
      refine Sv.seq ?_
      refine Sv.region ?_
      refine un (a1 (v := (.c (.ref 0 4 0 3))) rfl ?_)
      refine un (a1 (v := (.c (.ro false 4 (t_.Subs.map eRaw)))) rfl ?_)
      refine un (a1 (v := (I (t_.Subs.length : Int))) (s_len (e := eRaw) (xs := t_.Subs) rfl) ?_)
      refine un (a1 rfl ?_)
      refine dnil ?_
      refine Sv.block ?_
      obtain ⟨kk, h⟩ := lim_some h
      refine Sv.weak (weak_canon [0, 1000] rfl (by decide) (by decide) (fun b h => absurd h (Nat.not_lt_zero _)) (.cons rfl (avAs_free rfl) (.cons rfl (avAs_free rfl) (.cons rfl (avAs_free rfl) (.cons rfl (.c (.same rfl)) (.cons rfl (.c (.ref rfl (by decide))) .nil))))) (.non (by decide) (.box (by decide) rfl (blkAs_cells (.cons (.same rfl) (.cons (.same rfl) (.cons (.same rfl) (.cons (.same rfl) .nil))))) .nil))) (calc_Text1_l0_ok (fun _ => rfl) h ?_ (fun s hs => hs) hrec)
      · intro subs1 zsubs1 hzsubs1 h _ hw1
        refine Sv.weak hw1 ?_
        refine Sv.seq ?_
        refine Sv.drawn ?_
        refine un (a1 (v := (.c (.ref 0 4 0 0))) rfl ?_)
        refine un (a1 (v := (I t_.Kind)) rfl ?_)
        refine un (a1 rfl ?_)
        refine un (a1 (v := (.c (.ref 0 4 0 0))) rfl ?_)
        refine un (a1 (v := (I t_.Kind)) rfl ?_)
        refine un (ac_pure (calc_word1_ok (mL := mL) t_.Kind) rfl rfl rfl ?_)
        obtain ⟨r_4, hx2, h⟩ := bnd h
        refine un (a1 (v := (S r_4)) (s_cat rfl rfl hx2) ?_)
        refine un (ac_pure (calc_sign1_ok (mL := mL) t_.Kind) rfl rfl rfl ?_)
        obtain ⟨r_5, hr5, h⟩ := bnd h
        refine un (ac_lend (h2 := (upd _ 1 none)) (strings_Join1_ok hr5) rfl (.cons (.c (lstC_ro (es := List.map eStr subs1) rfl (List.length_map eStr).symm (map_nil_of hzsubs1) (gone rfl) (fr_map fun _ => rfl))) (.cons (avAs_free rfl) .nil)) (hsub_none (hsub_refl _)) rfl rfl (.inr rfl) ?_)
        obtain ⟨r_6, hx3, h⟩ := bnd h
        refine un (a1 (v := (S r_6)) (s_cat rfl rfl hx3) ?_)
        obtain ⟨r_7, hx4, h⟩ := bnd h
        refine un (a1 (v := (S r_7)) (s_cat rfl rfl hx4) ?_)
        refine un (a1 rfl ?_)
        refine dnil ?_
        refine Sv.ret ?_
        replace h := Option.some.inj h
        subst h
        exact ⟨_, .refl _, _, rfl, ⟨upd (fun _ => none) 0 (some (S r_7)), (fun _ => none), 0⟩, (S r_7), weak_canon [] rfl List.nodup_nil (Nat.le_refl _) (fun b h => absurd h (Nat.not_lt_zero _)) (.cons rfl (avAs_free rfl) .nil) .nil, rfl, rfl, rfl, rfl⟩
theorem calc_Text1_ok {mL : Int} {t_ : TSTerm} {r : (List UInt8)} (h : calc_Text1 t_ = some r) : CPure Tryd.prog (GG mL) 6 [(.agg [cI t_.Kind, cI t_.Dim.Num, .str t_.Dim.Unit, .ro false 4 (t_.Subs.map eRaw)])] (S r) := by
  unfold calc_Text1 at h
  obtain ⟨k, h⟩ := lim_some h
  exact calc_Text1_r_ok k t_  r h
theorem calc_Text1_rec {mL : Int} : calc_Text1_Rec mL calc_Text1 := fun t_ r h => calc_Text1_ok h
def a26_c0 : ACode := (.seq (.region [⟨(some 17), (.mov (.tmp 3)), none⟩, ⟨(some 2), (.mov (.tmp 17)), none⟩])
 .ret)
def a26 : AFunc := ⟨1, [(.tmp 2)], (.seq (.region [⟨(some 2), (.mov (.const (.c (.str [])))), none⟩])
 (.seq (.region [⟨(some 4), (.mov (.tmp 0)), none⟩, ⟨(some 5), (.bin .rem (.tmp 4) (.const (.c (.val (.int .i64 10))))), none⟩, ⟨(some 6), (.bin .add (.const (.c (.val (.int .i64 48)))) (.tmp 5)), none⟩, ⟨(some 7), (.conv .u8 (.tmp 6)), none⟩, ⟨(some 8), (.bslice 1 [(.val (.int .u8 0))] 1 [(0, (.tmp 7))]), none⟩, ⟨(some 9), (.ofBytes (.tmp 8)), none⟩, ⟨(some 3), (.mov (.tmp 9)), none⟩])
 (.seq (.seq (.region [⟨(some 10), (.mov (.tmp 0)), none⟩, ⟨(some 11), (.bin .gtr (.tmp 10) (.const (.c (.val (.int .i64 9))))), none⟩])
 (.cond (.tmp 11) (.region [⟨(some 12), (.mov (.tmp 0)), none⟩, ⟨(some 13), (.bin .quo (.tmp 12) (.const (.c (.val (.int .i64 10))))), none⟩, ⟨(some 14), (.call 26 [(.tmp 13)]), none⟩, ⟨(some 15), (.mov (.tmp 3)), none⟩, ⟨(some 16), (.bin .add (.tmp 14) (.tmp 15)), none⟩, ⟨(some 3), (.mov (.tmp 16)), none⟩]) .skip))
 a26_c0)))⟩
set_option maxRecDepth 100000 in
theorem c26 : compFunc Tryd.prog 26 = some a26 := by kernel_rfl
def clerestoryref2_Digits_post (r : (List UInt8)) : AV → Heap → Nat → Prop := fun v h' n' => v = (S r) ∧ (h' = (fun _ => none)) ∧ n' = 0
def clerestoryref2_Digits_Rec (mL : Int) (recf : Int → Option (List UInt8)) : Prop := ∀ (n_ : Int) (r : (List UInt8)), recf n_ = some r → CPure Tryd.prog (GG mL) 26 [(I n_)] (S r)
noncomputable def clerestoryref2_Digits_j1 (s_ : (List UInt8)) : Option (List UInt8) :=
  some s_
theorem clerestoryref2_Digits_j1_ok {mL : Int} {s_ : (List UInt8)} {o : (List UInt8)} (h : clerestoryref2_Digits_j1 s_ = some o) :
    Sv Tryd.prog (GG mL) 0 a26_c0 (Ends a26.results 0 (clerestoryref2_Digits_post o)) ⟨(upd (fun _ => none) 3 (some (S s_))), (fun _ => none), 0⟩ := by
  unfold clerestoryref2_Digits_j1 at h
  refine Sv.seq ?_
  refine Sv.region ?_
  refine un (a1 rfl ?_)
  refine un (a1 rfl ?_)
  refine dnil ?_
  refine Sv.ret ?_
  replace h := Option.some.inj h
  subst h
  exact ⟨_, .refl _, _, rfl, ⟨upd (fun _ => none) 0 (some (S s_)), (fun _ => none), 0⟩, (S s_), weak_canon [] rfl List.nodup_nil (Nat.le_refl _) (fun b h => absurd h (Nat.not_lt_zero _)) (.cons rfl (avAs_free rfl) .nil) .nil, rfl, rfl, rfl, rfl⟩
/-- clerestory/clerestoryref2.Digits -/
noncomputable def clerestoryref2_Digits_r : Nat → Int → Option (List UInt8)
  | 0, _ => none
  | k + 1, n_ =>
    if decide (9 < n_) then
      ((clerestoryref2_Digits_r k) (wi (n_.tdiv 10))).bind fun r_ =>
      (cat? r_ (byts [(wr .u8 (wi (48 + (n_.tmod 10))))])).bind fun r_1 =>
      clerestoryref2_Digits_j1 r_1
    else
      clerestoryref2_Digits_j1 (byts [(wr .u8 (wi (48 + (n_.tmod 10))))])
noncomputable def clerestoryref2_Digits (n_ : Int) : Option (List UInt8) :=
  lim fun kr => clerestoryref2_Digits_r kr n_
theorem clerestoryref2_Digits_r_ok {mL : Int} (k : Nat) : clerestoryref2_Digits_Rec mL (clerestoryref2_Digits_r k) := by
  induction k with
  | zero => intro n_ r h; cases h
  | succ k hrec =>
  intro n_ r h
  refine acalls_of_sv hmix c26 (R := clerestoryref2_Digits_post r) ?_
  rw [clerestoryref2_Digits_r] at h
  refine Sv.seq ?_
  refine Sv.region ?_
  refine un (a1 rfl ?_)
  refine dnil ?_
  refine Sv.seq ?_
  refine Sv.region ?_
  refine un (a1 rfl ?_)
  refine un (a1 (v := (I (n_.tmod 10))) rfl ?_)
  refine un (a1 (v := (I (wi (48 + (n_.tmod 10))))) rfl ?_)
  refine un (a1 (v := (.c (.val (.int .u8 (wr .u8 (wi (48 + (n_.tmod 10)))))))) rfl ?_)
  refine un (a2v (v := (lstV false 0 1 [(wr .u8 (wi (48 + (n_.tmod 10))))].length)) (h' := upd _ 0 (lstB false 1 ([(wr .u8 (wi (48 + (n_.tmod 10))))].map (eK .u8)))) (n' := 1) rfl rfl (fun h => by cases h) ?_)
  refine un (a1 (v := (S (byts [(wr .u8 (wi (48 + (n_.tmod 10))))]))) (s_ofBytes (xs := [(wr .u8 (wi (48 + (n_.tmod 10))))]) rfl (slc_lst rfl (List.length_map _).symm (map_nil_of (fun h => by cases h)))) ?_)
  refine un (a1 rfl ?_)
  refine dnil ?_
  refine Sv.seq ?_
  refine Sv.seq ?_
  refine Sv.region ?_
  refine un (a1 rfl ?_)
  refine un (a1 (v := (B (decide (9 < n_)))) rfl ?_)
  refine dnil ?_
  refine Sv.cond (b := decide (9 < n_)) rfl (fun hc1 => ?_) (fun hc1 => ?_)
  · replace h := ifT hc1 h
    refine Sv.region ?_
    refine un (a1 rfl ?_)
    refine un (a1 (v := (I (wi (n_.tdiv 10)))) rfl ?_)
    obtain ⟨r_, hr1, h⟩ := bnd h
    refine un (ac_pure (hrec (wi (n_.tdiv 10)) _ hr1) rfl rfl rfl ?_)
    refine un (a1 rfl ?_)
    obtain ⟨r_1, hx1, h⟩ := bnd h
    refine un (a1 (v := (S r_1)) (s_cat rfl rfl hx1) ?_)
    refine un (a1 rfl ?_)
    refine dnil ?_
    exact Sv.weak (weak_canon [] rfl (by decide) (by decide) (fun b h => absurd h (Nat.not_lt_zero _)) (.cons rfl (avAs_free rfl) .nil) .nil) (clerestoryref2_Digits_j1_ok h)
  · replace h := ifF hc1 h
    refine Sv.skip ?_
    exact Sv.weak (weak_canon [] rfl (by decide) (by decide) (fun b h => absurd h (Nat.not_lt_zero _)) (.cons rfl (avAs_free rfl) .nil) .nil) (clerestoryref2_Digits_j1_ok h)
theorem clerestoryref2_Digits_ok {mL : Int} {n_ : Int} {r : (List UInt8)} (h : clerestoryref2_Digits n_ = some r) : CPure Tryd.prog (GG mL) 26 [(I n_)] (S r) := by
  unfold clerestoryref2_Digits at h
  obtain ⟨k, h⟩ := lim_some h
  exact clerestoryref2_Digits_r_ok k n_  r h
theorem clerestoryref2_Digits_rec {mL : Int} : clerestoryref2_Digits_Rec mL clerestoryref2_Digits := fun n_ r h => clerestoryref2_Digits_ok h
def a15_c0 : ACode := (.seq (.seq (.region [⟨(some 27), (.mov (.tmp 7)), none⟩, ⟨(some 28), (.mov (.tmp 7)), none⟩, ⟨(some 29), (.lenS (.tmp 28)), none⟩, ⟨(some 30), (.bin .sub (.tmp 29) (.const (.c (.val (.int .i64 1))))), none⟩, ⟨(some 31), (.idxS (.tmp 27) (.tmp 30)), none⟩, ⟨(some 32), (.bin .eql (.tmp 31) (.const (.c (.val (.int .u8 48))))), none⟩])
 (.cond (.tmp 32) .skip (.exit 0)))
 (.block 1 (.region [⟨(some 33), (.mov (.tmp 7)), none⟩, ⟨(some 34), (.mov (.tmp 7)), none⟩, ⟨(some 35), (.lenS (.tmp 34)), none⟩, ⟨(some 36), (.bin .sub (.tmp 35) (.const (.c (.val (.int .i64 1))))), none⟩, ⟨(some 37), (.slStr (.tmp 33) none (some (.tmp 36))), none⟩, ⟨(some 7), (.mov (.tmp 37)), none⟩])))
def a15_c2 : ACode := (.seq (.region [⟨(some 46), (.mov (.tmp 5)), none⟩, ⟨(some 47), (.faddr 1 (.tmp 1)), none⟩, ⟨(some 48), (.load false 1 (.tmp 47)), none⟩, ⟨(some 49), (.bin .add (.tmp 46) (.tmp 48)), none⟩, ⟨(some 2), (.mov (.tmp 49)), none⟩])
 .ret)
def a15_c1 : ACode := (.seq (.seq (.region [⟨(some 42), (.mov (.tmp 3)), none⟩, ⟨(some 43), (.bin .lss (.tmp 42) (.const (.c (.val (.int .i64 0))))), none⟩])
 (.cond (.tmp 43) (.region [⟨(some 44), (.mov (.tmp 5)), none⟩, ⟨(some 45), (.bin .add (.const (.c (.str [45]))) (.tmp 44)), none⟩, ⟨(some 5), (.mov (.tmp 45)), none⟩]) .skip))
 a15_c2)
def a15 : AFunc := ⟨1, [(.tmp 2)], (.seq (.region [⟨(some 1), (.box (.tmp 0)), none⟩, ⟨(some 2), (.mov (.const (.c (.str [])))), none⟩])
 (.seq (.region [⟨(some 8), (.faddr 0 (.tmp 1)), none⟩, ⟨(some 9), (.load false 1 (.tmp 8)), none⟩, ⟨(some 10), (.mm false [(.tmp 9), (.const (.c (.val (.int .i64 1000000000))))]), none⟩, ⟨(some 11), (.mm true [(.const (.c (.val (.int .i64 (-1000000000))))), (.tmp 10)]), none⟩, ⟨(some 3), (.mov (.tmp 11)), none⟩])
 (.seq (.region [⟨(some 12), (.mov (.tmp 3)), none⟩, ⟨(some 13), (.mov (.tmp 3)), none⟩, ⟨(some 14), (.bin .sub (.const (.c (.val (.int .i64 0)))) (.tmp 13)), none⟩, ⟨(some 15), (.mm true [(.tmp 12), (.tmp 14)]), none⟩, ⟨(some 4), (.mov (.tmp 15)), none⟩])
 (.seq (.region [⟨(some 16), (.mov (.tmp 4)), none⟩, ⟨(some 17), (.bin .quo (.tmp 16) (.const (.c (.val (.int .i64 1000))))), none⟩, ⟨(some 18), (.call 26 [(.tmp 17)]), none⟩, ⟨(some 5), (.mov (.tmp 18)), none⟩])
 (.seq (.region [⟨(some 19), (.mov (.tmp 4)), none⟩, ⟨(some 20), (.bin .rem (.tmp 19) (.const (.c (.val (.int .i64 1000))))), none⟩, ⟨(some 6), (.mov (.tmp 20)), none⟩])
 (.seq (.seq (.region [⟨(some 21), (.mov (.tmp 6)), none⟩, ⟨(some 22), (.bin .gtr (.tmp 21) (.const (.c (.val (.int .i64 0))))), none⟩])
 (.cond (.tmp 22) (.seq (.region [⟨(some 23), (.mov (.tmp 6)), none⟩, ⟨(some 24), (.bin .add (.const (.c (.val (.int .i64 1000)))) (.tmp 23)), none⟩, ⟨(some 25), (.call 26 [(.tmp 24)]), none⟩, ⟨(some 26), (.slStr (.tmp 25) (some (.const (.c (.val (.int .i64 1))))) none), none⟩, ⟨(some 7), (.mov (.tmp 26)), none⟩])
 (.seq (.block 0 (.loop a15_c0))
 (.region [⟨(some 38), (.mov (.tmp 5)), none⟩, ⟨(some 39), (.bin .add (.tmp 38) (.const (.c (.str [46])))), none⟩, ⟨(some 40), (.mov (.tmp 7)), none⟩, ⟨(some 41), (.bin .add (.tmp 39) (.tmp 40)), none⟩, ⟨(some 5), (.mov (.tmp 41)), none⟩]))) .skip))
 a15_c1))))))⟩
set_option maxRecDepth 100000 in
theorem c15 : compFunc Tryd.prog 15 = some a15 := by kernel_rfl
def clerestoryref2_DimText_post (r : (List UInt8)) : AV → Heap → Nat → Prop := fun v h' n' => v = (S r) ∧ (h' = (fun _ => none)) ∧ n' = 0
noncomputable def clerestoryref2_DimText_j2 (d_ : TSDim) (s_1 : (List UInt8)) : Option (List UInt8) :=
  (cat? s_1 d_.Unit).bind fun r_1 =>
  some r_1
theorem clerestoryref2_DimText_j2_ok {mL : Int} {d_ : TSDim} {s_1 : (List UInt8)} {o : (List UInt8)} (h : clerestoryref2_DimText_j2 d_ s_1 = some o) :
    Sv Tryd.prog (GG mL) 0 a15_c2 (Ends a15.results 0 (clerestoryref2_DimText_post o)) ⟨(upd (upd (fun _ => none) 1 (some (.c (.ref 0 2 0 0)))) 5 (some (S s_1))), (upd (fun _ => none) 0 (some (.cells 2 [[cI d_.Num, .str d_.Unit]]))), 1⟩ := by
  unfold clerestoryref2_DimText_j2 at h
  refine Sv.seq ?_
  refine Sv.region ?_
  refine un (a1 rfl ?_)
  refine un (a1 (v := (.c (.ref 0 2 0 1))) rfl ?_)
  refine un (a1 (v := (S d_.Unit)) rfl ?_)
  obtain ⟨r_1, hx1, h⟩ := bnd h
  refine un (a1 (v := (S r_1)) (s_cat rfl rfl hx1) ?_)
  refine un (a1 rfl ?_)
  refine dnil ?_
  refine Sv.ret ?_
  replace h := Option.some.inj h
  subst h
  exact ⟨_, .refl _, _, rfl, ⟨upd (fun _ => none) 0 (some (S r_1)), (fun _ => none), 0⟩, (S r_1), weak_canon [] rfl List.nodup_nil (Nat.le_refl _) (fun b h => absurd h (Nat.not_lt_zero _)) (.cons rfl (avAs_free rfl) .nil) .nil, rfl, rfl, rfl, rfl⟩
noncomputable def clerestoryref2_DimText_j1 (d_ : TSDim) (s_ : (List UInt8)) : Option (List UInt8) :=
  if decide ((mx (-1000000000) (mn d_.Num 1000000000)) < 0) then
    (cat? [45] s_).bind fun r_2 =>
    clerestoryref2_DimText_j2 d_ r_2
  else
    clerestoryref2_DimText_j2 d_ s_
theorem clerestoryref2_DimText_j1_ok {mL : Int} {d_ : TSDim} {s_ : (List UInt8)} {o : (List UInt8)} (h : clerestoryref2_DimText_j1 d_ s_ = some o) :
    Sv Tryd.prog (GG mL) 0 a15_c1 (Ends a15.results 0 (clerestoryref2_DimText_post o)) ⟨(upd (upd (upd (fun _ => none) 1 (some (.c (.ref 0 2 0 0)))) 3 (some (I (mx (-1000000000) (mn d_.Num 1000000000))))) 5 (some (S s_))), (upd (fun _ => none) 0 (some (.cells 2 [[cI d_.Num, .str d_.Unit]]))), 1⟩ := by
  unfold clerestoryref2_DimText_j1 at h
  refine Sv.seq ?_
  refine Sv.seq ?_
  refine Sv.region ?_
  refine un (a1 rfl ?_)
  refine un (a1 (v := (B (decide ((mx (-1000000000) (mn d_.Num 1000000000)) < 0)))) rfl ?_)
  refine dnil ?_
  refine Sv.cond (b := decide ((mx (-1000000000) (mn d_.Num 1000000000)) < 0)) rfl (fun hc1 => ?_) (fun hc1 => ?_)
  · replace h := ifT hc1 h
    refine Sv.region ?_
    refine un (a1 rfl ?_)
    obtain ⟨r_2, hx2, h⟩ := bnd h
    refine un (a1 (v := (S r_2)) (s_cat rfl rfl hx2) ?_)
    refine un (a1 rfl ?_)
    refine dnil ?_
    exact Sv.weak (weak_canon [0] rfl (by decide) (by decide) (fun b h => absurd h (Nat.not_lt_zero _)) (.cons rfl (avAs_free rfl) (.cons rfl (.c (.ref rfl (by decide))) .nil)) (.box (by decide) rfl (blkAs_cells (.cons (.same rfl) (.cons (.same rfl) .nil))) .nil)) (clerestoryref2_DimText_j2_ok h)
  · replace h := ifF hc1 h
    refine Sv.skip ?_
    exact Sv.weak (weak_canon [0] rfl (by decide) (by decide) (fun b h => absurd h (Nat.not_lt_zero _)) (.cons rfl (avAs_free rfl) (.cons rfl (.c (.ref rfl (by decide))) .nil)) (.box (by decide) rfl (blkAs_cells (.cons (.same rfl) (.cons (.same rfl) .nil))) .nil)) (clerestoryref2_DimText_j2_ok h)
abbrev clerestoryref2_DimText_l2_E0 (d_ : TSDim) (r_ : (List UInt8)) (F_ : (List UInt8) → Option (List UInt8)) (o : (List UInt8)) (R_ : St → Prop) : Prop := ∀ (t_1 : (List UInt8)), F_ t_1 = some o → ∀ s, Weak 0 s ⟨(upd (upd (upd (upd (fun _ => none) 1 (some (.c (.ref 0 2 0 0)))) 3 (some (I (mx (-1000000000) (mn d_.Num 1000000000))))) 5 (some (S r_))) 7 (some (S t_1))), (upd (fun _ => none) 0 (some (.cells 2 [[cI d_.Num, .str d_.Unit]]))), 1⟩ → R_ s
abbrev clerestoryref2_DimText_l2_I (d_ : TSDim) (r_ : (List UInt8)) (F_ : Nat → (List UInt8) → Option (List UInt8)) (o : (List UInt8)) : Nat → St → Prop := fun k s => ∃ (t_ : (List UInt8)), F_ k t_ = some o ∧ s = ⟨(upd (upd (upd (upd (fun _ => none) 1 (some (.c (.ref 0 2 0 0)))) 3 (some (I (mx (-1000000000) (mn d_.Num 1000000000))))) 5 (some (S r_))) 7 (some (S t_))), (upd (fun _ => none) 0 (some (.cells 2 [[cI d_.Num, .str d_.Unit]]))), 1⟩
abbrev clerestoryref2_DimText_l2_H (d_ : TSDim) (r_ : (List UInt8)) (F_ : (List UInt8) → Option (List UInt8)) (o : (List UInt8)) (R_ : St → Prop) : Prop := ∀ (t_ : (List UInt8)), F_ t_ = some o → ∀ s, Weak 0 s ⟨(upd (upd (upd (upd (fun _ => none) 1 (some (.c (.ref 0 2 0 0)))) 3 (some (I (mx (-1000000000) (mn d_.Num 1000000000))))) 5 (some (S r_))) 7 (some (S t_))), (upd (fun _ => none) 0 (some (.cells 2 [[cI d_.Num, .str d_.Unit]]))), 1⟩ → R_ s
noncomputable def clerestoryref2_DimText_l2 (d_ : TSDim) (r_ : (List UInt8)) (K0_ : (List UInt8) → Option (List UInt8)) : Nat → (List UInt8) → Option (List UInt8)
  | 0, _ => none
  | k + 1, t_ =>
    (at? t_ (wi ((t_.length : Int) - 1))).bind fun c_ =>
    if decide ((c_.toNat : Int) = 48) then
      (sub? t_ 0 (wi ((t_.length : Int) - 1))).bind fun r_5 =>
      (clerestoryref2_DimText_l2 d_ r_ K0_ k) r_5
    else
      K0_ t_
theorem clerestoryref2_DimText_l2_ok {mL : Int} {Q : AExit → St → Prop} {d_ : TSDim} {r_ : (List UInt8)} {K0_ : (List UInt8) → Option (List UInt8)} {k : Nat} {t_ : (List UInt8)} {o : (List UInt8)} (h : clerestoryref2_DimText_l2 d_ r_ K0_ k t_ = some o)
    (hK0 : clerestoryref2_DimText_l2_E0 d_ r_ K0_ o (Q (.exit 0)))
    (hr : ∀ s, Ends a15.results 0 (clerestoryref2_DimText_post o) .ret s → Q .ret s) :
    Sv Tryd.prog (GG mL) 0 (.loop a15_c0) Q ⟨(upd (upd (upd (upd (fun _ => none) 1 (some (.c (.ref 0 2 0 0)))) 3 (some (I (mx (-1000000000) (mn d_.Num 1000000000))))) 5 (some (S r_))) 7 (some (S t_))), (upd (fun _ => none) 0 (some (.cells 2 [[cI d_.Num, .str d_.Unit]]))), 1⟩ := by
  refine Sv.loop (I := clerestoryref2_DimText_l2_I d_ r_ (clerestoryref2_DimText_l2 d_ r_ K0_) o) (fun k s hI => ?_) ⟨t_, h, rfl⟩
  clear h
  clear t_
  obtain ⟨t_, h, rfl⟩ := hI
  cases k with
  | zero => cases h
  | succ k =>
  rw [clerestoryref2_DimText_l2] at h
  have hself : clerestoryref2_DimText_l2_H d_ r_ (clerestoryref2_DimText_l2 d_ r_ K0_ k) o (rnd 0 (clerestoryref2_DimText_l2_I d_ r_ (clerestoryref2_DimText_l2 d_ r_ K0_) o) k Q) := fun t_ h s hw => ⟨_, k, hw, Nat.lt_succ_self k, t_, h, rfl⟩
  refine Sv.seq ?_
  refine Sv.seq ?_
  refine Sv.region ?_
  refine un (a1 rfl ?_)
  refine un (a1 rfl ?_)
  refine un (a1 (v := (I (t_.length : Int))) rfl ?_)
  refine un (a1 (v := (I (wi ((t_.length : Int) - 1)))) rfl ?_)
  obtain ⟨c_, hx4, h⟩ := bnd h
  refine un (a1 (v := (.c (.val (.int .u8 (c_.toNat : Int))))) (s_idxS rfl rfl hx4) ?_)
  refine un (a1 (v := (B (decide ((c_.toNat : Int) = 48)))) rfl ?_)
  refine dnil ?_
  refine Sv.cond (b := decide ((c_.toNat : Int) = 48)) rfl (fun hc3 => ?_) (fun hc3 => ?_)
  · replace h := ifT hc3 h
    refine Sv.skip ?_
    refine Sv.block ?_
    refine Sv.region ?_
    refine un (a1 rfl ?_)
    refine un (a1 rfl ?_)
    refine un (a1 (v := (I (t_.length : Int))) rfl ?_)
    refine un (a1 (v := (I (wi ((t_.length : Int) - 1)))) rfl ?_)
    obtain ⟨r_5, hx5, h⟩ := bnd h
    refine un (a1 (v := (S r_5)) (s_slStr rfl rfl rfl hx5) ?_)
    refine un (a1 rfl ?_)
    refine dnil ?_
    exact hself r_5 h _ (weak_canon [0] rfl (by decide) (by decide) (fun b h => absurd h (Nat.not_lt_zero _)) (.cons rfl (avAs_free rfl) (.cons rfl (avAs_free rfl) (.cons rfl (avAs_free rfl) (.cons rfl (.c (.ref rfl (by decide))) .nil)))) (.box (by decide) rfl (blkAs_cells (.cons (.same rfl) (.cons (.same rfl) .nil))) .nil))
  · replace h := ifF hc3 h
    refine Sv.exit ?_
    exact hK0 t_ h _ (weak_canon [0] rfl (by decide) (by decide) (fun b h => absurd h (Nat.not_lt_zero _)) (.cons rfl (avAs_free rfl) (.cons rfl (avAs_free rfl) (.cons rfl (avAs_free rfl) (.cons rfl (.c (.ref rfl (by decide))) .nil)))) (.box (by decide) rfl (blkAs_cells (.cons (.same rfl) (.cons (.same rfl) .nil))) .nil))
/-- clerestory/clerestoryref2.DimText -/
noncomputable def clerestoryref2_DimText (d_ : TSDim) : Option (List UInt8) :=
  letIn (wi ((mx (mx (-1000000000) (mn d_.Num 1000000000)) (wi (0 - (mx (-1000000000) (mn d_.Num 1000000000))))).tdiv 1000)) fun v17 : Int =>
  (clerestoryref2_Digits v17).bind fun r_ =>
  letIn ((mx (mx (-1000000000) (mn d_.Num 1000000000)) (wi (0 - (mx (-1000000000) (mn d_.Num 1000000000))))).tmod 1000) fun v20 : Int =>
  if decide (0 < v20) then
    (clerestoryref2_Digits (wi (1000 + v20))).bind fun r_3 =>
    (sub? r_3 1 (r_3.length : Int)).bind fun r_4 =>
    lim fun kk => clerestoryref2_DimText_l2 d_ r_ (fun (t_1 : (List UInt8)) => 
        (cat? r_ [46]).bind fun r_6 =>
        (cat? r_6 t_1).bind fun r_7 =>
        clerestoryref2_DimText_j1 d_ r_7) kk r_4
  else
    clerestoryref2_DimText_j1 d_ r_
theorem clerestoryref2_DimText_ok {mL : Int} {d_ : TSDim} {r : (List UInt8)} (h : clerestoryref2_DimText d_ = some r) : CPure Tryd.prog (GG mL) 15 [(.agg [cI d_.Num, .str d_.Unit])] (S r) := by
  refine acalls_of_sv hmix c15 (R := clerestoryref2_DimText_post r) ?_
  unfold clerestoryref2_DimText at h
  refine Sv.seq ?_
  refine Sv.region ?_
  refine un (a2v (v := (.c (.ref 0 2 0 0))) (h' := upd _ 0 (some (.cells 2 [[cI d_.Num, .str d_.Unit]]))) (n' := 1) rfl rfl (fun h => by cases h) ?_)
  refine un (a1 rfl ?_)
  refine dnil ?_
  refine Sv.seq ?_
  refine Sv.region ?_
  refine un (a1 (v := (.c (.ref 0 2 0 0))) rfl ?_)
  refine un (a1 (v := (I d_.Num)) rfl ?_)
  refine un (a1 (v := (I (mn d_.Num 1000000000))) (s_mn rfl rfl) ?_)
  refine un (a1 (v := (I (mx (-1000000000) (mn d_.Num 1000000000)))) (s_mx rfl rfl) ?_)
  refine un (a1 rfl ?_)
  refine dnil ?_
  refine Sv.seq ?_
  refine Sv.region ?_
  refine un (a1 rfl ?_)
  refine un (a1 rfl ?_)
  refine un (a1 (v := (I (wi (0 - (mx (-1000000000) (mn d_.Num 1000000000)))))) rfl ?_)
  refine un (a1 (v := (I (mx (mx (-1000000000) (mn d_.Num 1000000000)) (wi (0 - (mx (-1000000000) (mn d_.Num 1000000000))))))) (s_mx rfl rfl) ?_)
  refine un (a1 rfl ?_)
  refine dnil ?_
  refine Sv.seq ?_
  refine Sv.region ?_
  refine un (a1 rfl ?_)
  obtain ⟨v17, hv17⟩ : ∃ v17 : Int, v17 = (wi ((mx (mx (-1000000000) (mn d_.Num 1000000000)) (wi (0 - (mx (-1000000000) (mn d_.Num 1000000000))))).tdiv 1000)) := ⟨_, rfl⟩
  replace h := letAt hv17 h
  refine un (a1 (v := (I v17)) (by rw [hv17]; rfl) ?_)
  clear hv17
  obtain ⟨r_, hr1, h⟩ := bnd h
  refine un (ac_pure (clerestoryref2_Digits_ok hr1) rfl rfl rfl ?_)
  refine un (a1 rfl ?_)
  refine dnil ?_
  refine Sv.seq ?_
  refine Sv.region ?_
  refine un (a1 rfl ?_)
  obtain ⟨v20, hv20⟩ : ∃ v20 : Int, v20 = ((mx (mx (-1000000000) (mn d_.Num 1000000000)) (wi (0 - (mx (-1000000000) (mn d_.Num 1000000000))))).tmod 1000) := ⟨_, rfl⟩
  replace h := letAt hv20 h
  refine un (a1 (v := (I v20)) (by rw [hv20]; rfl) ?_)
  clear hv20
  refine un (a1 rfl ?_)
  refine dnil ?_
  refine Sv.seq ?_
  refine Sv.seq ?_
  refine Sv.region ?_
  refine un (a1 rfl ?_)
  refine un (a1 (v := (B (decide (0 < v20)))) rfl ?_)
  refine dnil ?_
  refine Sv.cond (b := decide (0 < v20)) rfl (fun hc2 => ?_) (fun hc2 => ?_)
  · replace h := ifT hc2 h
    refine Sv.seq ?_
    refine Sv.region ?_
    refine un (a1 rfl ?_)
    refine un (a1 (v := (I (wi (1000 + v20)))) rfl ?_)
    obtain ⟨r_3, hr2, h⟩ := bnd h
    refine un (ac_pure (clerestoryref2_Digits_ok hr2) rfl rfl rfl ?_)
    obtain ⟨r_4, hx3, h⟩ := bnd h
    refine un (a1 (v := (S r_4)) (s_slStr rfl rfl rfl hx3) ?_)
    refine un (a1 rfl ?_)
    refine dnil ?_
    refine Sv.seq ?_
    refine Sv.block ?_
    obtain ⟨kk, h⟩ := lim_some h
    refine Sv.weak (weak_canon [0] rfl (by decide) (by decide) (fun b h => absurd h (Nat.not_lt_zero _)) (.cons rfl (avAs_free rfl) (.cons rfl (avAs_free rfl) (.cons rfl (avAs_free rfl) (.cons rfl (.c (.ref rfl (by decide))) .nil)))) (.box (by decide) rfl (blkAs_cells (.cons (.same rfl) (.cons (.same rfl) .nil))) .nil)) (clerestoryref2_DimText_l2_ok h ?_ (fun s hs => hs))
    · intro t_1 h _ hw1
      refine Sv.weak hw1 ?_
      refine Sv.region ?_
      refine un (a1 rfl ?_)
      obtain ⟨r_6, hx6, h⟩ := bnd h
      refine un (a1 (v := (S r_6)) (s_cat rfl rfl hx6) ?_)
      refine un (a1 rfl ?_)
      obtain ⟨r_7, hx7, h⟩ := bnd h
      refine un (a1 (v := (S r_7)) (s_cat rfl rfl hx7) ?_)
      refine un (a1 rfl ?_)
      refine dnil ?_
      exact Sv.weak (weak_canon [0] rfl (by decide) (by decide) (fun b h => absurd h (Nat.not_lt_zero _)) (.cons rfl (avAs_free rfl) (.cons rfl (avAs_free rfl) (.cons rfl (.c (.ref rfl (by decide))) .nil))) (.box (by decide) rfl (blkAs_cells (.cons (.same rfl) (.cons (.same rfl) .nil))) .nil)) (clerestoryref2_DimText_j1_ok h)
  · replace h := ifF hc2 h
    refine Sv.skip ?_
    exact Sv.weak (weak_canon [0] rfl (by decide) (by decide) (fun b h => absurd h (Nat.not_lt_zero _)) (.cons rfl (avAs_free rfl) (.cons rfl (avAs_free rfl) (.cons rfl (.c (.ref rfl (by decide))) .nil))) (.box (by decide) rfl (blkAs_cells (.cons (.same rfl) (.cons (.same rfl) .nil))) .nil)) (clerestoryref2_DimText_j1_ok h)
def a7_c0 : ACode := (.region [⟨(some 37), (.mov (.tmp 3)), none⟩, ⟨(some 38), (.faddr 3 (.tmp 1)), none⟩, ⟨(some 39), (.load false 1 (.tmp 38)), none⟩, ⟨(some 40), (.mov (.tmp 5)), none⟩, ⟨(some 41), (.iaddr 4 (.tmp 39) (.tmp 40)), none⟩, ⟨(some 42), (.load true 4 (.tmp 41)), none⟩, ⟨(some 43), (.call 7 [(.tmp 42)]), none⟩, ⟨(some 44), (.bin .add (.tmp 37) (.tmp 43)), none⟩, ⟨(some 3), (.mov (.tmp 44)), none⟩])
def a7_c1 : ACode := (.region [⟨(some 30), (.mov (.tmp 5)), none⟩, ⟨(some 31), (.bin .add (.tmp 30) (.const (.c (.val (.int .i64 1))))), none⟩, ⟨(some 5), (.mov (.tmp 31)), none⟩])
def a7_c2 : ACode := (.seq (.seq (.region [⟨(some 25), (.mov (.tmp 5)), none⟩, ⟨(some 26), (.faddr 3 (.tmp 1)), none⟩, ⟨(some 27), (.load false 1 (.tmp 26)), none⟩, ⟨(some 28), (.len (.tmp 27)), none⟩, ⟨(some 29), (.bin .lss (.tmp 25) (.tmp 28)), none⟩])
 (.cond (.tmp 29) .skip (.exit 0)))
 (.seq (.block 1 (.seq (.seq (.region [⟨(some 32), (.mov (.tmp 5)), none⟩, ⟨(some 33), (.bin .gtr (.tmp 32) (.const (.c (.val (.int .i64 0))))), none⟩])
 (.cond (.tmp 33) (.region [⟨(some 34), (.mov (.tmp 3)), none⟩, ⟨(some 35), (.mov (.tmp 4)), none⟩, ⟨(some 36), (.bin .add (.tmp 34) (.tmp 35)), none⟩, ⟨(some 3), (.mov (.tmp 36)), none⟩]) .skip))
 a7_c0))
 a7_c1))
def a7 : AFunc := ⟨1, [(.tmp 2)], (.seq (.region [⟨(some 1), (.box (.tmp 0)), none⟩, ⟨(some 2), (.mov (.const (.c (.str [])))), none⟩])
 (.seq (.seq (.region [⟨(some 6), (.load true 4 (.tmp 1)), none⟩, ⟨(some 7), (.call 9 [(.tmp 6)]), none⟩, ⟨(some 8), (.un .not (.tmp 7)), none⟩])
 (.cond (.tmp 8) (.seq (.region [⟨(some 2), (.mov (.const (.c (.str [])))), none⟩])
 .ret) .skip))
 (.seq (.seq (.region [⟨(some 9), (.faddr 0 (.tmp 1)), none⟩, ⟨(some 10), (.load false 1 (.tmp 9)), none⟩, ⟨(some 11), (.bin .eql (.tmp 10) (.const (.c (.val (.int .i64 1))))), none⟩])
 (.cond (.tmp 11) (.seq (.region [⟨(some 12), (.faddr 1 (.tmp 1)), none⟩, ⟨(some 13), (.load true 2 (.tmp 12)), none⟩, ⟨(some 14), (.call 15 [(.tmp 13)]), none⟩, ⟨(some 2), (.mov (.tmp 14)), none⟩])
 .ret) .skip))
 (.seq (.region [⟨(some 15), (.bslice 1 [(.str [])] 9 [(0, (.const (.c (.str [])))), (1, (.const (.c (.str [])))), (2, (.const (.c (.str [40])))), (3, (.const (.c (.str [40])))), (4, (.const (.c (.str [40])))), (5, (.const (.c (.str [40])))), (6, (.const (.c (.str [109, 105, 110, 40])))), (7, (.const (.c (.str [109, 97, 120, 40])))), (8, (.const (.c (.str [99, 108, 97, 109, 112, 40]))))]), none⟩, ⟨(some 16), (.faddr 0 (.tmp 1)), none⟩, ⟨(some 17), (.load false 1 (.tmp 16)), none⟩, ⟨(some 18), (.iaddr 1 (.tmp 15) (.tmp 17)), none⟩, ⟨(some 19), (.load false 1 (.tmp 18)), none⟩, ⟨(some 3), (.mov (.tmp 19)), none⟩])
 (.seq (.region [⟨(some 20), (.bslice 1 [(.str [])] 9 [(0, (.const (.c (.str [])))), (1, (.const (.c (.str [])))), (2, (.const (.c (.str [32, 43, 32])))), (3, (.const (.c (.str [32, 45, 32])))), (4, (.const (.c (.str [32, 42, 32])))), (5, (.const (.c (.str [32, 47, 32])))), (6, (.const (.c (.str [44, 32])))), (7, (.const (.c (.str [44, 32])))), (8, (.const (.c (.str [44, 32]))))]), none⟩, ⟨(some 21), (.faddr 0 (.tmp 1)), none⟩, ⟨(some 22), (.load false 1 (.tmp 21)), none⟩, ⟨(some 23), (.iaddr 1 (.tmp 20) (.tmp 22)), none⟩, ⟨(some 24), (.load false 1 (.tmp 23)), none⟩, ⟨(some 4), (.mov (.tmp 24)), none⟩])
 (.seq (.seq (.region [⟨(some 5), (.mov (.const (.c (.val (.int .i64 0))))), none⟩])
 (.block 0 (.loop a7_c2)))
 (.seq (.region [⟨(some 45), (.mov (.tmp 3)), none⟩, ⟨(some 46), (.bin .add (.tmp 45) (.const (.c (.str [41])))), none⟩, ⟨(some 2), (.mov (.tmp 46)), none⟩])
 .ret)))))))⟩
set_option maxRecDepth 100000 in
theorem c7 : compFunc Tryd.prog 7 = some a7 := by kernel_rfl
def clerestoryref2_TermText_post (r : (List UInt8)) : AV → Heap → Nat → Prop := fun v h' n' => v = (S r) ∧ (h' = (fun _ => none)) ∧ n' = 0
def clerestoryref2_TermText_t0 : List (List UInt8) := [[], [], [40], [40], [40], [40], [109, 105, 110, 40], [109, 97, 120, 40], [99, 108, 97, 109, 112, 40]]
def clerestoryref2_TermText_t1 : List (List UInt8) := [[], [], [32, 43, 32], [32, 45, 32], [32, 42, 32], [32, 47, 32], [44, 32], [44, 32], [44, 32]]
def clerestoryref2_TermText_Rec (mL : Int) (recf : TSTerm → Option (List UInt8)) : Prop := ∀ (t_ : TSTerm) (r : (List UInt8)), recf t_ = some r → CPure Tryd.prog (GG mL) 7 [(.agg [cI t_.Kind, cI t_.Dim.Num, .str t_.Dim.Unit, .ro false 4 (t_.Subs.map eRaw)])] (S r)
abbrev clerestoryref2_TermText_l0_H (x_1 : (List UInt8)) (t_ : TSTerm) (F_ : (List UInt8) → Int → Option (List UInt8)) (o : (List UInt8)) (R_ : St → Prop) : Prop := ∀ (s_ : (List UInt8)) (i_ : Int), F_ s_ i_ = some o → ∀ s, Weak 0 s ⟨(upd (upd (upd (upd (fun _ => none) 1 (some (.c (.ref 0 4 0 0)))) 3 (some (S s_))) 4 (some (S x_1))) 5 (some (I i_))), (upd (fun _ => none) 0 (some (.cells 4 [[cI t_.Kind, cI t_.Dim.Num, .str t_.Dim.Unit, .ro false 4 (t_.Subs.map eRaw)]]))), 1⟩ → R_ s
abbrev clerestoryref2_TermText_l0_E0 (F_ : (List UInt8) → Option (List UInt8)) (o : (List UInt8)) (R_ : St → Prop) : Prop := ∀ (s_1 : (List UInt8)), F_ s_1 = some o → ∀ s, Weak 0 s ⟨(upd (fun _ => none) 3 (some (S s_1))), (fun _ => none), 0⟩ → R_ s
abbrev clerestoryref2_TermText_q0 (mL : Int) (Q : AExit → St → Prop) : AExit → St → Prop := AThen (Sv Tryd.prog (GG mL) 0 a7_c1 Q) Q
abbrev clerestoryref2_TermText_q1 (mL : Int) (Q : AExit → St → Prop) : AExit → St → Prop := ABlock 1 (clerestoryref2_TermText_q0 mL Q)
noncomputable def clerestoryref2_TermText_j3 (t_ : TSTerm) (i_ : Int) (recf : TSTerm → Option (List UInt8)) (x_1 : (List UInt8)) (self : (List UInt8) → Int → Option (List UInt8)) (K0_ : (List UInt8) → Option (List UInt8)) (s_2 : (List UInt8)) : Option (List UInt8) :=
  (at? t_.Subs i_).bind fun r_1 =>
  (d_TSTerm r_1.c).bind fun x_2 =>
  (recf x_2).bind fun r_2 =>
  (cat? s_2 r_2).bind fun r_3 =>
  self r_3 (wi (i_ + 1))
theorem clerestoryref2_TermText_j3_ok {mL : Int} {Q : AExit → St → Prop} {t_ : TSTerm} {i_ : Int} {recf : TSTerm → Option (List UInt8)} {x_1 : (List UInt8)} {self : (List UInt8) → Int → Option (List UInt8)} {K0_ : (List UInt8) → Option (List UInt8)} {s_2 : (List UInt8)} {o : (List UInt8)} (h : clerestoryref2_TermText_j3 t_ i_ recf x_1 self K0_ s_2 = some o)
    (hself : clerestoryref2_TermText_l0_H x_1 t_ self o (Q .normal))
    (hK0 : clerestoryref2_TermText_l0_E0 K0_ o (Q (.exit 0)))
    (hr : ∀ s, Ends a7.results 0 (clerestoryref2_TermText_post o) .ret s → Q .ret s)
    (hrec : clerestoryref2_TermText_Rec mL recf) :
    Sv Tryd.prog (GG mL) 0 a7_c0 (clerestoryref2_TermText_q1 mL Q) ⟨(upd (upd (upd (upd (fun _ => none) 1 (some (.c (.ref 0 4 0 0)))) 3 (some (S s_2))) 4 (some (S x_1))) 5 (some (I i_))), (upd (fun _ => none) 0 (some (.cells 4 [[cI t_.Kind, cI t_.Dim.Num, .str t_.Dim.Unit, .ro false 4 (t_.Subs.map eRaw)]]))), 1⟩ := by
  unfold clerestoryref2_TermText_j3 at h
  refine Sv.region ?_
  refine un (a1 rfl ?_)
  refine un (a1 (v := (.c (.ref 0 4 0 3))) rfl ?_)
  refine un (a1 (v := (.c (.ro false 4 (t_.Subs.map eRaw)))) rfl ?_)
  refine un (a1 rfl ?_)
  obtain ⟨r_1, hr2, h⟩ := bnd h
  obtain ⟨x_2, hd, h⟩ := bnd h
  have hx3 : at? t_.Subs i_ = some (⟨e_TSTerm x_2, rfl⟩ : Raw) := by rw [hr2, raw_eq rfl (d_TSTerm_s hd)]
  refine un (a1 (v := (.c (.rop [cI x_2.Kind, cI x_2.Dim.Num, .str x_2.Dim.Unit, .ro false 4 (x_2.Subs.map eRaw)]))) (s_iaddr (e := eRaw) (xs := t_.Subs) rfl rfl hx3) ?_)
  refine un (a1 (v := (.agg [cI x_2.Kind, cI x_2.Dim.Num, .str x_2.Dim.Unit, .ro false 4 (x_2.Subs.map eRaw)])) rfl ?_)
  obtain ⟨r_2, hr3, h⟩ := bnd h
  refine un (ac_pure (hrec x_2 _ hr3) rfl rfl rfl ?_)
  obtain ⟨r_3, hx4, h⟩ := bnd h
  refine un (a1 (v := (S r_3)) (s_cat rfl rfl hx4) ?_)
  refine un (a1 rfl ?_)
  refine dnil ?_
  refine Sv.region ?_
  refine un (a1 rfl ?_)
  refine un (a1 (v := (I (wi (i_ + 1)))) rfl ?_)
  refine un (a1 rfl ?_)
  refine dnil ?_
  exact hself r_3 (wi (i_ + 1)) h _ (weak_canon [0] rfl (by decide) (by decide) (fun b h => absurd h (Nat.not_lt_zero _)) (.cons rfl (avAs_free rfl) (.cons rfl (avAs_free rfl) (.cons rfl (avAs_free rfl) (.cons rfl (.c (.ref rfl (by decide))) .nil)))) (.box (by decide) rfl (blkAs_cells (.cons (.same rfl) (.cons (.same rfl) (.cons (.same rfl) (.cons (.same rfl) .nil))))) .nil))
abbrev clerestoryref2_TermText_l0_I (x_1 : (List UInt8)) (t_ : TSTerm) (F_ : Nat → (List UInt8) → Int → Option (List UInt8)) (o : (List UInt8)) : Nat → St → Prop := fun k s => ∃ (s_ : (List UInt8)), ∃ (i_ : Int), F_ k s_ i_ = some o ∧ s = ⟨(upd (upd (upd (upd (fun _ => none) 1 (some (.c (.ref 0 4 0 0)))) 3 (some (S s_))) 4 (some (S x_1))) 5 (some (I i_))), (upd (fun _ => none) 0 (some (.cells 4 [[cI t_.Kind, cI t_.Dim.Num, .str t_.Dim.Unit, .ro false 4 (t_.Subs.map eRaw)]]))), 1⟩
noncomputable def clerestoryref2_TermText_l0 (t_ : TSTerm) (x_1 : (List UInt8)) (recf : TSTerm → Option (List UInt8)) (K0_ : (List UInt8) → Option (List UInt8)) : Nat → (List UInt8) → Int → Option (List UInt8)
  | 0, _, _ => none
  | k + 1, s_, i_ =>
    if decide (i_ < (t_.Subs.length : Int)) then
      if decide (0 < i_) then
        (cat? s_ x_1).bind fun r_4 =>
        clerestoryref2_TermText_j3 t_ i_ recf x_1 (clerestoryref2_TermText_l0 t_ x_1 recf K0_ k) K0_ r_4
      else
        clerestoryref2_TermText_j3 t_ i_ recf x_1 (clerestoryref2_TermText_l0 t_ x_1 recf K0_ k) K0_ s_
    else
      K0_ s_
theorem clerestoryref2_TermText_l0_ok {mL : Int} {Q : AExit → St → Prop} {t_ : TSTerm} {x_1 : (List UInt8)} {recf : TSTerm → Option (List UInt8)} {K0_ : (List UInt8) → Option (List UInt8)} {k : Nat} {s_ : (List UInt8)} {i_ : Int} {o : (List UInt8)} (h : clerestoryref2_TermText_l0 t_ x_1 recf K0_ k s_ i_ = some o)
    (hK0 : clerestoryref2_TermText_l0_E0 K0_ o (Q (.exit 0)))
    (hr : ∀ s, Ends a7.results 0 (clerestoryref2_TermText_post o) .ret s → Q .ret s)
    (hrec : clerestoryref2_TermText_Rec mL recf) :
    Sv Tryd.prog (GG mL) 0 (.loop a7_c2) Q ⟨(upd (upd (upd (upd (fun _ => none) 1 (some (.c (.ref 0 4 0 0)))) 3 (some (S s_))) 4 (some (S x_1))) 5 (some (I i_))), (upd (fun _ => none) 0 (some (.cells 4 [[cI t_.Kind, cI t_.Dim.Num, .str t_.Dim.Unit, .ro false 4 (t_.Subs.map eRaw)]]))), 1⟩ := by
  refine Sv.loop (I := clerestoryref2_TermText_l0_I x_1 t_ (clerestoryref2_TermText_l0 t_ x_1 recf K0_) o) (fun k s hI => ?_) ⟨s_, i_, h, rfl⟩
  clear h
  clear i_ s_
  obtain ⟨s_, i_, h, rfl⟩ := hI
  cases k with
  | zero => cases h
  | succ k =>
  rw [clerestoryref2_TermText_l0] at h
  have hself : clerestoryref2_TermText_l0_H x_1 t_ (clerestoryref2_TermText_l0 t_ x_1 recf K0_ k) o (rnd 0 (clerestoryref2_TermText_l0_I x_1 t_ (clerestoryref2_TermText_l0 t_ x_1 recf K0_) o) k Q) := fun s_ i_ h s hw => ⟨_, k, hw, Nat.lt_succ_self k, s_, i_, h, rfl⟩
  refine Sv.seq ?_
  refine Sv.seq ?_
  refine Sv.region ?_
  refine un (a1 rfl ?_)
  refine un (a1 (v := (.c (.ref 0 4 0 3))) rfl ?_)
  refine un (a1 (v := (.c (.ro false 4 (t_.Subs.map eRaw)))) rfl ?_)
  refine un (a1 (v := (I (t_.Subs.length : Int))) (s_len (e := eRaw) (xs := t_.Subs) rfl) ?_)
  refine un (a1 (v := (B (decide (i_ < (t_.Subs.length : Int))))) rfl ?_)
  refine dnil ?_
  refine Sv.cond (b := decide (i_ < (t_.Subs.length : Int))) rfl (fun hc3 => ?_) (fun hc3 => ?_)
  · replace h := ifT hc3 h
    refine Sv.skip ?_
    refine Sv.seq ?_
    refine Sv.block ?_
    refine Sv.seq ?_
    refine Sv.seq ?_
    refine Sv.region ?_
    refine un (a1 rfl ?_)
    refine un (a1 (v := (B (decide (0 < i_)))) rfl ?_)
    refine dnil ?_
    refine Sv.cond (b := decide (0 < i_)) rfl (fun hc4 => ?_) (fun hc4 => ?_)
    · replace h := ifT hc4 h
      refine Sv.region ?_
      refine un (a1 rfl ?_)
      refine un (a1 rfl ?_)
      obtain ⟨r_4, hx5, h⟩ := bnd h
      refine un (a1 (v := (S r_4)) (s_cat rfl rfl hx5) ?_)
      refine un (a1 rfl ?_)
      refine dnil ?_
      exact Sv.weak (weak_canon [0] rfl (by decide) (by decide) (fun b h => absurd h (Nat.not_lt_zero _)) (.cons rfl (avAs_free rfl) (.cons rfl (avAs_free rfl) (.cons rfl (avAs_free rfl) (.cons rfl (.c (.ref rfl (by decide))) .nil)))) (.box (by decide) rfl (blkAs_cells (.cons (.same rfl) (.cons (.same rfl) (.cons (.same rfl) (.cons (.same rfl) .nil))))) .nil)) (clerestoryref2_TermText_j3_ok h hself hK0 hr hrec)
    · replace h := ifF hc4 h
      refine Sv.skip ?_
      exact Sv.weak (weak_canon [0] rfl (by decide) (by decide) (fun b h => absurd h (Nat.not_lt_zero _)) (.cons rfl (avAs_free rfl) (.cons rfl (avAs_free rfl) (.cons rfl (avAs_free rfl) (.cons rfl (.c (.ref rfl (by decide))) .nil)))) (.box (by decide) rfl (blkAs_cells (.cons (.same rfl) (.cons (.same rfl) (.cons (.same rfl) (.cons (.same rfl) .nil))))) .nil)) (clerestoryref2_TermText_j3_ok h hself hK0 hr hrec)
  · replace h := ifF hc3 h
    refine Sv.exit ?_
    exact hK0 s_ h _ (weak_canon [] rfl (by decide) (by decide) (fun b h => absurd h (Nat.not_lt_zero _)) (.cons rfl (avAs_free rfl) .nil) .nil)
/-- clerestory/clerestoryref2.TermText -/
noncomputable def clerestoryref2_TermText_r : Nat → TSTerm → Option (List UInt8)
  | 0, _ => none
  | k + 1, t_ =>
    if (!(clerestoryref2_TermMay t_)) then
      some []
    else
      if decide (t_.Kind = 1) then
        (clerestoryref2_DimText t_.Dim).bind fun r_ =>
        some r_
      else
        (at? clerestoryref2_TermText_t0 t_.Kind).bind fun x_ =>
        (at? clerestoryref2_TermText_t1 t_.Kind).bind fun x_1 =>
        lim fun kk => clerestoryref2_TermText_l0 t_ x_1 (clerestoryref2_TermText_r k) (fun (s_1 : (List UInt8)) => 
            (cat? s_1 [41]).bind fun r_5 =>
            some r_5) kk x_ 0
noncomputable def clerestoryref2_TermText (t_ : TSTerm) : Option (List UInt8) :=
  lim fun kr => clerestoryref2_TermText_r kr t_
theorem clerestoryref2_TermText_r_ok {mL : Int} (k : Nat) : clerestoryref2_TermText_Rec mL (clerestoryref2_TermText_r k) := by
  induction k with
  | zero => intro t_ r h; cases h
  | succ k hrec =>
  intro t_ r h
  refine acalls_of_sv hmix c7 (R := clerestoryref2_TermText_post r) ?_
  rw [clerestoryref2_TermText_r] at h
  refine Sv.seq ?_
  refine Sv.region ?_
  refine un (a2v (v := (.c (.ref 0 4 0 0))) (h' := upd _ 0 (some (.cells 4 [[cI t_.Kind, cI t_.Dim.Num, .str t_.Dim.Unit, .ro false 4 (t_.Subs.map eRaw)]]))) (n' := 1) rfl rfl (fun h => by cases h) ?_)
  refine un (a1 rfl ?_)
  refine dnil ?_
  refine Sv.seq ?_
  refine Sv.seq ?_
  refine Sv.region ?_
  refine un (a1 (v := (.agg [cI t_.Kind, cI t_.Dim.Num, .str t_.Dim.Unit, .ro false 4 (t_.Subs.map eRaw)])) rfl ?_)
  refine un (ac_pure (clerestoryref2_TermMay_ok (mL := mL) t_) rfl rfl rfl ?_)
  refine un (a1 (v := (B (!(clerestoryref2_TermMay t_)))) rfl ?_)
  refine dnil ?_
  refine Sv.cond (b := (!(clerestoryref2_TermMay t_))) rfl (fun hc1 => ?_) (fun hc1 => ?_)
  · replace h := ifT hc1 h
    refine Sv.seq ?_
    refine Sv.region ?_
    refine un (a1 rfl ?_)
    refine dnil ?_
    refine Sv.ret ?_
    replace h := Option.some.inj h
    subst h
    exact ⟨_, .refl _, _, rfl, ⟨upd (fun _ => none) 0 (some (S [])), (fun _ => none), 0⟩, (S []), weak_canon [] rfl List.nodup_nil (Nat.le_refl _) (fun b h => absurd h (Nat.not_lt_zero _)) (.cons rfl (avAs_free rfl) .nil) .nil, rfl, rfl, rfl, rfl⟩
  · replace h := ifF hc1 h
    refine Sv.skip ?_
    refine Sv.seq ?_
    refine Sv.seq ?_
    refine Sv.region ?_
    refine un (a1 (v := (.c (.ref 0 4 0 0))) rfl ?_)
    refine un (a1 (v := (I t_.Kind)) rfl ?_)
    refine un (a1 (v := (B (decide (t_.Kind = 1)))) rfl ?_)
    refine dnil ?_
    refine Sv.cond (b := decide (t_.Kind = 1)) rfl (fun hc2 => ?_) (fun hc2 => ?_)
    · replace h := ifT hc2 h
      refine Sv.seq ?_
      refine Sv.region ?_
      refine un (a1 (v := (.c (.ref 0 4 0 1))) rfl ?_)
      refine un (a1 (v := (.agg [cI t_.Dim.Num, .str t_.Dim.Unit])) rfl ?_)
      obtain ⟨r_, hr1, h⟩ := bnd h
      refine un (ac_pure (clerestoryref2_DimText_ok hr1) rfl rfl rfl ?_)
      refine un (a1 rfl ?_)
      refine dnil ?_
      refine Sv.ret ?_
      replace h := Option.some.inj h
      subst h
      exact ⟨_, .refl _, _, rfl, ⟨upd (fun _ => none) 0 (some (S r_)), (fun _ => none), 0⟩, (S r_), weak_canon [] rfl List.nodup_nil (Nat.le_refl _) (fun b h => absurd h (Nat.not_lt_zero _)) (.cons rfl (avAs_free rfl) .nil) .nil, rfl, rfl, rfl, rfl⟩
    · replace h := ifF hc2 h
      refine Sv.skip ?_
      refine Sv.seq ?_
      refine Sv.region ?_
      refine un (a2v (v := (lstV false 1 1 clerestoryref2_TermText_t0.length)) (h' := upd _ 1 (lstB false 1 (clerestoryref2_TermText_t0.map eStr))) (n' := 2) rfl rfl (fun h => by cases h) ?_)
      refine un (a1 (v := (.c (.ref 0 4 0 0))) rfl ?_)
      refine un (a1 (v := (I t_.Kind)) rfl ?_)
      obtain ⟨x_, hx1, h⟩ := bnd h
      refine un (a1 (v := (.c (.ref 1 1 t_.Kind.toNat 0))) (s_iaddrL rfl rfl (fun h => by cases h) hx1) ?_)
      refine un (a1 (v := (S x_)) (s_loadL (z := false) (e := eStr) rfl rfl (fun h => by cases h) hx1 rfl rfl) ?_)
      refine un (a1 rfl ?_)
      refine dnil ?_
      refine Sv.seq ?_
      refine Sv.region ?_
      refine un (a2v (v := (lstV false 2 1 clerestoryref2_TermText_t1.length)) (h' := upd _ 2 (lstB false 1 (clerestoryref2_TermText_t1.map eStr))) (n' := 3) rfl rfl (fun h => by cases h) ?_)
      refine un (a1 (v := (.c (.ref 0 4 0 0))) rfl ?_)
      refine un (a1 (v := (I t_.Kind)) rfl ?_)
      obtain ⟨x_1, hx2, h⟩ := bnd h
      refine un (a1 (v := (.c (.ref 2 1 t_.Kind.toNat 0))) (s_iaddrL rfl rfl (fun h => by cases h) hx2) ?_)
      refine un (a1 (v := (S x_1)) (s_loadL (z := false) (e := eStr) rfl rfl (fun h => by cases h) hx2 rfl rfl) ?_)
      refine un (a1 rfl ?_)
      refine dnil ?_
      refine Sv.seq ?_
      refine Sv.seq ?_
      refine Sv.region ?_
      refine un (a1 rfl ?_)
      refine dnil ?_
      refine Sv.block ?_
      obtain ⟨kk, h⟩ := lim_some h
      refine Sv.weak (weak_canon [0] rfl (by decide) (by decide) (fun b h => absurd h (Nat.not_lt_zero _)) (.cons rfl (avAs_free rfl) (.cons rfl (avAs_free rfl) (.cons rfl (avAs_free rfl) (.cons rfl (.c (.ref rfl (by decide))) .nil)))) (.box (by decide) rfl (blkAs_cells (.cons (.same rfl) (.cons (.same rfl) (.cons (.same rfl) (.cons (.same rfl) .nil))))) .nil)) (clerestoryref2_TermText_l0_ok h ?_ (fun s hs => hs) hrec)
      · intro s_1 h _ hw1
        refine Sv.weak hw1 ?_
        refine Sv.seq ?_
        refine Sv.region ?_
        refine un (a1 rfl ?_)
        obtain ⟨r_5, hx6, h⟩ := bnd h
        refine un (a1 (v := (S r_5)) (s_cat rfl rfl hx6) ?_)
        refine un (a1 rfl ?_)
        refine dnil ?_
        refine Sv.ret ?_
        replace h := Option.some.inj h
        subst h
        exact ⟨_, .refl _, _, rfl, ⟨upd (fun _ => none) 0 (some (S r_5)), (fun _ => none), 0⟩, (S r_5), weak_canon [] rfl List.nodup_nil (Nat.le_refl _) (fun b h => absurd h (Nat.not_lt_zero _)) (.cons rfl (avAs_free rfl) .nil) .nil, rfl, rfl, rfl, rfl⟩
theorem clerestoryref2_TermText_ok {mL : Int} {t_ : TSTerm} {r : (List UInt8)} (h : clerestoryref2_TermText t_ = some r) : CPure Tryd.prog (GG mL) 7 [(.agg [cI t_.Kind, cI t_.Dim.Num, .str t_.Dim.Unit, .ro false 4 (t_.Subs.map eRaw)])] (S r) := by
  unfold clerestoryref2_TermText at h
  obtain ⟨k, h⟩ := lim_some h
  exact clerestoryref2_TermText_r_ok k t_  r h
theorem clerestoryref2_TermText_rec {mL : Int} : clerestoryref2_TermText_Rec mL clerestoryref2_TermText := fun t_ r h => clerestoryref2_TermText_ok h
def a3_c0 : ACode := .ret
def a3 : AFunc := ⟨1, [(.tmp 2)], (.seq (.region [⟨(some 1), (.box (.tmp 0)), none⟩, ⟨(some 2), (.mov (.const (.c (.val (.bool false))))), none⟩])
 (.seq (.region [⟨(some 4), (.call 4 []), none⟩, ⟨(some 3), (.mov (.tmp 4)), none⟩])
 (.seq (.seq (.region [⟨(some 5), (.load true 4 (.tmp 1)), none⟩, ⟨(some 6), (.call 5 [(.tmp 5)]), none⟩, ⟨(some 7), (.bin .gtr (.tmp 6) (.const (.c (.val (.int .i64 30))))), none⟩])
 (.cond (.tmp 7) (.seq (.region [⟨(some 8), (.mov (.tmp 3)), none⟩, ⟨(some 2), (.mov (.tmp 8)), none⟩])
 .ret) .skip))
 (.seq (.drawn (.fin [(⟨(some 9), (.mov (.tmp 3)), none⟩, (0, 0)), (⟨(some 10), (.mov (.tmp 9)), none⟩, (0, 1)), (⟨(some 11), (.load true 4 (.tmp 1)), (some (10, true))⟩, (0, 2)), (⟨(some 13), (.load true 4 (.tmp 1)), (some (10, true))⟩, (0, 4)), (⟨(some 12), (.call 6 [(.tmp 11)]), (some (10, true))⟩, (1, 3)), (⟨(some 14), (.call 7 [(.tmp 13)]), (some (10, true))⟩, (2, 5)), (⟨(some 15), (.bin .eql (.tmp 12) (.tmp 14)), (some (10, true))⟩, (0, 6)), (⟨(some 16), (.pick (.tmp 10) (.tmp 15) (.const (.c (.val (.bool false))))), none⟩, (0, 7)), (⟨(some 2), (.mov (.tmp 16)), none⟩, (0, 8))]))
 a3_c0))))⟩
set_option maxRecDepth 100000 in
theorem c3 : compFunc Tryd.prog 3 = some a3 := by kernel_rfl
def clerestorylaw2_CalcTells_post (r : Bool) : AV → Heap → Nat → Prop := fun v h' n' => v = (B r) ∧ (h' = (fun _ => none)) ∧ n' = 0
noncomputable def clerestorylaw2_CalcTells_j1 (v2 : Bool) : Option Bool :=
  some v2
theorem clerestorylaw2_CalcTells_j1_ok {mL : Int} {v2 : Bool} {o : Bool} (h : clerestorylaw2_CalcTells_j1 v2 = some o) :
    Sv Tryd.prog (GG mL) 0 a3_c0 (Ends a3.results 0 (clerestorylaw2_CalcTells_post o)) ⟨(upd (fun _ => none) 2 (some (B v2))), (fun _ => none), 0⟩ := by
  unfold clerestorylaw2_CalcTells_j1 at h
  refine Sv.ret ?_
  replace h := Option.some.inj h
  subst h
  exact ⟨_, .refl _, _, rfl, ⟨upd (fun _ => none) 0 (some (B v2)), (fun _ => none), 0⟩, (B v2), weak_canon [] rfl List.nodup_nil (Nat.le_refl _) (fun b h => absurd h (Nat.not_lt_zero _)) (.cons rfl (avAs_free rfl) .nil) .nil, rfl, rfl, rfl, rfl⟩
/-- clerestory/clerestorylaw2.CalcTells -/
noncomputable def clerestorylaw2_CalcTells (t_ : TSTerm) : Option Bool :=
  (clerestorylaw2_twice).bind fun r_ =>
  (clerestoryref2_TermCount t_).bind fun r_1 =>
  if decide (30 < r_1) then
    some r_
  else
    if r_ then
      (calc_Text1 t_).bind fun r_2 =>
      (clerestoryref2_TermText t_).bind fun r_3 =>
      clerestorylaw2_CalcTells_j1 (decide (r_2 = r_3))
    else
      clerestorylaw2_CalcTells_j1 false
theorem clerestorylaw2_CalcTells_ok {mL : Int} {t_ : TSTerm} {r : Bool} (h : clerestorylaw2_CalcTells t_ = some r) : CPure Tryd.prog (GG mL) 3 [(.agg [cI t_.Kind, cI t_.Dim.Num, .str t_.Dim.Unit, .ro false 4 (t_.Subs.map eRaw)])] (B r) := by
  refine acalls_of_sv hmix c3 (R := clerestorylaw2_CalcTells_post r) ?_
  unfold clerestorylaw2_CalcTells at h
  refine Sv.seq ?_
  refine Sv.region ?_
  refine un (a2v (v := (.c (.ref 0 4 0 0))) (h' := upd _ 0 (some (.cells 4 [[cI t_.Kind, cI t_.Dim.Num, .str t_.Dim.Unit, .ro false 4 (t_.Subs.map eRaw)]]))) (n' := 1) rfl rfl (fun h => by cases h) ?_)
  refine un (a1 rfl ?_)
  refine dnil ?_
  refine Sv.seq ?_
  refine Sv.region ?_
  obtain ⟨r_, hr1, h⟩ := bnd h
  refine un (ac_pure (clerestorylaw2_twice_ok hr1) rfl rfl rfl ?_)
  refine un (a1 rfl ?_)
  refine dnil ?_
  refine Sv.seq ?_
  refine Sv.seq ?_
  refine Sv.region ?_
  refine un (a1 (v := (.agg [cI t_.Kind, cI t_.Dim.Num, .str t_.Dim.Unit, .ro false 4 (t_.Subs.map eRaw)])) rfl ?_)
  obtain ⟨r_1, hr2, h⟩ := bnd h
  refine un (ac_pure (clerestoryref2_TermCount_ok hr2) rfl rfl rfl ?_)
  refine un (a1 (v := (B (decide (30 < r_1)))) rfl ?_)
  refine dnil ?_
  refine Sv.cond (b := decide (30 < r_1)) rfl (fun hc1 => ?_) (fun hc1 => ?_)
  · replace h := ifT hc1 h
    refine Sv.seq ?_
    refine Sv.region ?_
    refine un (a1 rfl ?_)
    refine un (a1 rfl ?_)
    refine dnil ?_
    refine Sv.ret ?_
    replace h := Option.some.inj h
    subst h
    exact ⟨_, .refl _, _, rfl, ⟨upd (fun _ => none) 0 (some (B r_)), (fun _ => none), 0⟩, (B r_), weak_canon [] rfl List.nodup_nil (Nat.le_refl _) (fun b h => absurd h (Nat.not_lt_zero _)) (.cons rfl (avAs_free rfl) .nil) .nil, rfl, rfl, rfl, rfl⟩
  · replace h := ifF hc1 h
    refine Sv.skip ?_
    refine Sv.seq ?_
    refine Sv.drawn ?_
    refine un (a1 rfl ?_)
    refine un (a1 rfl ?_)
    refine split2 (fun hc2 => ?_) (fun hc2 => ?_)
    · replace h := ifT hc2 h
      refine gt rfl (a1 (v := (.agg [cI t_.Kind, cI t_.Dim.Num, .str t_.Dim.Unit, .ro false 4 (t_.Subs.map eRaw)])) rfl ?_)
      refine gt rfl (a1 (v := (.agg [cI t_.Kind, cI t_.Dim.Num, .str t_.Dim.Unit, .ro false 4 (t_.Subs.map eRaw)])) rfl ?_)
      obtain ⟨r_2, hr3, h⟩ := bnd h
      refine gt rfl (ac_pure (calc_Text1_ok hr3) rfl rfl rfl ?_)
      obtain ⟨r_3, hr4, h⟩ := bnd h
      refine gt rfl (ac_pure (clerestoryref2_TermText_ok hr4) rfl rfl rfl ?_)
      refine gt rfl (a1 (v := (B (decide (r_2 = r_3)))) rfl ?_)
      refine un (a1 (v := (B (decide (r_2 = r_3)))) rfl ?_)
      refine un (a1 rfl ?_)
      refine dnil ?_
      exact Sv.weak (weak_canon [] rfl (by decide) (by decide) (fun b h => absurd h (Nat.not_lt_zero _)) (.cons rfl (avAs_free rfl) .nil) .nil) (clerestorylaw2_CalcTells_j1_ok h)
    · replace h := ifF hc2 h
      refine gs rfl rfl ?_
      refine gs rfl rfl ?_
      refine gs rfl rfl ?_
      refine gs rfl rfl ?_
      refine gs rfl rfl ?_
      refine un (a1 (v := (B false)) rfl ?_)
      refine un (a1 rfl ?_)
      refine dnil ?_
      exact Sv.weak (weak_canon [] rfl (by decide) (by decide) (fun b h => absurd h (Nat.not_lt_zero _)) (.cons rfl (avAs_free rfl) .nil) .nil) (clerestorylaw2_CalcTells_j1_ok h)
end Go.Proofs.YtcnfmehidmjejaaDoorBv
