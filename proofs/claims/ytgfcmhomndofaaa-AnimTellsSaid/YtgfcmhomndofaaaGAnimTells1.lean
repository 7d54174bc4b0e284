/- Printed by a program of mine (bgen.py): plain functions, and the walks that show that the code comes to what they answer. -/
import Derived.Test.YtgfcmhomndofaaaGAnimTells0
namespace Go.Proofs.YtgfcmhomndofaaaBv
open Go
set_option linter.unusedVariables false
set_option maxRecDepth 100000
def a52_c0 : ACode := (.seq (.region [⟨(some 14), (.bin .lss (.tmp 13) (.tmp 12)), none⟩])
 (.seq (.cond (.tmp 14) .skip (.exit 0))
 (.seq (.block 1 (.seq (.region [⟨(some 15), (.iaddr 12 (.tmp 11) (.tmp 13)), none⟩, ⟨(some 16), (.load true 12 (.tmp 15)), none⟩, ⟨(some 6), (.box (.const (.agg [(.val (.int .i64 0)), (.val (.int .i64 0)), (.val (.int .i64 0)), (.val (.bool false)), (.val (.bool false)), (.val (.int .i64 0)), (.val (.int .i64 0)), (.val (.int .i64 0)), (.val (.int .i64 0)), (.val (.int .i64 0)), (.val (.int .i64 0)), (.ro true 3 [])]))), none⟩, ⟨none, (.store 12 (.tmp 6) (.tmp 16)), none⟩])
 (.seq (.region [⟨(some 17), (.load true 12 (.tmp 6)), none⟩, ⟨(some 18), (.call 21 [(.tmp 17)]), none⟩, ⟨(some 7), (.mov (.tmp 18)), none⟩])
 (.seq (.region [⟨(some 19), (.mov (.tmp 7)), none⟩, ⟨(some 20), (.bin .neq (.tmp 19) (.const (.c (.val (.int .i64 0))))), none⟩])
 (.cond (.tmp 20) (.seq (.region [⟨(some 21), (.mov (.tmp 7)), none⟩, ⟨(some 4), (.mov (.tmp 21)), none⟩])
 .ret) .skip)))))
 (.region [⟨(some 22), (.bin .add (.tmp 13) (.const (.c (.val (.int .i64 1))))), none⟩, ⟨(some 13), (.mov (.tmp 22)), none⟩]))))
def a52 : AFunc := ⟨2, [(.tmp 4)], (.seq (.region [⟨(some 4), (.mov (.const (.c (.val (.int .i64 0))))), none⟩])
 (.seq (.seq (.region [⟨(some 8), (.mov (.tmp 0)), none⟩, ⟨(some 9), (.len (.tmp 8)), none⟩, ⟨(some 10), (.bin .gtr (.tmp 9) (.const (.c (.val (.int .i64 10))))), none⟩])
 (.cond (.tmp 10) (.seq (.region [⟨(some 4), (.mov (.const (.c (.val (.int .i64 2))))), none⟩])
 .ret) .skip))
 (.seq (.seq (.region [⟨(some 11), (.mov (.tmp 0)), none⟩, ⟨(some 12), (.len (.tmp 11)), none⟩, ⟨(some 13), (.mov (.const (.c (.val (.int .i64 0))))), none⟩])
 (.block 0 (.loop a52_c0)))
 (.seq (.seq (.region [⟨(some 23), (.mov (.tmp 1)), none⟩, ⟨(some 24), (.call 40 [(.tmp 23), (.const (.c (.val (.int .i64 0)))), (.const (.c (.val (.int .i64 200000000000))))]), none⟩, ⟨(some 25), (.un .not (.tmp 24)), none⟩])
 (.cond (.tmp 25) (.seq (.region [⟨(some 4), (.mov (.const (.c (.val (.int .i64 1))))), none⟩])
 .ret) .skip))
 (.seq (.region [⟨(some 4), (.mov (.const (.c (.val (.int .i64 0))))), none⟩])
 .ret)))))⟩
set_option maxRecDepth 100000 in
theorem c52 : compFunc Try.prog 52 = some a52 := by kernel_rfl
def anim_right_post (r : Int) : AV → Heap → Nat → Prop := fun v h' n' => v = (I r) ∧ (h' = (fun _ => none)) ∧ n' = 0
noncomputable def anim_right_l0 (l_ : (List TSAnim)) (now : Int) (K0_ : Unit → Option Int) : Nat → Int → Option Int
  | 0, _ => none
  | k + 1, v13 =>
    if decide (v13 < (l_.length : Int)) then
      (at? l_ v13).bind fun x_ =>
      (anim_Check x_).bind fun r_ =>
      if (!decide (r_ = 0)) then
        some r_
      else
        (anim_right_l0 l_ now K0_ k) (wi (v13 + 1))
    else
      K0_ ()
theorem anim_right_l0_ok {Γ : Glob} {Q : AExit → St → Prop} {l_ : (List TSAnim)} {now : Int} {K0_ : Unit → Option Int} {k : Nat} {v13 : Int} {o : Int} (h : anim_right_l0 l_ now K0_ k v13 = some o)
    (hK0 : ∀ (_ : Unit), K0_ () = some o → ∀ s, Weak 0 s ⟨(upd (fun _ => none) 1 (some (I now))), (fun _ => none), 0⟩ → Q (.exit 0) s)
    (hr : ∀ s, Ends a52.results 0 (anim_right_post o) .ret s → Q .ret s) :
    Sv Try.prog Γ 0 (.loop a52_c0) Q ⟨(upd (upd (upd (upd (fun _ => none) 1 (some (I now))) 11 (some (.c (.ro false 12 (l_.map e_TSAnim))))) 12 (some (I (l_.length : Int)))) 13 (some (I v13))), (fun _ => none), 0⟩ := by
  refine Sv.loop (I := fun k s => ∃ (v13 : Int), anim_right_l0 l_ now K0_ k v13 = some o ∧ s = ⟨(upd (upd (upd (upd (fun _ => none) 1 (some (I now))) 11 (some (.c (.ro false 12 (l_.map e_TSAnim))))) 12 (some (I (l_.length : Int)))) 13 (some (I v13))), (fun _ => none), 0⟩) (fun k s hI => ?_) ⟨v13, h, rfl⟩
  clear h
  clear v13
  obtain ⟨v13, h, rfl⟩ := hI
  cases k with
  | zero => cases h
  | succ k =>
  rw [anim_right_l0] at h
  have hself : ∀ (v13 : Int), (anim_right_l0 l_ now K0_ k) v13 = some o → ∀ s, Weak 0 s ⟨(upd (upd (upd (upd (fun _ => none) 1 (some (I now))) 11 (some (.c (.ro false 12 (l_.map e_TSAnim))))) 12 (some (I (l_.length : Int)))) 13 (some (I v13))), (fun _ => none), 0⟩ → (AThen (fun s' => ∃ s'' k', Weak 0 s' s'' ∧ k' < k + 1 ∧ (fun k s => ∃ (v13 : Int), anim_right_l0 l_ now K0_ k v13 = some o ∧ s = ⟨(upd (upd (upd (upd (fun _ => none) 1 (some (I now))) 11 (some (.c (.ro false 12 (l_.map e_TSAnim))))) 12 (some (I (l_.length : Int)))) 13 (some (I v13))), (fun _ => none), 0⟩) k' s'') Q) .normal s := fun v13 h s hw => ⟨_, k, hw, Nat.lt_succ_self k, v13, h, rfl⟩
  refine Sv.seq ?_
  refine Sv.region ?_
  refine un (a1 (v := (B (decide (v13 < (l_.length : Int))))) rfl ?_)
  refine dnil ?_
  refine Sv.seq ?_
  refine Sv.cond (b := decide (v13 < (l_.length : Int))) rfl (fun hc2 => ?_) (fun hc2 => ?_)
  · replace h := ifT hc2 h
    refine Sv.skip ?_
    refine Sv.seq ?_
    refine Sv.block ?_
    refine Sv.seq ?_
    refine Sv.region ?_
    obtain ⟨x_, hx1, h⟩ := bnd h
    refine un (a1 (v := (.c (.rop [cI x_.From, cI x_.Length, cI x_.Times, cB x_.Turn, cB x_.Stays, cI x_.Ease.Kind, cI x_.Ease.Curve.a0, cI x_.Ease.Curve.a1, cI x_.Ease.Curve.a2, cI x_.Ease.Curve.a3, cI x_.Ease.N, .ro false 3 (x_.Frames.map e_TSFrame)]))) (s_iaddr (e := e_TSAnim) (xs := l_) rfl rfl hx1) ?_)
    refine un (a1 (v := (.agg [cI x_.From, cI x_.Length, cI x_.Times, cB x_.Turn, cB x_.Stays, cI x_.Ease.Kind, cI x_.Ease.Curve.a0, cI x_.Ease.Curve.a1, cI x_.Ease.Curve.a2, cI x_.Ease.Curve.a3, cI x_.Ease.N, .ro false 3 (x_.Frames.map e_TSFrame)])) rfl ?_)
    refine un (a2v (v := (.c (.ref 0 12 0 0))) (h' := upd _ 0 (some (.cells 12 [[cI 0, cI 0, cI 0, cB false, cB false, cI 0, cI 0, cI 0, cI 0, cI 0, cI 0, .ro true 3 []]]))) (n' := 1) rfl rfl (fun h => by cases h) ?_)
    refine un (a2n (h' := upd _ 0 (some (.cells 12 [[cI x_.From, cI x_.Length, cI x_.Times, cB x_.Turn, cB x_.Stays, cI x_.Ease.Kind, cI x_.Ease.Curve.a0, cI x_.Ease.Curve.a1, cI x_.Ease.Curve.a2, cI x_.Ease.Curve.a3, cI x_.Ease.N, .ro false 3 (x_.Frames.map e_TSFrame)]]))) (n' := 1) rfl rfl (fun h => by cases h) ?_)
    refine dnil ?_
    refine Sv.seq ?_
    refine Sv.region ?_
    refine un (a1 (v := (.agg [cI x_.From, cI x_.Length, cI x_.Times, cB x_.Turn, cB x_.Stays, cI x_.Ease.Kind, cI x_.Ease.Curve.a0, cI x_.Ease.Curve.a1, cI x_.Ease.Curve.a2, cI x_.Ease.Curve.a3, cI x_.Ease.N, .ro false 3 (x_.Frames.map e_TSFrame)])) rfl ?_)
    obtain ⟨r_, hr1, h⟩ := bnd h
    refine un (ac_pure (anim_Check_ok hr1) rfl rfl rfl ?_)
    refine un (a1 rfl ?_)
    refine dnil ?_
    refine Sv.seq ?_
    refine Sv.region ?_
    refine un (a1 rfl ?_)
    refine un (a1 (v := (B (!decide (r_ = 0)))) rfl ?_)
    refine dnil ?_
    refine Sv.cond (b := (!decide (r_ = 0))) rfl (fun hc3 => ?_) (fun hc3 => ?_)
    · replace h := ifT hc3 h
      refine Sv.seq ?_
      refine Sv.region ?_
      refine un (a1 rfl ?_)
      refine un (a1 rfl ?_)
      refine dnil ?_
      refine Sv.ret ?_
      replace h := Option.some.inj h
      subst h
      exact hr _ ⟨_, .refl _, _, rfl, ⟨upd (fun _ => none) 0 (some (I r_)), (fun _ => none), 0⟩, (I r_), weak_canon [] rfl List.nodup_nil (Nat.le_refl _) (fun b h => absurd h (Nat.not_lt_zero _)) (.cons rfl (avAs_free rfl) .nil) .nil, rfl, rfl, rfl, rfl⟩
    · replace h := ifF hc3 h
      refine Sv.skip ?_
      refine Sv.region ?_
      refine un (a1 (v := (I (wi (v13 + 1)))) rfl ?_)
      refine un (a1 rfl ?_)
      refine dnil ?_
      exact hself (wi (v13 + 1)) h _ (weak_canon [] rfl (by decide) (by decide) (fun b h => absurd h (Nat.not_lt_zero _)) (.cons rfl (avAs_free rfl) (.cons rfl (avAs_free rfl) (.cons rfl (avAs_free rfl) (.cons rfl (avAs_free rfl) .nil)))) .nil)
  · replace h := ifF hc2 h
    refine Sv.exit ?_
    exact hK0 () h _ (weak_canon [] rfl (by decide) (by decide) (fun b h => absurd h (Nat.not_lt_zero _)) (.cons rfl (avAs_free rfl) .nil) .nil)
/-- clerestory/anim.right -/
noncomputable def anim_right (l_ : (List TSAnim)) (now : Int) : Option Int :=
  if decide (10 < (l_.length : Int)) then
    some 2
  else
    lim fun kk => anim_right_l0 l_ now (fun (_ : Unit) => 
        if (!(anim_in now 0 200000000000)) then
          some 1
        else
          some 0) kk 0
theorem anim_right_ok {Γ : Glob} {l_ : (List TSAnim)} {now : Int} {r : Int} (h : anim_right l_ now = some r) : CPure Try.prog Γ 52 [(.c (.ro false 12 (l_.map e_TSAnim))), (I now)] (I r) := by
  refine acalls_of_sv hmix c52 (R := anim_right_post r) ?_
  unfold anim_right at h
  refine Sv.seq ?_
  refine Sv.region ?_
  refine un (a1 rfl ?_)
  refine dnil ?_
  refine Sv.seq ?_
  refine Sv.seq ?_
  refine Sv.region ?_
  refine un (a1 rfl ?_)
  refine un (a1 (v := (I (l_.length : Int))) (s_len (e := e_TSAnim) (xs := l_) rfl) ?_)
  refine un (a1 (v := (B (decide (10 < (l_.length : Int))))) rfl ?_)
  refine dnil ?_
  refine Sv.cond (b := decide (10 < (l_.length : Int))) rfl (fun hc1 => ?_) (fun hc1 => ?_)
  · replace h := ifT hc1 h
    refine Sv.seq ?_
    refine Sv.region ?_
    refine un (a1 rfl ?_)
    refine dnil ?_
    refine Sv.ret ?_
    replace h := Option.some.inj h
    subst h
    exact ⟨_, .refl _, _, rfl, ⟨upd (fun _ => none) 0 (some (I 2)), (fun _ => none), 0⟩, (I 2), weak_canon [] rfl List.nodup_nil (Nat.le_refl _) (fun b h => absurd h (Nat.not_lt_zero _)) (.cons rfl (avAs_free rfl) .nil) .nil, rfl, rfl, rfl, rfl⟩
  · replace h := ifF hc1 h
    refine Sv.skip ?_
    refine Sv.seq ?_
    refine Sv.seq ?_
    refine Sv.region ?_
    refine un (a1 rfl ?_)
    refine un (a1 (v := (I (l_.length : Int))) (s_len (e := e_TSAnim) (xs := l_) rfl) ?_)
    refine un (a1 rfl ?_)
    refine dnil ?_
    refine Sv.block ?_
    obtain ⟨kk, h⟩ := lim_some h
    refine Sv.weak (weak_canon [] rfl (by decide) (by decide) (fun b h => absurd h (Nat.not_lt_zero _)) (.cons rfl (avAs_free rfl) (.cons rfl (avAs_free rfl) (.cons rfl (avAs_free rfl) (.cons rfl (avAs_free rfl) .nil)))) .nil) (anim_right_l0_ok h ?_ (fun s hs => hs))
    · intro _ h _ hw1
      refine Sv.weak hw1 ?_
      refine Sv.seq ?_
      refine Sv.seq ?_
      refine Sv.region ?_
      refine un (a1 rfl ?_)
      refine un (ac_pure (anim_in_ok (Γ := Γ) now 0 200000000000) rfl rfl rfl ?_)
      refine un (a1 (v := (B (!(anim_in now 0 200000000000)))) rfl ?_)
      refine dnil ?_
      refine Sv.cond (b := (!(anim_in now 0 200000000000))) rfl (fun hc4 => ?_) (fun hc4 => ?_)
      · replace h := ifT hc4 h
        refine Sv.seq ?_
        refine Sv.region ?_
        refine un (a1 rfl ?_)
        refine dnil ?_
        refine Sv.ret ?_
        replace h := Option.some.inj h
        subst h
        exact ⟨_, .refl _, _, rfl, ⟨upd (fun _ => none) 0 (some (I 1)), (fun _ => none), 0⟩, (I 1), weak_canon [] rfl List.nodup_nil (Nat.le_refl _) (fun b h => absurd h (Nat.not_lt_zero _)) (.cons rfl (avAs_free rfl) .nil) .nil, rfl, rfl, rfl, rfl⟩
      · replace h := ifF hc4 h
        refine Sv.skip ?_
        refine Sv.seq ?_
        refine Sv.region ?_
        refine un (a1 rfl ?_)
        refine dnil ?_
        refine Sv.ret ?_
        replace h := Option.some.inj h
        subst h
        exact ⟨_, .refl _, _, rfl, ⟨upd (fun _ => none) 0 (some (I 0)), (fun _ => none), 0⟩, (I 0), weak_canon [] rfl List.nodup_nil (Nat.le_refl _) (fun b h => absurd h (Nat.not_lt_zero _)) (.cons rfl (avAs_free rfl) .nil) .nil, rfl, rfl, rfl, rfl⟩
def a75 : AFunc := ⟨1, [(.tmp 2)], (.seq (.region [⟨(some 1), (.box (.tmp 0)), none⟩, ⟨(some 2), (.mov (.const (.c (.val (.int .i64 0))))), none⟩])
 (.seq (.region [⟨(some 3), (.faddr 0 (.tmp 1)), none⟩, ⟨(some 4), (.load false 1 (.tmp 3)), none⟩, ⟨(some 5), (.faddr 2 (.tmp 1)), none⟩, ⟨(some 6), (.load false 1 (.tmp 5)), none⟩, ⟨(some 7), (.faddr 1 (.tmp 1)), none⟩, ⟨(some 8), (.load false 1 (.tmp 7)), none⟩, ⟨(some 9), (.bin .mul (.tmp 6) (.tmp 8)), none⟩, ⟨(some 10), (.bin .add (.tmp 4) (.tmp 9)), none⟩, ⟨(some 2), (.mov (.tmp 10)), none⟩])
 .ret))⟩
set_option maxRecDepth 100000 in
theorem c75 : compFunc Try.prog 75 = some a75 := by kernel_rfl
def anim_end_post (r : Int) : AV → Heap → Nat → Prop := fun v h' n' => v = (I r) ∧ (h' = (fun _ => none)) ∧ n' = 0
/-- clerestory/anim.end -/
def anim_end (a_ : TSAnim) : Int :=
  (wi (a_.From + (wi (a_.Times * a_.Length))))
theorem anim_end_ok {Γ : Glob} (a_ : TSAnim) : CPure Try.prog Γ 75 [(.agg [cI a_.From, cI a_.Length, cI a_.Times, cB a_.Turn, cB a_.Stays, cI a_.Ease.Kind, cI a_.Ease.Curve.a0, cI a_.Ease.Curve.a1, cI a_.Ease.Curve.a2, cI a_.Ease.Curve.a3, cI a_.Ease.N, .ro false 3 (a_.Frames.map e_TSFrame)])] (I (anim_end a_)) := by
  generalize h : anim_end a_ = o
  refine acalls_of_sv hmix c75 (R := anim_end_post o) ?_
  unfold anim_end at h
  refine Sv.seq ?_
  refine Sv.region ?_
  refine un (a2v (v := (.c (.ref 0 12 0 0))) (h' := upd _ 0 (some (.cells 12 [[cI a_.From, cI a_.Length, cI a_.Times, cB a_.Turn, cB a_.Stays, cI a_.Ease.Kind, cI a_.Ease.Curve.a0, cI a_.Ease.Curve.a1, cI a_.Ease.Curve.a2, cI a_.Ease.Curve.a3, cI a_.Ease.N, .ro false 3 (a_.Frames.map e_TSFrame)]]))) (n' := 1) rfl rfl (fun h => by cases h) ?_)
  refine un (a1 rfl ?_)
  refine dnil ?_
  refine Sv.seq ?_
  refine Sv.region ?_
  refine un (a1 (v := (.c (.ref 0 12 0 0))) rfl ?_)
  refine un (a1 (v := (I a_.From)) rfl ?_)
  refine un (a1 (v := (.c (.ref 0 12 0 2))) rfl ?_)
  refine un (a1 (v := (I a_.Times)) rfl ?_)
  refine un (a1 (v := (.c (.ref 0 12 0 1))) rfl ?_)
  refine un (a1 (v := (I a_.Length)) rfl ?_)
  refine un (a1 (v := (I (wi (a_.Times * a_.Length)))) rfl ?_)
  refine un (a1 (v := (I (wi (a_.From + (wi (a_.Times * a_.Length)))))) rfl ?_)
  refine un (a1 rfl ?_)
  refine dnil ?_
  refine Sv.ret ?_
  subst h
  exact ⟨_, .refl _, _, rfl, ⟨upd (fun _ => none) 0 (some (I (wi (a_.From + (wi (a_.Times * a_.Length)))))), (fun _ => none), 0⟩, (I (wi (a_.From + (wi (a_.Times * a_.Length))))), weak_canon [] rfl List.nodup_nil (Nat.le_refl _) (fun b h => absurd h (Nat.not_lt_zero _)) (.cons rfl (avAs_free rfl) .nil) .nil, rfl, rfl, rfl, rfl⟩
def a45 : AFunc := ⟨1, [(.tmp 2)], (.seq (.region [⟨(some 2), (.mov (.const (.c (.val (.int .i64 0))))), none⟩])
 (.seq (.region [⟨(some 3), (.mov (.tmp 0)), none⟩, ⟨(some 4), (.mm true [(.tmp 3), (.const (.c (.val (.int .i64 (-16777216)))))]), none⟩, ⟨(some 5), (.mm false [(.tmp 4), (.const (.c (.val (.int .i64 16777216))))]), none⟩, ⟨(some 2), (.mov (.tmp 5)), none⟩])
 .ret))⟩
set_option maxRecDepth 100000 in
theorem c45 : compFunc Try.prog 45 = some a45 := by kernel_rfl
def anim_cut_post (r : Int) : AV → Heap → Nat → Prop := fun v h' n' => v = (I r) ∧ (h' = (fun _ => none)) ∧ n' = 0
/-- clerestory/anim.cut -/
def anim_cut (n_ : Int) : Int :=
  (mn (mx n_ (-16777216)) 16777216)
theorem anim_cut_ok {Γ : Glob} (n_ : Int) : CPure Try.prog Γ 45 [(I n_)] (I (anim_cut n_)) := by
  generalize h : anim_cut n_ = o
  refine acalls_of_sv hmix c45 (R := anim_cut_post o) ?_
  unfold anim_cut at h
  refine Sv.seq ?_
  refine Sv.region ?_
  refine un (a1 rfl ?_)
  refine dnil ?_
  refine Sv.seq ?_
  refine Sv.region ?_
  refine un (a1 rfl ?_)
  refine un (a1 (v := (I (mx n_ (-16777216)))) (s_mx rfl rfl) ?_)
  refine un (a1 (v := (I (mn (mx n_ (-16777216)) 16777216))) (s_mn rfl rfl) ?_)
  refine un (a1 rfl ?_)
  refine dnil ?_
  refine Sv.ret ?_
  subst h
  exact ⟨_, .refl _, _, rfl, ⟨upd (fun _ => none) 0 (some (I (mn (mx n_ (-16777216)) 16777216))), (fun _ => none), 0⟩, (I (mn (mx n_ (-16777216)) 16777216)), weak_canon [] rfl List.nodup_nil (Nat.le_refl _) (fun b h => absurd h (Nat.not_lt_zero _)) (.cons rfl (avAs_free rfl) .nil) .nil, rfl, rfl, rfl, rfl⟩
def a44_c0 : ACode := (.seq (.region [⟨(some 21), (.mov (.tmp 0)), none⟩, ⟨(some 22), (.mov (.tmp 8)), none⟩, ⟨(some 23), (.bin .add (.tmp 21) (.tmp 22)), none⟩, ⟨(some 6), (.mov (.tmp 23)), none⟩])
 .ret)
def a44 : AFunc := ⟨3, [(.tmp 6)], (.seq (.region [⟨(some 6), (.mov (.const (.c (.val (.int .i64 0))))), none⟩])
 (.seq (.region [⟨(some 9), (.mov (.tmp 1)), none⟩, ⟨(some 10), (.mov (.tmp 0)), none⟩, ⟨(some 11), (.bin .sub (.tmp 9) (.tmp 10)), none⟩, ⟨(some 12), (.mov (.tmp 2)), none⟩, ⟨(some 13), (.bin .mul (.tmp 11) (.tmp 12)), none⟩, ⟨(some 7), (.mov (.tmp 13)), none⟩])
 (.seq (.region [⟨(some 14), (.mov (.tmp 7)), none⟩, ⟨(some 15), (.bin .quo (.tmp 14) (.const (.c (.val (.int .i64 1000))))), none⟩, ⟨(some 8), (.mov (.tmp 15)), none⟩])
 (.seq (.seq (.region [⟨(some 16), (.mov (.tmp 7)), none⟩, ⟨(some 17), (.bin .rem (.tmp 16) (.const (.c (.val (.int .i64 1000))))), none⟩, ⟨(some 18), (.bin .lss (.tmp 17) (.const (.c (.val (.int .i64 0))))), none⟩])
 (.cond (.tmp 18) (.region [⟨(some 19), (.mov (.tmp 8)), none⟩, ⟨(some 20), (.bin .sub (.tmp 19) (.const (.c (.val (.int .i64 1))))), none⟩, ⟨(some 8), (.mov (.tmp 20)), none⟩]) .skip))
 a44_c0))))⟩
set_option maxRecDepth 100000 in
theorem c44 : compFunc Try.prog 44 = some a44 := by kernel_rfl
def anim_part_post (r : Int) : AV → Heap → Nat → Prop := fun v h' n' => v = (I r) ∧ (h' = (fun _ => none)) ∧ n' = 0
def anim_part_j1 (a_ : Int) (q_ : Int) : Int :=
  (wi (a_ + q_))
theorem anim_part_j1_ok {Γ : Glob} {a_ : Int} {q_ : Int} {o : Int} (h : anim_part_j1 a_ q_ = o) :
    Sv Try.prog Γ 0 a44_c0 (Ends a44.results 0 (anim_part_post o)) ⟨(upd (upd (fun _ => none) 0 (some (I a_))) 8 (some (I q_))), (fun _ => none), 0⟩ := by
  unfold anim_part_j1 at h
  refine Sv.seq ?_
  refine Sv.region ?_
  refine un (a1 rfl ?_)
  refine un (a1 rfl ?_)
  refine un (a1 (v := (I (wi (a_ + q_)))) rfl ?_)
  refine un (a1 rfl ?_)
  refine dnil ?_
  refine Sv.ret ?_
  subst h
  exact ⟨_, .refl _, _, rfl, ⟨upd (fun _ => none) 0 (some (I (wi (a_ + q_)))), (fun _ => none), 0⟩, (I (wi (a_ + q_))), weak_canon [] rfl List.nodup_nil (Nat.le_refl _) (fun b h => absurd h (Nat.not_lt_zero _)) (.cons rfl (avAs_free rfl) .nil) .nil, rfl, rfl, rfl, rfl⟩
/-- clerestory/anim.part -/
def anim_part (a_ : Int) (b_ : Int) (t_ : Int) : Int :=
  if decide (((wi ((wi (b_ - a_)) * t_)).tmod 1000) < 0) then
    anim_part_j1 a_ (wi ((wi ((wi ((wi (b_ - a_)) * t_)).tdiv 1000)) - 1))
  else
    anim_part_j1 a_ (wi ((wi ((wi (b_ - a_)) * t_)).tdiv 1000))
theorem anim_part_ok {Γ : Glob} (a_ : Int) (b_ : Int) (t_ : Int) : CPure Try.prog Γ 44 [(I a_), (I b_), (I t_)] (I (anim_part a_ b_ t_)) := by
  generalize h : anim_part a_ b_ t_ = o
  refine acalls_of_sv hmix c44 (R := anim_part_post o) ?_
  unfold anim_part at h
  refine Sv.seq ?_
  refine Sv.region ?_
  refine un (a1 rfl ?_)
  refine dnil ?_
  refine Sv.seq ?_
  refine Sv.region ?_
  refine un (a1 rfl ?_)
  refine un (a1 rfl ?_)
  refine un (a1 (v := (I (wi (b_ - a_)))) rfl ?_)
  refine un (a1 rfl ?_)
  refine un (a1 (v := (I (wi ((wi (b_ - a_)) * t_)))) rfl ?_)
  refine un (a1 rfl ?_)
  refine dnil ?_
  refine Sv.seq ?_
  refine Sv.region ?_
  refine un (a1 rfl ?_)
  refine un (a1 (v := (I (wi ((wi ((wi (b_ - a_)) * t_)).tdiv 1000)))) rfl ?_)
  refine un (a1 rfl ?_)
  refine dnil ?_
  refine Sv.seq ?_
  refine Sv.seq ?_
  refine Sv.region ?_
  refine un (a1 rfl ?_)
  refine un (a1 (v := (I ((wi ((wi (b_ - a_)) * t_)).tmod 1000))) rfl ?_)
  refine un (a1 (v := (B (decide (((wi ((wi (b_ - a_)) * t_)).tmod 1000) < 0)))) rfl ?_)
  refine dnil ?_
  refine Sv.cond (b := decide (((wi ((wi (b_ - a_)) * t_)).tmod 1000) < 0)) rfl (fun hc1 => ?_) (fun hc1 => ?_)
  · replace h := ifT hc1 h
    refine Sv.region ?_
    refine un (a1 rfl ?_)
    refine un (a1 (v := (I (wi ((wi ((wi ((wi (b_ - a_)) * t_)).tdiv 1000)) - 1)))) rfl ?_)
    refine un (a1 rfl ?_)
    refine dnil ?_
    exact Sv.weak (weak_canon [] rfl (by decide) (by decide) (fun b h => absurd h (Nat.not_lt_zero _)) (.cons rfl (avAs_free rfl) (.cons rfl (avAs_free rfl) .nil)) .nil) (anim_part_j1_ok h)
  · replace h := ifF hc1 h
    refine Sv.skip ?_
    exact Sv.weak (weak_canon [] rfl (by decide) (by decide) (fun b h => absurd h (Nat.not_lt_zero _)) (.cons rfl (avAs_free rfl) (.cons rfl (avAs_free rfl) .nil)) .nil) (anim_part_j1_ok h)
def a23_c0 : ACode := (.seq (.seq (.region [⟨(some 43), (.mov (.tmp 8)), none⟩, ⟨(some 44), (.bin .geq (.tmp 43) (.const (.c (.val (.int .i64 0))))), none⟩])
 (.cond (.tmp 44) .skip (.exit 1)))
 (.seq (.block 2 (.drawn (.fin [(⟨(some 47), (.mov (.tmp 7)), none⟩, (0, 0)), (⟨(some 48), (.bin .shl (.tmp 47) (.const (.c (.val (.int .u64 8))))), none⟩, (0, 1)), (⟨(some 49), (.faddr 1 (.tmp 3)), none⟩, (0, 2)), (⟨(some 50), (.load false 1 (.tmp 49)), none⟩, (0, 3)), (⟨(some 51), (.conv .u32 (.tmp 50)), none⟩, (0, 4)), (⟨(some 52), (.mov (.tmp 8)), none⟩, (0, 5)), (⟨(some 53), (.bin .shr (.tmp 51) (.tmp 52)), none⟩, (0, 6)), (⟨(some 54), (.bin .and (.tmp 53) (.const (.c (.val (.int .u32 255))))), none⟩, (0, 7)), (⟨(some 55), (.conv .i64 (.tmp 54)), none⟩, (0, 8)), (⟨(some 56), (.faddr 1 (.tmp 4)), none⟩, (0, 9)), (⟨(some 57), (.load false 1 (.tmp 56)), none⟩, (0, 10)), (⟨(some 58), (.conv .u32 (.tmp 57)), none⟩, (0, 11)), (⟨(some 59), (.mov (.tmp 8)), none⟩, (0, 12)), (⟨(some 60), (.bin .shr (.tmp 58) (.tmp 59)), none⟩, (0, 13)), (⟨(some 61), (.bin .and (.tmp 60) (.const (.c (.val (.int .u32 255))))), none⟩, (0, 14)), (⟨(some 62), (.conv .i64 (.tmp 61)), none⟩, (0, 15)), (⟨(some 63), (.mov (.tmp 2)), none⟩, (0, 16)), (⟨(some 64), (.call 44 [(.tmp 55), (.tmp 62), (.tmp 63)]), none⟩, (2, 17)), (⟨(some 65), (.bin .or (.tmp 48) (.tmp 64)), none⟩, (0, 18)), (⟨(some 7), (.mov (.tmp 65)), none⟩, (0, 19))])))
 (.region [⟨(some 45), (.mov (.tmp 8)), none⟩, ⟨(some 46), (.bin .sub (.tmp 45) (.const (.c (.val (.int .i64 8))))), none⟩, ⟨(some 8), (.mov (.tmp 46)), none⟩])))
def a23 : AFunc := ⟨3, [(.cell true 2 6)], (.seq (.region [⟨(some 3), (.box (.tmp 0)), none⟩, ⟨(some 4), (.box (.tmp 1)), none⟩, ⟨(some 6), (.box (.const (.agg [(.val (.int .i64 0)), (.val (.int .i64 0))]))), none⟩])
 (.seq (.region [⟨(some 9), (.mov (.tmp 2)), none⟩, ⟨(some 10), (.mm true [(.tmp 9), (.const (.c (.val (.int .i64 0))))]), none⟩, ⟨(some 11), (.mm false [(.tmp 10), (.const (.c (.val (.int .i64 1000))))]), none⟩, ⟨(some 2), (.mov (.tmp 11)), none⟩])
 (.seq (.block 0 (.seq (.region [⟨(some 13), (.faddr 0 (.tmp 3)), none⟩, ⟨(some 14), (.load false 1 (.tmp 13)), none⟩, ⟨(some 15), (.faddr 0 (.tmp 4)), none⟩, ⟨(some 16), (.load false 1 (.tmp 15)), none⟩, ⟨(some 17), (.bin .eql (.tmp 14) (.tmp 16)), none⟩, ⟨(some 18), (.mov (.tmp 17)), none⟩, ⟨(some 19), (.faddr 0 (.tmp 3)), (some (18, true))⟩, ⟨(some 20), (.load false 1 (.tmp 19)), (some (18, true))⟩, ⟨(some 21), (.call 40 [(.tmp 20), (.const (.c (.val (.int .i64 2)))), (.const (.c (.val (.int .i64 4))))]), (some (18, true))⟩, ⟨(some 22), (.pick (.tmp 18) (.tmp 21) (.const (.c (.val (.bool false))))), none⟩, ⟨(some 12), (.mov (.tmp 22)), none⟩])
 (.cond (.tmp 12) (.seq (.drawn (.fin [(⟨(some 23), (.faddr 0 (.tmp 3)), none⟩, (0, 0)), (⟨(some 24), (.load false 1 (.tmp 23)), none⟩, (0, 1)), (⟨(some 25), (.faddr 1 (.tmp 3)), none⟩, (0, 2)), (⟨(some 26), (.load false 1 (.tmp 25)), none⟩, (0, 3)), (⟨(some 28), (.faddr 1 (.tmp 4)), none⟩, (0, 5)), (⟨(some 29), (.load false 1 (.tmp 28)), none⟩, (0, 6)), (⟨(some 31), (.mov (.tmp 2)), none⟩, (0, 8)), (⟨(some 27), (.call 45 [(.tmp 26)]), none⟩, (1, 4)), (⟨(some 30), (.call 45 [(.tmp 29)]), none⟩, (1, 7)), (⟨(some 32), (.call 44 [(.tmp 27), (.tmp 30), (.tmp 31)]), none⟩, (1, 9)), (⟨(some 33), (.build [(.val (.int .i64 0)), (.val (.int .i64 0))] [(0, (1, (.tmp 24))), (1, (1, (.tmp 32)))]), none⟩, (0, 10)), (⟨none, (.store 2 (.tmp 6) (.tmp 33)), none⟩, (2, 11))]))
 .ret) (.seq (.region [⟨(some 35), (.faddr 0 (.tmp 3)), none⟩, ⟨(some 36), (.load false 1 (.tmp 35)), none⟩, ⟨(some 37), (.bin .eql (.tmp 36) (.const (.c (.val (.int .i64 5))))), none⟩, ⟨(some 38), (.mov (.tmp 37)), none⟩, ⟨(some 39), (.faddr 0 (.tmp 4)), (some (38, true))⟩, ⟨(some 40), (.load false 1 (.tmp 39)), (some (38, true))⟩, ⟨(some 41), (.bin .eql (.tmp 40) (.const (.c (.val (.int .i64 5))))), (some (38, true))⟩, ⟨(some 42), (.pick (.tmp 38) (.tmp 41) (.const (.c (.val (.bool false))))), none⟩, ⟨(some 34), (.mov (.tmp 42)), none⟩])
 (.cond (.tmp 34) (.seq (.region [⟨(some 7), (.mov (.const (.c (.val (.int .i64 0))))), none⟩])
 (.seq (.seq (.region [⟨(some 8), (.mov (.const (.c (.val (.int .i64 24))))), none⟩])
 (.block 1 (.loop a23_c0)))
 (.seq (.region [⟨(some 66), (.mov (.tmp 7)), none⟩, ⟨(some 67), (.build [(.val (.int .i64 0)), (.val (.int .i64 0))] [(0, (1, (.const (.c (.val (.int .i64 5)))))), (1, (1, (.tmp 66)))]), none⟩, ⟨none, (.store 2 (.tmp 6) (.tmp 67)), none⟩])
 .ret))) (.seq (.region [⟨(some 69), (.mov (.tmp 2)), none⟩, ⟨(some 70), (.bin .lss (.tmp 69) (.const (.c (.val (.int .i64 500))))), none⟩, ⟨(some 68), (.mov (.tmp 70)), none⟩])
 (.cond (.tmp 68) (.seq (.region [⟨(some 71), (.load true 2 (.tmp 3)), none⟩, ⟨none, (.store 2 (.tmp 6) (.tmp 71)), none⟩])
 .ret) .skip)))))))
 (.seq (.region [⟨(some 72), (.load true 2 (.tmp 4)), none⟩, ⟨none, (.store 2 (.tmp 6) (.tmp 72)), none⟩])
 .ret))))⟩
set_option maxRecDepth 100000 in
theorem c23 : compFunc Try.prog 23 = some a23 := by kernel_rfl
def anim_Mix_post (r : TVal) : AV → Heap → Nat → Prop := fun v h' n' => v = (.agg [cI r.Kind, cI r.N]) ∧ (h' = (fun _ => none)) ∧ n' = 0
noncomputable def anim_Mix_l0 (a_ : TVal) (b_ : TVal) (t_ : Int) (K1_ : Int → Option TVal) : Nat → Int → Int → Option TVal
  | 0, _, _ => none
  | k + 1, n_, at_ =>
    if decide (0 ≤ at_) then
      (shr? .u32 (wr .u32 a_.N) at_).bind fun r_ =>
      (shr? .u32 (wr .u32 b_.N) at_).bind fun r_1 =>
      letIn (anim_part (wr .i64 (bitsV .and .u32 r_ 255)) (wr .i64 (bitsV .and .u32 r_1 255)) (mn (mx t_ 0) 1000)) fun r_2 : Int =>
      (anim_Mix_l0 a_ b_ t_ K1_ k) (bitsV .or .i64 (shl .i64 n_ 8) r_2) (wi (at_ - 8))
    else
      K1_ n_
theorem anim_Mix_l0_ok {Γ : Glob} {Q : AExit → St → Prop} {a_ : TVal} {b_ : TVal} {t_ : Int} {K1_ : Int → Option TVal} {k : Nat} {n_ : Int} {at_ : Int} {o : TVal} (h : anim_Mix_l0 a_ b_ t_ K1_ k n_ at_ = some o)
    (hK1 : ∀ (n_1 : Int), K1_ n_1 = some o → ∀ s, Weak 0 s ⟨(upd (upd (fun _ => none) 6 (some (.c (.ref 0 2 0 0)))) 7 (some (I n_1))), (upd (fun _ => none) 0 (some (.cells 2 [[cI 0, cI 0]]))), 1⟩ → Q (.exit 1) s)
    (hr : ∀ s, Ends a23.results 0 (anim_Mix_post o) .ret s → Q .ret s) :
    Sv Try.prog Γ 0 (.loop a23_c0) Q ⟨(upd (upd (upd (upd (upd (upd (fun _ => none) 2 (some (I (mn (mx t_ 0) 1000)))) 3 (some (.c (.ref 0 2 0 0)))) 4 (some (.c (.ref 1 2 0 0)))) 6 (some (.c (.ref 2 2 0 0)))) 7 (some (I n_))) 8 (some (I at_))), (upd (upd (upd (fun _ => none) 0 (some (.cells 2 [[cI a_.Kind, cI a_.N]]))) 1 (some (.cells 2 [[cI b_.Kind, cI b_.N]]))) 2 (some (.cells 2 [[cI 0, cI 0]]))), 3⟩ := by
  refine Sv.loop (I := fun k s => ∃ (n_ : Int), ∃ (at_ : Int), anim_Mix_l0 a_ b_ t_ K1_ k n_ at_ = some o ∧ s = ⟨(upd (upd (upd (upd (upd (upd (fun _ => none) 2 (some (I (mn (mx t_ 0) 1000)))) 3 (some (.c (.ref 0 2 0 0)))) 4 (some (.c (.ref 1 2 0 0)))) 6 (some (.c (.ref 2 2 0 0)))) 7 (some (I n_))) 8 (some (I at_))), (upd (upd (upd (fun _ => none) 0 (some (.cells 2 [[cI a_.Kind, cI a_.N]]))) 1 (some (.cells 2 [[cI b_.Kind, cI b_.N]]))) 2 (some (.cells 2 [[cI 0, cI 0]]))), 3⟩) (fun k s hI => ?_) ⟨n_, at_, h, rfl⟩
  clear h
  clear at_ n_
  obtain ⟨n_, at_, h, rfl⟩ := hI
  cases k with
  | zero => cases h
  | succ k =>
  rw [anim_Mix_l0] at h
  have hself : ∀ (n_ : Int) (at_ : Int), (anim_Mix_l0 a_ b_ t_ K1_ k) n_ at_ = some o → ∀ s, Weak 0 s ⟨(upd (upd (upd (upd (upd (upd (fun _ => none) 2 (some (I (mn (mx t_ 0) 1000)))) 3 (some (.c (.ref 0 2 0 0)))) 4 (some (.c (.ref 1 2 0 0)))) 6 (some (.c (.ref 2 2 0 0)))) 7 (some (I n_))) 8 (some (I at_))), (upd (upd (upd (fun _ => none) 0 (some (.cells 2 [[cI a_.Kind, cI a_.N]]))) 1 (some (.cells 2 [[cI b_.Kind, cI b_.N]]))) 2 (some (.cells 2 [[cI 0, cI 0]]))), 3⟩ → (AThen (fun s' => ∃ s'' k', Weak 0 s' s'' ∧ k' < k + 1 ∧ (fun k s => ∃ (n_ : Int), ∃ (at_ : Int), anim_Mix_l0 a_ b_ t_ K1_ k n_ at_ = some o ∧ s = ⟨(upd (upd (upd (upd (upd (upd (fun _ => none) 2 (some (I (mn (mx t_ 0) 1000)))) 3 (some (.c (.ref 0 2 0 0)))) 4 (some (.c (.ref 1 2 0 0)))) 6 (some (.c (.ref 2 2 0 0)))) 7 (some (I n_))) 8 (some (I at_))), (upd (upd (upd (fun _ => none) 0 (some (.cells 2 [[cI a_.Kind, cI a_.N]]))) 1 (some (.cells 2 [[cI b_.Kind, cI b_.N]]))) 2 (some (.cells 2 [[cI 0, cI 0]]))), 3⟩) k' s'') Q) .normal s := fun n_ at_ h s hw => ⟨_, k, hw, Nat.lt_succ_self k, n_, at_, h, rfl⟩
  refine Sv.seq ?_
  refine Sv.seq ?_
  refine Sv.region ?_
  refine un (a1 rfl ?_)
  refine un (a1 (v := (B (decide (0 ≤ at_)))) rfl ?_)
  refine dnil ?_
  refine Sv.cond (b := decide (0 ≤ at_)) rfl (fun hc5 => ?_) (fun hc5 => ?_)
  · replace h := ifT hc5 h
    refine Sv.skip ?_
    refine Sv.seq ?_
    refine Sv.block ?_
    refine Sv.drawn ?_
    refine un (a1 rfl ?_)
    refine un (a1 (v := (I (shl .i64 n_ 8))) rfl ?_)
    refine un (a1 (v := (.c (.ref 0 2 0 1))) rfl ?_)
    refine un (a1 (v := (I a_.N)) rfl ?_)
    refine un (a1 (v := (.c (.val (.int .u32 (wr .u32 a_.N))))) rfl ?_)
    refine un (a1 rfl ?_)
    obtain ⟨r_, hx1, h⟩ := bnd h
    refine un (a1 (v := (.c (.val (.int .u32 r_)))) (s_shr rfl rfl hx1) ?_)
    refine un (a1 (v := (.c (.val (.int .u32 (bitsV .and .u32 r_ 255))))) rfl ?_)
    refine un (a1 (v := (I (wr .i64 (bitsV .and .u32 r_ 255)))) rfl ?_)
    refine un (a1 (v := (.c (.ref 1 2 0 1))) rfl ?_)
    refine un (a1 (v := (I b_.N)) rfl ?_)
    refine un (a1 (v := (.c (.val (.int .u32 (wr .u32 b_.N))))) rfl ?_)
    refine un (a1 rfl ?_)
    obtain ⟨r_1, hx2, h⟩ := bnd h
    refine un (a1 (v := (.c (.val (.int .u32 r_1)))) (s_shr rfl rfl hx2) ?_)
    refine un (a1 (v := (.c (.val (.int .u32 (bitsV .and .u32 r_1 255))))) rfl ?_)
    refine un (a1 (v := (I (wr .i64 (bitsV .and .u32 r_1 255)))) rfl ?_)
    refine un (a1 rfl ?_)
    obtain ⟨r_2, hr_2⟩ : ∃ r_2 : Int, r_2 = (anim_part (wr .i64 (bitsV .and .u32 r_ 255)) (wr .i64 (bitsV .and .u32 r_1 255)) (mn (mx t_ 0) 1000)) := ⟨_, rfl⟩
    replace h := letAt hr_2 h
    have pr_2 := (anim_part_ok (Γ := Γ) (wr .i64 (bitsV .and .u32 r_ 255)) (wr .i64 (bitsV .and .u32 r_1 255)) (mn (mx t_ 0) 1000))
    rw [← hr_2] at pr_2
    refine un (ac_pure pr_2 rfl rfl rfl ?_)
    refine un (a1 (v := (I (bitsV .or .i64 (shl .i64 n_ 8) r_2))) rfl ?_)
    refine un (a1 rfl ?_)
    refine dnil ?_
    refine Sv.region ?_
    refine un (a1 rfl ?_)
    refine un (a1 (v := (I (wi (at_ - 8)))) rfl ?_)
    refine un (a1 rfl ?_)
    refine dnil ?_
    exact hself (bitsV .or .i64 (shl .i64 n_ 8) r_2) (wi (at_ - 8)) h _ (weak_canon [0, 1, 2] rfl (by decide) (by decide) (fun b h => absurd h (Nat.not_lt_zero _)) (.cons rfl (avAs_free rfl) (.cons rfl (avAs_free rfl) (.cons rfl (.c (.ref rfl (by decide))) (.cons rfl (.c (.ref rfl (by decide))) (.cons rfl (.c (.ref rfl (by decide))) (.cons rfl (avAs_free rfl) .nil)))))) (.box (by decide) rfl (blkAs_cells (.cons (.same rfl) (.cons (.same rfl) .nil))) (.box (by decide) rfl (blkAs_cells (.cons (.same rfl) (.cons (.same rfl) .nil))) (.box (by decide) rfl (blkAs_cells (.cons (.same rfl) (.cons (.same rfl) .nil))) .nil))))
  · replace h := ifF hc5 h
    refine Sv.exit ?_
    exact hK1 n_ h _ (weak_canon [2] rfl (by decide) (by decide) (fun b h => absurd h (Nat.not_lt_zero _)) (.cons rfl (avAs_free rfl) (.cons rfl (.c (.ref rfl (by decide))) .nil)) (.box (by decide) rfl (blkAs_cells (.cons (.same rfl) (.cons (.same rfl) .nil))) .nil))
/-- clerestory/anim.Mix -/
noncomputable def anim_Mix (a_ : TVal) (b_ : TVal) (t_ : Int) : Option TVal :=
  if ((decide (a_.Kind = b_.Kind)) && (anim_in a_.Kind 2 4)) then
    some (⟨a_.Kind, (anim_part (anim_cut a_.N) (anim_cut b_.N) (mn (mx t_ 0) 1000))⟩ : TVal)
  else
    if ((decide (a_.Kind = 5)) && (decide (b_.Kind = 5))) then
      lim fun kk => anim_Mix_l0 a_ b_ t_ (fun (n_1 : Int) => 
          some (⟨5, n_1⟩ : TVal)) kk 0 24
    else
      if decide ((mn (mx t_ 0) 1000) < 500) then
        some a_
      else
        some b_
theorem anim_Mix_ok {Γ : Glob} {a_ : TVal} {b_ : TVal} {t_ : Int} {r : TVal} (h : anim_Mix a_ b_ t_ = some r) : CPure Try.prog Γ 23 [(.agg [cI a_.Kind, cI a_.N]), (.agg [cI b_.Kind, cI b_.N]), (I t_)] (.agg [cI r.Kind, cI r.N]) := by
  refine acalls_of_sv hmix c23 (R := anim_Mix_post r) ?_
  unfold anim_Mix at h
  refine Sv.seq ?_
  refine Sv.region ?_
  refine un (a2v (v := (.c (.ref 0 2 0 0))) (h' := upd _ 0 (some (.cells 2 [[cI a_.Kind, cI a_.N]]))) (n' := 1) rfl rfl (fun h => by cases h) ?_)
  refine un (a2v (v := (.c (.ref 1 2 0 0))) (h' := upd _ 1 (some (.cells 2 [[cI b_.Kind, cI b_.N]]))) (n' := 2) rfl rfl (fun h => by cases h) ?_)
  refine un (a2v (v := (.c (.ref 2 2 0 0))) (h' := upd _ 2 (some (.cells 2 [[cI 0, cI 0]]))) (n' := 3) rfl rfl (fun h => by cases h) ?_)
  refine dnil ?_
  refine Sv.seq ?_
  refine Sv.region ?_
  refine un (a1 rfl ?_)
  refine un (a1 (v := (I (mx t_ 0))) (s_mx rfl rfl) ?_)
  refine un (a1 (v := (I (mn (mx t_ 0) 1000))) (s_mn rfl rfl) ?_)
  refine un (a1 rfl ?_)
  refine dnil ?_
  refine Sv.seq ?_
  refine Sv.block ?_
  refine Sv.seq ?_
  refine Sv.region ?_
  refine un (a1 (v := (.c (.ref 0 2 0 0))) rfl ?_)
  refine un (a1 (v := (I a_.Kind)) rfl ?_)
  refine un (a1 (v := (.c (.ref 1 2 0 0))) rfl ?_)
  refine un (a1 (v := (I b_.Kind)) rfl ?_)
  refine un (a1 (v := (B (decide (a_.Kind = b_.Kind)))) rfl ?_)
  refine un (a1 rfl ?_)
  refine gjoin 4 (d := 22) (v := (B ((decide (a_.Kind = b_.Kind)) && (anim_in a_.Kind 2 4)))) (fun X hX => ?_) ?_
  · refine split2 (fun hc1 => ?_) (fun hc1 => ?_)
    · refine gt rfl (a1 (v := (.c (.ref 0 2 0 0))) rfl ?_)
      refine gt rfl (a1 (v := (I a_.Kind)) rfl ?_)
      refine gt rfl (ac_pure (anim_in_ok (Γ := Γ) a_.Kind 2 4) rfl rfl rfl ?_)
      refine un (a1 (v := (B (anim_in a_.Kind 2 4))) rfl ?_)
      refine dnil ?_
      exact hX _ (.putEq (by rw [hc1]; rfl) (.skip _ _ (.skip _ _ (.skip _ _ (.putEq (by rw [hc1]) (.refl _)) rfl) rfl) rfl))
    · refine gs rfl rfl ?_
      refine gs rfl rfl ?_
      refine gs rfl rfl ?_
      refine un (a1 (v := (B false)) rfl ?_)
      refine dnil ?_
      exact hX _ (.putEq (by rw [hc1]; rfl) (.skip _ _ (.skip _ _ (.skip _ _ (.putEq (by rw [hc1]) (.refl _)) rfl) rfl) rfl))
  refine un (a1 rfl ?_)
  refine dnil ?_
  refine Sv.cond (b := ((decide (a_.Kind = b_.Kind)) && (anim_in a_.Kind 2 4))) rfl (fun hc2 => ?_) (fun hc2 => ?_)
  · replace h := ifT hc2 h
    refine Sv.seq ?_
    refine Sv.drawn ?_
    refine un (a1 (v := (.c (.ref 0 2 0 0))) rfl ?_)
    refine un (a1 (v := (I a_.Kind)) rfl ?_)
    refine un (a1 (v := (.c (.ref 0 2 0 1))) rfl ?_)
    refine un (a1 (v := (I a_.N)) rfl ?_)
    refine un (a1 (v := (.c (.ref 1 2 0 1))) rfl ?_)
    refine un (a1 (v := (I b_.N)) rfl ?_)
    refine un (a1 rfl ?_)
    refine un (ac_pure (anim_cut_ok (Γ := Γ) a_.N) rfl rfl rfl ?_)
    refine un (ac_pure (anim_cut_ok (Γ := Γ) b_.N) rfl rfl rfl ?_)
    refine un (ac_pure (anim_part_ok (Γ := Γ) (anim_cut a_.N) (anim_cut b_.N) (mn (mx t_ 0) 1000)) rfl rfl rfl ?_)
    refine un (a1 (v := (.agg [cI a_.Kind, cI (anim_part (anim_cut a_.N) (anim_cut b_.N) (mn (mx t_ 0) 1000))])) rfl ?_)
    refine un (a2n (h' := upd _ 2 (some (.cells 2 [[cI a_.Kind, cI (anim_part (anim_cut a_.N) (anim_cut b_.N) (mn (mx t_ 0) 1000))]]))) (n' := 3) rfl rfl (fun h => by cases h) ?_)
    refine dnil ?_
    refine Sv.ret ?_
    replace h := Option.some.inj h
    subst h
    exact ⟨_, .refl _, _, rfl, ⟨upd (fun _ => none) 0 (some (.agg [cI a_.Kind, cI (anim_part (anim_cut a_.N) (anim_cut b_.N) (mn (mx t_ 0) 1000))])), (fun _ => none), 0⟩, (.agg [cI a_.Kind, cI (anim_part (anim_cut a_.N) (anim_cut b_.N) (mn (mx t_ 0) 1000))]), weak_canon [] rfl List.nodup_nil (Nat.le_refl _) (fun b h => absurd h (Nat.not_lt_zero _)) (.cons rfl (avAs_free rfl) .nil) .nil, rfl, rfl, rfl, rfl⟩
  · replace h := ifF hc2 h
    refine Sv.seq ?_
    refine Sv.region ?_
    refine un (a1 (v := (.c (.ref 0 2 0 0))) rfl ?_)
    refine un (a1 (v := (I a_.Kind)) rfl ?_)
    refine un (a1 (v := (B (decide (a_.Kind = 5)))) rfl ?_)
    refine un (a1 rfl ?_)
    refine gjoin 4 (d := 42) (v := (B ((decide (a_.Kind = 5)) && (decide (b_.Kind = 5))))) (fun X hX => ?_) ?_
    · refine split2 (fun hc3 => ?_) (fun hc3 => ?_)
      · refine gt rfl (a1 (v := (.c (.ref 1 2 0 0))) rfl ?_)
        refine gt rfl (a1 (v := (I b_.Kind)) rfl ?_)
        refine gt rfl (a1 (v := (B (decide (b_.Kind = 5)))) rfl ?_)
        refine un (a1 (v := (B (decide (b_.Kind = 5)))) rfl ?_)
        refine dnil ?_
        exact hX _ (.putEq (by rw [hc3]; rfl) (.skip _ _ (.skip _ _ (.skip _ _ (.putEq (by rw [hc3]) (.refl _)) rfl) rfl) rfl))
      · refine gs rfl rfl ?_
        refine gs rfl rfl ?_
        refine gs rfl rfl ?_
        refine un (a1 (v := (B false)) rfl ?_)
        refine dnil ?_
        exact hX _ (.putEq (by rw [hc3]; rfl) (.skip _ _ (.skip _ _ (.skip _ _ (.putEq (by rw [hc3]) (.refl _)) rfl) rfl) rfl))
    refine un (a1 rfl ?_)
    refine dnil ?_
    refine Sv.cond (b := ((decide (a_.Kind = 5)) && (decide (b_.Kind = 5)))) rfl (fun hc4 => ?_) (fun hc4 => ?_)
    · replace h := ifT hc4 h
      refine Sv.seq ?_
      refine Sv.region ?_
      refine un (a1 rfl ?_)
      refine dnil ?_
      refine Sv.seq ?_
      refine Sv.seq ?_
      refine Sv.region ?_
      refine un (a1 rfl ?_)
      refine dnil ?_
      refine Sv.block ?_
      obtain ⟨kk, h⟩ := lim_some h
      refine Sv.weak (weak_canon [0, 1, 2] rfl (by decide) (by decide) (fun b h => absurd h (Nat.not_lt_zero _)) (.cons rfl (avAs_free rfl) (.cons rfl (avAs_free rfl) (.cons rfl (.c (.ref rfl (by decide))) (.cons rfl (.c (.ref rfl (by decide))) (.cons rfl (.c (.ref rfl (by decide))) (.cons rfl (avAs_free rfl) .nil)))))) (.box (by decide) rfl (blkAs_cells (.cons (.same rfl) (.cons (.same rfl) .nil))) (.box (by decide) rfl (blkAs_cells (.cons (.same rfl) (.cons (.same rfl) .nil))) (.box (by decide) rfl (blkAs_cells (.cons (.same rfl) (.cons (.same rfl) .nil))) .nil)))) (anim_Mix_l0_ok h ?_ (fun s hs => hs))
      · intro n_1 h _ hw1
        refine Sv.weak hw1 ?_
        refine Sv.seq ?_
        refine Sv.region ?_
        refine un (a1 rfl ?_)
        refine un (a1 (v := (.agg [cI 5, cI n_1])) rfl ?_)
        refine un (a2n (h' := upd _ 0 (some (.cells 2 [[cI 5, cI n_1]]))) (n' := 1) rfl rfl (fun h => by cases h) ?_)
        refine dnil ?_
        refine Sv.ret ?_
        replace h := Option.some.inj h
        subst h
        exact ⟨_, .refl _, _, rfl, ⟨upd (fun _ => none) 0 (some (.agg [cI 5, cI n_1])), (fun _ => none), 0⟩, (.agg [cI 5, cI n_1]), weak_canon [] rfl List.nodup_nil (Nat.le_refl _) (fun b h => absurd h (Nat.not_lt_zero _)) (.cons rfl (avAs_free rfl) .nil) .nil, rfl, rfl, rfl, rfl⟩
    · replace h := ifF hc4 h
      refine Sv.seq ?_
      refine Sv.region ?_
      refine un (a1 rfl ?_)
      refine un (a1 (v := (B (decide ((mn (mx t_ 0) 1000) < 500)))) rfl ?_)
      refine un (a1 rfl ?_)
      refine dnil ?_
      refine Sv.cond (b := decide ((mn (mx t_ 0) 1000) < 500)) rfl (fun hc6 => ?_) (fun hc6 => ?_)
      · replace h := ifT hc6 h
        refine Sv.seq ?_
        refine Sv.region ?_
        refine un (a1 (v := (.agg [cI a_.Kind, cI a_.N])) rfl ?_)
        refine un (a2n (h' := upd _ 2 (some (.cells 2 [[cI a_.Kind, cI a_.N]]))) (n' := 3) rfl rfl (fun h => by cases h) ?_)
        refine dnil ?_
        refine Sv.ret ?_
        replace h := Option.some.inj h
        subst h
        exact ⟨_, .refl _, _, rfl, ⟨upd (fun _ => none) 0 (some (.agg [cI a_.Kind, cI a_.N])), (fun _ => none), 0⟩, (.agg [cI a_.Kind, cI a_.N]), weak_canon [] rfl List.nodup_nil (Nat.le_refl _) (fun b h => absurd h (Nat.not_lt_zero _)) (.cons rfl (avAs_free rfl) .nil) .nil, rfl, rfl, rfl, rfl⟩
      · replace h := ifF hc6 h
        refine Sv.skip ?_
        refine Sv.seq ?_
        refine Sv.region ?_
        refine un (a1 (v := (.agg [cI b_.Kind, cI b_.N])) rfl ?_)
        refine un (a2n (h' := upd _ 2 (some (.cells 2 [[cI b_.Kind, cI b_.N]]))) (n' := 3) rfl rfl (fun h => by cases h) ?_)
        refine dnil ?_
        refine Sv.ret ?_
        replace h := Option.some.inj h
        subst h
        exact ⟨_, .refl _, _, rfl, ⟨upd (fun _ => none) 0 (some (.agg [cI b_.Kind, cI b_.N])), (fun _ => none), 0⟩, (.agg [cI b_.Kind, cI b_.N]), weak_canon [] rfl List.nodup_nil (Nat.le_refl _) (fun b h => absurd h (Nat.not_lt_zero _)) (.cons rfl (avAs_free rfl) .nil) .nil, rfl, rfl, rfl, rfl⟩
def a76_c0 : ACode := (.cond (.tmp 24) .skip (.exit 0))
def a76_c1 : ACode := (.block 1 (.region [⟨(some 25), (.mov (.tmp 5)), none⟩, ⟨(some 26), (.bin .add (.tmp 25) (.const (.c (.val (.int .i64 1))))), none⟩, ⟨(some 5), (.mov (.tmp 26)), none⟩]))
def a76_c2 : ACode := (.seq (.seq (.region [⟨(some 8), (.mov (.tmp 5)), none⟩, ⟨(some 9), (.bin .add (.tmp 8) (.const (.c (.val (.int .i64 1))))), none⟩, ⟨(some 10), (.faddr 11 (.tmp 2)), none⟩, ⟨(some 11), (.load false 1 (.tmp 10)), none⟩, ⟨(some 12), (.len (.tmp 11)), none⟩, ⟨(some 13), (.bin .lss (.tmp 9) (.tmp 12)), none⟩, ⟨(some 14), (.mov (.tmp 13)), none⟩, ⟨(some 15), (.faddr 11 (.tmp 2)), (some (14, true))⟩, ⟨(some 16), (.load false 1 (.tmp 15)), (some (14, true))⟩, ⟨(some 17), (.mov (.tmp 5)), (some (14, true))⟩, ⟨(some 18), (.bin .add (.tmp 17) (.const (.c (.val (.int .i64 1))))), (some (14, true))⟩, ⟨(some 19), (.iaddr 3 (.tmp 16) (.tmp 18)), (some (14, true))⟩, ⟨(some 20), (.faddr 0 (.tmp 19)), (some (14, true))⟩, ⟨(some 21), (.load false 1 (.tmp 20)), (some (14, true))⟩, ⟨(some 22), (.mov (.tmp 1)), (some (14, true))⟩, ⟨(some 23), (.bin .leq (.tmp 21) (.tmp 22)), (some (14, true))⟩, ⟨(some 24), (.pick (.tmp 14) (.tmp 23) (.const (.c (.val (.bool false))))), none⟩])
 a76_c0)
 a76_c1)
def a76 : AFunc := ⟨2, [(.cell true 2 4)], (.seq (.region [⟨(some 2), (.box (.tmp 0)), none⟩, ⟨(some 4), (.box (.const (.agg [(.val (.int .i64 0)), (.val (.int .i64 0))]))), none⟩])
 (.seq (.region [⟨(some 5), (.mov (.const (.c (.val (.int .i64 0))))), none⟩])
 (.seq (.block 0 (.loop a76_c2))
 (.seq (.region [⟨(some 27), (.faddr 11 (.tmp 2)), none⟩, ⟨(some 28), (.load false 1 (.tmp 27)), none⟩, ⟨(some 29), (.mov (.tmp 5)), none⟩, ⟨(some 30), (.iaddr 3 (.tmp 28) (.tmp 29)), none⟩, ⟨(some 31), (.load true 3 (.tmp 30)), none⟩, ⟨(some 6), (.box (.const (.agg [(.val (.int .i64 0)), (.val (.int .i64 0)), (.val (.int .i64 0))]))), none⟩, ⟨none, (.store 3 (.tmp 6) (.tmp 31)), none⟩])
 (.seq (.seq (.region [⟨(some 32), (.mov (.tmp 5)), none⟩, ⟨(some 33), (.bin .add (.tmp 32) (.const (.c (.val (.int .i64 1))))), none⟩, ⟨(some 34), (.faddr 11 (.tmp 2)), none⟩, ⟨(some 35), (.load false 1 (.tmp 34)), none⟩, ⟨(some 36), (.len (.tmp 35)), none⟩, ⟨(some 37), (.bin .eql (.tmp 33) (.tmp 36)), none⟩])
 (.cond (.tmp 37) (.seq (.region [⟨(some 38), (.faddr 1 (.tmp 6)), none⟩, ⟨(some 39), (.load true 2 (.tmp 38)), none⟩, ⟨none, (.store 2 (.tmp 4) (.tmp 39)), none⟩])
 .ret) .skip))
 (.seq (.region [⟨(some 40), (.faddr 11 (.tmp 2)), none⟩, ⟨(some 41), (.load false 1 (.tmp 40)), none⟩, ⟨(some 42), (.mov (.tmp 5)), none⟩, ⟨(some 43), (.bin .add (.tmp 42) (.const (.c (.val (.int .i64 1))))), none⟩, ⟨(some 44), (.iaddr 3 (.tmp 41) (.tmp 43)), none⟩, ⟨(some 45), (.load true 3 (.tmp 44)), none⟩, ⟨(some 7), (.box (.const (.agg [(.val (.int .i64 0)), (.val (.int .i64 0)), (.val (.int .i64 0))]))), none⟩, ⟨none, (.store 3 (.tmp 7) (.tmp 45)), none⟩])
 (.seq (.drawn (.fin [(⟨(some 46), (.faddr 1 (.tmp 6)), none⟩, (0, 0)), (⟨(some 47), (.load true 2 (.tmp 46)), none⟩, (0, 1)), (⟨(some 48), (.faddr 1 (.tmp 7)), none⟩, (0, 2)), (⟨(some 49), (.load true 2 (.tmp 48)), none⟩, (0, 3)), (⟨(some 50), (.faddr 5 (.tmp 2)), none⟩, (0, 4)), (⟨(some 51), (.load true 6 (.tmp 50)), none⟩, (0, 5)), (⟨(some 52), (.mov (.tmp 1)), none⟩, (0, 6)), (⟨(some 53), (.faddr 0 (.tmp 6)), none⟩, (0, 7)), (⟨(some 54), (.load false 1 (.tmp 53)), none⟩, (0, 8)), (⟨(some 55), (.bin .sub (.tmp 52) (.tmp 54)), none⟩, (0, 9)), (⟨(some 56), (.bin .mul (.tmp 55) (.const (.c (.val (.int .i64 1000))))), none⟩, (0, 10)), (⟨(some 57), (.faddr 0 (.tmp 7)), none⟩, (0, 11)), (⟨(some 58), (.load false 1 (.tmp 57)), none⟩, (0, 12)), (⟨(some 59), (.faddr 0 (.tmp 6)), none⟩, (0, 13)), (⟨(some 60), (.load false 1 (.tmp 59)), none⟩, (0, 14)), (⟨(some 61), (.bin .sub (.tmp 58) (.tmp 60)), none⟩, (0, 15)), (⟨(some 62), (.bin .quo (.tmp 56) (.tmp 61)), none⟩, (0, 16)), (⟨(some 63), (.call 41 [(.tmp 51), (.tmp 62)]), none⟩, (1, 17)), (⟨(some 64), (.call 23 [(.tmp 47), (.tmp 49), (.tmp 63)]), none⟩, (2, 18)), (⟨none, (.store 2 (.tmp 4) (.tmp 64)), none⟩, (2, 19))]))
 .ret)))))))⟩
set_option maxRecDepth 100000 in
theorem c76 : compFunc Try.prog 76 = some a76 := by kernel_rfl
def anim_frames_post (r : TVal) : AV → Heap → Nat → Prop := fun v h' n' => v = (.agg [cI r.Kind, cI r.N]) ∧ (h' = (fun _ => none)) ∧ n' = 0
abbrev anim_frames_q0 (Γ : Glob) (Q : AExit → St → Prop) : AExit → St → Prop := AThen (Sv Try.prog Γ 0 a76_c1 Q) Q
noncomputable def anim_frames_j3 (i_ : Int) (r_ : Int) (a_ : TSAnim) (self : Int → Option TVal) (K0_ : Int → Option TVal) (v24 : Bool) : Option TVal :=
  if v24 then
    self (wi (i_ + 1))
  else
    K0_ i_
theorem anim_frames_j3_ok {Γ : Glob} {Q : AExit → St → Prop} {i_ : Int} {r_ : Int} {a_ : TSAnim} {self : Int → Option TVal} {K0_ : Int → Option TVal} {v24 : Bool} {o : TVal} (h : anim_frames_j3 i_ r_ a_ self K0_ v24 = some o)
    (hself : ∀ (i_ : Int), self i_ = some o → ∀ s, Weak 0 s ⟨(upd (upd (upd (upd (fun _ => none) 1 (some (I r_))) 2 (some (.c (.ref 0 12 0 0)))) 4 (some (.c (.ref 1 2 0 0)))) 5 (some (I i_))), (upd (upd (fun _ => none) 0 (some (.cells 12 [[cI a_.From, cI a_.Length, cI a_.Times, cB a_.Turn, cB a_.Stays, cI a_.Ease.Kind, cI a_.Ease.Curve.a0, cI a_.Ease.Curve.a1, cI a_.Ease.Curve.a2, cI a_.Ease.Curve.a3, cI a_.Ease.N, .ro false 3 (a_.Frames.map e_TSFrame)]]))) 1 (some (.cells 2 [[cI 0, cI 0]]))), 2⟩ → (Q) .normal s)
    (hK0 : ∀ (i_1 : Int), K0_ i_1 = some o → ∀ s, Weak 0 s ⟨(upd (upd (upd (upd (fun _ => none) 1 (some (I r_))) 2 (some (.c (.ref 0 12 0 0)))) 4 (some (.c (.ref 1 2 0 0)))) 5 (some (I i_1))), (upd (upd (fun _ => none) 0 (some (.cells 12 [[cI a_.From, cI a_.Length, cI a_.Times, cB a_.Turn, cB a_.Stays, cI a_.Ease.Kind, cI a_.Ease.Curve.a0, cI a_.Ease.Curve.a1, cI a_.Ease.Curve.a2, cI a_.Ease.Curve.a3, cI a_.Ease.N, .ro false 3 (a_.Frames.map e_TSFrame)]]))) 1 (some (.cells 2 [[cI 0, cI 0]]))), 2⟩ → Q (.exit 0) s)
    (hr : ∀ s, Ends a76.results 0 (anim_frames_post o) .ret s → Q .ret s) :
    Sv Try.prog Γ 0 a76_c0 (anim_frames_q0 Γ Q) ⟨(upd (upd (upd (upd (upd (fun _ => none) 1 (some (I r_))) 2 (some (.c (.ref 0 12 0 0)))) 4 (some (.c (.ref 1 2 0 0)))) 5 (some (I i_))) 24 (some (B v24))), (upd (upd (fun _ => none) 0 (some (.cells 12 [[cI a_.From, cI a_.Length, cI a_.Times, cB a_.Turn, cB a_.Stays, cI a_.Ease.Kind, cI a_.Ease.Curve.a0, cI a_.Ease.Curve.a1, cI a_.Ease.Curve.a2, cI a_.Ease.Curve.a3, cI a_.Ease.N, .ro false 3 (a_.Frames.map e_TSFrame)]]))) 1 (some (.cells 2 [[cI 0, cI 0]]))), 2⟩ := by
  unfold anim_frames_j3 at h
  refine Sv.cond (b := v24) rfl (fun hc1 => ?_) (fun hc1 => ?_)
  · replace h := ifT hc1 h
    refine Sv.skip ?_
    refine Sv.block ?_
    refine Sv.region ?_
    refine un (a1 rfl ?_)
    refine un (a1 (v := (I (wi (i_ + 1)))) rfl ?_)
    refine un (a1 rfl ?_)
    refine dnil ?_
    exact hself (wi (i_ + 1)) h _ (weak_canon [0, 1] rfl (by decide) (by decide) (fun b h => absurd h (Nat.not_lt_zero _)) (.cons rfl (avAs_free rfl) (.cons rfl (.c (.ref rfl (by decide))) (.cons rfl (.c (.ref rfl (by decide))) (.cons rfl (avAs_free rfl) .nil)))) (.box (by decide) rfl (blkAs_cells (.cons (.same rfl) (.cons (.same rfl) .nil))) (.box (by decide) rfl (blkAs_cells (.cons (.same rfl) (.cons (.same rfl) (.cons (.same rfl) (.cons (.same rfl) (.cons (.same rfl) (.cons (.same rfl) (.cons (.same rfl) (.cons (.same rfl) (.cons (.same rfl) (.cons (.same rfl) (.cons (.same rfl) (.cons (.same rfl) .nil))))))))))))) .nil)))
  · replace h := ifF hc1 h
    refine Sv.exit ?_
    exact hK0 i_ h _ (weak_canon [0, 1] rfl (by decide) (by decide) (fun b h => absurd h (Nat.not_lt_zero _)) (.cons rfl (avAs_free rfl) (.cons rfl (.c (.ref rfl (by decide))) (.cons rfl (.c (.ref rfl (by decide))) (.cons rfl (avAs_free rfl) .nil)))) (.box (by decide) rfl (blkAs_cells (.cons (.same rfl) (.cons (.same rfl) .nil))) (.box (by decide) rfl (blkAs_cells (.cons (.same rfl) (.cons (.same rfl) (.cons (.same rfl) (.cons (.same rfl) (.cons (.same rfl) (.cons (.same rfl) (.cons (.same rfl) (.cons (.same rfl) (.cons (.same rfl) (.cons (.same rfl) (.cons (.same rfl) (.cons (.same rfl) .nil))))))))))))) .nil)))
noncomputable def anim_frames_l0 (a_ : TSAnim) (r_ : Int) (K0_ : Int → Option TVal) : Nat → Int → Option TVal
  | 0, _ => none
  | k + 1, i_ =>
    if decide ((wi (i_ + 1)) < (a_.Frames.length : Int)) then
      (at? a_.Frames (wi (i_ + 1))).bind fun x_ =>
      anim_frames_j3 i_ r_ a_ (anim_frames_l0 a_ r_ K0_ k) K0_ (decide (x_.At ≤ r_))
    else
      anim_frames_j3 i_ r_ a_ (anim_frames_l0 a_ r_ K0_ k) K0_ false
theorem anim_frames_l0_ok {Γ : Glob} {Q : AExit → St → Prop} {a_ : TSAnim} {r_ : Int} {K0_ : Int → Option TVal} {k : Nat} {i_ : Int} {o : TVal} (h : anim_frames_l0 a_ r_ K0_ k i_ = some o)
    (hK0 : ∀ (i_1 : Int), K0_ i_1 = some o → ∀ s, Weak 0 s ⟨(upd (upd (upd (upd (fun _ => none) 1 (some (I r_))) 2 (some (.c (.ref 0 12 0 0)))) 4 (some (.c (.ref 1 2 0 0)))) 5 (some (I i_1))), (upd (upd (fun _ => none) 0 (some (.cells 12 [[cI a_.From, cI a_.Length, cI a_.Times, cB a_.Turn, cB a_.Stays, cI a_.Ease.Kind, cI a_.Ease.Curve.a0, cI a_.Ease.Curve.a1, cI a_.Ease.Curve.a2, cI a_.Ease.Curve.a3, cI a_.Ease.N, .ro false 3 (a_.Frames.map e_TSFrame)]]))) 1 (some (.cells 2 [[cI 0, cI 0]]))), 2⟩ → Q (.exit 0) s)
    (hr : ∀ s, Ends a76.results 0 (anim_frames_post o) .ret s → Q .ret s) :
    Sv Try.prog Γ 0 (.loop a76_c2) Q ⟨(upd (upd (upd (upd (fun _ => none) 1 (some (I r_))) 2 (some (.c (.ref 0 12 0 0)))) 4 (some (.c (.ref 1 2 0 0)))) 5 (some (I i_))), (upd (upd (fun _ => none) 0 (some (.cells 12 [[cI a_.From, cI a_.Length, cI a_.Times, cB a_.Turn, cB a_.Stays, cI a_.Ease.Kind, cI a_.Ease.Curve.a0, cI a_.Ease.Curve.a1, cI a_.Ease.Curve.a2, cI a_.Ease.Curve.a3, cI a_.Ease.N, .ro false 3 (a_.Frames.map e_TSFrame)]]))) 1 (some (.cells 2 [[cI 0, cI 0]]))), 2⟩ := by
  refine Sv.loop (I := fun k s => ∃ (i_ : Int), anim_frames_l0 a_ r_ K0_ k i_ = some o ∧ s = ⟨(upd (upd (upd (upd (fun _ => none) 1 (some (I r_))) 2 (some (.c (.ref 0 12 0 0)))) 4 (some (.c (.ref 1 2 0 0)))) 5 (some (I i_))), (upd (upd (fun _ => none) 0 (some (.cells 12 [[cI a_.From, cI a_.Length, cI a_.Times, cB a_.Turn, cB a_.Stays, cI a_.Ease.Kind, cI a_.Ease.Curve.a0, cI a_.Ease.Curve.a1, cI a_.Ease.Curve.a2, cI a_.Ease.Curve.a3, cI a_.Ease.N, .ro false 3 (a_.Frames.map e_TSFrame)]]))) 1 (some (.cells 2 [[cI 0, cI 0]]))), 2⟩) (fun k s hI => ?_) ⟨i_, h, rfl⟩
  clear h
  clear i_
  obtain ⟨i_, h, rfl⟩ := hI
  cases k with
  | zero => cases h
  | succ k =>
  rw [anim_frames_l0] at h
  have hself : ∀ (i_ : Int), (anim_frames_l0 a_ r_ K0_ k) i_ = some o → ∀ s, Weak 0 s ⟨(upd (upd (upd (upd (fun _ => none) 1 (some (I r_))) 2 (some (.c (.ref 0 12 0 0)))) 4 (some (.c (.ref 1 2 0 0)))) 5 (some (I i_))), (upd (upd (fun _ => none) 0 (some (.cells 12 [[cI a_.From, cI a_.Length, cI a_.Times, cB a_.Turn, cB a_.Stays, cI a_.Ease.Kind, cI a_.Ease.Curve.a0, cI a_.Ease.Curve.a1, cI a_.Ease.Curve.a2, cI a_.Ease.Curve.a3, cI a_.Ease.N, .ro false 3 (a_.Frames.map e_TSFrame)]]))) 1 (some (.cells 2 [[cI 0, cI 0]]))), 2⟩ → (AThen (fun s' => ∃ s'' k', Weak 0 s' s'' ∧ k' < k + 1 ∧ (fun k s => ∃ (i_ : Int), anim_frames_l0 a_ r_ K0_ k i_ = some o ∧ s = ⟨(upd (upd (upd (upd (fun _ => none) 1 (some (I r_))) 2 (some (.c (.ref 0 12 0 0)))) 4 (some (.c (.ref 1 2 0 0)))) 5 (some (I i_))), (upd (upd (fun _ => none) 0 (some (.cells 12 [[cI a_.From, cI a_.Length, cI a_.Times, cB a_.Turn, cB a_.Stays, cI a_.Ease.Kind, cI a_.Ease.Curve.a0, cI a_.Ease.Curve.a1, cI a_.Ease.Curve.a2, cI a_.Ease.Curve.a3, cI a_.Ease.N, .ro false 3 (a_.Frames.map e_TSFrame)]]))) 1 (some (.cells 2 [[cI 0, cI 0]]))), 2⟩) k' s'') Q) .normal s := fun i_ h s hw => ⟨_, k, hw, Nat.lt_succ_self k, i_, h, rfl⟩
  refine Sv.seq ?_
  refine Sv.seq ?_
  refine Sv.region ?_
  refine un (a1 rfl ?_)
  refine un (a1 (v := (I (wi (i_ + 1)))) rfl ?_)
  refine un (a1 (v := (.c (.ref 0 12 0 11))) rfl ?_)
  refine un (a1 (v := (.c (.ro false 3 (a_.Frames.map e_TSFrame)))) rfl ?_)
  refine un (a1 (v := (I (a_.Frames.length : Int))) (s_len (e := e_TSFrame) (xs := a_.Frames) rfl) ?_)
  refine un (a1 (v := (B (decide ((wi (i_ + 1)) < (a_.Frames.length : Int))))) rfl ?_)
  refine un (a1 rfl ?_)
  refine split2 (fun hc2 => ?_) (fun hc2 => ?_)
  · replace h := ifT hc2 h
    refine gt rfl (a1 (v := (.c (.ref 0 12 0 11))) rfl ?_)
    refine gt rfl (a1 (v := (.c (.ro false 3 (a_.Frames.map e_TSFrame)))) rfl ?_)
    refine gt rfl (a1 rfl ?_)
    refine gt rfl (a1 (v := (I (wi (i_ + 1)))) rfl ?_)
    obtain ⟨x_, hx1, h⟩ := bnd h
    refine gt rfl (a1 (v := (.c (.rop [cI x_.At, cI x_.Val.Kind, cI x_.Val.N]))) (s_iaddr (e := e_TSFrame) (xs := a_.Frames) rfl rfl hx1) ?_)
    refine gt rfl (a1 (v := (.c (.rop [cI x_.At, cI x_.Val.Kind, cI x_.Val.N]))) rfl ?_)
    refine gt rfl (a1 (v := (I x_.At)) rfl ?_)
    refine gt rfl (a1 rfl ?_)
    refine gt rfl (a1 (v := (B (decide (x_.At ≤ r_)))) rfl ?_)
    refine un (a1 (v := (B (decide (x_.At ≤ r_)))) rfl ?_)
    refine dnil ?_
    exact Sv.weak (weak_canon [0, 1] rfl (by decide) (by decide) (fun b h => absurd h (Nat.not_lt_zero _)) (.cons rfl (avAs_free rfl) (.cons rfl (avAs_free rfl) (.cons rfl (.c (.ref rfl (by decide))) (.cons rfl (.c (.ref rfl (by decide))) (.cons rfl (avAs_free rfl) .nil))))) (.box (by decide) rfl (blkAs_cells (.cons (.same rfl) (.cons (.same rfl) .nil))) (.box (by decide) rfl (blkAs_cells (.cons (.same rfl) (.cons (.same rfl) (.cons (.same rfl) (.cons (.same rfl) (.cons (.same rfl) (.cons (.same rfl) (.cons (.same rfl) (.cons (.same rfl) (.cons (.same rfl) (.cons (.same rfl) (.cons (.same rfl) (.cons (.same rfl) .nil))))))))))))) .nil))) (anim_frames_j3_ok h hself hK0 hr)
  · replace h := ifF hc2 h
    refine gs rfl rfl ?_
    refine gs rfl rfl ?_
    refine gs rfl rfl ?_
    refine gs rfl rfl ?_
    refine gs rfl rfl ?_
    refine gs rfl rfl ?_
    refine gs rfl rfl ?_
    refine gs rfl rfl ?_
    refine gs rfl rfl ?_
    refine un (a1 (v := (B false)) rfl ?_)
    refine dnil ?_
    exact Sv.weak (weak_canon [0, 1] rfl (by decide) (by decide) (fun b h => absurd h (Nat.not_lt_zero _)) (.cons rfl (avAs_free rfl) (.cons rfl (avAs_free rfl) (.cons rfl (.c (.ref rfl (by decide))) (.cons rfl (.c (.ref rfl (by decide))) (.cons rfl (avAs_free rfl) .nil))))) (.box (by decide) rfl (blkAs_cells (.cons (.same rfl) (.cons (.same rfl) .nil))) (.box (by decide) rfl (blkAs_cells (.cons (.same rfl) (.cons (.same rfl) (.cons (.same rfl) (.cons (.same rfl) (.cons (.same rfl) (.cons (.same rfl) (.cons (.same rfl) (.cons (.same rfl) (.cons (.same rfl) (.cons (.same rfl) (.cons (.same rfl) (.cons (.same rfl) .nil))))))))))))) .nil))) (anim_frames_j3_ok h hself hK0 hr)
/-- clerestory/anim.frames -/
noncomputable def anim_frames (a_ : TSAnim) (r_ : Int) : Option TVal :=
  lim fun kk => anim_frames_l0 a_ r_ (fun (i_1 : Int) => 
      (at? a_.Frames i_1).bind fun x_1 =>
      if decide ((wi (i_1 + 1)) = (a_.Frames.length : Int)) then
        some x_1.Val
      else
        (at? a_.Frames (wi (i_1 + 1))).bind fun x_2 =>
        (quo? .i64 (wi ((wi (r_ - x_1.At)) * 1000)) (wi (x_2.At - x_1.At))).bind fun r_1 =>
        (anim_eased a_.Ease r_1).bind fun r_2 =>
        (anim_Mix x_1.Val x_2.Val r_2).bind fun r_3 =>
        some r_3) kk 0
theorem anim_frames_ok {Γ : Glob} {a_ : TSAnim} {r_ : Int} {r : TVal} (h : anim_frames a_ r_ = some r) : CPure Try.prog Γ 76 [(.agg [cI a_.From, cI a_.Length, cI a_.Times, cB a_.Turn, cB a_.Stays, cI a_.Ease.Kind, cI a_.Ease.Curve.a0, cI a_.Ease.Curve.a1, cI a_.Ease.Curve.a2, cI a_.Ease.Curve.a3, cI a_.Ease.N, .ro false 3 (a_.Frames.map e_TSFrame)]), (I r_)] (.agg [cI r.Kind, cI r.N]) := by
  refine acalls_of_sv hmix c76 (R := anim_frames_post r) ?_
  unfold anim_frames at h
  refine Sv.seq ?_
  refine Sv.region ?_
  refine un (a2v (v := (.c (.ref 0 12 0 0))) (h' := upd _ 0 (some (.cells 12 [[cI a_.From, cI a_.Length, cI a_.Times, cB a_.Turn, cB a_.Stays, cI a_.Ease.Kind, cI a_.Ease.Curve.a0, cI a_.Ease.Curve.a1, cI a_.Ease.Curve.a2, cI a_.Ease.Curve.a3, cI a_.Ease.N, .ro false 3 (a_.Frames.map e_TSFrame)]]))) (n' := 1) rfl rfl (fun h => by cases h) ?_)
  refine un (a2v (v := (.c (.ref 1 2 0 0))) (h' := upd _ 1 (some (.cells 2 [[cI 0, cI 0]]))) (n' := 2) rfl rfl (fun h => by cases h) ?_)
  refine dnil ?_
  refine Sv.seq ?_
  refine Sv.region ?_
  refine un (a1 rfl ?_)
  refine dnil ?_
  refine Sv.seq ?_
  refine Sv.block ?_
  obtain ⟨kk, h⟩ := lim_some h
  refine Sv.weak (weak_canon [0, 1] rfl (by decide) (by decide) (fun b h => absurd h (Nat.not_lt_zero _)) (.cons rfl (avAs_free rfl) (.cons rfl (.c (.ref rfl (by decide))) (.cons rfl (.c (.ref rfl (by decide))) (.cons rfl (avAs_free rfl) .nil)))) (.box (by decide) rfl (blkAs_cells (.cons (.same rfl) (.cons (.same rfl) .nil))) (.box (by decide) rfl (blkAs_cells (.cons (.same rfl) (.cons (.same rfl) (.cons (.same rfl) (.cons (.same rfl) (.cons (.same rfl) (.cons (.same rfl) (.cons (.same rfl) (.cons (.same rfl) (.cons (.same rfl) (.cons (.same rfl) (.cons (.same rfl) (.cons (.same rfl) .nil))))))))))))) .nil))) (anim_frames_l0_ok h ?_ (fun s hs => hs))
  · intro i_1 h _ hw1
    refine Sv.weak hw1 ?_
    refine Sv.seq ?_
    refine Sv.region ?_
    refine un (a1 (v := (.c (.ref 0 12 0 11))) rfl ?_)
    refine un (a1 (v := (.c (.ro false 3 (a_.Frames.map e_TSFrame)))) rfl ?_)
    refine un (a1 rfl ?_)
    obtain ⟨x_1, hx2, h⟩ := bnd h
    refine un (a1 (v := (.c (.rop [cI x_1.At, cI x_1.Val.Kind, cI x_1.Val.N]))) (s_iaddr (e := e_TSFrame) (xs := a_.Frames) rfl rfl hx2) ?_)
    refine un (a1 (v := (.agg [cI x_1.At, cI x_1.Val.Kind, cI x_1.Val.N])) rfl ?_)
    refine un (a2v (v := (.c (.ref 2 3 0 0))) (h' := upd _ 2 (some (.cells 3 [[cI 0, cI 0, cI 0]]))) (n' := 3) rfl rfl (fun h => by cases h) ?_)
    refine un (a2n (h' := upd _ 2 (some (.cells 3 [[cI x_1.At, cI x_1.Val.Kind, cI x_1.Val.N]]))) (n' := 3) rfl rfl (fun h => by cases h) ?_)
    refine dnil ?_
    refine Sv.seq ?_
    refine Sv.seq ?_
    refine Sv.region ?_
    refine un (a1 rfl ?_)
    refine un (a1 (v := (I (wi (i_1 + 1)))) rfl ?_)
    refine un (a1 (v := (.c (.ref 0 12 0 11))) rfl ?_)
    refine un (a1 (v := (.c (.ro false 3 (a_.Frames.map e_TSFrame)))) rfl ?_)
    refine un (a1 (v := (I (a_.Frames.length : Int))) (s_len (e := e_TSFrame) (xs := a_.Frames) rfl) ?_)
    refine un (a1 (v := (B (decide ((wi (i_1 + 1)) = (a_.Frames.length : Int))))) rfl ?_)
    refine dnil ?_
    refine Sv.cond (b := decide ((wi (i_1 + 1)) = (a_.Frames.length : Int))) rfl (fun hc3 => ?_) (fun hc3 => ?_)
    · replace h := ifT hc3 h
      refine Sv.seq ?_
      refine Sv.region ?_
      refine un (a1 (v := (.c (.ref 2 3 0 1))) rfl ?_)
      refine un (a1 (v := (.agg [cI x_1.Val.Kind, cI x_1.Val.N])) rfl ?_)
      refine un (a2n (h' := upd _ 1 (some (.cells 2 [[cI x_1.Val.Kind, cI x_1.Val.N]]))) (n' := 3) rfl rfl (fun h => by cases h) ?_)
      refine dnil ?_
      refine Sv.ret ?_
      replace h := Option.some.inj h
      subst h
      exact ⟨_, .refl _, _, rfl, ⟨upd (fun _ => none) 0 (some (.agg [cI x_1.Val.Kind, cI x_1.Val.N])), (fun _ => none), 0⟩, (.agg [cI x_1.Val.Kind, cI x_1.Val.N]), weak_canon [] rfl List.nodup_nil (Nat.le_refl _) (fun b h => absurd h (Nat.not_lt_zero _)) (.cons rfl (avAs_free rfl) .nil) .nil, rfl, rfl, rfl, rfl⟩
    · replace h := ifF hc3 h
      refine Sv.skip ?_
      refine Sv.seq ?_
      refine Sv.region ?_
      refine un (a1 (v := (.c (.ref 0 12 0 11))) rfl ?_)
      refine un (a1 (v := (.c (.ro false 3 (a_.Frames.map e_TSFrame)))) rfl ?_)
      refine un (a1 rfl ?_)
      refine un (a1 (v := (I (wi (i_1 + 1)))) rfl ?_)
      obtain ⟨x_2, hx3, h⟩ := bnd h
      refine un (a1 (v := (.c (.rop [cI x_2.At, cI x_2.Val.Kind, cI x_2.Val.N]))) (s_iaddr (e := e_TSFrame) (xs := a_.Frames) rfl rfl hx3) ?_)
      refine un (a1 (v := (.agg [cI x_2.At, cI x_2.Val.Kind, cI x_2.Val.N])) rfl ?_)
      refine un (a2v (v := (.c (.ref 3 3 0 0))) (h' := upd _ 3 (some (.cells 3 [[cI 0, cI 0, cI 0]]))) (n' := 4) rfl rfl (fun h => by cases h) ?_)
      refine un (a2n (h' := upd _ 3 (some (.cells 3 [[cI x_2.At, cI x_2.Val.Kind, cI x_2.Val.N]]))) (n' := 4) rfl rfl (fun h => by cases h) ?_)
      refine dnil ?_
      refine Sv.seq ?_
      refine Sv.drawn ?_
      refine un (a1 (v := (.c (.ref 2 3 0 1))) rfl ?_)
      refine un (a1 (v := (.agg [cI x_1.Val.Kind, cI x_1.Val.N])) rfl ?_)
      refine un (a1 (v := (.c (.ref 3 3 0 1))) rfl ?_)
      refine un (a1 (v := (.agg [cI x_2.Val.Kind, cI x_2.Val.N])) rfl ?_)
      refine un (a1 (v := (.c (.ref 0 12 0 5))) rfl ?_)
      refine un (a1 (v := (.agg [cI a_.Ease.Kind, cI a_.Ease.Curve.a0, cI a_.Ease.Curve.a1, cI a_.Ease.Curve.a2, cI a_.Ease.Curve.a3, cI a_.Ease.N])) rfl ?_)
      refine un (a1 rfl ?_)
      refine un (a1 (v := (.c (.ref 2 3 0 0))) rfl ?_)
      refine un (a1 (v := (I x_1.At)) rfl ?_)
      refine un (a1 (v := (I (wi (r_ - x_1.At)))) rfl ?_)
      refine un (a1 (v := (I (wi ((wi (r_ - x_1.At)) * 1000)))) rfl ?_)
      refine un (a1 (v := (.c (.ref 3 3 0 0))) rfl ?_)
      refine un (a1 (v := (I x_2.At)) rfl ?_)
      refine un (a1 (v := (.c (.ref 2 3 0 0))) rfl ?_)
      refine un (a1 (v := (I x_1.At)) rfl ?_)
      refine un (a1 (v := (I (wi (x_2.At - x_1.At)))) rfl ?_)
      obtain ⟨r_1, hx4, h⟩ := bnd h
      refine un (a1 (v := (I r_1)) (s_quo rfl rfl hx4) ?_)
      obtain ⟨r_2, hr1, h⟩ := bnd h
      refine un (ac_pure (anim_eased_ok hr1) rfl rfl rfl ?_)
      obtain ⟨r_3, hr2, h⟩ := bnd h
      refine un (ac_pure (anim_Mix_ok hr2) rfl rfl rfl ?_)
      refine un (a2n (h' := upd _ 1 (some (.cells 2 [[cI r_3.Kind, cI r_3.N]]))) (n' := 4) rfl rfl (fun h => by cases h) ?_)
      refine dnil ?_
      refine Sv.ret ?_
      replace h := Option.some.inj h
      subst h
      exact ⟨_, .refl _, _, rfl, ⟨upd (fun _ => none) 0 (some (.agg [cI r_3.Kind, cI r_3.N])), (fun _ => none), 0⟩, (.agg [cI r_3.Kind, cI r_3.N]), weak_canon [] rfl List.nodup_nil (Nat.le_refl _) (fun b h => absurd h (Nat.not_lt_zero _)) (.cons rfl (avAs_free rfl) .nil) .nil, rfl, rfl, rfl, rfl⟩
def a53_c0 : ACode := (.seq (.drawn (.alt [(⟨(some 38), (.faddr 1 (.tmp 6)), none⟩, (0, 0)), (⟨(some 39), (.load true 2 (.tmp 38)), none⟩, (0, 1)), (⟨(some 40), (.faddr 4 (.tmp 2)), none⟩, (0, 2))] (.fin [(⟨(some 41), (.load false 1 (.tmp 40)), none⟩, (1, 3)), (⟨none, (.store 2 (.tmp 4) (.tmp 39)), none⟩, (2, 4)), (⟨(some 5), (.mov (.tmp 41)), none⟩, (0, 5))]) (.fin [(⟨none, (.store 2 (.tmp 4) (.tmp 39)), none⟩, (2, 4)), (⟨(some 41), (.load false 1 (.tmp 40)), none⟩, (1, 3)), (⟨(some 5), (.mov (.tmp 41)), none⟩, (0, 5))])))
 .ret)
def a53_c2 : ACode := (.cond (.tmp 63) (.region [⟨(some 64), (.mov (.tmp 8)), none⟩, ⟨(some 65), (.bin .sub (.const (.c (.val (.int .i64 1000)))) (.tmp 64)), none⟩, ⟨(some 8), (.mov (.tmp 65)), none⟩]) .skip)
def a53_c3 : ACode := (.seq (.region [⟨(some 66), (.load true 12 (.tmp 2)), none⟩, ⟨(some 67), (.mov (.tmp 8)), none⟩, ⟨(some 68), (.call 76 [(.tmp 66), (.tmp 67)]), none⟩, ⟨none, (.store 2 (.tmp 4) (.tmp 68)), none⟩, ⟨(some 5), (.mov (.const (.c (.val (.bool true))))), none⟩])
 .ret)
def a53_c1 : ACode := (.seq (.region [⟨(some 42), (.mov (.tmp 1)), none⟩, ⟨(some 43), (.faddr 0 (.tmp 2)), none⟩, ⟨(some 44), (.load false 1 (.tmp 43)), none⟩, ⟨(some 45), (.bin .sub (.tmp 42) (.tmp 44)), none⟩, ⟨(some 7), (.mov (.tmp 45)), none⟩])
 (.seq (.drawn (.fin [(⟨(some 46), (.mov (.tmp 7)), none⟩, (0, 0)), (⟨(some 47), (.faddr 1 (.tmp 2)), none⟩, (0, 1)), (⟨(some 48), (.load false 1 (.tmp 47)), none⟩, (0, 2)), (⟨(some 49), (.bin .rem (.tmp 46) (.tmp 48)), none⟩, (0, 3)), (⟨(some 50), (.bin .mul (.tmp 49) (.const (.c (.val (.int .i64 1000))))), none⟩, (0, 4)), (⟨(some 51), (.faddr 1 (.tmp 2)), none⟩, (0, 5)), (⟨(some 52), (.load false 1 (.tmp 51)), none⟩, (0, 6)), (⟨(some 53), (.bin .quo (.tmp 50) (.tmp 52)), none⟩, (0, 7)), (⟨(some 8), (.mov (.tmp 53)), none⟩, (0, 8))]))
 (.seq (.seq (.region [⟨(some 54), (.faddr 3 (.tmp 2)), none⟩, ⟨(some 55), (.load false 1 (.tmp 54)), none⟩, ⟨(some 56), (.mov (.tmp 55)), none⟩, ⟨(some 57), (.mov (.tmp 7)), (some (56, true))⟩, ⟨(some 58), (.faddr 1 (.tmp 2)), (some (56, true))⟩, ⟨(some 59), (.load false 1 (.tmp 58)), (some (56, true))⟩, ⟨(some 60), (.bin .quo (.tmp 57) (.tmp 59)), (some (56, true))⟩, ⟨(some 61), (.bin .rem (.tmp 60) (.const (.c (.val (.int .i64 2))))), (some (56, true))⟩, ⟨(some 62), (.bin .eql (.tmp 61) (.const (.c (.val (.int .i64 1))))), (some (56, true))⟩, ⟨(some 63), (.pick (.tmp 56) (.tmp 62) (.const (.c (.val (.bool false))))), none⟩])
 a53_c2)
 a53_c3)))
def a53 : AFunc := ⟨2, [(.cell true 2 4), (.tmp 5)], (.seq (.region [⟨(some 2), (.box (.tmp 0)), none⟩, ⟨(some 4), (.box (.const (.agg [(.val (.int .i64 0)), (.val (.int .i64 0))]))), none⟩, ⟨(some 5), (.mov (.const (.c (.val (.bool false))))), none⟩])
 (.seq (.seq (.region [⟨(some 9), (.mov (.tmp 1)), none⟩, ⟨(some 10), (.faddr 0 (.tmp 2)), none⟩, ⟨(some 11), (.load false 1 (.tmp 10)), none⟩, ⟨(some 12), (.bin .lss (.tmp 9) (.tmp 11)), none⟩])
 (.cond (.tmp 12) (.seq (.region [⟨(some 13), (.build [(.val (.int .i64 0)), (.val (.int .i64 0))] []), none⟩, ⟨none, (.store 2 (.tmp 4) (.tmp 13)), none⟩, ⟨(some 5), (.mov (.const (.c (.val (.bool false))))), none⟩])
 .ret) .skip))
 (.seq (.seq (.region [⟨(some 14), (.mov (.tmp 1)), none⟩, ⟨(some 15), (.load true 12 (.tmp 2)), none⟩, ⟨(some 16), (.call 75 [(.tmp 15)]), none⟩, ⟨(some 17), (.bin .geq (.tmp 14) (.tmp 16)), none⟩])
 (.cond (.tmp 17) (.seq (.region [⟨(some 18), (.faddr 11 (.tmp 2)), none⟩, ⟨(some 19), (.load false 1 (.tmp 18)), none⟩, ⟨(some 20), (.faddr 11 (.tmp 2)), none⟩, ⟨(some 21), (.load false 1 (.tmp 20)), none⟩, ⟨(some 22), (.len (.tmp 21)), none⟩, ⟨(some 23), (.bin .sub (.tmp 22) (.const (.c (.val (.int .i64 1))))), none⟩, ⟨(some 24), (.iaddr 3 (.tmp 19) (.tmp 23)), none⟩, ⟨(some 25), (.load true 3 (.tmp 24)), none⟩, ⟨(some 6), (.box (.const (.agg [(.val (.int .i64 0)), (.val (.int .i64 0)), (.val (.int .i64 0))]))), none⟩, ⟨none, (.store 3 (.tmp 6) (.tmp 25)), none⟩])
 (.seq (.seq (.region [⟨(some 26), (.faddr 3 (.tmp 2)), none⟩, ⟨(some 27), (.load false 1 (.tmp 26)), none⟩, ⟨(some 28), (.mov (.tmp 27)), none⟩, ⟨(some 29), (.faddr 2 (.tmp 2)), (some (28, true))⟩, ⟨(some 30), (.load false 1 (.tmp 29)), (some (28, true))⟩, ⟨(some 31), (.bin .rem (.tmp 30) (.const (.c (.val (.int .i64 2))))), (some (28, true))⟩, ⟨(some 32), (.bin .eql (.tmp 31) (.const (.c (.val (.int .i64 0))))), (some (28, true))⟩, ⟨(some 33), (.pick (.tmp 28) (.tmp 32) (.const (.c (.val (.bool false))))), none⟩])
 (.cond (.tmp 33) (.region [⟨(some 34), (.faddr 11 (.tmp 2)), none⟩, ⟨(some 35), (.load false 1 (.tmp 34)), none⟩, ⟨(some 36), (.iaddr 3 (.tmp 35) (.const (.c (.val (.int .i64 0))))), none⟩, ⟨(some 37), (.load true 3 (.tmp 36)), none⟩, ⟨none, (.store 3 (.tmp 6) (.tmp 37)), none⟩]) .skip))
 a53_c0)) .skip))
 a53_c1)))⟩
set_option maxRecDepth 100000 in
theorem c53 : compFunc Try.prog 53 = some a53 := by kernel_rfl
def anim_tells_post (r : (TVal × Bool)) : AV → Heap → Nat → Prop := fun v h' n' => v = (.tup [(.agg [cI r.1.Kind, cI r.1.N]), (B r.2)]) ∧ (h' = (fun _ => none)) ∧ n' = 0
abbrev anim_tells_q0 (Γ : Glob) (o : (TVal × Bool)) : AExit → St → Prop := AThen (Sv Try.prog Γ 0 a53_c1 (Ends a53.results 0 (anim_tells_post o))) (Ends a53.results 0 (anim_tells_post o))
noncomputable def anim_tells_j1 (a_ : TSAnim) (f0 : Int) (f1 : Int) (f2 : Int) : Option (TVal × Bool) :=
  some ((⟨f1, f2⟩ : TVal), a_.Stays)
theorem anim_tells_j1_ok {Γ : Glob} {a_ : TSAnim} {f0 : Int} {f1 : Int} {f2 : Int} {o : (TVal × Bool)} (h : anim_tells_j1 a_ f0 f1 f2 = some o) :
    Sv Try.prog Γ 0 a53_c0 (anim_tells_q0 Γ o) ⟨(upd (upd (upd (fun _ => none) 2 (some (.c (.ref 0 12 0 0)))) 4 (some (.c (.ref 1 2 0 0)))) 6 (some (.c (.ref 2 3 0 0)))), (upd (upd (upd (fun _ => none) 0 (some (.cells 12 [[cI a_.From, cI a_.Length, cI a_.Times, cB a_.Turn, cB a_.Stays, cI a_.Ease.Kind, cI a_.Ease.Curve.a0, cI a_.Ease.Curve.a1, cI a_.Ease.Curve.a2, cI a_.Ease.Curve.a3, cI a_.Ease.N, .ro false 3 (a_.Frames.map e_TSFrame)]]))) 1 (some (.cells 2 [[cI 0, cI 0]]))) 2 (some (.cells 3 [[cI f0, cI f1, cI f2]]))), 3⟩ := by
  unfold anim_tells_j1 at h
  refine Sv.seq ?_
  refine Sv.drawn2 ?_
  refine un (a1 (v := (.c (.ref 2 3 0 1))) rfl ?_)
  refine un (a1 (v := (.agg [cI f1, cI f2])) rfl ?_)
  refine un (a1 (v := (.c (.ref 0 12 0 4))) rfl ?_)
  refine dnil ?_
  refine ⟨?_, ?_⟩
  · refine un (a1 (v := (B a_.Stays)) rfl ?_)
    refine un (a2n (h' := upd _ 1 (some (.cells 2 [[cI f1, cI f2]]))) (n' := 3) rfl rfl (fun h => by cases h) ?_)
    refine un (a1 rfl ?_)
    refine dnil ?_
    refine Sv.ret ?_
    replace h := Option.some.inj h
    subst h
    exact ⟨_, .refl _, _, rfl, ⟨upd (fun _ => none) 0 (some (.tup [(.agg [cI f1, cI f2]), (B a_.Stays)])), (fun _ => none), 0⟩, (.tup [(.agg [cI f1, cI f2]), (B a_.Stays)]), weak_canon [] rfl List.nodup_nil (Nat.le_refl _) (fun b h => absurd h (Nat.not_lt_zero _)) (.cons rfl (avAs_tup (.cons (avAs_free rfl) (.cons (avAs_free rfl) .nil))) .nil) .nil, rfl, rfl, rfl, rfl⟩
  · refine un (a2n (h' := upd _ 1 (some (.cells 2 [[cI f1, cI f2]]))) (n' := 3) rfl rfl (fun h => by cases h) ?_)
    refine un (a1 (v := (B a_.Stays)) rfl ?_)
    refine un (a1 rfl ?_)
    refine dnil ?_
    refine Sv.ret ?_
    replace h := Option.some.inj h
    subst h
    exact ⟨_, .refl _, _, rfl, ⟨upd (fun _ => none) 0 (some (.tup [(.agg [cI f1, cI f2]), (B a_.Stays)])), (fun _ => none), 0⟩, (.tup [(.agg [cI f1, cI f2]), (B a_.Stays)]), weak_canon [] rfl List.nodup_nil (Nat.le_refl _) (fun b h => absurd h (Nat.not_lt_zero _)) (.cons rfl (avAs_tup (.cons (avAs_free rfl) (.cons (avAs_free rfl) .nil))) .nil) .nil, rfl, rfl, rfl, rfl⟩
noncomputable def anim_tells_j4 (a_ : TSAnim) (r_2 : Int) : Option (TVal × Bool) :=
  (anim_frames a_ r_2).bind fun r_3 =>
  some (r_3, true)
theorem anim_tells_j4_ok {Γ : Glob} {a_ : TSAnim} {r_2 : Int} {o : (TVal × Bool)} (h : anim_tells_j4 a_ r_2 = some o) :
    Sv Try.prog Γ 0 a53_c3 (Ends a53.results 0 (anim_tells_post o)) ⟨(upd (upd (upd (fun _ => none) 2 (some (.c (.ref 0 12 0 0)))) 4 (some (.c (.ref 1 2 0 0)))) 8 (some (I r_2))), (upd (upd (fun _ => none) 0 (some (.cells 12 [[cI a_.From, cI a_.Length, cI a_.Times, cB a_.Turn, cB a_.Stays, cI a_.Ease.Kind, cI a_.Ease.Curve.a0, cI a_.Ease.Curve.a1, cI a_.Ease.Curve.a2, cI a_.Ease.Curve.a3, cI a_.Ease.N, .ro false 3 (a_.Frames.map e_TSFrame)]]))) 1 (some (.cells 2 [[cI 0, cI 0]]))), 2⟩ := by
  unfold anim_tells_j4 at h
  refine Sv.seq ?_
  refine Sv.region ?_
  refine un (a1 (v := (.agg [cI a_.From, cI a_.Length, cI a_.Times, cB a_.Turn, cB a_.Stays, cI a_.Ease.Kind, cI a_.Ease.Curve.a0, cI a_.Ease.Curve.a1, cI a_.Ease.Curve.a2, cI a_.Ease.Curve.a3, cI a_.Ease.N, .ro false 3 (a_.Frames.map e_TSFrame)])) rfl ?_)
  refine un (a1 rfl ?_)
  obtain ⟨r_3, hr1, h⟩ := bnd h
  refine un (ac_pure (anim_frames_ok hr1) rfl rfl rfl ?_)
  refine un (a2n (h' := upd _ 1 (some (.cells 2 [[cI r_3.Kind, cI r_3.N]]))) (n' := 2) rfl rfl (fun h => by cases h) ?_)
  refine un (a1 rfl ?_)
  refine dnil ?_
  refine Sv.ret ?_
  replace h := Option.some.inj h
  subst h
  exact ⟨_, .refl _, _, rfl, ⟨upd (fun _ => none) 0 (some (.tup [(.agg [cI r_3.Kind, cI r_3.N]), (B true)])), (fun _ => none), 0⟩, (.tup [(.agg [cI r_3.Kind, cI r_3.N]), (B true)]), weak_canon [] rfl List.nodup_nil (Nat.le_refl _) (fun b h => absurd h (Nat.not_lt_zero _)) (.cons rfl (avAs_tup (.cons (avAs_free rfl) (.cons (avAs_free rfl) .nil))) .nil) .nil, rfl, rfl, rfl, rfl⟩
abbrev anim_tells_q1 (Γ : Glob) (o : (TVal × Bool)) : AExit → St → Prop := AThen (Sv Try.prog Γ 0 a53_c3 (Ends a53.results 0 (anim_tells_post o))) (Ends a53.results 0 (anim_tells_post o))
noncomputable def anim_tells_j5 (a_ : TSAnim) (r_1 : Int) (v63 : Bool) : Option (TVal × Bool) :=
  if v63 then
    anim_tells_j4 a_ (wi (1000 - r_1))
  else
    anim_tells_j4 a_ r_1
theorem anim_tells_j5_ok {Γ : Glob} {a_ : TSAnim} {r_1 : Int} {v63 : Bool} {o : (TVal × Bool)} (h : anim_tells_j5 a_ r_1 v63 = some o) :
    Sv Try.prog Γ 0 a53_c2 (anim_tells_q1 Γ o) ⟨(upd (upd (upd (upd (fun _ => none) 2 (some (.c (.ref 0 12 0 0)))) 4 (some (.c (.ref 1 2 0 0)))) 8 (some (I r_1))) 63 (some (B v63))), (upd (upd (fun _ => none) 0 (some (.cells 12 [[cI a_.From, cI a_.Length, cI a_.Times, cB a_.Turn, cB a_.Stays, cI a_.Ease.Kind, cI a_.Ease.Curve.a0, cI a_.Ease.Curve.a1, cI a_.Ease.Curve.a2, cI a_.Ease.Curve.a3, cI a_.Ease.N, .ro false 3 (a_.Frames.map e_TSFrame)]]))) 1 (some (.cells 2 [[cI 0, cI 0]]))), 2⟩ := by
  unfold anim_tells_j5 at h
  refine Sv.cond (b := v63) rfl (fun hc5 => ?_) (fun hc5 => ?_)
  · replace h := ifT hc5 h
    refine Sv.region ?_
    refine un (a1 rfl ?_)
    refine un (a1 (v := (I (wi (1000 - r_1)))) rfl ?_)
    refine un (a1 rfl ?_)
    refine dnil ?_
    exact Sv.weak (weak_canon [0, 1] rfl (by decide) (by decide) (fun b h => absurd h (Nat.not_lt_zero _)) (.cons rfl (avAs_free rfl) (.cons rfl (.c (.ref rfl (by decide))) (.cons rfl (.c (.ref rfl (by decide))) .nil))) (.box (by decide) rfl (blkAs_cells (.cons (.same rfl) (.cons (.same rfl) .nil))) (.box (by decide) rfl (blkAs_cells (.cons (.same rfl) (.cons (.same rfl) (.cons (.same rfl) (.cons (.same rfl) (.cons (.same rfl) (.cons (.same rfl) (.cons (.same rfl) (.cons (.same rfl) (.cons (.same rfl) (.cons (.same rfl) (.cons (.same rfl) (.cons (.same rfl) .nil))))))))))))) .nil))) (anim_tells_j4_ok h)
  · replace h := ifF hc5 h
    refine Sv.skip ?_
    exact Sv.weak (weak_canon [0, 1] rfl (by decide) (by decide) (fun b h => absurd h (Nat.not_lt_zero _)) (.cons rfl (avAs_free rfl) (.cons rfl (.c (.ref rfl (by decide))) (.cons rfl (.c (.ref rfl (by decide))) .nil))) (.box (by decide) rfl (blkAs_cells (.cons (.same rfl) (.cons (.same rfl) .nil))) (.box (by decide) rfl (blkAs_cells (.cons (.same rfl) (.cons (.same rfl) (.cons (.same rfl) (.cons (.same rfl) (.cons (.same rfl) (.cons (.same rfl) (.cons (.same rfl) (.cons (.same rfl) (.cons (.same rfl) (.cons (.same rfl) (.cons (.same rfl) (.cons (.same rfl) .nil))))))))))))) .nil))) (anim_tells_j4_ok h)
/-- clerestory/anim.tells -/
noncomputable def anim_tells (a_ : TSAnim) (now : Int) : Option (TVal × Bool) :=
  if decide (now < a_.From) then
    some ((⟨0, 0⟩ : TVal), false)
  else
    if decide ((anim_end a_) ≤ now) then
      (at? a_.Frames (wi ((a_.Frames.length : Int) - 1))).bind fun x_ =>
      if (a_.Turn && (decide ((a_.Times.tmod 2) = 0))) then
        (at? a_.Frames 0).bind fun x_1 =>
        anim_tells_j1 a_ x_1.At x_1.Val.Kind x_1.Val.N
      else
        anim_tells_j1 a_ x_.At x_.Val.Kind x_.Val.N
    else
      (rem? .i64 (wi (now - a_.From)) a_.Length).bind fun r_ =>
      (quo? .i64 (wi (r_ * 1000)) a_.Length).bind fun r_1 =>
      if a_.Turn then
        (quo? .i64 (wi (now - a_.From)) a_.Length).bind fun r_4 =>
        anim_tells_j5 a_ r_1 (decide ((r_4.tmod 2) = 1))
      else
        anim_tells_j5 a_ r_1 false
theorem anim_tells_ok {Γ : Glob} {a_ : TSAnim} {now : Int} {r : (TVal × Bool)} (h : anim_tells a_ now = some r) : CPure Try.prog Γ 53 [(.agg [cI a_.From, cI a_.Length, cI a_.Times, cB a_.Turn, cB a_.Stays, cI a_.Ease.Kind, cI a_.Ease.Curve.a0, cI a_.Ease.Curve.a1, cI a_.Ease.Curve.a2, cI a_.Ease.Curve.a3, cI a_.Ease.N, .ro false 3 (a_.Frames.map e_TSFrame)]), (I now)] (.tup [(.agg [cI r.1.Kind, cI r.1.N]), (B r.2)]) := by
  refine acalls_of_sv hmix c53 (R := anim_tells_post r) ?_
  unfold anim_tells at h
  refine Sv.seq ?_
  refine Sv.region ?_
  refine un (a2v (v := (.c (.ref 0 12 0 0))) (h' := upd _ 0 (some (.cells 12 [[cI a_.From, cI a_.Length, cI a_.Times, cB a_.Turn, cB a_.Stays, cI a_.Ease.Kind, cI a_.Ease.Curve.a0, cI a_.Ease.Curve.a1, cI a_.Ease.Curve.a2, cI a_.Ease.Curve.a3, cI a_.Ease.N, .ro false 3 (a_.Frames.map e_TSFrame)]]))) (n' := 1) rfl rfl (fun h => by cases h) ?_)
  refine un (a2v (v := (.c (.ref 1 2 0 0))) (h' := upd _ 1 (some (.cells 2 [[cI 0, cI 0]]))) (n' := 2) rfl rfl (fun h => by cases h) ?_)
  refine un (a1 rfl ?_)
  refine dnil ?_
  refine Sv.seq ?_
  refine Sv.seq ?_
  refine Sv.region ?_
  refine un (a1 rfl ?_)
  refine un (a1 (v := (.c (.ref 0 12 0 0))) rfl ?_)
  refine un (a1 (v := (I a_.From)) rfl ?_)
  refine un (a1 (v := (B (decide (now < a_.From)))) rfl ?_)
  refine dnil ?_
  refine Sv.cond (b := decide (now < a_.From)) rfl (fun hc1 => ?_) (fun hc1 => ?_)
  · replace h := ifT hc1 h
    refine Sv.seq ?_
    refine Sv.region ?_
    refine un (a1 (v := (.agg [cI 0, cI 0])) rfl ?_)
    refine un (a2n (h' := upd _ 1 (some (.cells 2 [[cI 0, cI 0]]))) (n' := 2) rfl rfl (fun h => by cases h) ?_)
    refine un (a1 rfl ?_)
    refine dnil ?_
    refine Sv.ret ?_
    replace h := Option.some.inj h
    subst h
    exact ⟨_, .refl _, _, rfl, ⟨upd (fun _ => none) 0 (some (.tup [(.agg [cI 0, cI 0]), (B false)])), (fun _ => none), 0⟩, (.tup [(.agg [cI 0, cI 0]), (B false)]), weak_canon [] rfl List.nodup_nil (Nat.le_refl _) (fun b h => absurd h (Nat.not_lt_zero _)) (.cons rfl (avAs_tup (.cons (avAs_free rfl) (.cons (avAs_free rfl) .nil))) .nil) .nil, rfl, rfl, rfl, rfl⟩
  · replace h := ifF hc1 h
    refine Sv.skip ?_
    refine Sv.seq ?_
    refine Sv.seq ?_
    refine Sv.region ?_
    refine un (a1 rfl ?_)
    refine un (a1 (v := (.agg [cI a_.From, cI a_.Length, cI a_.Times, cB a_.Turn, cB a_.Stays, cI a_.Ease.Kind, cI a_.Ease.Curve.a0, cI a_.Ease.Curve.a1, cI a_.Ease.Curve.a2, cI a_.Ease.Curve.a3, cI a_.Ease.N, .ro false 3 (a_.Frames.map e_TSFrame)])) rfl ?_)
    refine un (ac_pure (anim_end_ok (Γ := Γ) a_) rfl rfl rfl ?_)
    refine un (a1 (v := (B (decide ((anim_end a_) ≤ now)))) rfl ?_)
    refine dnil ?_
    refine Sv.cond (b := decide ((anim_end a_) ≤ now)) rfl (fun hc2 => ?_) (fun hc2 => ?_)
    · replace h := ifT hc2 h
      refine Sv.seq ?_
      refine Sv.region ?_
      refine un (a1 (v := (.c (.ref 0 12 0 11))) rfl ?_)
      refine un (a1 (v := (.c (.ro false 3 (a_.Frames.map e_TSFrame)))) rfl ?_)
      refine un (a1 (v := (.c (.ref 0 12 0 11))) rfl ?_)
      refine un (a1 (v := (.c (.ro false 3 (a_.Frames.map e_TSFrame)))) rfl ?_)
      refine un (a1 (v := (I (a_.Frames.length : Int))) (s_len (e := e_TSFrame) (xs := a_.Frames) rfl) ?_)
      refine un (a1 (v := (I (wi ((a_.Frames.length : Int) - 1)))) rfl ?_)
      obtain ⟨x_, hx1, h⟩ := bnd h
      refine un (a1 (v := (.c (.rop [cI x_.At, cI x_.Val.Kind, cI x_.Val.N]))) (s_iaddr (e := e_TSFrame) (xs := a_.Frames) rfl rfl hx1) ?_)
      refine un (a1 (v := (.agg [cI x_.At, cI x_.Val.Kind, cI x_.Val.N])) rfl ?_)
      refine un (a2v (v := (.c (.ref 2 3 0 0))) (h' := upd _ 2 (some (.cells 3 [[cI 0, cI 0, cI 0]]))) (n' := 3) rfl rfl (fun h => by cases h) ?_)
      refine un (a2n (h' := upd _ 2 (some (.cells 3 [[cI x_.At, cI x_.Val.Kind, cI x_.Val.N]]))) (n' := 3) rfl rfl (fun h => by cases h) ?_)
      refine dnil ?_
      refine Sv.seq ?_
      refine Sv.seq ?_
      refine Sv.region ?_
      refine un (a1 (v := (.c (.ref 0 12 0 3))) rfl ?_)
      refine un (a1 (v := (B a_.Turn)) rfl ?_)
      refine un (a1 rfl ?_)
      refine gjoin 5 (d := 33) (v := (B (a_.Turn && (decide ((a_.Times.tmod 2) = 0))))) (fun X hX => ?_) ?_
      · refine split2 (fun hc3 => ?_) (fun hc3 => ?_)
        · refine gt rfl (a1 (v := (.c (.ref 0 12 0 2))) rfl ?_)
          refine gt rfl (a1 (v := (I a_.Times)) rfl ?_)
          refine gt rfl (a1 (v := (I (a_.Times.tmod 2))) rfl ?_)
          refine gt rfl (a1 (v := (B (decide ((a_.Times.tmod 2) = 0)))) rfl ?_)
          refine un (a1 (v := (B (decide ((a_.Times.tmod 2) = 0)))) rfl ?_)
          refine dnil ?_
          exact hX _ (.putEq (by rw [hc3]; rfl) (.skip _ _ (.skip _ _ (.skip _ _ (.skip _ _ (.putEq (by rw [hc3]) (.refl _)) rfl) rfl) rfl) rfl))
        · refine gs rfl rfl ?_
          refine gs rfl rfl ?_
          refine gs rfl rfl ?_
          refine gs rfl rfl ?_
          refine un (a1 (v := (B false)) rfl ?_)
          refine dnil ?_
          exact hX _ (.putEq (by rw [hc3]; rfl) (.skip _ _ (.skip _ _ (.skip _ _ (.skip _ _ (.putEq (by rw [hc3]) (.refl _)) rfl) rfl) rfl) rfl))
      refine dnil ?_
      refine Sv.cond (b := (a_.Turn && (decide ((a_.Times.tmod 2) = 0)))) rfl (fun hc4 => ?_) (fun hc4 => ?_)
      · replace h := ifT hc4 h
        refine Sv.region ?_
        refine un (a1 (v := (.c (.ref 0 12 0 11))) rfl ?_)
        refine un (a1 (v := (.c (.ro false 3 (a_.Frames.map e_TSFrame)))) rfl ?_)
        obtain ⟨x_1, hx2, h⟩ := bnd h
        refine un (a1 (v := (.c (.rop [cI x_1.At, cI x_1.Val.Kind, cI x_1.Val.N]))) (s_iaddr (e := e_TSFrame) (xs := a_.Frames) rfl rfl hx2) ?_)
        refine un (a1 (v := (.agg [cI x_1.At, cI x_1.Val.Kind, cI x_1.Val.N])) rfl ?_)
        refine un (a2n (h' := upd _ 2 (some (.cells 3 [[cI x_1.At, cI x_1.Val.Kind, cI x_1.Val.N]]))) (n' := 3) rfl rfl (fun h => by cases h) ?_)
        refine dnil ?_
        exact Sv.weak (weak_canon [0, 1, 2] rfl (by decide) (by decide) (fun b h => absurd h (Nat.not_lt_zero _)) (.cons rfl (.c (.ref rfl (by decide))) (.cons rfl (.c (.ref rfl (by decide))) (.cons rfl (.c (.ref rfl (by decide))) .nil))) (.box (by decide) rfl (blkAs_cells (.cons (.same rfl) (.cons (.same rfl) (.cons (.same rfl) .nil)))) (.box (by decide) rfl (blkAs_cells (.cons (.same rfl) (.cons (.same rfl) .nil))) (.box (by decide) rfl (blkAs_cells (.cons (.same rfl) (.cons (.same rfl) (.cons (.same rfl) (.cons (.same rfl) (.cons (.same rfl) (.cons (.same rfl) (.cons (.same rfl) (.cons (.same rfl) (.cons (.same rfl) (.cons (.same rfl) (.cons (.same rfl) (.cons (.same rfl) .nil))))))))))))) .nil)))) (anim_tells_j1_ok h)
      · replace h := ifF hc4 h
        refine Sv.skip ?_
        exact Sv.weak (weak_canon [0, 1, 2] rfl (by decide) (by decide) (fun b h => absurd h (Nat.not_lt_zero _)) (.cons rfl (.c (.ref rfl (by decide))) (.cons rfl (.c (.ref rfl (by decide))) (.cons rfl (.c (.ref rfl (by decide))) .nil))) (.box (by decide) rfl (blkAs_cells (.cons (.same rfl) (.cons (.same rfl) (.cons (.same rfl) .nil)))) (.box (by decide) rfl (blkAs_cells (.cons (.same rfl) (.cons (.same rfl) .nil))) (.box (by decide) rfl (blkAs_cells (.cons (.same rfl) (.cons (.same rfl) (.cons (.same rfl) (.cons (.same rfl) (.cons (.same rfl) (.cons (.same rfl) (.cons (.same rfl) (.cons (.same rfl) (.cons (.same rfl) (.cons (.same rfl) (.cons (.same rfl) (.cons (.same rfl) .nil))))))))))))) .nil)))) (anim_tells_j1_ok h)
    · replace h := ifF hc2 h
      refine Sv.skip ?_
      refine Sv.seq ?_
      refine Sv.region ?_
      refine un (a1 rfl ?_)
      refine un (a1 (v := (.c (.ref 0 12 0 0))) rfl ?_)
      refine un (a1 (v := (I a_.From)) rfl ?_)
      refine un (a1 (v := (I (wi (now - a_.From)))) rfl ?_)
      refine un (a1 rfl ?_)
      refine dnil ?_
      refine Sv.seq ?_
      refine Sv.drawn ?_
      refine un (a1 rfl ?_)
      refine un (a1 (v := (.c (.ref 0 12 0 1))) rfl ?_)
      refine un (a1 (v := (I a_.Length)) rfl ?_)
      obtain ⟨r_, hx3, h⟩ := bnd h
      refine un (a1 (v := (I r_)) (s_rem rfl rfl hx3) ?_)
      refine un (a1 (v := (I (wi (r_ * 1000)))) rfl ?_)
      refine un (a1 (v := (.c (.ref 0 12 0 1))) rfl ?_)
      refine un (a1 (v := (I a_.Length)) rfl ?_)
      obtain ⟨r_1, hx4, h⟩ := bnd h
      refine un (a1 (v := (I r_1)) (s_quo rfl rfl hx4) ?_)
      refine un (a1 rfl ?_)
      refine dnil ?_
      refine Sv.seq ?_
      refine Sv.seq ?_
      refine Sv.region ?_
      refine un (a1 (v := (.c (.ref 0 12 0 3))) rfl ?_)
      refine un (a1 (v := (B a_.Turn)) rfl ?_)
      refine un (a1 rfl ?_)
      refine split2 (fun hc6 => ?_) (fun hc6 => ?_)
      · replace h := ifT hc6 h
        refine gt rfl (a1 rfl ?_)
        refine gt rfl (a1 (v := (.c (.ref 0 12 0 1))) rfl ?_)
        refine gt rfl (a1 (v := (I a_.Length)) rfl ?_)
        obtain ⟨r_4, hx5, h⟩ := bnd h
        refine gt rfl (a1 (v := (I r_4)) (s_quo rfl rfl hx5) ?_)
        refine gt rfl (a1 (v := (I (r_4.tmod 2))) rfl ?_)
        refine gt rfl (a1 (v := (B (decide ((r_4.tmod 2) = 1)))) rfl ?_)
        refine un (a1 (v := (B (decide ((r_4.tmod 2) = 1)))) rfl ?_)
        refine dnil ?_
        exact Sv.weak (weak_canon [0, 1] rfl (by decide) (by decide) (fun b h => absurd h (Nat.not_lt_zero _)) (.cons rfl (avAs_free rfl) (.cons rfl (avAs_free rfl) (.cons rfl (.c (.ref rfl (by decide))) (.cons rfl (.c (.ref rfl (by decide))) .nil)))) (.box (by decide) rfl (blkAs_cells (.cons (.same rfl) (.cons (.same rfl) .nil))) (.box (by decide) rfl (blkAs_cells (.cons (.same rfl) (.cons (.same rfl) (.cons (.same rfl) (.cons (.same rfl) (.cons (.same rfl) (.cons (.same rfl) (.cons (.same rfl) (.cons (.same rfl) (.cons (.same rfl) (.cons (.same rfl) (.cons (.same rfl) (.cons (.same rfl) .nil))))))))))))) .nil))) (anim_tells_j5_ok h)
      · replace h := ifF hc6 h
        refine gs rfl rfl ?_
        refine gs rfl rfl ?_
        refine gs rfl rfl ?_
        refine gs rfl rfl ?_
        refine gs rfl rfl ?_
        refine gs rfl rfl ?_
        refine un (a1 (v := (B false)) rfl ?_)
        refine dnil ?_
        exact Sv.weak (weak_canon [0, 1] rfl (by decide) (by decide) (fun b h => absurd h (Nat.not_lt_zero _)) (.cons rfl (avAs_free rfl) (.cons rfl (avAs_free rfl) (.cons rfl (.c (.ref rfl (by decide))) (.cons rfl (.c (.ref rfl (by decide))) .nil)))) (.box (by decide) rfl (blkAs_cells (.cons (.same rfl) (.cons (.same rfl) .nil))) (.box (by decide) rfl (blkAs_cells (.cons (.same rfl) (.cons (.same rfl) (.cons (.same rfl) (.cons (.same rfl) (.cons (.same rfl) (.cons (.same rfl) (.cons (.same rfl) (.cons (.same rfl) (.cons (.same rfl) (.cons (.same rfl) (.cons (.same rfl) (.cons (.same rfl) .nil))))))))))))) .nil))) (anim_tells_j5_ok h)
def a30_c0 : ACode := (.region [⟨(some 34), (.bin .add (.tmp 22) (.const (.c (.val (.int .i64 1))))), none⟩, ⟨(some 22), (.mov (.tmp 34)), none⟩])
def a30_c1 : ACode := (.seq (.region [⟨(some 23), (.bin .lss (.tmp 22) (.tmp 21)), none⟩])
 (.seq (.cond (.tmp 23) .skip (.exit 0))
 (.seq (.block 1 (.seq (.region [⟨(some 24), (.iaddr 12 (.tmp 20) (.tmp 22)), none⟩, ⟨(some 25), (.load true 12 (.tmp 24)), none⟩, ⟨(some 10), (.box (.const (.agg [(.val (.int .i64 0)), (.val (.int .i64 0)), (.val (.int .i64 0)), (.val (.bool false)), (.val (.bool false)), (.val (.int .i64 0)), (.val (.int .i64 0)), (.val (.int .i64 0)), (.val (.int .i64 0)), (.val (.int .i64 0)), (.val (.int .i64 0)), (.ro true 3 [])]))), none⟩, ⟨none, (.store 12 (.tmp 10) (.tmp 25)), none⟩])
 (.seq (.region [⟨(some 27), (.load true 12 (.tmp 10)), none⟩, ⟨(some 28), (.mov (.tmp 2)), none⟩, ⟨(some 29), (.call 53 [(.tmp 27), (.tmp 28)]), none⟩, ⟨(some 26), (.mov (.tmp 29)), none⟩, ⟨(some 30), (.ext (.tmp 26) 0), none⟩, ⟨(some 31), (.ext (.tmp 26) 1), none⟩, ⟨(some 11), (.box (.const (.agg [(.val (.int .i64 0)), (.val (.int .i64 0))]))), none⟩, ⟨none, (.store 2 (.tmp 11) (.tmp 30)), none⟩, ⟨(some 12), (.mov (.tmp 31)), none⟩])
 (.seq (.region [⟨(some 32), (.mov (.tmp 12)), none⟩])
 (.cond (.tmp 32) (.region [⟨(some 33), (.load true 2 (.tmp 11)), none⟩, ⟨none, (.store 2 (.tmp 4) (.tmp 33)), none⟩]) .skip)))))
 a30_c0)))
def a30 : AFunc := ⟨3, [(.cell true 2 6), (.tmp 7)], (.seq (.region [⟨(some 4), (.box (.tmp 1)), none⟩, ⟨(some 6), (.box (.const (.agg [(.val (.int .i64 0)), (.val (.int .i64 0))]))), none⟩, ⟨(some 7), (.mov (.const (.c (.val (.int .i64 0))))), none⟩])
 (.seq (.seq (.region [⟨(some 13), (.mov (.tmp 0)), none⟩, ⟨(some 14), (.mov (.tmp 2)), none⟩, ⟨(some 15), (.call 52 [(.tmp 13), (.tmp 14)]), none⟩, ⟨(some 8), (.mov (.tmp 15)), none⟩])
 (.seq (.region [⟨(some 16), (.mov (.tmp 8)), none⟩, ⟨(some 17), (.bin .neq (.tmp 16) (.const (.c (.val (.int .i64 0))))), none⟩])
 (.cond (.tmp 17) (.seq (.region [⟨(some 18), (.build [(.val (.int .i64 0)), (.val (.int .i64 0))] []), none⟩, ⟨(some 19), (.mov (.tmp 8)), none⟩, ⟨none, (.store 2 (.tmp 6) (.tmp 18)), none⟩, ⟨(some 7), (.mov (.tmp 19)), none⟩])
 .ret) .skip)))
 (.seq (.seq (.region [⟨(some 20), (.mov (.tmp 0)), none⟩, ⟨(some 21), (.len (.tmp 20)), none⟩, ⟨(some 22), (.mov (.const (.c (.val (.int .i64 0))))), none⟩])
 (.block 0 (.loop a30_c1)))
 (.seq (.region [⟨(some 35), (.load true 2 (.tmp 4)), none⟩, ⟨none, (.store 2 (.tmp 6) (.tmp 35)), none⟩, ⟨(some 7), (.mov (.const (.c (.val (.int .i64 0))))), none⟩])
 .ret))))⟩
set_option maxRecDepth 100000 in
theorem c30 : compFunc Try.prog 30 = some a30 := by kernel_rfl
def anim_At_post (r : (TVal × Int)) : AV → Heap → Nat → Prop := fun v h' n' => v = (.tup [(.agg [cI r.1.Kind, cI r.1.N]), (I r.2)]) ∧ (h' = (fun _ => none)) ∧ n' = 0
noncomputable def anim_At_j3 (v22 : Int) (now : Int) (l_ : (List TSAnim)) (self : Int → Int → Int → Option (TVal × Int)) (K0_ : Int → Int → Option (TVal × Int)) (base02 : Int) (base12 : Int) : Option (TVal × Int) :=
  self base02 base12 (wi (v22 + 1))
theorem anim_At_j3_ok {Γ : Glob} {Q : AExit → St → Prop} {v22 : Int} {now : Int} {l_ : (List TSAnim)} {self : Int → Int → Int → Option (TVal × Int)} {K0_ : Int → Int → Option (TVal × Int)} {base02 : Int} {base12 : Int} {o : (TVal × Int)} (h : anim_At_j3 v22 now l_ self K0_ base02 base12 = some o)
    (hself : ∀ (base0 : Int) (base1 : Int) (v22 : Int), self base0 base1 v22 = some o → ∀ s, Weak 0 s ⟨(upd (upd (upd (upd (upd (upd (fun _ => none) 2 (some (I now))) 4 (some (.c (.ref 0 2 0 0)))) 6 (some (.c (.ref 1 2 0 0)))) 20 (some (.c (.ro false 12 (l_.map e_TSAnim))))) 21 (some (I (l_.length : Int)))) 22 (some (I v22))), (upd (upd (fun _ => none) 0 (some (.cells 2 [[cI base0, cI base1]]))) 1 (some (.cells 2 [[cI 0, cI 0]]))), 2⟩ → (Q) .normal s)
    (hK0 : ∀ (base01 : Int) (base11 : Int), K0_ base01 base11 = some o → ∀ s, Weak 0 s ⟨(upd (upd (fun _ => none) 4 (some (.c (.ref 0 2 0 0)))) 6 (some (.c (.ref 1 2 0 0)))), (upd (upd (fun _ => none) 0 (some (.cells 2 [[cI base01, cI base11]]))) 1 (some (.cells 2 [[cI 0, cI 0]]))), 2⟩ → Q (.exit 0) s)
    (hr : ∀ s, Ends a30.results 0 (anim_At_post o) .ret s → Q .ret s) :
    Sv Try.prog Γ 0 a30_c0 Q ⟨(upd (upd (upd (upd (upd (upd (fun _ => none) 2 (some (I now))) 4 (some (.c (.ref 0 2 0 0)))) 6 (some (.c (.ref 1 2 0 0)))) 20 (some (.c (.ro false 12 (l_.map e_TSAnim))))) 21 (some (I (l_.length : Int)))) 22 (some (I v22))), (upd (upd (fun _ => none) 0 (some (.cells 2 [[cI base02, cI base12]]))) 1 (some (.cells 2 [[cI 0, cI 0]]))), 2⟩ := by
  unfold anim_At_j3 at h
  refine Sv.region ?_
  refine un (a1 (v := (I (wi (v22 + 1)))) rfl ?_)
  refine un (a1 rfl ?_)
  refine dnil ?_
  exact hself base02 base12 (wi (v22 + 1)) h _ (weak_canon [0, 1] rfl (by decide) (by decide) (fun b h => absurd h (Nat.not_lt_zero _)) (.cons rfl (avAs_free rfl) (.cons rfl (avAs_free rfl) (.cons rfl (avAs_free rfl) (.cons rfl (.c (.ref rfl (by decide))) (.cons rfl (.c (.ref rfl (by decide))) (.cons rfl (avAs_free rfl) .nil)))))) (.box (by decide) rfl (blkAs_cells (.cons (.same rfl) (.cons (.same rfl) .nil))) (.box (by decide) rfl (blkAs_cells (.cons (.same rfl) (.cons (.same rfl) .nil))) .nil)))
noncomputable def anim_At_l0 (l_ : (List TSAnim)) (now : Int) (K0_ : Int → Int → Option (TVal × Int)) : Nat → Int → Int → Int → Option (TVal × Int)
  | 0, _, _, _ => none
  | k + 1, base0, base1, v22 =>
    if decide (v22 < (l_.length : Int)) then
      (at? l_ v22).bind fun x_ =>
      (anim_tells x_ now).bind fun r_1 =>
      if r_1.2 then
        anim_At_j3 v22 now l_ (anim_At_l0 l_ now K0_ k) K0_ r_1.1.Kind r_1.1.N
      else
        anim_At_j3 v22 now l_ (anim_At_l0 l_ now K0_ k) K0_ base0 base1
    else
      K0_ base0 base1
theorem anim_At_l0_ok {Γ : Glob} {Q : AExit → St → Prop} {l_ : (List TSAnim)} {now : Int} {K0_ : Int → Int → Option (TVal × Int)} {k : Nat} {base0 : Int} {base1 : Int} {v22 : Int} {o : (TVal × Int)} (h : anim_At_l0 l_ now K0_ k base0 base1 v22 = some o)
    (hK0 : ∀ (base01 : Int) (base11 : Int), K0_ base01 base11 = some o → ∀ s, Weak 0 s ⟨(upd (upd (fun _ => none) 4 (some (.c (.ref 0 2 0 0)))) 6 (some (.c (.ref 1 2 0 0)))), (upd (upd (fun _ => none) 0 (some (.cells 2 [[cI base01, cI base11]]))) 1 (some (.cells 2 [[cI 0, cI 0]]))), 2⟩ → Q (.exit 0) s)
    (hr : ∀ s, Ends a30.results 0 (anim_At_post o) .ret s → Q .ret s) :
    Sv Try.prog Γ 0 (.loop a30_c1) Q ⟨(upd (upd (upd (upd (upd (upd (fun _ => none) 2 (some (I now))) 4 (some (.c (.ref 0 2 0 0)))) 6 (some (.c (.ref 1 2 0 0)))) 20 (some (.c (.ro false 12 (l_.map e_TSAnim))))) 21 (some (I (l_.length : Int)))) 22 (some (I v22))), (upd (upd (fun _ => none) 0 (some (.cells 2 [[cI base0, cI base1]]))) 1 (some (.cells 2 [[cI 0, cI 0]]))), 2⟩ := by
  refine Sv.loop (I := fun k s => ∃ (base0 : Int), ∃ (base1 : Int), ∃ (v22 : Int), anim_At_l0 l_ now K0_ k base0 base1 v22 = some o ∧ s = ⟨(upd (upd (upd (upd (upd (upd (fun _ => none) 2 (some (I now))) 4 (some (.c (.ref 0 2 0 0)))) 6 (some (.c (.ref 1 2 0 0)))) 20 (some (.c (.ro false 12 (l_.map e_TSAnim))))) 21 (some (I (l_.length : Int)))) 22 (some (I v22))), (upd (upd (fun _ => none) 0 (some (.cells 2 [[cI base0, cI base1]]))) 1 (some (.cells 2 [[cI 0, cI 0]]))), 2⟩) (fun k s hI => ?_) ⟨base0, base1, v22, h, rfl⟩
  clear h
  clear v22 base1 base0
  obtain ⟨base0, base1, v22, h, rfl⟩ := hI
  cases k with
  | zero => cases h
  | succ k =>
  rw [anim_At_l0] at h
  have hself : ∀ (base0 : Int) (base1 : Int) (v22 : Int), (anim_At_l0 l_ now K0_ k) base0 base1 v22 = some o → ∀ s, Weak 0 s ⟨(upd (upd (upd (upd (upd (upd (fun _ => none) 2 (some (I now))) 4 (some (.c (.ref 0 2 0 0)))) 6 (some (.c (.ref 1 2 0 0)))) 20 (some (.c (.ro false 12 (l_.map e_TSAnim))))) 21 (some (I (l_.length : Int)))) 22 (some (I v22))), (upd (upd (fun _ => none) 0 (some (.cells 2 [[cI base0, cI base1]]))) 1 (some (.cells 2 [[cI 0, cI 0]]))), 2⟩ → (AThen (fun s' => ∃ s'' k', Weak 0 s' s'' ∧ k' < k + 1 ∧ (fun k s => ∃ (base0 : Int), ∃ (base1 : Int), ∃ (v22 : Int), anim_At_l0 l_ now K0_ k base0 base1 v22 = some o ∧ s = ⟨(upd (upd (upd (upd (upd (upd (fun _ => none) 2 (some (I now))) 4 (some (.c (.ref 0 2 0 0)))) 6 (some (.c (.ref 1 2 0 0)))) 20 (some (.c (.ro false 12 (l_.map e_TSAnim))))) 21 (some (I (l_.length : Int)))) 22 (some (I v22))), (upd (upd (fun _ => none) 0 (some (.cells 2 [[cI base0, cI base1]]))) 1 (some (.cells 2 [[cI 0, cI 0]]))), 2⟩) k' s'') Q) .normal s := fun base0 base1 v22 h s hw => ⟨_, k, hw, Nat.lt_succ_self k, base0, base1, v22, h, rfl⟩
  refine Sv.seq ?_
  refine Sv.region ?_
  refine un (a1 (v := (B (decide (v22 < (l_.length : Int))))) rfl ?_)
  refine dnil ?_
  refine Sv.seq ?_
  refine Sv.cond (b := decide (v22 < (l_.length : Int))) rfl (fun hc2 => ?_) (fun hc2 => ?_)
  · replace h := ifT hc2 h
    refine Sv.skip ?_
    refine Sv.seq ?_
    refine Sv.block ?_
    refine Sv.seq ?_
    refine Sv.region ?_
    obtain ⟨x_, hx1, h⟩ := bnd h
    refine un (a1 (v := (.c (.rop [cI x_.From, cI x_.Length, cI x_.Times, cB x_.Turn, cB x_.Stays, cI x_.Ease.Kind, cI x_.Ease.Curve.a0, cI x_.Ease.Curve.a1, cI x_.Ease.Curve.a2, cI x_.Ease.Curve.a3, cI x_.Ease.N, .ro false 3 (x_.Frames.map e_TSFrame)]))) (s_iaddr (e := e_TSAnim) (xs := l_) rfl rfl hx1) ?_)
    refine un (a1 (v := (.agg [cI x_.From, cI x_.Length, cI x_.Times, cB x_.Turn, cB x_.Stays, cI x_.Ease.Kind, cI x_.Ease.Curve.a0, cI x_.Ease.Curve.a1, cI x_.Ease.Curve.a2, cI x_.Ease.Curve.a3, cI x_.Ease.N, .ro false 3 (x_.Frames.map e_TSFrame)])) rfl ?_)
    refine un (a2v (v := (.c (.ref 2 12 0 0))) (h' := upd _ 2 (some (.cells 12 [[cI 0, cI 0, cI 0, cB false, cB false, cI 0, cI 0, cI 0, cI 0, cI 0, cI 0, .ro true 3 []]]))) (n' := 3) rfl rfl (fun h => by cases h) ?_)
    refine un (a2n (h' := upd _ 2 (some (.cells 12 [[cI x_.From, cI x_.Length, cI x_.Times, cB x_.Turn, cB x_.Stays, cI x_.Ease.Kind, cI x_.Ease.Curve.a0, cI x_.Ease.Curve.a1, cI x_.Ease.Curve.a2, cI x_.Ease.Curve.a3, cI x_.Ease.N, .ro false 3 (x_.Frames.map e_TSFrame)]]))) (n' := 3) rfl rfl (fun h => by cases h) ?_)
    refine dnil ?_
    refine Sv.seq ?_
    refine Sv.region ?_
    refine un (a1 (v := (.agg [cI x_.From, cI x_.Length, cI x_.Times, cB x_.Turn, cB x_.Stays, cI x_.Ease.Kind, cI x_.Ease.Curve.a0, cI x_.Ease.Curve.a1, cI x_.Ease.Curve.a2, cI x_.Ease.Curve.a3, cI x_.Ease.N, .ro false 3 (x_.Frames.map e_TSFrame)])) rfl ?_)
    refine un (a1 rfl ?_)
    obtain ⟨r_1, hr2, h⟩ := bnd h
    refine un (ac_pure (anim_tells_ok hr2) rfl rfl rfl ?_)
    refine un (a1 rfl ?_)
    refine un (a1 (v := (.agg [cI r_1.1.Kind, cI r_1.1.N])) rfl ?_)
    refine un (a1 (v := (B r_1.2)) rfl ?_)
    refine un (a2v (v := (.c (.ref 3 2 0 0))) (h' := upd _ 3 (some (.cells 2 [[cI 0, cI 0]]))) (n' := 4) rfl rfl (fun h => by cases h) ?_)
    refine un (a2n (h' := upd _ 3 (some (.cells 2 [[cI r_1.1.Kind, cI r_1.1.N]]))) (n' := 4) rfl rfl (fun h => by cases h) ?_)
    refine un (a1 rfl ?_)
    refine dnil ?_
    refine Sv.seq ?_
    refine Sv.region ?_
    refine un (a1 rfl ?_)
    refine dnil ?_
    refine Sv.cond (b := r_1.2) rfl (fun hc3 => ?_) (fun hc3 => ?_)
    · replace h := ifT hc3 h
      refine Sv.region ?_
      refine un (a1 (v := (.agg [cI r_1.1.Kind, cI r_1.1.N])) rfl ?_)
      refine un (a2n (h' := upd _ 0 (some (.cells 2 [[cI r_1.1.Kind, cI r_1.1.N]]))) (n' := 4) rfl rfl (fun h => by cases h) ?_)
      refine dnil ?_
      exact Sv.weak (weak_canon [0, 1] rfl (by decide) (by decide) (fun b h => absurd h (Nat.not_lt_zero _)) (.cons rfl (avAs_free rfl) (.cons rfl (avAs_free rfl) (.cons rfl (avAs_free rfl) (.cons rfl (.c (.ref rfl (by decide))) (.cons rfl (.c (.ref rfl (by decide))) (.cons rfl (avAs_free rfl) .nil)))))) (.box (by decide) rfl (blkAs_cells (.cons (.same rfl) (.cons (.same rfl) .nil))) (.box (by decide) rfl (blkAs_cells (.cons (.same rfl) (.cons (.same rfl) .nil))) .nil))) (anim_At_j3_ok h hself hK0 hr)
    · replace h := ifF hc3 h
      refine Sv.skip ?_
      exact Sv.weak (weak_canon [0, 1] rfl (by decide) (by decide) (fun b h => absurd h (Nat.not_lt_zero _)) (.cons rfl (avAs_free rfl) (.cons rfl (avAs_free rfl) (.cons rfl (avAs_free rfl) (.cons rfl (.c (.ref rfl (by decide))) (.cons rfl (.c (.ref rfl (by decide))) (.cons rfl (avAs_free rfl) .nil)))))) (.box (by decide) rfl (blkAs_cells (.cons (.same rfl) (.cons (.same rfl) .nil))) (.box (by decide) rfl (blkAs_cells (.cons (.same rfl) (.cons (.same rfl) .nil))) .nil))) (anim_At_j3_ok h hself hK0 hr)
  · replace h := ifF hc2 h
    refine Sv.exit ?_
    exact hK0 base0 base1 h _ (weak_canon [0, 1] rfl (by decide) (by decide) (fun b h => absurd h (Nat.not_lt_zero _)) (.cons rfl (.c (.ref rfl (by decide))) (.cons rfl (.c (.ref rfl (by decide))) .nil)) (.box (by decide) rfl (blkAs_cells (.cons (.same rfl) (.cons (.same rfl) .nil))) (.box (by decide) rfl (blkAs_cells (.cons (.same rfl) (.cons (.same rfl) .nil))) .nil)))
/-- clerestory/anim.At -/
noncomputable def anim_At (l_ : (List TSAnim)) (base : TVal) (now : Int) : Option (TVal × Int) :=
  (anim_right l_ now).bind fun r_ =>
  if (!decide (r_ = 0)) then
    some ((⟨0, 0⟩ : TVal), r_)
  else
    lim fun kk => anim_At_l0 l_ now (fun (base01 : Int) (base11 : Int) => 
        some ((⟨base01, base11⟩ : TVal), 0)) kk base.Kind base.N 0
theorem anim_At_ok {Γ : Glob} {l_ : (List TSAnim)} {base : TVal} {now : Int} {r : (TVal × Int)} (h : anim_At l_ base now = some r) : CPure Try.prog Γ 30 [(.c (.ro false 12 (l_.map e_TSAnim))), (.agg [cI base.Kind, cI base.N]), (I now)] (.tup [(.agg [cI r.1.Kind, cI r.1.N]), (I r.2)]) := by
  refine acalls_of_sv hmix c30 (R := anim_At_post r) ?_
  unfold anim_At at h
  refine Sv.seq ?_
  refine Sv.region ?_
  refine un (a2v (v := (.c (.ref 0 2 0 0))) (h' := upd _ 0 (some (.cells 2 [[cI base.Kind, cI base.N]]))) (n' := 1) rfl rfl (fun h => by cases h) ?_)
  refine un (a2v (v := (.c (.ref 1 2 0 0))) (h' := upd _ 1 (some (.cells 2 [[cI 0, cI 0]]))) (n' := 2) rfl rfl (fun h => by cases h) ?_)
  refine un (a1 rfl ?_)
  refine dnil ?_
  refine Sv.seq ?_
  refine Sv.seq ?_
  refine Sv.region ?_
  refine un (a1 rfl ?_)
  refine un (a1 rfl ?_)
  obtain ⟨r_, hr1, h⟩ := bnd h
  refine un (ac_pure (anim_right_ok hr1) rfl rfl rfl ?_)
  refine un (a1 rfl ?_)
  refine dnil ?_
  refine Sv.seq ?_
  refine Sv.region ?_
  refine un (a1 rfl ?_)
  refine un (a1 (v := (B (!decide (r_ = 0)))) rfl ?_)
  refine dnil ?_
  refine Sv.cond (b := (!decide (r_ = 0))) rfl (fun hc1 => ?_) (fun hc1 => ?_)
  · replace h := ifT hc1 h
    refine Sv.seq ?_
    refine Sv.region ?_
    refine un (a1 (v := (.agg [cI 0, cI 0])) rfl ?_)
    refine un (a1 rfl ?_)
    refine un (a2n (h' := upd _ 1 (some (.cells 2 [[cI 0, cI 0]]))) (n' := 2) rfl rfl (fun h => by cases h) ?_)
    refine un (a1 rfl ?_)
    refine dnil ?_
    refine Sv.ret ?_
    replace h := Option.some.inj h
    subst h
    exact ⟨_, .refl _, _, rfl, ⟨upd (fun _ => none) 0 (some (.tup [(.agg [cI 0, cI 0]), (I r_)])), (fun _ => none), 0⟩, (.tup [(.agg [cI 0, cI 0]), (I r_)]), weak_canon [] rfl List.nodup_nil (Nat.le_refl _) (fun b h => absurd h (Nat.not_lt_zero _)) (.cons rfl (avAs_tup (.cons (avAs_free rfl) (.cons (avAs_free rfl) .nil))) .nil) .nil, rfl, rfl, rfl, rfl⟩
  · replace h := ifF hc1 h
    refine Sv.skip ?_
    refine Sv.seq ?_
    refine Sv.seq ?_
    refine Sv.region ?_
    refine un (a1 rfl ?_)
    refine un (a1 (v := (I (l_.length : Int))) (s_len (e := e_TSAnim) (xs := l_) rfl) ?_)
    refine un (a1 rfl ?_)
    refine dnil ?_
    refine Sv.block ?_
    obtain ⟨kk, h⟩ := lim_some h
    refine Sv.weak (weak_canon [0, 1] rfl (by decide) (by decide) (fun b h => absurd h (Nat.not_lt_zero _)) (.cons rfl (avAs_free rfl) (.cons rfl (avAs_free rfl) (.cons rfl (avAs_free rfl) (.cons rfl (.c (.ref rfl (by decide))) (.cons rfl (.c (.ref rfl (by decide))) (.cons rfl (avAs_free rfl) .nil)))))) (.box (by decide) rfl (blkAs_cells (.cons (.same rfl) (.cons (.same rfl) .nil))) (.box (by decide) rfl (blkAs_cells (.cons (.same rfl) (.cons (.same rfl) .nil))) .nil))) (anim_At_l0_ok h ?_ (fun s hs => hs))
    · intro base01 base11 h _ hw1
      refine Sv.weak hw1 ?_
      refine Sv.seq ?_
      refine Sv.region ?_
      refine un (a1 (v := (.agg [cI base01, cI base11])) rfl ?_)
      refine un (a2n (h' := upd _ 1 (some (.cells 2 [[cI base01, cI base11]]))) (n' := 2) rfl rfl (fun h => by cases h) ?_)
      refine un (a1 rfl ?_)
      refine dnil ?_
      refine Sv.ret ?_
      replace h := Option.some.inj h
      subst h
      exact ⟨_, .refl _, _, rfl, ⟨upd (fun _ => none) 0 (some (.tup [(.agg [cI base01, cI base11]), (I 0)])), (fun _ => none), 0⟩, (.tup [(.agg [cI base01, cI base11]), (I 0)]), weak_canon [] rfl List.nodup_nil (Nat.le_refl _) (fun b h => absurd h (Nat.not_lt_zero _)) (.cons rfl (avAs_tup (.cons (avAs_free rfl) (.cons (avAs_free rfl) .nil))) .nil) .nil, rfl, rfl, rfl, rfl⟩
def a9_c1 : ACode := (.seq (.seq (.region [⟨(some 20), (.mov (.tmp 9)), none⟩, ⟨(some 21), (.mov (.tmp 0)), none⟩, ⟨(some 22), (.len (.tmp 21)), none⟩, ⟨(some 23), (.bin .lss (.tmp 20) (.tmp 22)), none⟩, ⟨(some 24), (.mov (.tmp 23)), none⟩, ⟨(some 25), (.mov (.tmp 8)), (some (24, true))⟩, ⟨(some 26), (.bin .eql (.tmp 25) (.const (.c (.val (.int .i64 0))))), (some (24, true))⟩, ⟨(some 27), (.pick (.tmp 24) (.tmp 26) (.const (.c (.val (.bool false))))), none⟩])
 (.cond (.tmp 27) .skip (.exit 0)))
 (.seq (.block 1 (.region [⟨(some 30), (.mov (.tmp 0)), none⟩, ⟨(some 31), (.mov (.tmp 9)), none⟩, ⟨(some 32), (.iaddr 12 (.tmp 30) (.tmp 31)), none⟩, ⟨(some 33), (.load true 12 (.tmp 32)), none⟩, ⟨(some 34), (.call 22 [(.tmp 33)]), none⟩, ⟨(some 8), (.mov (.tmp 34)), none⟩]))
 (.region [⟨(some 28), (.mov (.tmp 9)), none⟩, ⟨(some 29), (.bin .add (.tmp 28) (.const (.c (.val (.int .i64 1))))), none⟩, ⟨(some 9), (.mov (.tmp 29)), none⟩])))
def a9_c3 : ACode := (.region [⟨(some 54), (.mov (.tmp 11)), none⟩, ⟨(some 55), (.bin .add (.tmp 54) (.const (.c (.val (.int .i64 1))))), none⟩, ⟨(some 11), (.mov (.tmp 55)), none⟩])
def a9_c4 : ACode := (.seq (.seq (.region [⟨(some 46), (.mov (.tmp 11)), none⟩, ⟨(some 47), (.mov (.tmp 0)), none⟩, ⟨(some 48), (.len (.tmp 47)), none⟩, ⟨(some 49), (.bin .lss (.tmp 46) (.tmp 48)), none⟩, ⟨(some 50), (.mov (.tmp 49)), none⟩, ⟨(some 51), (.mov (.tmp 8)), (some (50, true))⟩, ⟨(some 52), (.bin .eql (.tmp 51) (.const (.c (.val (.int .i64 0))))), (some (50, true))⟩, ⟨(some 53), (.pick (.tmp 50) (.tmp 52) (.const (.c (.val (.bool false))))), none⟩])
 (.cond (.tmp 53) .skip (.exit 2)))
 (.seq (.block 3 (.seq (.region [⟨(some 57), (.mov (.tmp 0)), none⟩, ⟨(some 58), (.mov (.tmp 11)), none⟩, ⟨(some 59), (.iaddr 12 (.tmp 57) (.tmp 58)), none⟩, ⟨(some 60), (.load true 12 (.tmp 59)), none⟩, ⟨(some 61), (.mov (.tmp 2)), none⟩, ⟨(some 62), (.call 29 [(.tmp 60), (.tmp 61)]), none⟩, ⟨(some 56), (.mov (.tmp 62)), none⟩, ⟨(some 63), (.ext (.tmp 56) 0), none⟩, ⟨(some 64), (.ext (.tmp 56) 1), none⟩, ⟨(some 12), (.box (.const (.agg [(.val (.int .i64 0)), (.val (.int .i64 0))]))), none⟩, ⟨none, (.store 2 (.tmp 12) (.tmp 63)), none⟩, ⟨(some 13), (.mov (.tmp 64)), none⟩])
 (.seq (.region [⟨(some 65), (.mov (.tmp 13)), none⟩])
 (.cond (.tmp 65) (.region [⟨(some 66), (.load true 2 (.tmp 12)), none⟩, ⟨none, (.store 2 (.tmp 10) (.tmp 66)), none⟩]) .skip))))
 a9_c3))
def a9_c5 : ACode := (.seq (.region [⟨(some 71), (.mov (.tmp 0)), none⟩, ⟨(some 72), (.load true 2 (.tmp 4)), none⟩, ⟨(some 73), (.mov (.tmp 2)), none⟩, ⟨(some 74), (.call 30 [(.tmp 71), (.tmp 72), (.tmp 73)]), none⟩, ⟨(some 70), (.mov (.tmp 74)), none⟩, ⟨(some 75), (.ext (.tmp 70) 0), none⟩, ⟨(some 76), (.ext (.tmp 70) 1), none⟩, ⟨(some 14), (.box (.const (.agg [(.val (.int .i64 0)), (.val (.int .i64 0))]))), none⟩, ⟨none, (.store 2 (.tmp 14) (.tmp 75)), none⟩, ⟨(some 15), (.mov (.tmp 76)), none⟩])
 (.seq (.region [⟨(some 77), (.mov (.tmp 7)), none⟩, ⟨(some 78), (.mov (.tmp 77)), none⟩, ⟨(some 79), (.load true 2 (.tmp 14)), (some (78, true))⟩, ⟨(some 80), (.load true 2 (.tmp 10)), (some (78, true))⟩, ⟨(some 81), (.eqs false true [.i, .i] (.tmp 79) (.tmp 80)), (some (78, true))⟩, ⟨(some 82), (.pick (.tmp 78) (.tmp 81) (.const (.c (.val (.bool false))))), none⟩, ⟨(some 83), (.mov (.tmp 82)), none⟩, ⟨(some 84), (.mov (.tmp 8)), (some (83, true))⟩, ⟨(some 85), (.mov (.tmp 15)), (some (83, true))⟩, ⟨(some 86), (.bin .eql (.tmp 84) (.tmp 85)), (some (83, true))⟩, ⟨(some 87), (.pick (.tmp 83) (.tmp 86) (.const (.c (.val (.bool false))))), none⟩, ⟨(some 6), (.mov (.tmp 87)), none⟩])
 .ret))
def a9_c2 : ACode := (.seq (.region [⟨(some 45), (.load true 2 (.tmp 4)), none⟩, ⟨(some 10), (.box (.const (.agg [(.val (.int .i64 0)), (.val (.int .i64 0))]))), none⟩, ⟨none, (.store 2 (.tmp 10) (.tmp 45)), none⟩])
 (.seq (.seq (.region [⟨(some 11), (.mov (.const (.c (.val (.int .i64 0))))), none⟩])
 (.block 2 (.loop a9_c4)))
 (.seq (.seq (.region [⟨(some 67), (.mov (.tmp 8)), none⟩, ⟨(some 68), (.bin .neq (.tmp 67) (.const (.c (.val (.int .i64 0))))), none⟩])
 (.cond (.tmp 68) (.region [⟨(some 69), (.build [(.val (.int .i64 0)), (.val (.int .i64 0))] []), none⟩, ⟨none, (.store 2 (.tmp 10) (.tmp 69)), none⟩]) .skip))
 a9_c5)))
def a9_c0 : ACode := (.seq (.seq (.region [⟨(some 9), (.mov (.const (.c (.val (.int .i64 0))))), none⟩])
 (.block 0 (.loop a9_c1)))
 (.seq (.seq (.region [⟨(some 35), (.mov (.tmp 8)), none⟩, ⟨(some 36), (.bin .eql (.tmp 35) (.const (.c (.val (.int .i64 0))))), none⟩, ⟨(some 37), (.mov (.tmp 36)), none⟩, ⟨(some 38), (.mov (.tmp 2)), (some (37, true))⟩, ⟨(some 39), (.bin .lss (.tmp 38) (.const (.c (.val (.int .i64 0))))), (some (37, true))⟩, ⟨(some 40), (.mov (.tmp 39)), (some (37, true))⟩, ⟨(some 41), (.mov (.tmp 2)), (some (40, false))⟩, ⟨(some 42), (.bin .gtr (.tmp 41) (.const (.c (.val (.int .i64 200000000000))))), (some (40, false))⟩, ⟨(some 43), (.pick (.tmp 40) (.const (.c (.val (.bool true)))) (.tmp 42)), (some (37, true))⟩, ⟨(some 44), (.pick (.tmp 37) (.tmp 43) (.const (.c (.val (.bool false))))), none⟩])
 (.cond (.tmp 44) (.region [⟨(some 8), (.mov (.const (.c (.val (.int .i64 1))))), none⟩]) .skip))
 a9_c2))
def a9 : AFunc := ⟨3, [(.tmp 6)], (.seq (.region [⟨(some 4), (.box (.tmp 1)), none⟩, ⟨(some 6), (.mov (.const (.c (.val (.bool false))))), none⟩])
 (.seq (.region [⟨(some 16), (.call 14 []), none⟩, ⟨(some 7), (.mov (.tmp 16)), none⟩])
 (.seq (.region [⟨(some 8), (.mov (.const (.c (.val (.int .i64 0))))), none⟩])
 (.seq (.seq (.region [⟨(some 17), (.mov (.tmp 0)), none⟩, ⟨(some 18), (.len (.tmp 17)), none⟩, ⟨(some 19), (.bin .gtr (.tmp 18) (.const (.c (.val (.int .i64 10))))), none⟩])
 (.cond (.tmp 19) (.region [⟨(some 8), (.mov (.const (.c (.val (.int .i64 2))))), none⟩]) .skip))
 a9_c0))))⟩
set_option maxRecDepth 100000 in
theorem c9 : compFunc Try.prog 9 = some a9 := by kernel_rfl
def clerestorylaw2_AnimTells_post (r : Bool) : AV → Heap → Nat → Prop := fun v h' n' => v = (B r) ∧ (h' = (fun _ => none)) ∧ n' = 0
noncomputable def clerestorylaw2_AnimTells_l0 (l_ : (List TSAnim)) (now : Int) (r_ : Bool) (base : TVal) (K0_ : Int → Option Bool) : Nat → Int → Int → Option Bool
  | 0, _, _ => none
  | k + 1, e_1, i_ =>
    if ((decide (i_ < (l_.length : Int))) && (decide (e_1 = 0))) then
      (at? l_ i_).bind fun x_ =>
      (clerestoryref2_AnimFault x_).bind fun r_1 =>
      (clerestorylaw2_AnimTells_l0 l_ now r_ base K0_ k) r_1 (wi (i_ + 1))
    else
      K0_ e_1
theorem clerestorylaw2_AnimTells_l0_ok {Γ : Glob} {Q : AExit → St → Prop} {l_ : (List TSAnim)} {now : Int} {r_ : Bool} {base : TVal} {K0_ : Int → Option Bool} {k : Nat} {e_1 : Int} {i_ : Int} {o : Bool} (h : clerestorylaw2_AnimTells_l0 l_ now r_ base K0_ k e_1 i_ = some o)
    (hK0 : ∀ (e_2 : Int), K0_ e_2 = some o → ∀ s, Weak 0 s ⟨(upd (upd (upd (upd (upd (fun _ => none) 0 (some (.c (.ro false 12 (l_.map e_TSAnim))))) 2 (some (I now))) 4 (some (.c (.ref 0 2 0 0)))) 7 (some (B r_))) 8 (some (I e_2))), (upd (fun _ => none) 0 (some (.cells 2 [[cI base.Kind, cI base.N]]))), 1⟩ → Q (.exit 0) s)
    (hr : ∀ s, Ends a9.results 0 (clerestorylaw2_AnimTells_post o) .ret s → Q .ret s) :
    Sv Try.prog Γ 0 (.loop a9_c1) Q ⟨(upd (upd (upd (upd (upd (upd (fun _ => none) 0 (some (.c (.ro false 12 (l_.map e_TSAnim))))) 2 (some (I now))) 4 (some (.c (.ref 0 2 0 0)))) 7 (some (B r_))) 8 (some (I e_1))) 9 (some (I i_))), (upd (fun _ => none) 0 (some (.cells 2 [[cI base.Kind, cI base.N]]))), 1⟩ := by
  refine Sv.loop (I := fun k s => ∃ (e_1 : Int), ∃ (i_ : Int), clerestorylaw2_AnimTells_l0 l_ now r_ base K0_ k e_1 i_ = some o ∧ s = ⟨(upd (upd (upd (upd (upd (upd (fun _ => none) 0 (some (.c (.ro false 12 (l_.map e_TSAnim))))) 2 (some (I now))) 4 (some (.c (.ref 0 2 0 0)))) 7 (some (B r_))) 8 (some (I e_1))) 9 (some (I i_))), (upd (fun _ => none) 0 (some (.cells 2 [[cI base.Kind, cI base.N]]))), 1⟩) (fun k s hI => ?_) ⟨e_1, i_, h, rfl⟩
  clear h
  clear i_ e_1
  obtain ⟨e_1, i_, h, rfl⟩ := hI
  cases k with
  | zero => cases h
  | succ k =>
  rw [clerestorylaw2_AnimTells_l0] at h
  have hself : ∀ (e_1 : Int) (i_ : Int), (clerestorylaw2_AnimTells_l0 l_ now r_ base K0_ k) e_1 i_ = some o → ∀ s, Weak 0 s ⟨(upd (upd (upd (upd (upd (upd (fun _ => none) 0 (some (.c (.ro false 12 (l_.map e_TSAnim))))) 2 (some (I now))) 4 (some (.c (.ref 0 2 0 0)))) 7 (some (B r_))) 8 (some (I e_1))) 9 (some (I i_))), (upd (fun _ => none) 0 (some (.cells 2 [[cI base.Kind, cI base.N]]))), 1⟩ → (AThen (fun s' => ∃ s'' k', Weak 0 s' s'' ∧ k' < k + 1 ∧ (fun k s => ∃ (e_1 : Int), ∃ (i_ : Int), clerestorylaw2_AnimTells_l0 l_ now r_ base K0_ k e_1 i_ = some o ∧ s = ⟨(upd (upd (upd (upd (upd (upd (fun _ => none) 0 (some (.c (.ro false 12 (l_.map e_TSAnim))))) 2 (some (I now))) 4 (some (.c (.ref 0 2 0 0)))) 7 (some (B r_))) 8 (some (I e_1))) 9 (some (I i_))), (upd (fun _ => none) 0 (some (.cells 2 [[cI base.Kind, cI base.N]]))), 1⟩) k' s'') Q) .normal s := fun e_1 i_ h s hw => ⟨_, k, hw, Nat.lt_succ_self k, e_1, i_, h, rfl⟩
  refine Sv.seq ?_
  refine Sv.seq ?_
  refine Sv.region ?_
  refine un (a1 rfl ?_)
  refine un (a1 rfl ?_)
  refine un (a1 (v := (I (l_.length : Int))) (s_len (e := e_TSAnim) (xs := l_) rfl) ?_)
  refine un (a1 (v := (B (decide (i_ < (l_.length : Int))))) rfl ?_)
  refine un (a1 rfl ?_)
  refine gjoin 3 (d := 27) (v := (B ((decide (i_ < (l_.length : Int))) && (decide (e_1 = 0))))) (fun X hX => ?_) ?_
  · refine split2 (fun hc1 => ?_) (fun hc1 => ?_)
    · refine gt rfl (a1 rfl ?_)
      refine gt rfl (a1 (v := (B (decide (e_1 = 0)))) rfl ?_)
      refine un (a1 (v := (B (decide (e_1 = 0)))) rfl ?_)
      refine dnil ?_
      exact hX _ (.putEq (by rw [hc1]; rfl) (.skip _ _ (.skip _ _ (.putEq (by rw [hc1]) (.refl _)) rfl) rfl))
    · refine gs rfl rfl ?_
      refine gs rfl rfl ?_
      refine un (a1 (v := (B false)) rfl ?_)
      refine dnil ?_
      exact hX _ (.putEq (by rw [hc1]; rfl) (.skip _ _ (.skip _ _ (.putEq (by rw [hc1]) (.refl _)) rfl) rfl))
  refine dnil ?_
  refine Sv.cond (b := ((decide (i_ < (l_.length : Int))) && (decide (e_1 = 0)))) rfl (fun hc2 => ?_) (fun hc2 => ?_)
  · replace h := ifT hc2 h
    refine Sv.skip ?_
    refine Sv.seq ?_
    refine Sv.block ?_
    refine Sv.region ?_
    refine un (a1 rfl ?_)
    refine un (a1 rfl ?_)
    obtain ⟨x_, hx1, h⟩ := bnd h
    refine un (a1 (v := (.c (.rop [cI x_.From, cI x_.Length, cI x_.Times, cB x_.Turn, cB x_.Stays, cI x_.Ease.Kind, cI x_.Ease.Curve.a0, cI x_.Ease.Curve.a1, cI x_.Ease.Curve.a2, cI x_.Ease.Curve.a3, cI x_.Ease.N, .ro false 3 (x_.Frames.map e_TSFrame)]))) (s_iaddr (e := e_TSAnim) (xs := l_) rfl rfl hx1) ?_)
    refine un (a1 (v := (.agg [cI x_.From, cI x_.Length, cI x_.Times, cB x_.Turn, cB x_.Stays, cI x_.Ease.Kind, cI x_.Ease.Curve.a0, cI x_.Ease.Curve.a1, cI x_.Ease.Curve.a2, cI x_.Ease.Curve.a3, cI x_.Ease.N, .ro false 3 (x_.Frames.map e_TSFrame)])) rfl ?_)
    obtain ⟨r_1, hr2, h⟩ := bnd h
    refine un (ac_pure (clerestoryref2_AnimFault_ok hr2) rfl rfl rfl ?_)
    refine un (a1 rfl ?_)
    refine dnil ?_
    refine Sv.region ?_
    refine un (a1 rfl ?_)
    refine un (a1 (v := (I (wi (i_ + 1)))) rfl ?_)
    refine un (a1 rfl ?_)
    refine dnil ?_
    exact hself r_1 (wi (i_ + 1)) h _ (weak_canon [0] rfl (by decide) (by decide) (fun b h => absurd h (Nat.not_lt_zero _)) (.cons rfl (avAs_free rfl) (.cons rfl (avAs_free rfl) (.cons rfl (avAs_free rfl) (.cons rfl (.c (.ref rfl (by decide))) (.cons rfl (avAs_free rfl) (.cons rfl (avAs_free rfl) .nil)))))) (.box (by decide) rfl (blkAs_cells (.cons (.same rfl) (.cons (.same rfl) .nil))) .nil))
  · replace h := ifF hc2 h
    refine Sv.exit ?_
    exact hK0 e_1 h _ (weak_canon [0] rfl (by decide) (by decide) (fun b h => absurd h (Nat.not_lt_zero _)) (.cons rfl (avAs_free rfl) (.cons rfl (avAs_free rfl) (.cons rfl (.c (.ref rfl (by decide))) (.cons rfl (avAs_free rfl) (.cons rfl (avAs_free rfl) .nil))))) (.box (by decide) rfl (blkAs_cells (.cons (.same rfl) (.cons (.same rfl) .nil))) .nil))
noncomputable def clerestorylaw2_AnimTells_j5 (i_1 : Int) (l_ : (List TSAnim)) (now : Int) (r_ : Bool) (e_3 : Int) (base : TVal) (self : Int → Int → Int → Option Bool) (K2_ : Int → Int → Option Bool) (want02 : Int) (want12 : Int) : Option Bool :=
  self want02 want12 (wi (i_1 + 1))
theorem clerestorylaw2_AnimTells_j5_ok {Γ : Glob} {Q : AExit → St → Prop} {i_1 : Int} {l_ : (List TSAnim)} {now : Int} {r_ : Bool} {e_3 : Int} {base : TVal} {self : Int → Int → Int → Option Bool} {K2_ : Int → Int → Option Bool} {want02 : Int} {want12 : Int} {o : Bool} (h : clerestorylaw2_AnimTells_j5 i_1 l_ now r_ e_3 base self K2_ want02 want12 = some o)
    (hself : ∀ (want0 : Int) (want1 : Int) (i_1 : Int), self want0 want1 i_1 = some o → ∀ s, Weak 0 s ⟨(upd (upd (upd (upd (upd (upd (upd (fun _ => none) 0 (some (.c (.ro false 12 (l_.map e_TSAnim))))) 2 (some (I now))) 4 (some (.c (.ref 0 2 0 0)))) 7 (some (B r_))) 8 (some (I e_3))) 10 (some (.c (.ref 1 2 0 0)))) 11 (some (I i_1))), (upd (upd (fun _ => none) 0 (some (.cells 2 [[cI base.Kind, cI base.N]]))) 1 (some (.cells 2 [[cI want0, cI want1]]))), 2⟩ → (Q) .normal s)
    (hK2 : ∀ (want01 : Int) (want11 : Int), K2_ want01 want11 = some o → ∀ s, Weak 0 s ⟨(upd (upd (upd (upd (upd (upd (fun _ => none) 0 (some (.c (.ro false 12 (l_.map e_TSAnim))))) 2 (some (I now))) 4 (some (.c (.ref 0 2 0 0)))) 7 (some (B r_))) 8 (some (I e_3))) 10 (some (.c (.ref 1 2 0 0)))), (upd (upd (fun _ => none) 0 (some (.cells 2 [[cI base.Kind, cI base.N]]))) 1 (some (.cells 2 [[cI want01, cI want11]]))), 2⟩ → Q (.exit 2) s)
    (hr : ∀ s, Ends a9.results 0 (clerestorylaw2_AnimTells_post o) .ret s → Q .ret s) :
    Sv Try.prog Γ 0 a9_c3 Q ⟨(upd (upd (upd (upd (upd (upd (upd (fun _ => none) 0 (some (.c (.ro false 12 (l_.map e_TSAnim))))) 2 (some (I now))) 4 (some (.c (.ref 0 2 0 0)))) 7 (some (B r_))) 8 (some (I e_3))) 10 (some (.c (.ref 1 2 0 0)))) 11 (some (I i_1))), (upd (upd (fun _ => none) 0 (some (.cells 2 [[cI base.Kind, cI base.N]]))) 1 (some (.cells 2 [[cI want02, cI want12]]))), 2⟩ := by
  unfold clerestorylaw2_AnimTells_j5 at h
  refine Sv.region ?_
  refine un (a1 rfl ?_)
  refine un (a1 (v := (I (wi (i_1 + 1)))) rfl ?_)
  refine un (a1 rfl ?_)
  refine dnil ?_
  exact hself want02 want12 (wi (i_1 + 1)) h _ (weak_canon [0, 1] rfl (by decide) (by decide) (fun b h => absurd h (Nat.not_lt_zero _)) (.cons rfl (avAs_free rfl) (.cons rfl (.c (.ref rfl (by decide))) (.cons rfl (avAs_free rfl) (.cons rfl (avAs_free rfl) (.cons rfl (.c (.ref rfl (by decide))) (.cons rfl (avAs_free rfl) (.cons rfl (avAs_free rfl) .nil))))))) (.box (by decide) rfl (blkAs_cells (.cons (.same rfl) (.cons (.same rfl) .nil))) (.box (by decide) rfl (blkAs_cells (.cons (.same rfl) (.cons (.same rfl) .nil))) .nil)))
noncomputable def clerestorylaw2_AnimTells_l1 (l_ : (List TSAnim)) (e_3 : Int) (now : Int) (r_ : Bool) (base : TVal) (K2_ : Int → Int → Option Bool) : Nat → Int → Int → Int → Option Bool
  | 0, _, _, _ => none
  | k + 1, want0, want1, i_1 =>
    if ((decide (i_1 < (l_.length : Int))) && (decide (e_3 = 0))) then
      (at? l_ i_1).bind fun x_1 =>
      (clerestoryref2_AnimTells x_1 now).bind fun r_2 =>
      if r_2.2 then
        clerestorylaw2_AnimTells_j5 i_1 l_ now r_ e_3 base (clerestorylaw2_AnimTells_l1 l_ e_3 now r_ base K2_ k) K2_ r_2.1.Kind r_2.1.N
      else
        clerestorylaw2_AnimTells_j5 i_1 l_ now r_ e_3 base (clerestorylaw2_AnimTells_l1 l_ e_3 now r_ base K2_ k) K2_ want0 want1
    else
      K2_ want0 want1
theorem clerestorylaw2_AnimTells_l1_ok {Γ : Glob} {Q : AExit → St → Prop} {l_ : (List TSAnim)} {e_3 : Int} {now : Int} {r_ : Bool} {base : TVal} {K2_ : Int → Int → Option Bool} {k : Nat} {want0 : Int} {want1 : Int} {i_1 : Int} {o : Bool} (h : clerestorylaw2_AnimTells_l1 l_ e_3 now r_ base K2_ k want0 want1 i_1 = some o)
    (hK2 : ∀ (want01 : Int) (want11 : Int), K2_ want01 want11 = some o → ∀ s, Weak 0 s ⟨(upd (upd (upd (upd (upd (upd (fun _ => none) 0 (some (.c (.ro false 12 (l_.map e_TSAnim))))) 2 (some (I now))) 4 (some (.c (.ref 0 2 0 0)))) 7 (some (B r_))) 8 (some (I e_3))) 10 (some (.c (.ref 1 2 0 0)))), (upd (upd (fun _ => none) 0 (some (.cells 2 [[cI base.Kind, cI base.N]]))) 1 (some (.cells 2 [[cI want01, cI want11]]))), 2⟩ → Q (.exit 2) s)
    (hr : ∀ s, Ends a9.results 0 (clerestorylaw2_AnimTells_post o) .ret s → Q .ret s) :
    Sv Try.prog Γ 0 (.loop a9_c4) Q ⟨(upd (upd (upd (upd (upd (upd (upd (fun _ => none) 0 (some (.c (.ro false 12 (l_.map e_TSAnim))))) 2 (some (I now))) 4 (some (.c (.ref 0 2 0 0)))) 7 (some (B r_))) 8 (some (I e_3))) 10 (some (.c (.ref 1 2 0 0)))) 11 (some (I i_1))), (upd (upd (fun _ => none) 0 (some (.cells 2 [[cI base.Kind, cI base.N]]))) 1 (some (.cells 2 [[cI want0, cI want1]]))), 2⟩ := by
  refine Sv.loop (I := fun k s => ∃ (want0 : Int), ∃ (want1 : Int), ∃ (i_1 : Int), clerestorylaw2_AnimTells_l1 l_ e_3 now r_ base K2_ k want0 want1 i_1 = some o ∧ s = ⟨(upd (upd (upd (upd (upd (upd (upd (fun _ => none) 0 (some (.c (.ro false 12 (l_.map e_TSAnim))))) 2 (some (I now))) 4 (some (.c (.ref 0 2 0 0)))) 7 (some (B r_))) 8 (some (I e_3))) 10 (some (.c (.ref 1 2 0 0)))) 11 (some (I i_1))), (upd (upd (fun _ => none) 0 (some (.cells 2 [[cI base.Kind, cI base.N]]))) 1 (some (.cells 2 [[cI want0, cI want1]]))), 2⟩) (fun k s hI => ?_) ⟨want0, want1, i_1, h, rfl⟩
  clear h
  clear i_1 want1 want0
  obtain ⟨want0, want1, i_1, h, rfl⟩ := hI
  cases k with
  | zero => cases h
  | succ k =>
  rw [clerestorylaw2_AnimTells_l1] at h
  have hself : ∀ (want0 : Int) (want1 : Int) (i_1 : Int), (clerestorylaw2_AnimTells_l1 l_ e_3 now r_ base K2_ k) want0 want1 i_1 = some o → ∀ s, Weak 0 s ⟨(upd (upd (upd (upd (upd (upd (upd (fun _ => none) 0 (some (.c (.ro false 12 (l_.map e_TSAnim))))) 2 (some (I now))) 4 (some (.c (.ref 0 2 0 0)))) 7 (some (B r_))) 8 (some (I e_3))) 10 (some (.c (.ref 1 2 0 0)))) 11 (some (I i_1))), (upd (upd (fun _ => none) 0 (some (.cells 2 [[cI base.Kind, cI base.N]]))) 1 (some (.cells 2 [[cI want0, cI want1]]))), 2⟩ → (AThen (fun s' => ∃ s'' k', Weak 0 s' s'' ∧ k' < k + 1 ∧ (fun k s => ∃ (want0 : Int), ∃ (want1 : Int), ∃ (i_1 : Int), clerestorylaw2_AnimTells_l1 l_ e_3 now r_ base K2_ k want0 want1 i_1 = some o ∧ s = ⟨(upd (upd (upd (upd (upd (upd (upd (fun _ => none) 0 (some (.c (.ro false 12 (l_.map e_TSAnim))))) 2 (some (I now))) 4 (some (.c (.ref 0 2 0 0)))) 7 (some (B r_))) 8 (some (I e_3))) 10 (some (.c (.ref 1 2 0 0)))) 11 (some (I i_1))), (upd (upd (fun _ => none) 0 (some (.cells 2 [[cI base.Kind, cI base.N]]))) 1 (some (.cells 2 [[cI want0, cI want1]]))), 2⟩) k' s'') Q) .normal s := fun want0 want1 i_1 h s hw => ⟨_, k, hw, Nat.lt_succ_self k, want0, want1, i_1, h, rfl⟩
  refine Sv.seq ?_
  refine Sv.seq ?_
  refine Sv.region ?_
  refine un (a1 rfl ?_)
  refine un (a1 rfl ?_)
  refine un (a1 (v := (I (l_.length : Int))) (s_len (e := e_TSAnim) (xs := l_) rfl) ?_)
  refine un (a1 (v := (B (decide (i_1 < (l_.length : Int))))) rfl ?_)
  refine un (a1 rfl ?_)
  refine gjoin 3 (d := 53) (v := (B ((decide (i_1 < (l_.length : Int))) && (decide (e_3 = 0))))) (fun X hX => ?_) ?_
  · refine split2 (fun hc3 => ?_) (fun hc3 => ?_)
    · refine gt rfl (a1 rfl ?_)
      refine gt rfl (a1 (v := (B (decide (e_3 = 0)))) rfl ?_)
      refine un (a1 (v := (B (decide (e_3 = 0)))) rfl ?_)
      refine dnil ?_
      exact hX _ (.putEq (by rw [hc3]; rfl) (.skip _ _ (.skip _ _ (.putEq (by rw [hc3]) (.refl _)) rfl) rfl))
    · refine gs rfl rfl ?_
      refine gs rfl rfl ?_
      refine un (a1 (v := (B false)) rfl ?_)
      refine dnil ?_
      exact hX _ (.putEq (by rw [hc3]; rfl) (.skip _ _ (.skip _ _ (.putEq (by rw [hc3]) (.refl _)) rfl) rfl))
  refine dnil ?_
  refine Sv.cond (b := ((decide (i_1 < (l_.length : Int))) && (decide (e_3 = 0)))) rfl (fun hc4 => ?_) (fun hc4 => ?_)
  · replace h := ifT hc4 h
    refine Sv.skip ?_
    refine Sv.seq ?_
    refine Sv.block ?_
    refine Sv.seq ?_
    refine Sv.region ?_
    refine un (a1 rfl ?_)
    refine un (a1 rfl ?_)
    obtain ⟨x_1, hx2, h⟩ := bnd h
    refine un (a1 (v := (.c (.rop [cI x_1.From, cI x_1.Length, cI x_1.Times, cB x_1.Turn, cB x_1.Stays, cI x_1.Ease.Kind, cI x_1.Ease.Curve.a0, cI x_1.Ease.Curve.a1, cI x_1.Ease.Curve.a2, cI x_1.Ease.Curve.a3, cI x_1.Ease.N, .ro false 3 (x_1.Frames.map e_TSFrame)]))) (s_iaddr (e := e_TSAnim) (xs := l_) rfl rfl hx2) ?_)
    refine un (a1 (v := (.agg [cI x_1.From, cI x_1.Length, cI x_1.Times, cB x_1.Turn, cB x_1.Stays, cI x_1.Ease.Kind, cI x_1.Ease.Curve.a0, cI x_1.Ease.Curve.a1, cI x_1.Ease.Curve.a2, cI x_1.Ease.Curve.a3, cI x_1.Ease.N, .ro false 3 (x_1.Frames.map e_TSFrame)])) rfl ?_)
    refine un (a1 rfl ?_)
    obtain ⟨r_2, hr3, h⟩ := bnd h
    refine un (ac_pure (clerestoryref2_AnimTells_ok hr3) rfl rfl rfl ?_)
    refine un (a1 rfl ?_)
    refine un (a1 (v := (.agg [cI r_2.1.Kind, cI r_2.1.N])) rfl ?_)
    refine un (a1 (v := (B r_2.2)) rfl ?_)
    refine un (a2v (v := (.c (.ref 2 2 0 0))) (h' := upd _ 2 (some (.cells 2 [[cI 0, cI 0]]))) (n' := 3) rfl rfl (fun h => by cases h) ?_)
    refine un (a2n (h' := upd _ 2 (some (.cells 2 [[cI r_2.1.Kind, cI r_2.1.N]]))) (n' := 3) rfl rfl (fun h => by cases h) ?_)
    refine un (a1 rfl ?_)
    refine dnil ?_
    refine Sv.seq ?_
    refine Sv.region ?_
    refine un (a1 rfl ?_)
    refine dnil ?_
    refine Sv.cond (b := r_2.2) rfl (fun hc5 => ?_) (fun hc5 => ?_)
    · replace h := ifT hc5 h
      refine Sv.region ?_
      refine un (a1 (v := (.agg [cI r_2.1.Kind, cI r_2.1.N])) rfl ?_)
      refine un (a2n (h' := upd _ 1 (some (.cells 2 [[cI r_2.1.Kind, cI r_2.1.N]]))) (n' := 3) rfl rfl (fun h => by cases h) ?_)
      refine dnil ?_
      exact Sv.weak (weak_canon [0, 1] rfl (by decide) (by decide) (fun b h => absurd h (Nat.not_lt_zero _)) (.cons rfl (avAs_free rfl) (.cons rfl (.c (.ref rfl (by decide))) (.cons rfl (avAs_free rfl) (.cons rfl (avAs_free rfl) (.cons rfl (.c (.ref rfl (by decide))) (.cons rfl (avAs_free rfl) (.cons rfl (avAs_free rfl) .nil))))))) (.box (by decide) rfl (blkAs_cells (.cons (.same rfl) (.cons (.same rfl) .nil))) (.box (by decide) rfl (blkAs_cells (.cons (.same rfl) (.cons (.same rfl) .nil))) .nil))) (clerestorylaw2_AnimTells_j5_ok h hself hK2 hr)
    · replace h := ifF hc5 h
      refine Sv.skip ?_
      exact Sv.weak (weak_canon [0, 1] rfl (by decide) (by decide) (fun b h => absurd h (Nat.not_lt_zero _)) (.cons rfl (avAs_free rfl) (.cons rfl (.c (.ref rfl (by decide))) (.cons rfl (avAs_free rfl) (.cons rfl (avAs_free rfl) (.cons rfl (.c (.ref rfl (by decide))) (.cons rfl (avAs_free rfl) (.cons rfl (avAs_free rfl) .nil))))))) (.box (by decide) rfl (blkAs_cells (.cons (.same rfl) (.cons (.same rfl) .nil))) (.box (by decide) rfl (blkAs_cells (.cons (.same rfl) (.cons (.same rfl) .nil))) .nil))) (clerestorylaw2_AnimTells_j5_ok h hself hK2 hr)
  · replace h := ifF hc4 h
    refine Sv.exit ?_
    exact hK2 want0 want1 h _ (weak_canon [0, 1] rfl (by decide) (by decide) (fun b h => absurd h (Nat.not_lt_zero _)) (.cons rfl (.c (.ref rfl (by decide))) (.cons rfl (avAs_free rfl) (.cons rfl (avAs_free rfl) (.cons rfl (.c (.ref rfl (by decide))) (.cons rfl (avAs_free rfl) (.cons rfl (avAs_free rfl) .nil)))))) (.box (by decide) rfl (blkAs_cells (.cons (.same rfl) (.cons (.same rfl) .nil))) (.box (by decide) rfl (blkAs_cells (.cons (.same rfl) (.cons (.same rfl) .nil))) .nil)))
noncomputable def clerestorylaw2_AnimTells_j6 (l_ : (List TSAnim)) (base : TVal) (now : Int) (r_ : Bool) (e_3 : Int) (want03 : Int) (want13 : Int) : Option Bool :=
  (anim_At l_ base now).bind fun r_3 =>
  some ((r_ && (decide (r_3.1.Kind = want03) && (decide (r_3.1.N = want13) && true))) && (decide (e_3 = r_3.2)))
theorem clerestorylaw2_AnimTells_j6_ok {Γ : Glob} {l_ : (List TSAnim)} {base : TVal} {now : Int} {r_ : Bool} {e_3 : Int} {want03 : Int} {want13 : Int} {o : Bool} (h : clerestorylaw2_AnimTells_j6 l_ base now r_ e_3 want03 want13 = some o) :
    Sv Try.prog Γ 0 a9_c5 (Ends a9.results 0 (clerestorylaw2_AnimTells_post o)) ⟨(upd (upd (upd (upd (upd (upd (fun _ => none) 0 (some (.c (.ro false 12 (l_.map e_TSAnim))))) 2 (some (I now))) 4 (some (.c (.ref 0 2 0 0)))) 7 (some (B r_))) 8 (some (I e_3))) 10 (some (.c (.ref 1 2 0 0)))), (upd (upd (fun _ => none) 0 (some (.cells 2 [[cI base.Kind, cI base.N]]))) 1 (some (.cells 2 [[cI want03, cI want13]]))), 2⟩ := by
  unfold clerestorylaw2_AnimTells_j6 at h
  refine Sv.seq ?_
  refine Sv.region ?_
  refine un (a1 rfl ?_)
  refine un (a1 (v := (.agg [cI base.Kind, cI base.N])) rfl ?_)
  refine un (a1 rfl ?_)
  obtain ⟨r_3, hr4, h⟩ := bnd h
  refine un (ac_pure (anim_At_ok hr4) rfl rfl rfl ?_)
  refine un (a1 rfl ?_)
  refine un (a1 (v := (.agg [cI r_3.1.Kind, cI r_3.1.N])) rfl ?_)
  refine un (a1 (v := (I r_3.2)) rfl ?_)
  refine un (a2v (v := (.c (.ref 2 2 0 0))) (h' := upd _ 2 (some (.cells 2 [[cI 0, cI 0]]))) (n' := 3) rfl rfl (fun h => by cases h) ?_)
  refine un (a2n (h' := upd _ 2 (some (.cells 2 [[cI r_3.1.Kind, cI r_3.1.N]]))) (n' := 3) rfl rfl (fun h => by cases h) ?_)
  refine un (a1 rfl ?_)
  refine dnil ?_
  refine Sv.seq ?_
  refine Sv.region ?_
  refine un (a1 rfl ?_)
  refine un (a1 rfl ?_)
  refine gjoin 4 (d := 82) (v := (B (r_ && (decide (r_3.1.Kind = want03) && (decide (r_3.1.N = want13) && true))))) (fun X hX => ?_) ?_
  · refine split2 (fun hc6 => ?_) (fun hc6 => ?_)
    · refine gt rfl (a1 (v := (.agg [cI r_3.1.Kind, cI r_3.1.N])) rfl ?_)
      refine gt rfl (a1 (v := (.agg [cI want03, cI want13])) rfl ?_)
      refine gt rfl (a1 (v := (B (decide (r_3.1.Kind = want03) && (decide (r_3.1.N = want13) && true)))) rfl ?_)
      refine un (a1 (v := (B (decide (r_3.1.Kind = want03) && (decide (r_3.1.N = want13) && true)))) rfl ?_)
      refine dnil ?_
      exact hX _ (.putEq (by rw [hc6]; rfl) (.skip _ _ (.skip _ _ (.skip _ _ (.putEq (by rw [hc6]) (.refl _)) rfl) rfl) rfl))
    · refine gs rfl rfl ?_
      refine gs rfl rfl ?_
      refine gs rfl rfl ?_
      refine un (a1 (v := (B false)) rfl ?_)
      refine dnil ?_
      exact hX _ (.putEq (by rw [hc6]; rfl) (.skip _ _ (.skip _ _ (.skip _ _ (.putEq (by rw [hc6]) (.refl _)) rfl) rfl) rfl))
  refine un (a1 rfl ?_)
  refine gjoin 4 (d := 87) (v := (B ((r_ && (decide (r_3.1.Kind = want03) && (decide (r_3.1.N = want13) && true))) && (decide (e_3 = r_3.2))))) (fun X hX => ?_) ?_
  · refine split2 (fun hc7 => ?_) (fun hc7 => ?_)
    · refine gt rfl (a1 rfl ?_)
      refine gt rfl (a1 rfl ?_)
      refine gt rfl (a1 (v := (B (decide (e_3 = r_3.2)))) rfl ?_)
      refine un (a1 (v := (B (decide (e_3 = r_3.2)))) rfl ?_)
      refine dnil ?_
      exact hX _ (.putEq (by rw [hc7]; rfl) (.skip _ _ (.skip _ _ (.skip _ _ (.putEq (by rw [hc7]) (.refl _)) rfl) rfl) rfl))
    · refine gs rfl rfl ?_
      refine gs rfl rfl ?_
      refine gs rfl rfl ?_
      refine un (a1 (v := (B false)) rfl ?_)
      refine dnil ?_
      exact hX _ (.putEq (by rw [hc7]; rfl) (.skip _ _ (.skip _ _ (.skip _ _ (.putEq (by rw [hc7]) (.refl _)) rfl) rfl) rfl))
  refine un (a1 rfl ?_)
  refine dnil ?_
  refine Sv.ret ?_
  replace h := Option.some.inj h
  subst h
  exact ⟨_, .refl _, _, rfl, ⟨upd (fun _ => none) 0 (some (B ((r_ && (decide (r_3.1.Kind = want03) && (decide (r_3.1.N = want13) && true))) && (decide (e_3 = r_3.2))))), (fun _ => none), 0⟩, (B ((r_ && (decide (r_3.1.Kind = want03) && (decide (r_3.1.N = want13) && true))) && (decide (e_3 = r_3.2)))), weak_canon [] rfl List.nodup_nil (Nat.le_refl _) (fun b h => absurd h (Nat.not_lt_zero _)) (.cons rfl (avAs_free rfl) .nil) .nil, rfl, rfl, rfl, rfl⟩
noncomputable def clerestorylaw2_AnimTells_j2 (l_ : (List TSAnim)) (now : Int) (r_ : Bool) (base : TVal) (e_3 : Int) : Option Bool :=
  lim fun kk => clerestorylaw2_AnimTells_l1 l_ e_3 now r_ base (fun (want01 : Int) (want11 : Int) => 
      if (!decide (e_3 = 0)) then
        clerestorylaw2_AnimTells_j6 l_ base now r_ e_3 0 0
      else
        clerestorylaw2_AnimTells_j6 l_ base now r_ e_3 want01 want11) kk base.Kind base.N 0
theorem clerestorylaw2_AnimTells_j2_ok {Γ : Glob} {l_ : (List TSAnim)} {now : Int} {r_ : Bool} {base : TVal} {e_3 : Int} {o : Bool} (h : clerestorylaw2_AnimTells_j2 l_ now r_ base e_3 = some o) :
    Sv Try.prog Γ 0 a9_c2 (Ends a9.results 0 (clerestorylaw2_AnimTells_post o)) ⟨(upd (upd (upd (upd (upd (fun _ => none) 0 (some (.c (.ro false 12 (l_.map e_TSAnim))))) 2 (some (I now))) 4 (some (.c (.ref 0 2 0 0)))) 7 (some (B r_))) 8 (some (I e_3))), (upd (fun _ => none) 0 (some (.cells 2 [[cI base.Kind, cI base.N]]))), 1⟩ := by
  unfold clerestorylaw2_AnimTells_j2 at h
  refine Sv.seq ?_
  refine Sv.region ?_
  refine un (a1 (v := (.agg [cI base.Kind, cI base.N])) rfl ?_)
  refine un (a2v (v := (.c (.ref 1 2 0 0))) (h' := upd _ 1 (some (.cells 2 [[cI 0, cI 0]]))) (n' := 2) rfl rfl (fun h => by cases h) ?_)
  refine un (a2n (h' := upd _ 1 (some (.cells 2 [[cI base.Kind, cI base.N]]))) (n' := 2) rfl rfl (fun h => by cases h) ?_)
  refine dnil ?_
  refine Sv.seq ?_
  refine Sv.seq ?_
  refine Sv.region ?_
  refine un (a1 rfl ?_)
  refine dnil ?_
  refine Sv.block ?_
  obtain ⟨kk, h⟩ := lim_some h
  refine Sv.weak (weak_canon [0, 1] rfl (by decide) (by decide) (fun b h => absurd h (Nat.not_lt_zero _)) (.cons rfl (avAs_free rfl) (.cons rfl (.c (.ref rfl (by decide))) (.cons rfl (avAs_free rfl) (.cons rfl (avAs_free rfl) (.cons rfl (.c (.ref rfl (by decide))) (.cons rfl (avAs_free rfl) (.cons rfl (avAs_free rfl) .nil))))))) (.box (by decide) rfl (blkAs_cells (.cons (.same rfl) (.cons (.same rfl) .nil))) (.box (by decide) rfl (blkAs_cells (.cons (.same rfl) (.cons (.same rfl) .nil))) .nil))) (clerestorylaw2_AnimTells_l1_ok h ?_ (fun s hs => hs))
  · intro want01 want11 h _ hw2
    refine Sv.weak hw2 ?_
    refine Sv.seq ?_
    refine Sv.seq ?_
    refine Sv.region ?_
    refine un (a1 rfl ?_)
    refine un (a1 (v := (B (!decide (e_3 = 0)))) rfl ?_)
    refine dnil ?_
    refine Sv.cond (b := (!decide (e_3 = 0))) rfl (fun hc8 => ?_) (fun hc8 => ?_)
    · replace h := ifT hc8 h
      refine Sv.region ?_
      refine un (a1 (v := (.agg [cI 0, cI 0])) rfl ?_)
      refine un (a2n (h' := upd _ 1 (some (.cells 2 [[cI 0, cI 0]]))) (n' := 2) rfl rfl (fun h => by cases h) ?_)
      refine dnil ?_
      exact Sv.weak (weak_canon [0, 1] rfl (by decide) (by decide) (fun b h => absurd h (Nat.not_lt_zero _)) (.cons rfl (.c (.ref rfl (by decide))) (.cons rfl (avAs_free rfl) (.cons rfl (avAs_free rfl) (.cons rfl (.c (.ref rfl (by decide))) (.cons rfl (avAs_free rfl) (.cons rfl (avAs_free rfl) .nil)))))) (.box (by decide) rfl (blkAs_cells (.cons (.same rfl) (.cons (.same rfl) .nil))) (.box (by decide) rfl (blkAs_cells (.cons (.same rfl) (.cons (.same rfl) .nil))) .nil))) (clerestorylaw2_AnimTells_j6_ok h)
    · replace h := ifF hc8 h
      refine Sv.skip ?_
      exact Sv.weak (weak_canon [0, 1] rfl (by decide) (by decide) (fun b h => absurd h (Nat.not_lt_zero _)) (.cons rfl (.c (.ref rfl (by decide))) (.cons rfl (avAs_free rfl) (.cons rfl (avAs_free rfl) (.cons rfl (.c (.ref rfl (by decide))) (.cons rfl (avAs_free rfl) (.cons rfl (avAs_free rfl) .nil)))))) (.box (by decide) rfl (blkAs_cells (.cons (.same rfl) (.cons (.same rfl) .nil))) (.box (by decide) rfl (blkAs_cells (.cons (.same rfl) (.cons (.same rfl) .nil))) .nil))) (clerestorylaw2_AnimTells_j6_ok h)
noncomputable def clerestorylaw2_AnimTells_j1 (l_ : (List TSAnim)) (now : Int) (r_ : Bool) (base : TVal) (e_ : Int) : Option Bool :=
  lim fun kk1 => clerestorylaw2_AnimTells_l0 l_ now r_ base (fun (e_2 : Int) => 
      if ((decide (e_2 = 0)) && ((decide (now < 0)) || (decide (200000000000 < now)))) then
        clerestorylaw2_AnimTells_j2 l_ now r_ base 1
      else
        clerestorylaw2_AnimTells_j2 l_ now r_ base e_2) kk1 e_ 0
theorem clerestorylaw2_AnimTells_j1_ok {Γ : Glob} {l_ : (List TSAnim)} {now : Int} {r_ : Bool} {base : TVal} {e_ : Int} {o : Bool} (h : clerestorylaw2_AnimTells_j1 l_ now r_ base e_ = some o) :
    Sv Try.prog Γ 0 a9_c0 (Ends a9.results 0 (clerestorylaw2_AnimTells_post o)) ⟨(upd (upd (upd (upd (upd (fun _ => none) 0 (some (.c (.ro false 12 (l_.map e_TSAnim))))) 2 (some (I now))) 4 (some (.c (.ref 0 2 0 0)))) 7 (some (B r_))) 8 (some (I e_))), (upd (fun _ => none) 0 (some (.cells 2 [[cI base.Kind, cI base.N]]))), 1⟩ := by
  unfold clerestorylaw2_AnimTells_j1 at h
  refine Sv.seq ?_
  refine Sv.seq ?_
  refine Sv.region ?_
  refine un (a1 rfl ?_)
  refine dnil ?_
  refine Sv.block ?_
  obtain ⟨kk1, h⟩ := lim_some h
  refine Sv.weak (weak_canon [0] rfl (by decide) (by decide) (fun b h => absurd h (Nat.not_lt_zero _)) (.cons rfl (avAs_free rfl) (.cons rfl (avAs_free rfl) (.cons rfl (avAs_free rfl) (.cons rfl (.c (.ref rfl (by decide))) (.cons rfl (avAs_free rfl) (.cons rfl (avAs_free rfl) .nil)))))) (.box (by decide) rfl (blkAs_cells (.cons (.same rfl) (.cons (.same rfl) .nil))) .nil)) (clerestorylaw2_AnimTells_l0_ok h ?_ (fun s hs => hs))
  · intro e_2 h _ hw1
    refine Sv.weak hw1 ?_
    refine Sv.seq ?_
    refine Sv.seq ?_
    refine Sv.region ?_
    refine un (a1 rfl ?_)
    refine un (a1 (v := (B (decide (e_2 = 0)))) rfl ?_)
    refine un (a1 rfl ?_)
    refine gjoin 7 (d := 44) (v := (B ((decide (e_2 = 0)) && ((decide (now < 0)) || (decide (200000000000 < now)))))) (fun X hX => ?_) ?_
    · refine split2 (fun hc10 => ?_) (fun hc10 => ?_)
      · refine gt rfl (a1 rfl ?_)
        refine gt rfl (a1 (v := (B (decide (now < 0)))) rfl ?_)
        refine gt rfl (a1 rfl ?_)
        refine gjoin 3 (d := 43) (v := (B ((decide (now < 0)) || (decide (200000000000 < now))))) (fun X hX => ?_) ?_
        · refine split2 (fun hc9 => ?_) (fun hc9 => ?_)
          · refine gs rfl rfl ?_
            refine gs rfl rfl ?_
            refine gt rfl (a1 (v := (B true)) rfl ?_)
            refine dnil ?_
            exact hX _ (.putEq (by rw [hc9]; rfl) (.skip _ _ (.skip _ _ (.putEq (by rw [hc9]) (.refl _)) rfl) rfl))
          · refine gt rfl (a1 rfl ?_)
            refine gt rfl (a1 (v := (B (decide (200000000000 < now)))) rfl ?_)
            refine gt rfl (a1 (v := (B (decide (200000000000 < now)))) rfl ?_)
            refine dnil ?_
            exact hX _ (.putEq (by rw [hc9]; rfl) (.skip _ _ (.skip _ _ (.putEq (by rw [hc9]) (.refl _)) rfl) rfl))
        refine un (a1 (v := (B ((decide (now < 0)) || (decide (200000000000 < now))))) rfl ?_)
        refine dnil ?_
        exact hX _ (.putEq (by rw [hc10]; rfl) (.skip _ _ (.skip _ _ (.skip _ _ (.skip _ _ (.putEq (by rw [hc10]) (.refl _)) rfl) rfl) rfl) rfl))
      · refine gs rfl rfl ?_
        refine gs rfl rfl ?_
        refine gs rfl rfl ?_
        refine gu rfl ?_
        refine gu rfl ?_
        refine gs rfl rfl ?_
        refine un (a1 (v := (B false)) rfl ?_)
        refine dnil ?_
        exact hX _ (.putEq (by rw [hc10]; rfl) (.skip _ _ (.skip _ _ (.skip _ _ (.skip _ _ (.skip _ _ (.skip _ _ (.putEq (by rw [hc10]) (.refl _)) rfl) rfl) rfl) rfl) rfl) rfl))
    refine dnil ?_
    refine Sv.cond (b := ((decide (e_2 = 0)) && ((decide (now < 0)) || (decide (200000000000 < now))))) rfl (fun hc11 => ?_) (fun hc11 => ?_)
    · replace h := ifT hc11 h
      refine Sv.region ?_
      refine un (a1 rfl ?_)
      refine dnil ?_
      exact Sv.weak (weak_canon [0] rfl (by decide) (by decide) (fun b h => absurd h (Nat.not_lt_zero _)) (.cons rfl (avAs_free rfl) (.cons rfl (avAs_free rfl) (.cons rfl (.c (.ref rfl (by decide))) (.cons rfl (avAs_free rfl) (.cons rfl (avAs_free rfl) .nil))))) (.box (by decide) rfl (blkAs_cells (.cons (.same rfl) (.cons (.same rfl) .nil))) .nil)) (clerestorylaw2_AnimTells_j2_ok h)
    · replace h := ifF hc11 h
      refine Sv.skip ?_
      exact Sv.weak (weak_canon [0] rfl (by decide) (by decide) (fun b h => absurd h (Nat.not_lt_zero _)) (.cons rfl (avAs_free rfl) (.cons rfl (avAs_free rfl) (.cons rfl (.c (.ref rfl (by decide))) (.cons rfl (avAs_free rfl) (.cons rfl (avAs_free rfl) .nil))))) (.box (by decide) rfl (blkAs_cells (.cons (.same rfl) (.cons (.same rfl) .nil))) .nil)) (clerestorylaw2_AnimTells_j2_ok h)
/-- clerestory/clerestorylaw2.AnimTells -/
noncomputable def clerestorylaw2_AnimTells (l_ : (List TSAnim)) (base : TVal) (now : Int) : Option Bool :=
  (clerestorylaw2_stepped).bind fun r_ =>
  if decide (10 < (l_.length : Int)) then
    clerestorylaw2_AnimTells_j1 l_ now r_ base 2
  else
    clerestorylaw2_AnimTells_j1 l_ now r_ base 0
theorem clerestorylaw2_AnimTells_ok {Γ : Glob} {l_ : (List TSAnim)} {base : TVal} {now : Int} {r : Bool} (h : clerestorylaw2_AnimTells l_ base now = some r) : CPure Try.prog Γ 9 [(.c (.ro false 12 (l_.map e_TSAnim))), (.agg [cI base.Kind, cI base.N]), (I now)] (B r) := by
  refine acalls_of_sv hmix c9 (R := clerestorylaw2_AnimTells_post r) ?_
  unfold clerestorylaw2_AnimTells at h
  refine Sv.seq ?_
  refine Sv.region ?_
  refine un (a2v (v := (.c (.ref 0 2 0 0))) (h' := upd _ 0 (some (.cells 2 [[cI base.Kind, cI base.N]]))) (n' := 1) rfl rfl (fun h => by cases h) ?_)
  refine un (a1 rfl ?_)
  refine dnil ?_
  refine Sv.seq ?_
  refine Sv.region ?_
  obtain ⟨r_, hr1, h⟩ := bnd h
  refine un (ac_pure (clerestorylaw2_stepped_ok hr1) rfl rfl rfl ?_)
  refine un (a1 rfl ?_)
  refine dnil ?_
  refine Sv.seq ?_
  refine Sv.region ?_
  refine un (a1 rfl ?_)
  refine dnil ?_
  refine Sv.seq ?_
  refine Sv.seq ?_
  refine Sv.region ?_
  refine un (a1 rfl ?_)
  refine un (a1 (v := (I (l_.length : Int))) (s_len (e := e_TSAnim) (xs := l_) rfl) ?_)
  refine un (a1 (v := (B (decide (10 < (l_.length : Int))))) rfl ?_)
  refine dnil ?_
  refine Sv.cond (b := decide (10 < (l_.length : Int))) rfl (fun hc12 => ?_) (fun hc12 => ?_)
  · replace h := ifT hc12 h
    refine Sv.region ?_
    refine un (a1 rfl ?_)
    refine dnil ?_
    exact Sv.weak (weak_canon [0] rfl (by decide) (by decide) (fun b h => absurd h (Nat.not_lt_zero _)) (.cons rfl (avAs_free rfl) (.cons rfl (avAs_free rfl) (.cons rfl (.c (.ref rfl (by decide))) (.cons rfl (avAs_free rfl) (.cons rfl (avAs_free rfl) .nil))))) (.box (by decide) rfl (blkAs_cells (.cons (.same rfl) (.cons (.same rfl) .nil))) .nil)) (clerestorylaw2_AnimTells_j1_ok h)
  · replace h := ifF hc12 h
    refine Sv.skip ?_
    exact Sv.weak (weak_canon [0] rfl (by decide) (by decide) (fun b h => absurd h (Nat.not_lt_zero _)) (.cons rfl (avAs_free rfl) (.cons rfl (avAs_free rfl) (.cons rfl (.c (.ref rfl (by decide))) (.cons rfl (avAs_free rfl) (.cons rfl (avAs_free rfl) .nil))))) (.box (by decide) rfl (blkAs_cells (.cons (.same rfl) (.cons (.same rfl) .nil))) .nil)) (clerestorylaw2_AnimTells_j1_ok h)
end Go.Proofs.YtgfcmhomndofaaaBv
