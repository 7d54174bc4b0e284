/- Printed by a program of mine (bgen.py): plain functions, and the walks that show that the code comes to what they answer. -/
import Derived.Test.YtgfcmhomndofaaaRows
import Derived.Test.YtgfcmhomndofaaaBv22
namespace Go.Proofs.YtgfcmhomndofaaaBv
open Go
set_option linter.unusedVariables false
set_option maxRecDepth 100000
theorem hmix : Try.prog.follows .mixedOrders = true := by kernel_rfl
structure TSEase where
  Kind : Int
  Curve : (Ar4 Int)
  N : Int
def e_TSEase (x : TSEase) : List Cel := [cI x.Kind, cI x.Curve.a0, cI x.Curve.a1, cI x.Curve.a2, cI x.Curve.a3, cI x.N]
structure TVal where
  Kind : Int
  N : Int
def e_TVal (x : TVal) : List Cel := [cI x.Kind, cI x.N]
structure TSFrame where
  At : Int
  Val : TVal
def e_TSFrame (x : TSFrame) : List Cel := [cI x.At, cI x.Val.Kind, cI x.Val.N]
structure TSAnim where
  From : Int
  Length : Int
  Times : Int
  Turn : Bool
  Stays : Bool
  Ease : TSEase
  Frames : (List TSFrame)
def e_TSAnim (x : TSAnim) : List Cel := [cI x.From, cI x.Length, cI x.Times, cB x.Turn, cB x.Stays, cI x.Ease.Kind, cI x.Ease.Curve.a0, cI x.Ease.Curve.a1, cI x.Ease.Curve.a2, cI x.Ease.Curve.a3, cI x.Ease.N, .ro false 3 (x.Frames.map e_TSFrame)]
def a40 : AFunc := ⟨3, [(.tmp 6)], (.seq (.region [⟨(some 6), (.mov (.const (.c (.val (.bool false))))), none⟩])
 (.seq (.region [⟨(some 7), (.mov (.tmp 0)), none⟩, ⟨(some 8), (.mov (.tmp 1)), none⟩, ⟨(some 9), (.bin .geq (.tmp 7) (.tmp 8)), none⟩, ⟨(some 10), (.mov (.tmp 9)), none⟩, ⟨(some 11), (.mov (.tmp 0)), (some (10, true))⟩, ⟨(some 12), (.mov (.tmp 2)), (some (10, true))⟩, ⟨(some 13), (.bin .leq (.tmp 11) (.tmp 12)), (some (10, true))⟩, ⟨(some 14), (.pick (.tmp 10) (.tmp 13) (.const (.c (.val (.bool false))))), none⟩, ⟨(some 6), (.mov (.tmp 14)), none⟩])
 .ret))⟩
set_option maxRecDepth 100000 in
theorem c40 : compFunc Try.prog 40 = some a40 := by kernel_rfl
def anim_in_post (r : Bool) : AV → Heap → Nat → Prop := fun v h' n' => v = (B r) ∧ (h' = (fun _ => none)) ∧ n' = 0
/-- clerestory/anim.in -/
def anim_in (n_ : Int) (low : Int) (high : Int) : Bool :=
  ((decide (low ≤ n_)) && (decide (n_ ≤ high)))
theorem anim_in_ok {Γ : Glob} (n_ : Int) (low : Int) (high : Int) : CPure Try.prog Γ 40 [(I n_), (I low), (I high)] (B (anim_in n_ low high)) := by
  generalize h : anim_in n_ low high = o
  refine acalls_of_sv hmix c40 (R := anim_in_post o) ?_
  unfold anim_in at h
  refine Sv.seq ?_
  refine Sv.region ?_
  refine un (a1 rfl ?_)
  refine dnil ?_
  refine Sv.seq ?_
  refine Sv.region ?_
  refine un (a1 rfl ?_)
  refine un (a1 rfl ?_)
  refine un (a1 (v := (B (decide (low ≤ n_)))) rfl ?_)
  refine un (a1 rfl ?_)
  refine gjoin 4 (d := 14) (v := (B ((decide (low ≤ n_)) && (decide (n_ ≤ high))))) (fun X hX => ?_) ?_
  · refine split2 (fun hc1 => ?_) (fun hc1 => ?_)
    · refine gt rfl (a1 rfl ?_)
      refine gt rfl (a1 rfl ?_)
      refine gt rfl (a1 (v := (B (decide (n_ ≤ high)))) rfl ?_)
      refine un (a1 (v := (B (decide (n_ ≤ high)))) rfl ?_)
      refine dnil ?_
      exact hX _ (.putEq (by rw [hc1]; rfl) (.skip _ _ (.skip _ _ (.skip _ _ (.putEq (by rw [hc1]) (.refl _)) rfl) rfl) rfl))
    · refine gs rfl rfl ?_
      refine gs rfl rfl ?_
      refine gs rfl rfl ?_
      refine un (a1 (v := (B false)) rfl ?_)
      refine dnil ?_
      exact hX _ (.putEq (by rw [hc1]; rfl) (.skip _ _ (.skip _ _ (.skip _ _ (.putEq (by rw [hc1]) (.refl _)) rfl) rfl) rfl))
  refine un (a1 rfl ?_)
  refine dnil ?_
  refine Sv.ret ?_
  subst h
  exact ⟨_, .refl _, _, rfl, ⟨upd (fun _ => none) 0 (some (B ((decide (low ≤ n_)) && (decide (n_ ≤ high))))), (fun _ => none), 0⟩, (B ((decide (low ≤ n_)) && (decide (n_ ≤ high)))), weak_canon [] rfl List.nodup_nil (Nat.le_refl _) (fun b h => absurd h (Nat.not_lt_zero _)) (.cons rfl (avAs_free rfl) .nil) .nil, rfl, rfl, rfl, rfl⟩
def a39_c0 : ACode := (.seq (.region [⟨(some 28), (.bin .lss (.tmp 27) (.const (.c (.val (.int .i64 4))))), none⟩])
 (.seq (.cond (.tmp 28) .skip (.exit 1))
 (.seq (.block 2 (.seq (.region [⟨(some 29), (.idxA false 4 1 (.tmp 26) (.tmp 27)), none⟩, ⟨(some 4), (.mov (.tmp 29)), none⟩])
 (.seq (.region [⟨(some 30), (.mov (.tmp 4)), none⟩, ⟨(some 31), (.call 40 [(.tmp 30), (.const (.c (.val (.int .i64 0)))), (.const (.c (.val (.int .i64 1000))))]), none⟩, ⟨(some 32), (.un .not (.tmp 31)), none⟩])
 (.cond (.tmp 32) (.seq (.region [⟨(some 2), (.mov (.const (.c (.val (.bool false))))), none⟩])
 .ret) .skip))))
 (.region [⟨(some 33), (.bin .add (.tmp 27) (.const (.c (.val (.int .i64 1))))), none⟩, ⟨(some 27), (.mov (.tmp 33)), none⟩]))))
def a39 : AFunc := ⟨1, [(.tmp 2)], (.seq (.region [⟨(some 1), (.box (.tmp 0)), none⟩, ⟨(some 2), (.mov (.const (.c (.val (.bool false))))), none⟩])
 (.seq (.seq (.region [⟨(some 5), (.faddr 0 (.tmp 1)), none⟩, ⟨(some 6), (.load false 1 (.tmp 5)), none⟩])
 (.block 0 (.seq (.region [⟨(some 8), (.bin .eql (.tmp 6) (.const (.c (.val (.int .i64 1))))), none⟩, ⟨(some 7), (.mov (.tmp 8)), none⟩])
 (.cond (.tmp 7) (.seq (.region [⟨(some 9), (.load true 6 (.tmp 1)), none⟩, ⟨(some 10), (.build [(.val (.int .i64 0)), (.val (.int .i64 0)), (.val (.int .i64 0)), (.val (.int .i64 0)), (.val (.int .i64 0)), (.val (.int .i64 0))] [(0, (1, (.const (.c (.val (.int .i64 1))))))]), none⟩, ⟨(some 11), (.eqs false true [.i, .i, .i, .i, .i, .i] (.tmp 9) (.tmp 10)), none⟩, ⟨(some 2), (.mov (.tmp 11)), none⟩])
 .ret) (.seq (.region [⟨(some 13), (.bin .eql (.tmp 6) (.const (.c (.val (.int .i64 3))))), none⟩, ⟨(some 12), (.mov (.tmp 13)), none⟩])
 (.cond (.tmp 12) (.seq (.region [⟨(some 14), (.faddr 5 (.tmp 1)), none⟩, ⟨(some 15), (.load false 1 (.tmp 14)), none⟩, ⟨(some 16), (.call 40 [(.tmp 15), (.const (.c (.val (.int .i64 1)))), (.const (.c (.val (.int .i64 1000))))]), none⟩, ⟨(some 17), (.mov (.tmp 16)), none⟩, ⟨(some 18), (.faddr 1 (.tmp 1)), (some (17, true))⟩, ⟨(some 19), (.load true 4 (.tmp 18)), (some (17, true))⟩, ⟨(some 20), (.build [(.val (.int .i64 0)), (.val (.int .i64 0)), (.val (.int .i64 0)), (.val (.int .i64 0))] []), (some (17, true))⟩, ⟨(some 21), (.eqs false true [.i, .i, .i, .i] (.tmp 19) (.tmp 20)), (some (17, true))⟩, ⟨(some 22), (.pick (.tmp 17) (.tmp 21) (.const (.c (.val (.bool false))))), none⟩, ⟨(some 2), (.mov (.tmp 22)), none⟩])
 .ret) (.seq (.region [⟨(some 24), (.bin .eql (.tmp 6) (.const (.c (.val (.int .i64 2))))), none⟩, ⟨(some 23), (.mov (.tmp 24)), none⟩])
 (.cond (.tmp 23) (.seq (.seq (.region [⟨(some 25), (.faddr 1 (.tmp 1)), none⟩, ⟨(some 26), (.load true 4 (.tmp 25)), none⟩, ⟨(some 27), (.mov (.const (.c (.val (.int .i64 0))))), none⟩])
 (.block 1 (.loop a39_c0)))
 (.seq (.region [⟨(some 34), (.faddr 5 (.tmp 1)), none⟩, ⟨(some 35), (.load false 1 (.tmp 34)), none⟩, ⟨(some 36), (.bin .eql (.tmp 35) (.const (.c (.val (.int .i64 0))))), none⟩, ⟨(some 2), (.mov (.tmp 36)), none⟩])
 .ret)) .skip))))))))
 (.seq (.region [⟨(some 2), (.mov (.const (.c (.val (.bool false))))), none⟩])
 .ret)))⟩
set_option maxRecDepth 100000 in
theorem c39 : compFunc Try.prog 39 = some a39 := by kernel_rfl
def anim_easing_post (r : Bool) : AV → Heap → Nat → Prop := fun v h' n' => v = (B r) ∧ (h' = (fun _ => none)) ∧ n' = 0
noncomputable def anim_easing_l0 (e_ : TSEase) (K1_ : Unit → Option Bool) : Nat → Int → Option Bool
  | 0, _ => none
  | k + 1, v27 =>
    if decide (v27 < 4) then
      (at? [e_.Curve.a0, e_.Curve.a1, e_.Curve.a2, e_.Curve.a3] v27).bind fun x_ =>
      if (!(anim_in x_ 0 1000)) then
        some false
      else
        (anim_easing_l0 e_ K1_ k) (wi (v27 + 1))
    else
      K1_ ()
theorem anim_easing_l0_ok {Γ : Glob} {Q : AExit → St → Prop} {e_ : TSEase} {K1_ : Unit → Option Bool} {k : Nat} {v27 : Int} {o : Bool} (h : anim_easing_l0 e_ K1_ k v27 = some o)
    (hK1 : ∀ (_ : Unit), K1_ () = some o → ∀ s, Weak 0 s ⟨(upd (fun _ => none) 1 (some (.c (.ref 0 6 0 0)))), (upd (fun _ => none) 0 (some (.cells 6 [[cI e_.Kind, cI e_.Curve.a0, cI e_.Curve.a1, cI e_.Curve.a2, cI e_.Curve.a3, cI e_.N]]))), 1⟩ → Q (.exit 1) s)
    (hr : ∀ s, Ends a39.results 0 (anim_easing_post o) .ret s → Q .ret s) :
    Sv Try.prog Γ 0 (.loop a39_c0) Q ⟨(upd (upd (upd (fun _ => none) 1 (some (.c (.ref 0 6 0 0)))) 26 (some (.agg [cI e_.Curve.a0, cI e_.Curve.a1, cI e_.Curve.a2, cI e_.Curve.a3]))) 27 (some (I v27))), (upd (fun _ => none) 0 (some (.cells 6 [[cI e_.Kind, cI e_.Curve.a0, cI e_.Curve.a1, cI e_.Curve.a2, cI e_.Curve.a3, cI e_.N]]))), 1⟩ := by
  refine Sv.loop (I := fun k s => ∃ (v27 : Int), anim_easing_l0 e_ K1_ k v27 = some o ∧ s = ⟨(upd (upd (upd (fun _ => none) 1 (some (.c (.ref 0 6 0 0)))) 26 (some (.agg [cI e_.Curve.a0, cI e_.Curve.a1, cI e_.Curve.a2, cI e_.Curve.a3]))) 27 (some (I v27))), (upd (fun _ => none) 0 (some (.cells 6 [[cI e_.Kind, cI e_.Curve.a0, cI e_.Curve.a1, cI e_.Curve.a2, cI e_.Curve.a3, cI e_.N]]))), 1⟩) (fun k s hI => ?_) ⟨v27, h, rfl⟩
  clear h
  clear v27
  obtain ⟨v27, h, rfl⟩ := hI
  cases k with
  | zero => cases h
  | succ k =>
  rw [anim_easing_l0] at h
  have hself : ∀ (v27 : Int), (anim_easing_l0 e_ K1_ k) v27 = some o → ∀ s, Weak 0 s ⟨(upd (upd (upd (fun _ => none) 1 (some (.c (.ref 0 6 0 0)))) 26 (some (.agg [cI e_.Curve.a0, cI e_.Curve.a1, cI e_.Curve.a2, cI e_.Curve.a3]))) 27 (some (I v27))), (upd (fun _ => none) 0 (some (.cells 6 [[cI e_.Kind, cI e_.Curve.a0, cI e_.Curve.a1, cI e_.Curve.a2, cI e_.Curve.a3, cI e_.N]]))), 1⟩ → (AThen (fun s' => ∃ s'' k', Weak 0 s' s'' ∧ k' < k + 1 ∧ (fun k s => ∃ (v27 : Int), anim_easing_l0 e_ K1_ k v27 = some o ∧ s = ⟨(upd (upd (upd (fun _ => none) 1 (some (.c (.ref 0 6 0 0)))) 26 (some (.agg [cI e_.Curve.a0, cI e_.Curve.a1, cI e_.Curve.a2, cI e_.Curve.a3]))) 27 (some (I v27))), (upd (fun _ => none) 0 (some (.cells 6 [[cI e_.Kind, cI e_.Curve.a0, cI e_.Curve.a1, cI e_.Curve.a2, cI e_.Curve.a3, cI e_.N]]))), 1⟩) k' s'') Q) .normal s := fun v27 h s hw => ⟨_, k, hw, Nat.lt_succ_self k, v27, h, rfl⟩
  refine Sv.seq ?_
  refine Sv.region ?_
  refine un (a1 (v := (B (decide (v27 < 4)))) rfl ?_)
  refine dnil ?_
  refine Sv.seq ?_
  refine Sv.cond (b := decide (v27 < 4)) rfl (fun hc5 => ?_) (fun hc5 => ?_)
  · replace h := ifT hc5 h
    refine Sv.skip ?_
    refine Sv.seq ?_
    refine Sv.block ?_
    refine Sv.seq ?_
    refine Sv.region ?_
    obtain ⟨x_, hx1, h⟩ := bnd h
    refine un (a1 (v := (I x_)) (s_idxA (L := [e_.Curve.a0, e_.Curve.a1, e_.Curve.a2, e_.Curve.a3]) (v := fun q => (I q)) rfl rfl rfl (.cons rfl (.cons rfl (.cons rfl (.cons rfl .nil)))) hx1) ?_)
    refine un (a1 rfl ?_)
    refine dnil ?_
    refine Sv.seq ?_
    refine Sv.region ?_
    refine un (a1 rfl ?_)
    refine un (ac_pure (anim_in_ok (Γ := Γ) x_ 0 1000) rfl rfl rfl ?_)
    refine un (a1 (v := (B (!(anim_in x_ 0 1000)))) rfl ?_)
    refine dnil ?_
    refine Sv.cond (b := (!(anim_in x_ 0 1000))) rfl (fun hc6 => ?_) (fun hc6 => ?_)
    · replace h := ifT hc6 h
      refine Sv.seq ?_
      refine Sv.region ?_
      refine un (a1 rfl ?_)
      refine dnil ?_
      refine Sv.ret ?_
      replace h := Option.some.inj h
      subst h
      exact hr _ ⟨_, .refl _, _, rfl, ⟨upd (fun _ => none) 0 (some (B false)), (fun _ => none), 0⟩, (B false), weak_canon [] rfl List.nodup_nil (Nat.le_refl _) (fun b h => absurd h (Nat.not_lt_zero _)) (.cons rfl (avAs_free rfl) .nil) .nil, rfl, rfl, rfl, rfl⟩
    · replace h := ifF hc6 h
      refine Sv.skip ?_
      refine Sv.region ?_
      refine un (a1 (v := (I (wi (v27 + 1)))) rfl ?_)
      refine un (a1 rfl ?_)
      refine dnil ?_
      exact hself (wi (v27 + 1)) h _ (weak_canon [0] rfl (by decide) (by decide) (fun b h => absurd h (Nat.not_lt_zero _)) (.cons rfl (avAs_free rfl) (.cons rfl (avAs_free rfl) (.cons rfl (.c (.ref rfl (by decide))) .nil))) (.box (by decide) rfl (blkAs_cells (.cons (.same rfl) (.cons (.same rfl) (.cons (.same rfl) (.cons (.same rfl) (.cons (.same rfl) (.cons (.same rfl) .nil))))))) .nil))
  · replace h := ifF hc5 h
    refine Sv.exit ?_
    exact hK1 () h _ (weak_canon [0] rfl (by decide) (by decide) (fun b h => absurd h (Nat.not_lt_zero _)) (.cons rfl (.c (.ref rfl (by decide))) .nil) (.box (by decide) rfl (blkAs_cells (.cons (.same rfl) (.cons (.same rfl) (.cons (.same rfl) (.cons (.same rfl) (.cons (.same rfl) (.cons (.same rfl) .nil))))))) .nil))
/-- clerestory/anim.easing -/
noncomputable def anim_easing (e_ : TSEase) : Option Bool :=
  if decide (e_.Kind = 1) then
    letIn (decide (e_.Kind = 1) && (decide (e_.Curve.a0 = 0) && (decide (e_.Curve.a1 = 0) && (decide (e_.Curve.a2 = 0) && (decide (e_.Curve.a3 = 0) && (decide (e_.N = 0) && true)))))) fun v11 : Bool =>
    some v11
  else
    if decide (e_.Kind = 3) then
      some ((anim_in e_.N 1 1000) && (decide (e_.Curve.a0 = 0) && (decide (e_.Curve.a1 = 0) && (decide (e_.Curve.a2 = 0) && (decide (e_.Curve.a3 = 0) && true)))))
    else
      if decide (e_.Kind = 2) then
        lim fun kk => anim_easing_l0 e_ (fun (_ : Unit) => 
            some (decide (e_.N = 0))) kk 0
      else
        some false
theorem anim_easing_ok {Γ : Glob} {e_ : TSEase} {r : Bool} (h : anim_easing e_ = some r) : CPure Try.prog Γ 39 [(.agg [cI e_.Kind, cI e_.Curve.a0, cI e_.Curve.a1, cI e_.Curve.a2, cI e_.Curve.a3, cI e_.N])] (B r) := by
  refine acalls_of_sv hmix c39 (R := anim_easing_post r) ?_
  unfold anim_easing at h
  refine Sv.seq ?_
  refine Sv.region ?_
  refine un (a2v (v := (.c (.ref 0 6 0 0))) (h' := upd _ 0 (some (.cells 6 [[cI e_.Kind, cI e_.Curve.a0, cI e_.Curve.a1, cI e_.Curve.a2, cI e_.Curve.a3, cI e_.N]]))) (n' := 1) rfl rfl (fun h => by cases h) ?_)
  refine un (a1 rfl ?_)
  refine dnil ?_
  refine Sv.seq ?_
  refine Sv.seq ?_
  refine Sv.region ?_
  refine un (a1 (v := (.c (.ref 0 6 0 0))) rfl ?_)
  refine un (a1 (v := (I e_.Kind)) rfl ?_)
  refine dnil ?_
  refine Sv.block ?_
  refine Sv.seq ?_
  refine Sv.region ?_
  refine un (a1 (v := (B (decide (e_.Kind = 1)))) rfl ?_)
  refine un (a1 rfl ?_)
  refine dnil ?_
  refine Sv.cond (b := decide (e_.Kind = 1)) rfl (fun hc1 => ?_) (fun hc1 => ?_)
  · replace h := ifT hc1 h
    refine Sv.seq ?_
    refine Sv.region ?_
    refine un (a1 (v := (.agg [cI e_.Kind, cI e_.Curve.a0, cI e_.Curve.a1, cI e_.Curve.a2, cI e_.Curve.a3, cI e_.N])) rfl ?_)
    refine un (a1 (v := (.agg [cI 1, cI 0, cI 0, cI 0, cI 0, cI 0])) rfl ?_)
    obtain ⟨v11, hv11⟩ : ∃ v11 : Bool, v11 = (decide (e_.Kind = 1) && (decide (e_.Curve.a0 = 0) && (decide (e_.Curve.a1 = 0) && (decide (e_.Curve.a2 = 0) && (decide (e_.Curve.a3 = 0) && (decide (e_.N = 0) && true)))))) := ⟨_, rfl⟩
    replace h := letAt hv11 h
    refine un (a1 (v := (B v11)) (by rw [hv11]; rfl) ?_)
    clear hv11
    refine un (a1 rfl ?_)
    refine dnil ?_
    refine Sv.ret ?_
    replace h := Option.some.inj h
    subst h
    exact ⟨_, .refl _, _, rfl, ⟨upd (fun _ => none) 0 (some (B v11)), (fun _ => none), 0⟩, (B v11), weak_canon [] rfl List.nodup_nil (Nat.le_refl _) (fun b h => absurd h (Nat.not_lt_zero _)) (.cons rfl (avAs_free rfl) .nil) .nil, rfl, rfl, rfl, rfl⟩
  · replace h := ifF hc1 h
    refine Sv.seq ?_
    refine Sv.region ?_
    refine un (a1 (v := (B (decide (e_.Kind = 3)))) rfl ?_)
    refine un (a1 rfl ?_)
    refine dnil ?_
    refine Sv.cond (b := decide (e_.Kind = 3)) rfl (fun hc2 => ?_) (fun hc2 => ?_)
    · replace h := ifT hc2 h
      refine Sv.seq ?_
      refine Sv.region ?_
      refine un (a1 (v := (.c (.ref 0 6 0 5))) rfl ?_)
      refine un (a1 (v := (I e_.N)) rfl ?_)
      refine un (ac_pure (anim_in_ok (Γ := Γ) e_.N 1 1000) rfl rfl rfl ?_)
      refine un (a1 rfl ?_)
      refine gjoin 5 (d := 22) (v := (B ((anim_in e_.N 1 1000) && (decide (e_.Curve.a0 = 0) && (decide (e_.Curve.a1 = 0) && (decide (e_.Curve.a2 = 0) && (decide (e_.Curve.a3 = 0) && true))))))) (fun X hX => ?_) ?_
      · refine split2 (fun hc3 => ?_) (fun hc3 => ?_)
        · refine gt rfl (a1 (v := (.c (.ref 0 6 0 1))) rfl ?_)
          refine gt rfl (a1 (v := (.agg [cI e_.Curve.a0, cI e_.Curve.a1, cI e_.Curve.a2, cI e_.Curve.a3])) rfl ?_)
          refine gt rfl (a1 (v := (.agg [cI 0, cI 0, cI 0, cI 0])) rfl ?_)
          refine gt rfl (a1 (v := (B (decide (e_.Curve.a0 = 0) && (decide (e_.Curve.a1 = 0) && (decide (e_.Curve.a2 = 0) && (decide (e_.Curve.a3 = 0) && true)))))) rfl ?_)
          refine un (a1 (v := (B (decide (e_.Curve.a0 = 0) && (decide (e_.Curve.a1 = 0) && (decide (e_.Curve.a2 = 0) && (decide (e_.Curve.a3 = 0) && true)))))) rfl ?_)
          refine dnil ?_
          exact hX _ (.putEq (by rw [hc3]; rfl) (.skip _ _ (.skip _ _ (.skip _ _ (.skip _ _ (.putEq (by rw [hc3]) (.refl _)) rfl) rfl) rfl) rfl))
        · refine gs rfl rfl ?_
          refine gs rfl rfl ?_
          refine gs rfl rfl ?_
          refine gs rfl rfl ?_
          refine un (a1 (v := (B false)) rfl ?_)
          refine dnil ?_
          exact hX _ (.putEq (by rw [hc3]; rfl) (.skip _ _ (.skip _ _ (.skip _ _ (.skip _ _ (.putEq (by rw [hc3]) (.refl _)) rfl) rfl) rfl) rfl))
      refine un (a1 rfl ?_)
      refine dnil ?_
      refine Sv.ret ?_
      replace h := Option.some.inj h
      subst h
      exact ⟨_, .refl _, _, rfl, ⟨upd (fun _ => none) 0 (some (B ((anim_in e_.N 1 1000) && (decide (e_.Curve.a0 = 0) && (decide (e_.Curve.a1 = 0) && (decide (e_.Curve.a2 = 0) && (decide (e_.Curve.a3 = 0) && true))))))), (fun _ => none), 0⟩, (B ((anim_in e_.N 1 1000) && (decide (e_.Curve.a0 = 0) && (decide (e_.Curve.a1 = 0) && (decide (e_.Curve.a2 = 0) && (decide (e_.Curve.a3 = 0) && true)))))), weak_canon [] rfl List.nodup_nil (Nat.le_refl _) (fun b h => absurd h (Nat.not_lt_zero _)) (.cons rfl (avAs_free rfl) .nil) .nil, rfl, rfl, rfl, rfl⟩
    · replace h := ifF hc2 h
      refine Sv.seq ?_
      refine Sv.region ?_
      refine un (a1 (v := (B (decide (e_.Kind = 2)))) rfl ?_)
      refine un (a1 rfl ?_)
      refine dnil ?_
      refine Sv.cond (b := decide (e_.Kind = 2)) rfl (fun hc4 => ?_) (fun hc4 => ?_)
      · replace h := ifT hc4 h
        refine Sv.seq ?_
        refine Sv.seq ?_
        refine Sv.region ?_
        refine un (a1 (v := (.c (.ref 0 6 0 1))) rfl ?_)
        refine un (a1 (v := (.agg [cI e_.Curve.a0, cI e_.Curve.a1, cI e_.Curve.a2, cI e_.Curve.a3])) rfl ?_)
        refine un (a1 rfl ?_)
        refine dnil ?_
        refine Sv.block ?_
        obtain ⟨kk, h⟩ := lim_some h
        refine Sv.weak (weak_canon [0] rfl (by decide) (by decide) (fun b h => absurd h (Nat.not_lt_zero _)) (.cons rfl (avAs_free rfl) (.cons rfl (avAs_free rfl) (.cons rfl (.c (.ref rfl (by decide))) .nil))) (.box (by decide) rfl (blkAs_cells (.cons (.same rfl) (.cons (.same rfl) (.cons (.same rfl) (.cons (.same rfl) (.cons (.same rfl) (.cons (.same rfl) .nil))))))) .nil)) (anim_easing_l0_ok h ?_ (fun s hs => hs))
        · intro _ h _ hw1
          refine Sv.weak hw1 ?_
          refine Sv.seq ?_
          refine Sv.region ?_
          refine un (a1 (v := (.c (.ref 0 6 0 5))) rfl ?_)
          refine un (a1 (v := (I e_.N)) rfl ?_)
          refine un (a1 (v := (B (decide (e_.N = 0)))) rfl ?_)
          refine un (a1 rfl ?_)
          refine dnil ?_
          refine Sv.ret ?_
          replace h := Option.some.inj h
          subst h
          exact ⟨_, .refl _, _, rfl, ⟨upd (fun _ => none) 0 (some (B (decide (e_.N = 0)))), (fun _ => none), 0⟩, (B (decide (e_.N = 0))), weak_canon [] rfl List.nodup_nil (Nat.le_refl _) (fun b h => absurd h (Nat.not_lt_zero _)) (.cons rfl (avAs_free rfl) .nil) .nil, rfl, rfl, rfl, rfl⟩
      · replace h := ifF hc4 h
        refine Sv.skip ?_
        refine Sv.seq ?_
        refine Sv.region ?_
        refine un (a1 rfl ?_)
        refine dnil ?_
        refine Sv.ret ?_
        replace h := Option.some.inj h
        subst h
        exact ⟨_, .refl _, _, rfl, ⟨upd (fun _ => none) 0 (some (B false)), (fun _ => none), 0⟩, (B false), weak_canon [] rfl List.nodup_nil (Nat.le_refl _) (fun b h => absurd h (Nat.not_lt_zero _)) (.cons rfl (avAs_free rfl) .nil) .nil, rfl, rfl, rfl, rfl⟩
def a68 : AFunc := ⟨3, [(.tmp 6)], (.seq (.region [⟨(some 6), (.mov (.const (.c (.val (.int .i64 0))))), none⟩])
 (.seq (.region [⟨(some 8), (.mov (.tmp 2)), none⟩, ⟨(some 9), (.bin .sub (.const (.c (.val (.int .i64 4096)))) (.tmp 8)), none⟩, ⟨(some 7), (.mov (.tmp 9)), none⟩])
 (.seq (.region [⟨(some 10), (.mov (.tmp 7)), none⟩, ⟨(some 11), (.bin .mul (.const (.c (.val (.int .i64 3)))) (.tmp 10)), none⟩, ⟨(some 12), (.mov (.tmp 7)), none⟩, ⟨(some 13), (.bin .mul (.tmp 11) (.tmp 12)), none⟩, ⟨(some 14), (.mov (.tmp 2)), none⟩, ⟨(some 15), (.bin .mul (.tmp 13) (.tmp 14)), none⟩, ⟨(some 16), (.mov (.tmp 0)), none⟩, ⟨(some 17), (.bin .mul (.tmp 15) (.tmp 16)), none⟩, ⟨(some 18), (.mov (.tmp 7)), none⟩, ⟨(some 19), (.bin .mul (.const (.c (.val (.int .i64 3)))) (.tmp 18)), none⟩, ⟨(some 20), (.mov (.tmp 2)), none⟩, ⟨(some 21), (.bin .mul (.tmp 19) (.tmp 20)), none⟩, ⟨(some 22), (.mov (.tmp 2)), none⟩, ⟨(some 23), (.bin .mul (.tmp 21) (.tmp 22)), none⟩, ⟨(some 24), (.mov (.tmp 1)), none⟩, ⟨(some 25), (.bin .mul (.tmp 23) (.tmp 24)), none⟩, ⟨(some 26), (.bin .add (.tmp 17) (.tmp 25)), none⟩, ⟨(some 27), (.mov (.tmp 2)), none⟩, ⟨(some 28), (.mov (.tmp 2)), none⟩, ⟨(some 29), (.bin .mul (.tmp 27) (.tmp 28)), none⟩, ⟨(some 30), (.mov (.tmp 2)), none⟩, ⟨(some 31), (.bin .mul (.tmp 29) (.tmp 30)), none⟩, ⟨(some 32), (.bin .mul (.tmp 31) (.const (.c (.val (.int .i64 1000))))), none⟩, ⟨(some 33), (.bin .add (.tmp 26) (.tmp 32)), none⟩, ⟨(some 34), (.bin .quo (.tmp 33) (.const (.c (.val (.int .i64 68719476736))))), none⟩, ⟨(some 6), (.mov (.tmp 34)), none⟩])
 .ret)))⟩
set_option maxRecDepth 100000 in
theorem c68 : compFunc Try.prog 68 = some a68 := by kernel_rfl
def anim_bend_post (r : Int) : AV → Heap → Nat → Prop := fun v h' n' => v = (I r) ∧ (h' = (fun _ => none)) ∧ n' = 0
/-- clerestory/anim.bend -/
def anim_bend (a_ : Int) (b_ : Int) (k_ : Int) : Int :=
  letIn (wi ((wi ((wi ((wi (3 * (wi (4096 - k_)))) * (wi (4096 - k_)))) * k_)) * a_)) fun v17 : Int =>
  letIn (wi (v17 + (wi ((wi ((wi ((wi (3 * (wi (4096 - k_)))) * k_)) * k_)) * b_)))) fun v26 : Int =>
  letIn (wi ((wi (v26 + (wi ((wi ((wi (k_ * k_)) * k_)) * 1000)))).tdiv 68719476736)) fun v34 : Int =>
  v34
theorem anim_bend_ok {Γ : Glob} (a_ : Int) (b_ : Int) (k_ : Int) : CPure Try.prog Γ 68 [(I a_), (I b_), (I k_)] (I (anim_bend a_ b_ k_)) := by
  generalize h : anim_bend a_ b_ k_ = o
  refine acalls_of_sv hmix c68 (R := anim_bend_post o) ?_
  unfold anim_bend at h
  refine Sv.seq ?_
  refine Sv.region ?_
  refine un (a1 rfl ?_)
  refine dnil ?_
  refine Sv.seq ?_
  refine Sv.region ?_
  refine un (a1 rfl ?_)
  refine un (a1 (v := (I (wi (4096 - k_)))) rfl ?_)
  refine un (a1 rfl ?_)
  refine dnil ?_
  refine Sv.seq ?_
  refine Sv.region ?_
  refine un (a1 rfl ?_)
  refine un (a1 (v := (I (wi (3 * (wi (4096 - k_)))))) rfl ?_)
  refine un (a1 rfl ?_)
  refine un (a1 (v := (I (wi ((wi (3 * (wi (4096 - k_)))) * (wi (4096 - k_)))))) rfl ?_)
  refine un (a1 rfl ?_)
  refine un (a1 (v := (I (wi ((wi ((wi (3 * (wi (4096 - k_)))) * (wi (4096 - k_)))) * k_)))) rfl ?_)
  refine un (a1 rfl ?_)
  obtain ⟨v17, hv17⟩ : ∃ v17 : Int, v17 = (wi ((wi ((wi ((wi (3 * (wi (4096 - k_)))) * (wi (4096 - k_)))) * k_)) * a_)) := ⟨_, rfl⟩
  replace h := letAt hv17 h
  refine un (a1 (v := (I v17)) (by rw [hv17]; rfl) ?_)
  clear hv17
  refine un (a1 rfl ?_)
  refine un (a1 (v := (I (wi (3 * (wi (4096 - k_)))))) rfl ?_)
  refine un (a1 rfl ?_)
  refine un (a1 (v := (I (wi ((wi (3 * (wi (4096 - k_)))) * k_)))) rfl ?_)
  refine un (a1 rfl ?_)
  refine un (a1 (v := (I (wi ((wi ((wi (3 * (wi (4096 - k_)))) * k_)) * k_)))) rfl ?_)
  refine un (a1 rfl ?_)
  refine un (a1 (v := (I (wi ((wi ((wi ((wi (3 * (wi (4096 - k_)))) * k_)) * k_)) * b_)))) rfl ?_)
  obtain ⟨v26, hv26⟩ : ∃ v26 : Int, v26 = (wi (v17 + (wi ((wi ((wi ((wi (3 * (wi (4096 - k_)))) * k_)) * k_)) * b_)))) := ⟨_, rfl⟩
  replace h := letAt hv26 h
  refine un (a1 (v := (I v26)) (by rw [hv26]; rfl) ?_)
  clear hv26
  refine un (a1 rfl ?_)
  refine un (a1 rfl ?_)
  refine un (a1 (v := (I (wi (k_ * k_)))) rfl ?_)
  refine un (a1 rfl ?_)
  refine un (a1 (v := (I (wi ((wi (k_ * k_)) * k_)))) rfl ?_)
  refine un (a1 (v := (I (wi ((wi ((wi (k_ * k_)) * k_)) * 1000)))) rfl ?_)
  refine un (a1 (v := (I (wi (v26 + (wi ((wi ((wi (k_ * k_)) * k_)) * 1000)))))) rfl ?_)
  obtain ⟨v34, hv34⟩ : ∃ v34 : Int, v34 = (wi ((wi (v26 + (wi ((wi ((wi (k_ * k_)) * k_)) * 1000)))).tdiv 68719476736)) := ⟨_, rfl⟩
  replace h := letAt hv34 h
  refine un (a1 (v := (I v34)) (by rw [hv34]; rfl) ?_)
  clear hv34
  refine un (a1 rfl ?_)
  refine dnil ?_
  refine Sv.ret ?_
  subst h
  exact ⟨_, .refl _, _, rfl, ⟨upd (fun _ => none) 0 (some (I v34)), (fun _ => none), 0⟩, (I v34), weak_canon [] rfl List.nodup_nil (Nat.le_refl _) (fun b h => absurd h (Nat.not_lt_zero _)) (.cons rfl (avAs_free rfl) .nil) .nil, rfl, rfl, rfl, rfl⟩
def a41_c0 : ACode := (.seq (.seq (.region [⟨(some 23), (.mov (.tmp 5)), none⟩, ⟨(some 24), (.mov (.tmp 6)), none⟩, ⟨(some 25), (.bin .lss (.tmp 23) (.tmp 24)), none⟩])
 (.cond (.tmp 25) .skip (.exit 1)))
 (.block 2 (.seq (.region [⟨(some 26), (.mov (.tmp 5)), none⟩, ⟨(some 27), (.mov (.tmp 6)), none⟩, ⟨(some 28), (.bin .add (.tmp 26) (.tmp 27)), none⟩, ⟨(some 29), (.bin .quo (.tmp 28) (.const (.c (.val (.int .i64 2))))), none⟩, ⟨(some 7), (.mov (.tmp 29)), none⟩])
 (.seq (.region [⟨(some 30), (.faddr 1 (.tmp 2)), none⟩, ⟨(some 31), (.iaddrA 4 1 (.tmp 30) (.const (.c (.val (.int .i64 0))))), none⟩, ⟨(some 32), (.load false 1 (.tmp 31)), none⟩, ⟨(some 33), (.faddr 1 (.tmp 2)), none⟩, ⟨(some 34), (.iaddrA 4 1 (.tmp 33) (.const (.c (.val (.int .i64 2))))), none⟩, ⟨(some 35), (.load false 1 (.tmp 34)), none⟩, ⟨(some 36), (.mov (.tmp 7)), none⟩, ⟨(some 37), (.call 68 [(.tmp 32), (.tmp 35), (.tmp 36)]), none⟩, ⟨(some 38), (.mov (.tmp 1)), none⟩, ⟨(some 39), (.bin .geq (.tmp 37) (.tmp 38)), none⟩])
 (.cond (.tmp 39) (.region [⟨(some 40), (.mov (.tmp 7)), none⟩, ⟨(some 6), (.mov (.tmp 40)), none⟩]) (.region [⟨(some 41), (.mov (.tmp 7)), none⟩, ⟨(some 42), (.bin .add (.tmp 41) (.const (.c (.val (.int .i64 1))))), none⟩, ⟨(some 5), (.mov (.tmp 42)), none⟩]))))))
def a41 : AFunc := ⟨2, [(.tmp 4)], (.seq (.region [⟨(some 2), (.box (.tmp 0)), none⟩, ⟨(some 4), (.mov (.const (.c (.val (.int .i64 0))))), none⟩])
 (.seq (.seq (.region [⟨(some 8), (.faddr 0 (.tmp 2)), none⟩, ⟨(some 9), (.load false 1 (.tmp 8)), none⟩])
 (.block 0 (.seq (.region [⟨(some 11), (.bin .eql (.tmp 9) (.const (.c (.val (.int .i64 3))))), none⟩, ⟨(some 10), (.mov (.tmp 11)), none⟩])
 (.cond (.tmp 10) (.seq (.region [⟨(some 12), (.mov (.tmp 1)), none⟩, ⟨(some 13), (.faddr 5 (.tmp 2)), none⟩, ⟨(some 14), (.load false 1 (.tmp 13)), none⟩, ⟨(some 15), (.bin .mul (.tmp 12) (.tmp 14)), none⟩, ⟨(some 16), (.bin .quo (.tmp 15) (.const (.c (.val (.int .i64 1000))))), none⟩, ⟨(some 17), (.bin .mul (.tmp 16) (.const (.c (.val (.int .i64 1000))))), none⟩, ⟨(some 18), (.faddr 5 (.tmp 2)), none⟩, ⟨(some 19), (.load false 1 (.tmp 18)), none⟩, ⟨(some 20), (.bin .quo (.tmp 17) (.tmp 19)), none⟩, ⟨(some 4), (.mov (.tmp 20)), none⟩])
 .ret) (.seq (.region [⟨(some 22), (.bin .eql (.tmp 9) (.const (.c (.val (.int .i64 2))))), none⟩, ⟨(some 21), (.mov (.tmp 22)), none⟩])
 (.cond (.tmp 21) (.seq (.region [⟨(some 5), (.mov (.const (.c (.val (.int .i64 0))))), none⟩, ⟨(some 6), (.mov (.const (.c (.val (.int .i64 4096))))), none⟩])
 (.seq (.block 1 (.loop a41_c0))
 (.seq (.region [⟨(some 43), (.faddr 1 (.tmp 2)), none⟩, ⟨(some 44), (.iaddrA 4 1 (.tmp 43) (.const (.c (.val (.int .i64 1))))), none⟩, ⟨(some 45), (.load false 1 (.tmp 44)), none⟩, ⟨(some 46), (.faddr 1 (.tmp 2)), none⟩, ⟨(some 47), (.iaddrA 4 1 (.tmp 46) (.const (.c (.val (.int .i64 3))))), none⟩, ⟨(some 48), (.load false 1 (.tmp 47)), none⟩, ⟨(some 49), (.mov (.tmp 5)), none⟩, ⟨(some 50), (.call 68 [(.tmp 45), (.tmp 48), (.tmp 49)]), none⟩, ⟨(some 4), (.mov (.tmp 50)), none⟩])
 .ret))) .skip))))))
 (.seq (.region [⟨(some 51), (.mov (.tmp 1)), none⟩, ⟨(some 4), (.mov (.tmp 51)), none⟩])
 .ret)))⟩
set_option maxRecDepth 100000 in
theorem c41 : compFunc Try.prog 41 = some a41 := by kernel_rfl
def anim_eased_post (r : Int) : AV → Heap → Nat → Prop := fun v h' n' => v = (I r) ∧ (h' = (fun _ => none)) ∧ n' = 0
noncomputable def anim_eased_l0 (t_ : Int) (e_ : TSEase) (K1_ : Int → Option Int) : Nat → Int → Int → Option Int
  | 0, _, _ => none
  | k + 1, low, high =>
    if decide (low < high) then
      letIn (decide (t_ ≤ (anim_bend e_.Curve.a0 e_.Curve.a2 (wi ((wi (low + high)).tdiv 2))))) fun v39 : Bool =>
      if v39 then
        (anim_eased_l0 t_ e_ K1_ k) low (wi ((wi (low + high)).tdiv 2))
      else
        (anim_eased_l0 t_ e_ K1_ k) (wi ((wi ((wi (low + high)).tdiv 2)) + 1)) high
    else
      K1_ low
theorem anim_eased_l0_ok {Γ : Glob} {Q : AExit → St → Prop} {t_ : Int} {e_ : TSEase} {K1_ : Int → Option Int} {k : Nat} {low : Int} {high : Int} {o : Int} (h : anim_eased_l0 t_ e_ K1_ k low high = some o)
    (hK1 : ∀ (low1 : Int), K1_ low1 = some o → ∀ s, Weak 0 s ⟨(upd (upd (fun _ => none) 2 (some (.c (.ref 0 6 0 0)))) 5 (some (I low1))), (upd (fun _ => none) 0 (some (.cells 6 [[cI e_.Kind, cI e_.Curve.a0, cI e_.Curve.a1, cI e_.Curve.a2, cI e_.Curve.a3, cI e_.N]]))), 1⟩ → Q (.exit 1) s)
    (hr : ∀ s, Ends a41.results 0 (anim_eased_post o) .ret s → Q .ret s) :
    Sv Try.prog Γ 0 (.loop a41_c0) Q ⟨(upd (upd (upd (upd (fun _ => none) 1 (some (I t_))) 2 (some (.c (.ref 0 6 0 0)))) 5 (some (I low))) 6 (some (I high))), (upd (fun _ => none) 0 (some (.cells 6 [[cI e_.Kind, cI e_.Curve.a0, cI e_.Curve.a1, cI e_.Curve.a2, cI e_.Curve.a3, cI e_.N]]))), 1⟩ := by
  refine Sv.loop (I := fun k s => ∃ (low : Int), ∃ (high : Int), anim_eased_l0 t_ e_ K1_ k low high = some o ∧ s = ⟨(upd (upd (upd (upd (fun _ => none) 1 (some (I t_))) 2 (some (.c (.ref 0 6 0 0)))) 5 (some (I low))) 6 (some (I high))), (upd (fun _ => none) 0 (some (.cells 6 [[cI e_.Kind, cI e_.Curve.a0, cI e_.Curve.a1, cI e_.Curve.a2, cI e_.Curve.a3, cI e_.N]]))), 1⟩) (fun k s hI => ?_) ⟨low, high, h, rfl⟩
  clear h
  clear high low
  obtain ⟨low, high, h, rfl⟩ := hI
  cases k with
  | zero => cases h
  | succ k =>
  rw [anim_eased_l0] at h
  have hself : ∀ (low : Int) (high : Int), (anim_eased_l0 t_ e_ K1_ k) low high = some o → ∀ s, Weak 0 s ⟨(upd (upd (upd (upd (fun _ => none) 1 (some (I t_))) 2 (some (.c (.ref 0 6 0 0)))) 5 (some (I low))) 6 (some (I high))), (upd (fun _ => none) 0 (some (.cells 6 [[cI e_.Kind, cI e_.Curve.a0, cI e_.Curve.a1, cI e_.Curve.a2, cI e_.Curve.a3, cI e_.N]]))), 1⟩ → (AThen (fun s' => ∃ s'' k', Weak 0 s' s'' ∧ k' < k + 1 ∧ (fun k s => ∃ (low : Int), ∃ (high : Int), anim_eased_l0 t_ e_ K1_ k low high = some o ∧ s = ⟨(upd (upd (upd (upd (fun _ => none) 1 (some (I t_))) 2 (some (.c (.ref 0 6 0 0)))) 5 (some (I low))) 6 (some (I high))), (upd (fun _ => none) 0 (some (.cells 6 [[cI e_.Kind, cI e_.Curve.a0, cI e_.Curve.a1, cI e_.Curve.a2, cI e_.Curve.a3, cI e_.N]]))), 1⟩) k' s'') Q) .normal s := fun low high h s hw => ⟨_, k, hw, Nat.lt_succ_self k, low, high, h, rfl⟩
  refine Sv.seq ?_
  refine Sv.seq ?_
  refine Sv.region ?_
  refine un (a1 rfl ?_)
  refine un (a1 rfl ?_)
  refine un (a1 (v := (B (decide (low < high)))) rfl ?_)
  refine dnil ?_
  refine Sv.cond (b := decide (low < high)) rfl (fun hc3 => ?_) (fun hc3 => ?_)
  · replace h := ifT hc3 h
    refine Sv.skip ?_
    refine Sv.block ?_
    refine Sv.seq ?_
    refine Sv.region ?_
    refine un (a1 rfl ?_)
    refine un (a1 rfl ?_)
    refine un (a1 (v := (I (wi (low + high)))) rfl ?_)
    refine un (a1 (v := (I (wi ((wi (low + high)).tdiv 2)))) rfl ?_)
    refine un (a1 rfl ?_)
    refine dnil ?_
    refine Sv.seq ?_
    refine Sv.region ?_
    refine un (a1 (v := (.c (.ref 0 6 0 1))) rfl ?_)
    refine un (a1 (v := (.c (.ref 0 6 0 1))) rfl ?_)
    refine un (a1 (v := (I e_.Curve.a0)) rfl ?_)
    refine un (a1 (v := (.c (.ref 0 6 0 1))) rfl ?_)
    refine un (a1 (v := (.c (.ref 0 6 0 3))) rfl ?_)
    refine un (a1 (v := (I e_.Curve.a2)) rfl ?_)
    refine un (a1 rfl ?_)
    refine un (ac_pure (anim_bend_ok (Γ := Γ) e_.Curve.a0 e_.Curve.a2 (wi ((wi (low + high)).tdiv 2))) rfl rfl rfl ?_)
    refine un (a1 rfl ?_)
    obtain ⟨v39, hv39⟩ : ∃ v39 : Bool, v39 = decide (t_ ≤ (anim_bend e_.Curve.a0 e_.Curve.a2 (wi ((wi (low + high)).tdiv 2)))) := ⟨_, rfl⟩
    replace h := letAt hv39 h
    refine un (a1 (v := (B v39)) (by rw [hv39]; rfl) ?_)
    clear hv39
    refine dnil ?_
    refine Sv.cond (b := v39) rfl (fun hc4 => ?_) (fun hc4 => ?_)
    · replace h := ifT hc4 h
      refine Sv.region ?_
      refine un (a1 rfl ?_)
      refine un (a1 rfl ?_)
      refine dnil ?_
      exact hself low (wi ((wi (low + high)).tdiv 2)) h _ (weak_canon [0] rfl (by decide) (by decide) (fun b h => absurd h (Nat.not_lt_zero _)) (.cons rfl (avAs_free rfl) (.cons rfl (avAs_free rfl) (.cons rfl (.c (.ref rfl (by decide))) (.cons rfl (avAs_free rfl) .nil)))) (.box (by decide) rfl (blkAs_cells (.cons (.same rfl) (.cons (.same rfl) (.cons (.same rfl) (.cons (.same rfl) (.cons (.same rfl) (.cons (.same rfl) .nil))))))) .nil))
    · replace h := ifF hc4 h
      refine Sv.region ?_
      refine un (a1 rfl ?_)
      refine un (a1 (v := (I (wi ((wi ((wi (low + high)).tdiv 2)) + 1)))) rfl ?_)
      refine un (a1 rfl ?_)
      refine dnil ?_
      exact hself (wi ((wi ((wi (low + high)).tdiv 2)) + 1)) high h _ (weak_canon [0] rfl (by decide) (by decide) (fun b h => absurd h (Nat.not_lt_zero _)) (.cons rfl (avAs_free rfl) (.cons rfl (avAs_free rfl) (.cons rfl (.c (.ref rfl (by decide))) (.cons rfl (avAs_free rfl) .nil)))) (.box (by decide) rfl (blkAs_cells (.cons (.same rfl) (.cons (.same rfl) (.cons (.same rfl) (.cons (.same rfl) (.cons (.same rfl) (.cons (.same rfl) .nil))))))) .nil))
  · replace h := ifF hc3 h
    refine Sv.exit ?_
    exact hK1 low h _ (weak_canon [0] rfl (by decide) (by decide) (fun b h => absurd h (Nat.not_lt_zero _)) (.cons rfl (avAs_free rfl) (.cons rfl (.c (.ref rfl (by decide))) .nil)) (.box (by decide) rfl (blkAs_cells (.cons (.same rfl) (.cons (.same rfl) (.cons (.same rfl) (.cons (.same rfl) (.cons (.same rfl) (.cons (.same rfl) .nil))))))) .nil))
/-- clerestory/anim.eased -/
noncomputable def anim_eased (e_ : TSEase) (t_ : Int) : Option Int :=
  if decide (e_.Kind = 3) then
    (quo? .i64 (wi ((wi ((wi (t_ * e_.N)).tdiv 1000)) * 1000)) e_.N).bind fun r_ =>
    some r_
  else
    if decide (e_.Kind = 2) then
      lim fun kk => anim_eased_l0 t_ e_ (fun (low1 : Int) => 
          some (anim_bend e_.Curve.a1 e_.Curve.a3 low1)) kk 0 4096
    else
      some t_
theorem anim_eased_ok {Γ : Glob} {e_ : TSEase} {t_ : Int} {r : Int} (h : anim_eased e_ t_ = some r) : CPure Try.prog Γ 41 [(.agg [cI e_.Kind, cI e_.Curve.a0, cI e_.Curve.a1, cI e_.Curve.a2, cI e_.Curve.a3, cI e_.N]), (I t_)] (I r) := by
  refine acalls_of_sv hmix c41 (R := anim_eased_post r) ?_
  unfold anim_eased at h
  refine Sv.seq ?_
  refine Sv.region ?_
  refine un (a2v (v := (.c (.ref 0 6 0 0))) (h' := upd _ 0 (some (.cells 6 [[cI e_.Kind, cI e_.Curve.a0, cI e_.Curve.a1, cI e_.Curve.a2, cI e_.Curve.a3, cI e_.N]]))) (n' := 1) rfl rfl (fun h => by cases h) ?_)
  refine un (a1 rfl ?_)
  refine dnil ?_
  refine Sv.seq ?_
  refine Sv.seq ?_
  refine Sv.region ?_
  refine un (a1 (v := (.c (.ref 0 6 0 0))) rfl ?_)
  refine un (a1 (v := (I e_.Kind)) rfl ?_)
  refine dnil ?_
  refine Sv.block ?_
  refine Sv.seq ?_
  refine Sv.region ?_
  refine un (a1 (v := (B (decide (e_.Kind = 3)))) rfl ?_)
  refine un (a1 rfl ?_)
  refine dnil ?_
  refine Sv.cond (b := decide (e_.Kind = 3)) rfl (fun hc1 => ?_) (fun hc1 => ?_)
  · replace h := ifT hc1 h
    refine Sv.seq ?_
    refine Sv.region ?_
    refine un (a1 rfl ?_)
    refine un (a1 (v := (.c (.ref 0 6 0 5))) rfl ?_)
    refine un (a1 (v := (I e_.N)) rfl ?_)
    refine un (a1 (v := (I (wi (t_ * e_.N)))) rfl ?_)
    refine un (a1 (v := (I (wi ((wi (t_ * e_.N)).tdiv 1000)))) rfl ?_)
    refine un (a1 (v := (I (wi ((wi ((wi (t_ * e_.N)).tdiv 1000)) * 1000)))) rfl ?_)
    refine un (a1 (v := (.c (.ref 0 6 0 5))) rfl ?_)
    refine un (a1 (v := (I e_.N)) rfl ?_)
    obtain ⟨r_, hx1, h⟩ := bnd h
    refine un (a1 (v := (I r_)) (s_quo rfl rfl hx1) ?_)
    refine un (a1 rfl ?_)
    refine dnil ?_
    refine Sv.ret ?_
    replace h := Option.some.inj h
    subst h
    exact ⟨_, .refl _, _, rfl, ⟨upd (fun _ => none) 0 (some (I r_)), (fun _ => none), 0⟩, (I r_), weak_canon [] rfl List.nodup_nil (Nat.le_refl _) (fun b h => absurd h (Nat.not_lt_zero _)) (.cons rfl (avAs_free rfl) .nil) .nil, rfl, rfl, rfl, rfl⟩
  · replace h := ifF hc1 h
    refine Sv.seq ?_
    refine Sv.region ?_
    refine un (a1 (v := (B (decide (e_.Kind = 2)))) rfl ?_)
    refine un (a1 rfl ?_)
    refine dnil ?_
    refine Sv.cond (b := decide (e_.Kind = 2)) rfl (fun hc2 => ?_) (fun hc2 => ?_)
    · replace h := ifT hc2 h
      refine Sv.seq ?_
      refine Sv.region ?_
      refine un (a1 rfl ?_)
      refine un (a1 rfl ?_)
      refine dnil ?_
      refine Sv.seq ?_
      refine Sv.block ?_
      obtain ⟨kk, h⟩ := lim_some h
      refine Sv.weak (weak_canon [0] rfl (by decide) (by decide) (fun b h => absurd h (Nat.not_lt_zero _)) (.cons rfl (avAs_free rfl) (.cons rfl (avAs_free rfl) (.cons rfl (.c (.ref rfl (by decide))) (.cons rfl (avAs_free rfl) .nil)))) (.box (by decide) rfl (blkAs_cells (.cons (.same rfl) (.cons (.same rfl) (.cons (.same rfl) (.cons (.same rfl) (.cons (.same rfl) (.cons (.same rfl) .nil))))))) .nil)) (anim_eased_l0_ok h ?_ (fun s hs => hs))
      · intro low1 h _ hw1
        refine Sv.weak hw1 ?_
        refine Sv.seq ?_
        refine Sv.region ?_
        refine un (a1 (v := (.c (.ref 0 6 0 1))) rfl ?_)
        refine un (a1 (v := (.c (.ref 0 6 0 2))) rfl ?_)
        refine un (a1 (v := (I e_.Curve.a1)) rfl ?_)
        refine un (a1 (v := (.c (.ref 0 6 0 1))) rfl ?_)
        refine un (a1 (v := (.c (.ref 0 6 0 4))) rfl ?_)
        refine un (a1 (v := (I e_.Curve.a3)) rfl ?_)
        refine un (a1 rfl ?_)
        refine un (ac_pure (anim_bend_ok (Γ := Γ) e_.Curve.a1 e_.Curve.a3 low1) rfl rfl rfl ?_)
        refine un (a1 rfl ?_)
        refine dnil ?_
        refine Sv.ret ?_
        replace h := Option.some.inj h
        subst h
        exact ⟨_, .refl _, _, rfl, ⟨upd (fun _ => none) 0 (some (I (anim_bend e_.Curve.a1 e_.Curve.a3 low1))), (fun _ => none), 0⟩, (I (anim_bend e_.Curve.a1 e_.Curve.a3 low1)), weak_canon [] rfl List.nodup_nil (Nat.le_refl _) (fun b h => absurd h (Nat.not_lt_zero _)) (.cons rfl (avAs_free rfl) .nil) .nil, rfl, rfl, rfl, rfl⟩
    · replace h := ifF hc2 h
      refine Sv.skip ?_
      refine Sv.seq ?_
      refine Sv.region ?_
      refine un (a1 rfl ?_)
      refine un (a1 rfl ?_)
      refine dnil ?_
      refine Sv.ret ?_
      replace h := Option.some.inj h
      subst h
      exact ⟨_, .refl _, _, rfl, ⟨upd (fun _ => none) 0 (some (I t_)), (fun _ => none), 0⟩, (I t_), weak_canon [] rfl List.nodup_nil (Nat.le_refl _) (fun b h => absurd h (Nat.not_lt_zero _)) (.cons rfl (avAs_free rfl) .nil) .nil, rfl, rfl, rfl, rfl⟩
def a15 : AFunc := ⟨2, [(.tmp 4), (.tmp 5)], (.seq (.region [⟨(some 2), (.box (.tmp 0)), none⟩, ⟨(some 4), (.mov (.const (.c (.val (.int .i64 0))))), none⟩, ⟨(some 5), (.mov (.const (.c (.val (.int .i64 0))))), none⟩])
 (.seq (.seq (.region [⟨(some 6), (.load true 6 (.tmp 2)), none⟩, ⟨(some 7), (.call 39 [(.tmp 6)]), none⟩, ⟨(some 8), (.un .not (.tmp 7)), none⟩])
 (.cond (.tmp 8) (.seq (.region [⟨(some 4), (.mov (.const (.c (.val (.int .i64 0))))), none⟩, ⟨(some 5), (.mov (.const (.c (.val (.int .i64 3))))), none⟩])
 .ret) .skip))
 (.seq (.seq (.region [⟨(some 9), (.mov (.tmp 1)), none⟩, ⟨(some 10), (.call 40 [(.tmp 9), (.const (.c (.val (.int .i64 0)))), (.const (.c (.val (.int .i64 1000))))]), none⟩, ⟨(some 11), (.un .not (.tmp 10)), none⟩])
 (.cond (.tmp 11) (.seq (.region [⟨(some 4), (.mov (.const (.c (.val (.int .i64 0))))), none⟩, ⟨(some 5), (.mov (.const (.c (.val (.int .i64 1))))), none⟩])
 .ret) .skip))
 (.seq (.region [⟨(some 12), (.load true 6 (.tmp 2)), none⟩, ⟨(some 13), (.mov (.tmp 1)), none⟩, ⟨(some 14), (.call 41 [(.tmp 12), (.tmp 13)]), none⟩, ⟨(some 4), (.mov (.tmp 14)), none⟩, ⟨(some 5), (.mov (.const (.c (.val (.int .i64 0))))), none⟩])
 .ret))))⟩
set_option maxRecDepth 100000 in
theorem c15 : compFunc Try.prog 15 = some a15 := by kernel_rfl
def anim_Ease_post (r : (Int × Int)) : AV → Heap → Nat → Prop := fun v h' n' => v = (.tup [(I r.1), (I r.2)]) ∧ (h' = (fun _ => none)) ∧ n' = 0
/-- clerestory/anim.Ease -/
noncomputable def anim_Ease (e_ : TSEase) (t_ : Int) : Option (Int × Int) :=
  (anim_easing e_).bind fun r_ =>
  if (!r_) then
    some (0, 3)
  else
    if (!(anim_in t_ 0 1000)) then
      some (0, 1)
    else
      (anim_eased e_ t_).bind fun r_1 =>
      some (r_1, 0)
theorem anim_Ease_ok {Γ : Glob} {e_ : TSEase} {t_ : Int} {r : (Int × Int)} (h : anim_Ease e_ t_ = some r) : CPure Try.prog Γ 15 [(.agg [cI e_.Kind, cI e_.Curve.a0, cI e_.Curve.a1, cI e_.Curve.a2, cI e_.Curve.a3, cI e_.N]), (I t_)] (.tup [(I r.1), (I r.2)]) := by
  refine acalls_of_sv hmix c15 (R := anim_Ease_post r) ?_
  unfold anim_Ease at h
  refine Sv.seq ?_
  refine Sv.region ?_
  refine un (a2v (v := (.c (.ref 0 6 0 0))) (h' := upd _ 0 (some (.cells 6 [[cI e_.Kind, cI e_.Curve.a0, cI e_.Curve.a1, cI e_.Curve.a2, cI e_.Curve.a3, cI e_.N]]))) (n' := 1) rfl rfl (fun h => by cases h) ?_)
  refine un (a1 rfl ?_)
  refine un (a1 rfl ?_)
  refine dnil ?_
  refine Sv.seq ?_
  refine Sv.seq ?_
  refine Sv.region ?_
  refine un (a1 (v := (.agg [cI e_.Kind, cI e_.Curve.a0, cI e_.Curve.a1, cI e_.Curve.a2, cI e_.Curve.a3, cI e_.N])) rfl ?_)
  obtain ⟨r_, hr1, h⟩ := bnd h
  refine un (ac_pure (anim_easing_ok hr1) rfl rfl rfl ?_)
  refine un (a1 (v := (B (!r_))) rfl ?_)
  refine dnil ?_
  refine Sv.cond (b := (!r_)) rfl (fun hc1 => ?_) (fun hc1 => ?_)
  · replace h := ifT hc1 h
    refine Sv.seq ?_
    refine Sv.region ?_
    refine un (a1 rfl ?_)
    refine un (a1 rfl ?_)
    refine dnil ?_
    refine Sv.ret ?_
    replace h := Option.some.inj h
    subst h
    exact ⟨_, .refl _, _, rfl, ⟨upd (fun _ => none) 0 (some (.tup [(I 0), (I 3)])), (fun _ => none), 0⟩, (.tup [(I 0), (I 3)]), weak_canon [] rfl List.nodup_nil (Nat.le_refl _) (fun b h => absurd h (Nat.not_lt_zero _)) (.cons rfl (avAs_tup (.cons (avAs_free rfl) (.cons (avAs_free rfl) .nil))) .nil) .nil, rfl, rfl, rfl, rfl⟩
  · replace h := ifF hc1 h
    refine Sv.skip ?_
    refine Sv.seq ?_
    refine Sv.seq ?_
    refine Sv.region ?_
    refine un (a1 rfl ?_)
    refine un (ac_pure (anim_in_ok (Γ := Γ) t_ 0 1000) rfl rfl rfl ?_)
    refine un (a1 (v := (B (!(anim_in t_ 0 1000)))) rfl ?_)
    refine dnil ?_
    refine Sv.cond (b := (!(anim_in t_ 0 1000))) rfl (fun hc2 => ?_) (fun hc2 => ?_)
    · replace h := ifT hc2 h
      refine Sv.seq ?_
      refine Sv.region ?_
      refine un (a1 rfl ?_)
      refine un (a1 rfl ?_)
      refine dnil ?_
      refine Sv.ret ?_
      replace h := Option.some.inj h
      subst h
      exact ⟨_, .refl _, _, rfl, ⟨upd (fun _ => none) 0 (some (.tup [(I 0), (I 1)])), (fun _ => none), 0⟩, (.tup [(I 0), (I 1)]), weak_canon [] rfl List.nodup_nil (Nat.le_refl _) (fun b h => absurd h (Nat.not_lt_zero _)) (.cons rfl (avAs_tup (.cons (avAs_free rfl) (.cons (avAs_free rfl) .nil))) .nil) .nil, rfl, rfl, rfl, rfl⟩
    · replace h := ifF hc2 h
      refine Sv.skip ?_
      refine Sv.seq ?_
      refine Sv.region ?_
      refine un (a1 (v := (.agg [cI e_.Kind, cI e_.Curve.a0, cI e_.Curve.a1, cI e_.Curve.a2, cI e_.Curve.a3, cI e_.N])) rfl ?_)
      refine un (a1 rfl ?_)
      obtain ⟨r_1, hr2, h⟩ := bnd h
      refine un (ac_pure (anim_eased_ok hr2) rfl rfl rfl ?_)
      refine un (a1 rfl ?_)
      refine un (a1 rfl ?_)
      refine dnil ?_
      refine Sv.ret ?_
      replace h := Option.some.inj h
      subst h
      exact ⟨_, .refl _, _, rfl, ⟨upd (fun _ => none) 0 (some (.tup [(I r_1), (I 0)])), (fun _ => none), 0⟩, (.tup [(I r_1), (I 0)]), weak_canon [] rfl List.nodup_nil (Nat.le_refl _) (fun b h => absurd h (Nat.not_lt_zero _)) (.cons rfl (avAs_tup (.cons (avAs_free rfl) (.cons (avAs_free rfl) .nil))) .nil) .nil, rfl, rfl, rfl, rfl⟩
def a14 : AFunc := ⟨0, [(.tmp 0)], (.seq (.region [⟨(some 0), (.mov (.const (.c (.val (.bool false))))), none⟩])
 (.seq (.region [⟨(some 4), (.build [(.val (.int .i64 0)), (.val (.int .i64 0)), (.val (.int .i64 0)), (.val (.int .i64 0)), (.val (.int .i64 0)), (.val (.int .i64 0))] [(0, (1, (.const (.c (.val (.int .i64 3)))))), (5, (1, (.const (.c (.val (.int .i64 4))))))]), none⟩, ⟨(some 5), (.call 15 [(.tmp 4), (.const (.c (.val (.int .i64 600))))]), none⟩, ⟨(some 3), (.mov (.tmp 5)), none⟩, ⟨(some 6), (.ext (.tmp 3) 0), none⟩, ⟨(some 7), (.ext (.tmp 3) 1), none⟩, ⟨(some 1), (.mov (.tmp 6)), none⟩, ⟨(some 2), (.mov (.tmp 7)), none⟩])
 (.seq (.region [⟨(some 8), (.mov (.tmp 2)), none⟩, ⟨(some 9), (.bin .eql (.tmp 8) (.const (.c (.val (.int .i64 0))))), none⟩, ⟨(some 10), (.mov (.tmp 9)), none⟩, ⟨(some 11), (.mov (.tmp 1)), (some (10, true))⟩, ⟨(some 12), (.bin .eql (.tmp 11) (.const (.c (.val (.int .i64 500))))), (some (10, true))⟩, ⟨(some 13), (.pick (.tmp 10) (.tmp 12) (.const (.c (.val (.bool false))))), none⟩, ⟨(some 0), (.mov (.tmp 13)), none⟩])
 .ret)))⟩
set_option maxRecDepth 100000 in
theorem c14 : compFunc Try.prog 14 = some a14 := by kernel_rfl
def clerestorylaw2_stepped_post (r : Bool) : AV → Heap → Nat → Prop := fun v h' n' => v = (B r) ∧ (h' = (fun _ => none)) ∧ n' = 0
/-- clerestory/clerestorylaw2.stepped -/
noncomputable def clerestorylaw2_stepped : Option Bool :=
  (anim_Ease (⟨3, (⟨0, 0, 0, 0⟩ : (Ar4 Int)), 4⟩ : TSEase) 600).bind fun r_ =>
  some ((decide (r_.2 = 0)) && (decide (r_.1 = 500)))
theorem clerestorylaw2_stepped_ok {Γ : Glob} {r : Bool} (h : clerestorylaw2_stepped = some r) : CPure Try.prog Γ 14 [] (B r) := by
  refine acalls_of_sv hmix c14 (R := clerestorylaw2_stepped_post r) ?_
  unfold clerestorylaw2_stepped at h
  refine Sv.seq ?_
  refine Sv.region ?_
  refine un (a1 rfl ?_)
  refine dnil ?_
  refine Sv.seq ?_
  refine Sv.region ?_
  refine un (a1 (v := (.agg [cI 3, cI 0, cI 0, cI 0, cI 0, cI 4])) rfl ?_)
  obtain ⟨r_, hr1, h⟩ := bnd h
  refine un (ac_pure (anim_Ease_ok hr1) rfl rfl rfl ?_)
  refine un (a1 rfl ?_)
  refine un (a1 (v := (I r_.1)) rfl ?_)
  refine un (a1 (v := (I r_.2)) rfl ?_)
  refine un (a1 rfl ?_)
  refine un (a1 rfl ?_)
  refine dnil ?_
  refine Sv.seq ?_
  refine Sv.region ?_
  refine un (a1 rfl ?_)
  refine un (a1 (v := (B (decide (r_.2 = 0)))) rfl ?_)
  refine un (a1 rfl ?_)
  refine gjoin 3 (d := 13) (v := (B ((decide (r_.2 = 0)) && (decide (r_.1 = 500))))) (fun X hX => ?_) ?_
  · refine split2 (fun hc1 => ?_) (fun hc1 => ?_)
    · refine gt rfl (a1 rfl ?_)
      refine gt rfl (a1 (v := (B (decide (r_.1 = 500)))) rfl ?_)
      refine un (a1 (v := (B (decide (r_.1 = 500)))) rfl ?_)
      refine dnil ?_
      exact hX _ (.putEq (by rw [hc1]; rfl) (.skip _ _ (.skip _ _ (.putEq (by rw [hc1]) (.refl _)) rfl) rfl))
    · refine gs rfl rfl ?_
      refine gs rfl rfl ?_
      refine un (a1 (v := (B false)) rfl ?_)
      refine dnil ?_
      exact hX _ (.putEq (by rw [hc1]; rfl) (.skip _ _ (.skip _ _ (.putEq (by rw [hc1]) (.refl _)) rfl) rfl))
  refine un (a1 rfl ?_)
  refine dnil ?_
  refine Sv.ret ?_
  replace h := Option.some.inj h
  subst h
  exact ⟨_, .refl _, _, rfl, ⟨upd (fun _ => none) 0 (some (B ((decide (r_.2 = 0)) && (decide (r_.1 = 500))))), (fun _ => none), 0⟩, (B ((decide (r_.2 = 0)) && (decide (r_.1 = 500)))), weak_canon [] rfl List.nodup_nil (Nat.le_refl _) (fun b h => absurd h (Nat.not_lt_zero _)) (.cons rfl (avAs_free rfl) .nil) .nil, rfl, rfl, rfl, rfl⟩
def a16_c0 : ACode := (.cond (.tmp 22) (.seq (.region [⟨(some 2), (.mov (.const (.c (.val (.bool false))))), none⟩])
 .ret) .skip)
def a16_c1 : ACode := (.region [⟨(some 9), (.mov (.tmp 3)), none⟩, ⟨(some 10), (.bin .add (.tmp 9) (.const (.c (.val (.int .i64 1))))), none⟩, ⟨(some 3), (.mov (.tmp 10)), none⟩])
def a16_c2 : ACode := (.seq (.seq (.region [⟨(some 7), (.mov (.tmp 3)), none⟩, ⟨(some 8), (.bin .lss (.tmp 7) (.const (.c (.val (.int .i64 4))))), none⟩])
 (.cond (.tmp 8) .skip (.exit 0)))
 (.seq (.block 1 (.seq (.region [⟨(some 11), (.mov (.tmp 3)), none⟩, ⟨(some 12), (.faddr 1 (.tmp 1)), none⟩, ⟨(some 13), (.iaddrA 4 1 (.tmp 12) (.tmp 11)), none⟩, ⟨(some 14), (.load false 1 (.tmp 13)), none⟩, ⟨(some 15), (.bin .lss (.tmp 14) (.const (.c (.val (.int .i64 0))))), none⟩, ⟨(some 16), (.mov (.tmp 15)), none⟩, ⟨(some 17), (.mov (.tmp 3)), (some (16, false))⟩, ⟨(some 18), (.faddr 1 (.tmp 1)), (some (16, false))⟩, ⟨(some 19), (.iaddrA 4 1 (.tmp 18) (.tmp 17)), (some (16, false))⟩, ⟨(some 20), (.load false 1 (.tmp 19)), (some (16, false))⟩, ⟨(some 21), (.bin .gtr (.tmp 20) (.const (.c (.val (.int .i64 1000))))), (some (16, false))⟩, ⟨(some 22), (.pick (.tmp 16) (.const (.c (.val (.bool true)))) (.tmp 21)), none⟩])
 a16_c0))
 a16_c1))
def a16 : AFunc := ⟨1, [(.tmp 2)], (.seq (.region [⟨(some 1), (.box (.tmp 0)), none⟩, ⟨(some 2), (.mov (.const (.c (.val (.bool false))))), none⟩])
 (.seq (.seq (.region [⟨(some 4), (.faddr 0 (.tmp 1)), none⟩, ⟨(some 5), (.load false 1 (.tmp 4)), none⟩, ⟨(some 6), (.bin .eql (.tmp 5) (.const (.c (.val (.int .i64 2))))), none⟩])
 (.cond (.tmp 6) (.seq (.seq (.region [⟨(some 3), (.mov (.const (.c (.val (.int .i64 0))))), none⟩])
 (.block 0 (.loop a16_c2)))
 (.seq (.region [⟨(some 23), (.faddr 5 (.tmp 1)), none⟩, ⟨(some 24), (.load false 1 (.tmp 23)), none⟩, ⟨(some 25), (.bin .eql (.tmp 24) (.const (.c (.val (.int .i64 0))))), none⟩, ⟨(some 2), (.mov (.tmp 25)), none⟩])
 .ret)) .skip))
 (.seq (.seq (.region [⟨(some 26), (.faddr 1 (.tmp 1)), none⟩, ⟨(some 27), (.load true 4 (.tmp 26)), none⟩, ⟨(some 28), (.build [(.val (.int .i64 0)), (.val (.int .i64 0)), (.val (.int .i64 0)), (.val (.int .i64 0))] []), none⟩, ⟨(some 29), (.eqs true true [.i, .i, .i, .i] (.tmp 27) (.tmp 28)), none⟩])
 (.cond (.tmp 29) (.seq (.region [⟨(some 2), (.mov (.const (.c (.val (.bool false))))), none⟩])
 .ret) .skip))
 (.seq (.seq (.region [⟨(some 30), (.faddr 0 (.tmp 1)), none⟩, ⟨(some 31), (.load false 1 (.tmp 30)), none⟩, ⟨(some 32), (.bin .eql (.tmp 31) (.const (.c (.val (.int .i64 3))))), none⟩])
 (.cond (.tmp 32) (.seq (.region [⟨(some 33), (.faddr 5 (.tmp 1)), none⟩, ⟨(some 34), (.load false 1 (.tmp 33)), none⟩, ⟨(some 35), (.bin .geq (.tmp 34) (.const (.c (.val (.int .i64 1))))), none⟩, ⟨(some 36), (.mov (.tmp 35)), none⟩, ⟨(some 37), (.faddr 5 (.tmp 1)), (some (36, true))⟩, ⟨(some 38), (.load false 1 (.tmp 37)), (some (36, true))⟩, ⟨(some 39), (.bin .leq (.tmp 38) (.const (.c (.val (.int .i64 1000))))), (some (36, true))⟩, ⟨(some 40), (.pick (.tmp 36) (.tmp 39) (.const (.c (.val (.bool false))))), none⟩, ⟨(some 2), (.mov (.tmp 40)), none⟩])
 .ret) .skip))
 (.seq (.region [⟨(some 41), (.faddr 0 (.tmp 1)), none⟩, ⟨(some 42), (.load false 1 (.tmp 41)), none⟩, ⟨(some 43), (.bin .eql (.tmp 42) (.const (.c (.val (.int .i64 1))))), none⟩, ⟨(some 44), (.mov (.tmp 43)), none⟩, ⟨(some 45), (.faddr 5 (.tmp 1)), (some (44, true))⟩, ⟨(some 46), (.load false 1 (.tmp 45)), (some (44, true))⟩, ⟨(some 47), (.bin .eql (.tmp 46) (.const (.c (.val (.int .i64 0))))), (some (44, true))⟩, ⟨(some 48), (.pick (.tmp 44) (.tmp 47) (.const (.c (.val (.bool false))))), none⟩, ⟨(some 2), (.mov (.tmp 48)), none⟩])
 .ret)))))⟩
set_option maxRecDepth 100000 in
theorem c16 : compFunc Try.prog 16 = some a16 := by kernel_rfl
def clerestoryref2_EaseMay_post (r : Bool) : AV → Heap → Nat → Prop := fun v h' n' => v = (B r) ∧ (h' = (fun _ => none)) ∧ n' = 0
abbrev clerestoryref2_EaseMay_q0 (Γ : Glob) (Q : AExit → St → Prop) : AExit → St → Prop := AThen (Sv Try.prog Γ 0 a16_c1 Q) Q
abbrev clerestoryref2_EaseMay_q1 (Γ : Glob) (Q : AExit → St → Prop) : AExit → St → Prop := ABlock 1 (clerestoryref2_EaseMay_q0 Γ Q)
noncomputable def clerestoryref2_EaseMay_j2 (i_ : Int) (e_ : TSEase) (self : Int → Option Bool) (K0_ : Unit → Option Bool) (v22 : Bool) : Option Bool :=
  if v22 then
    some false
  else
    self (wi (i_ + 1))
theorem clerestoryref2_EaseMay_j2_ok {Γ : Glob} {Q : AExit → St → Prop} {i_ : Int} {e_ : TSEase} {self : Int → Option Bool} {K0_ : Unit → Option Bool} {v22 : Bool} {o : Bool} (h : clerestoryref2_EaseMay_j2 i_ e_ self K0_ v22 = some o)
    (hself : ∀ (i_ : Int), self i_ = some o → ∀ s, Weak 0 s ⟨(upd (upd (fun _ => none) 1 (some (.c (.ref 0 6 0 0)))) 3 (some (I i_))), (upd (fun _ => none) 0 (some (.cells 6 [[cI e_.Kind, cI e_.Curve.a0, cI e_.Curve.a1, cI e_.Curve.a2, cI e_.Curve.a3, cI e_.N]]))), 1⟩ → (Q) .normal s)
    (hK0 : ∀ (_ : Unit), K0_ () = some o → ∀ s, Weak 0 s ⟨(upd (fun _ => none) 1 (some (.c (.ref 0 6 0 0)))), (upd (fun _ => none) 0 (some (.cells 6 [[cI e_.Kind, cI e_.Curve.a0, cI e_.Curve.a1, cI e_.Curve.a2, cI e_.Curve.a3, cI e_.N]]))), 1⟩ → Q (.exit 0) s)
    (hr : ∀ s, Ends a16.results 0 (clerestoryref2_EaseMay_post o) .ret s → Q .ret s) :
    Sv Try.prog Γ 0 a16_c0 (clerestoryref2_EaseMay_q1 Γ Q) ⟨(upd (upd (upd (fun _ => none) 1 (some (.c (.ref 0 6 0 0)))) 3 (some (I i_))) 22 (some (B v22))), (upd (fun _ => none) 0 (some (.cells 6 [[cI e_.Kind, cI e_.Curve.a0, cI e_.Curve.a1, cI e_.Curve.a2, cI e_.Curve.a3, cI e_.N]]))), 1⟩ := by
  unfold clerestoryref2_EaseMay_j2 at h
  refine Sv.cond (b := v22) rfl (fun hc3 => ?_) (fun hc3 => ?_)
  · replace h := ifT hc3 h
    refine Sv.seq ?_
    refine Sv.region ?_
    refine un (a1 rfl ?_)
    refine dnil ?_
    refine Sv.ret ?_
    replace h := Option.some.inj h
    subst h
    exact hr _ ⟨_, .refl _, _, rfl, ⟨upd (fun _ => none) 0 (some (B false)), (fun _ => none), 0⟩, (B false), weak_canon [] rfl List.nodup_nil (Nat.le_refl _) (fun b h => absurd h (Nat.not_lt_zero _)) (.cons rfl (avAs_free rfl) .nil) .nil, rfl, rfl, rfl, rfl⟩
  · replace h := ifF hc3 h
    refine Sv.skip ?_
    refine Sv.region ?_
    refine un (a1 rfl ?_)
    refine un (a1 (v := (I (wi (i_ + 1)))) rfl ?_)
    refine un (a1 rfl ?_)
    refine dnil ?_
    exact hself (wi (i_ + 1)) h _ (weak_canon [0] rfl (by decide) (by decide) (fun b h => absurd h (Nat.not_lt_zero _)) (.cons rfl (avAs_free rfl) (.cons rfl (.c (.ref rfl (by decide))) .nil)) (.box (by decide) rfl (blkAs_cells (.cons (.same rfl) (.cons (.same rfl) (.cons (.same rfl) (.cons (.same rfl) (.cons (.same rfl) (.cons (.same rfl) .nil))))))) .nil))
noncomputable def clerestoryref2_EaseMay_l0 (e_ : TSEase) (K0_ : Unit → Option Bool) : Nat → Int → Option Bool
  | 0, _ => none
  | k + 1, i_ =>
    if decide (i_ < 4) then
      (at? [e_.Curve.a0, e_.Curve.a1, e_.Curve.a2, e_.Curve.a3] i_).bind fun x_ =>
      if decide (x_ < 0) then
        clerestoryref2_EaseMay_j2 i_ e_ (clerestoryref2_EaseMay_l0 e_ K0_ k) K0_ true
      else
        (at? [e_.Curve.a0, e_.Curve.a1, e_.Curve.a2, e_.Curve.a3] i_).bind fun x_1 =>
        clerestoryref2_EaseMay_j2 i_ e_ (clerestoryref2_EaseMay_l0 e_ K0_ k) K0_ (decide (1000 < x_1))
    else
      K0_ ()
theorem clerestoryref2_EaseMay_l0_ok {Γ : Glob} {Q : AExit → St → Prop} {e_ : TSEase} {K0_ : Unit → Option Bool} {k : Nat} {i_ : Int} {o : Bool} (h : clerestoryref2_EaseMay_l0 e_ K0_ k i_ = some o)
    (hK0 : ∀ (_ : Unit), K0_ () = some o → ∀ s, Weak 0 s ⟨(upd (fun _ => none) 1 (some (.c (.ref 0 6 0 0)))), (upd (fun _ => none) 0 (some (.cells 6 [[cI e_.Kind, cI e_.Curve.a0, cI e_.Curve.a1, cI e_.Curve.a2, cI e_.Curve.a3, cI e_.N]]))), 1⟩ → Q (.exit 0) s)
    (hr : ∀ s, Ends a16.results 0 (clerestoryref2_EaseMay_post o) .ret s → Q .ret s) :
    Sv Try.prog Γ 0 (.loop a16_c2) Q ⟨(upd (upd (fun _ => none) 1 (some (.c (.ref 0 6 0 0)))) 3 (some (I i_))), (upd (fun _ => none) 0 (some (.cells 6 [[cI e_.Kind, cI e_.Curve.a0, cI e_.Curve.a1, cI e_.Curve.a2, cI e_.Curve.a3, cI e_.N]]))), 1⟩ := by
  refine Sv.loop (I := fun k s => ∃ (i_ : Int), clerestoryref2_EaseMay_l0 e_ K0_ k i_ = some o ∧ s = ⟨(upd (upd (fun _ => none) 1 (some (.c (.ref 0 6 0 0)))) 3 (some (I i_))), (upd (fun _ => none) 0 (some (.cells 6 [[cI e_.Kind, cI e_.Curve.a0, cI e_.Curve.a1, cI e_.Curve.a2, cI e_.Curve.a3, cI e_.N]]))), 1⟩) (fun k s hI => ?_) ⟨i_, h, rfl⟩
  clear h
  clear i_
  obtain ⟨i_, h, rfl⟩ := hI
  cases k with
  | zero => cases h
  | succ k =>
  rw [clerestoryref2_EaseMay_l0] at h
  have hself : ∀ (i_ : Int), (clerestoryref2_EaseMay_l0 e_ K0_ k) i_ = some o → ∀ s, Weak 0 s ⟨(upd (upd (fun _ => none) 1 (some (.c (.ref 0 6 0 0)))) 3 (some (I i_))), (upd (fun _ => none) 0 (some (.cells 6 [[cI e_.Kind, cI e_.Curve.a0, cI e_.Curve.a1, cI e_.Curve.a2, cI e_.Curve.a3, cI e_.N]]))), 1⟩ → (AThen (fun s' => ∃ s'' k', Weak 0 s' s'' ∧ k' < k + 1 ∧ (fun k s => ∃ (i_ : Int), clerestoryref2_EaseMay_l0 e_ K0_ k i_ = some o ∧ s = ⟨(upd (upd (fun _ => none) 1 (some (.c (.ref 0 6 0 0)))) 3 (some (I i_))), (upd (fun _ => none) 0 (some (.cells 6 [[cI e_.Kind, cI e_.Curve.a0, cI e_.Curve.a1, cI e_.Curve.a2, cI e_.Curve.a3, cI e_.N]]))), 1⟩) k' s'') Q) .normal s := fun i_ h s hw => ⟨_, k, hw, Nat.lt_succ_self k, i_, h, rfl⟩
  refine Sv.seq ?_
  refine Sv.seq ?_
  refine Sv.region ?_
  refine un (a1 rfl ?_)
  refine un (a1 (v := (B (decide (i_ < 4)))) rfl ?_)
  refine dnil ?_
  refine Sv.cond (b := decide (i_ < 4)) rfl (fun hc2 => ?_) (fun hc2 => ?_)
  · replace h := ifT hc2 h
    refine Sv.skip ?_
    refine Sv.seq ?_
    refine Sv.block ?_
    refine Sv.seq ?_
    refine Sv.region ?_
    refine un (a1 rfl ?_)
    refine un (a1 (v := (.c (.ref 0 6 0 1))) rfl ?_)
    obtain ⟨x_, hx1, h⟩ := bnd h
    refine un (a1 (v := (.c (.ref 0 6 0 (1 + i_.toNat * 1)))) (s_iaddrA (L := [e_.Curve.a0, e_.Curve.a1, e_.Curve.a2, e_.Curve.a3]) rfl rfl rfl hx1) ?_)
    refine un (a1 (v := (I x_)) (s_loadA (o2 := 0) (v := fun q => (I q)) rfl rfl (.cons rfl (.cons rfl (.cons rfl (.cons rfl .nil)))) hx1) ?_)
    refine un (a1 (v := (B (decide (x_ < 0)))) rfl ?_)
    refine un (a1 rfl ?_)
    refine split2 (fun hc4 => ?_) (fun hc4 => ?_)
    · replace h := ifT hc4 h
      refine gs rfl rfl ?_
      refine gs rfl rfl ?_
      refine gs rfl rfl ?_
      refine gs rfl rfl ?_
      refine gs rfl rfl ?_
      refine un (a1 (v := (B true)) rfl ?_)
      refine dnil ?_
      exact Sv.weak (weak_canon [0] rfl (by decide) (by decide) (fun b h => absurd h (Nat.not_lt_zero _)) (.cons rfl (avAs_free rfl) (.cons rfl (avAs_free rfl) (.cons rfl (.c (.ref rfl (by decide))) .nil))) (.box (by decide) rfl (blkAs_cells (.cons (.same rfl) (.cons (.same rfl) (.cons (.same rfl) (.cons (.same rfl) (.cons (.same rfl) (.cons (.same rfl) .nil))))))) .nil)) (clerestoryref2_EaseMay_j2_ok h hself hK0 hr)
    · replace h := ifF hc4 h
      refine gt rfl (a1 rfl ?_)
      refine gt rfl (a1 (v := (.c (.ref 0 6 0 1))) rfl ?_)
      obtain ⟨x_1, hx2, h⟩ := bnd h
      refine gt rfl (a1 (v := (.c (.ref 0 6 0 (1 + i_.toNat * 1)))) (s_iaddrA (L := [e_.Curve.a0, e_.Curve.a1, e_.Curve.a2, e_.Curve.a3]) rfl rfl rfl hx2) ?_)
      refine gt rfl (a1 (v := (I x_1)) (s_loadA (o2 := 0) (v := fun q => (I q)) rfl rfl (.cons rfl (.cons rfl (.cons rfl (.cons rfl .nil)))) hx2) ?_)
      refine gt rfl (a1 (v := (B (decide (1000 < x_1)))) rfl ?_)
      refine un (a1 (v := (B (decide (1000 < x_1)))) rfl ?_)
      refine dnil ?_
      exact Sv.weak (weak_canon [0] rfl (by decide) (by decide) (fun b h => absurd h (Nat.not_lt_zero _)) (.cons rfl (avAs_free rfl) (.cons rfl (avAs_free rfl) (.cons rfl (.c (.ref rfl (by decide))) .nil))) (.box (by decide) rfl (blkAs_cells (.cons (.same rfl) (.cons (.same rfl) (.cons (.same rfl) (.cons (.same rfl) (.cons (.same rfl) (.cons (.same rfl) .nil))))))) .nil)) (clerestoryref2_EaseMay_j2_ok h hself hK0 hr)
  · replace h := ifF hc2 h
    refine Sv.exit ?_
    exact hK0 () h _ (weak_canon [0] rfl (by decide) (by decide) (fun b h => absurd h (Nat.not_lt_zero _)) (.cons rfl (.c (.ref rfl (by decide))) .nil) (.box (by decide) rfl (blkAs_cells (.cons (.same rfl) (.cons (.same rfl) (.cons (.same rfl) (.cons (.same rfl) (.cons (.same rfl) (.cons (.same rfl) .nil))))))) .nil))
/-- clerestory/clerestoryref2.EaseMay -/
noncomputable def clerestoryref2_EaseMay (e_ : TSEase) : Option Bool :=
  if decide (e_.Kind = 2) then
    lim fun kk => clerestoryref2_EaseMay_l0 e_ (fun (_ : Unit) => 
        some (decide (e_.N = 0))) kk 0
  else
    letIn (!(decide (e_.Curve.a0 = 0) && (decide (e_.Curve.a1 = 0) && (decide (e_.Curve.a2 = 0) && (decide (e_.Curve.a3 = 0) && true))))) fun v29 : Bool =>
    if v29 then
      some false
    else
      if decide (e_.Kind = 3) then
        some ((decide (1 ≤ e_.N)) && (decide (e_.N ≤ 1000)))
      else
        some ((decide (e_.Kind = 1)) && (decide (e_.N = 0)))
theorem clerestoryref2_EaseMay_ok {Γ : Glob} {e_ : TSEase} {r : Bool} (h : clerestoryref2_EaseMay e_ = some r) : CPure Try.prog Γ 16 [(.agg [cI e_.Kind, cI e_.Curve.a0, cI e_.Curve.a1, cI e_.Curve.a2, cI e_.Curve.a3, cI e_.N])] (B r) := by
  refine acalls_of_sv hmix c16 (R := clerestoryref2_EaseMay_post r) ?_
  unfold clerestoryref2_EaseMay at h
  refine Sv.seq ?_
  refine Sv.region ?_
  refine un (a2v (v := (.c (.ref 0 6 0 0))) (h' := upd _ 0 (some (.cells 6 [[cI e_.Kind, cI e_.Curve.a0, cI e_.Curve.a1, cI e_.Curve.a2, cI e_.Curve.a3, cI e_.N]]))) (n' := 1) rfl rfl (fun h => by cases h) ?_)
  refine un (a1 rfl ?_)
  refine dnil ?_
  refine Sv.seq ?_
  refine Sv.seq ?_
  refine Sv.region ?_
  refine un (a1 (v := (.c (.ref 0 6 0 0))) rfl ?_)
  refine un (a1 (v := (I e_.Kind)) rfl ?_)
  refine un (a1 (v := (B (decide (e_.Kind = 2)))) rfl ?_)
  refine dnil ?_
  refine Sv.cond (b := decide (e_.Kind = 2)) rfl (fun hc1 => ?_) (fun hc1 => ?_)
  · replace h := ifT hc1 h
    refine Sv.seq ?_
    refine Sv.seq ?_
    refine Sv.region ?_
    refine un (a1 rfl ?_)
    refine dnil ?_
    refine Sv.block ?_
    obtain ⟨kk, h⟩ := lim_some h
    refine Sv.weak (weak_canon [0] rfl (by decide) (by decide) (fun b h => absurd h (Nat.not_lt_zero _)) (.cons rfl (avAs_free rfl) (.cons rfl (.c (.ref rfl (by decide))) .nil)) (.box (by decide) rfl (blkAs_cells (.cons (.same rfl) (.cons (.same rfl) (.cons (.same rfl) (.cons (.same rfl) (.cons (.same rfl) (.cons (.same rfl) .nil))))))) .nil)) (clerestoryref2_EaseMay_l0_ok h ?_ (fun s hs => hs))
    · intro _ h _ hw1
      refine Sv.weak hw1 ?_
      refine Sv.seq ?_
      refine Sv.region ?_
      refine un (a1 (v := (.c (.ref 0 6 0 5))) rfl ?_)
      refine un (a1 (v := (I e_.N)) rfl ?_)
      refine un (a1 (v := (B (decide (e_.N = 0)))) rfl ?_)
      refine un (a1 rfl ?_)
      refine dnil ?_
      refine Sv.ret ?_
      replace h := Option.some.inj h
      subst h
      exact ⟨_, .refl _, _, rfl, ⟨upd (fun _ => none) 0 (some (B (decide (e_.N = 0)))), (fun _ => none), 0⟩, (B (decide (e_.N = 0))), weak_canon [] rfl List.nodup_nil (Nat.le_refl _) (fun b h => absurd h (Nat.not_lt_zero _)) (.cons rfl (avAs_free rfl) .nil) .nil, rfl, rfl, rfl, rfl⟩
  · replace h := ifF hc1 h
    refine Sv.skip ?_
    refine Sv.seq ?_
    refine Sv.seq ?_
    refine Sv.region ?_
    refine un (a1 (v := (.c (.ref 0 6 0 1))) rfl ?_)
    refine un (a1 (v := (.agg [cI e_.Curve.a0, cI e_.Curve.a1, cI e_.Curve.a2, cI e_.Curve.a3])) rfl ?_)
    refine un (a1 (v := (.agg [cI 0, cI 0, cI 0, cI 0])) rfl ?_)
    obtain ⟨v29, hv29⟩ : ∃ v29 : Bool, v29 = (!(decide (e_.Curve.a0 = 0) && (decide (e_.Curve.a1 = 0) && (decide (e_.Curve.a2 = 0) && (decide (e_.Curve.a3 = 0) && true))))) := ⟨_, rfl⟩
    replace h := letAt hv29 h
    refine un (a1 (v := (B v29)) (by rw [hv29]; rfl) ?_)
    clear hv29
    refine dnil ?_
    refine Sv.cond (b := v29) rfl (fun hc5 => ?_) (fun hc5 => ?_)
    · replace h := ifT hc5 h
      refine Sv.seq ?_
      refine Sv.region ?_
      refine un (a1 rfl ?_)
      refine dnil ?_
      refine Sv.ret ?_
      replace h := Option.some.inj h
      subst h
      exact ⟨_, .refl _, _, rfl, ⟨upd (fun _ => none) 0 (some (B false)), (fun _ => none), 0⟩, (B false), weak_canon [] rfl List.nodup_nil (Nat.le_refl _) (fun b h => absurd h (Nat.not_lt_zero _)) (.cons rfl (avAs_free rfl) .nil) .nil, rfl, rfl, rfl, rfl⟩
    · replace h := ifF hc5 h
      refine Sv.skip ?_
      refine Sv.seq ?_
      refine Sv.seq ?_
      refine Sv.region ?_
      refine un (a1 (v := (.c (.ref 0 6 0 0))) rfl ?_)
      refine un (a1 (v := (I e_.Kind)) rfl ?_)
      refine un (a1 (v := (B (decide (e_.Kind = 3)))) rfl ?_)
      refine dnil ?_
      refine Sv.cond (b := decide (e_.Kind = 3)) rfl (fun hc6 => ?_) (fun hc6 => ?_)
      · replace h := ifT hc6 h
        refine Sv.seq ?_
        refine Sv.region ?_
        refine un (a1 (v := (.c (.ref 0 6 0 5))) rfl ?_)
        refine un (a1 (v := (I e_.N)) rfl ?_)
        refine un (a1 (v := (B (decide (1 ≤ e_.N)))) rfl ?_)
        refine un (a1 rfl ?_)
        refine gjoin 4 (d := 40) (v := (B ((decide (1 ≤ e_.N)) && (decide (e_.N ≤ 1000))))) (fun X hX => ?_) ?_
        · refine split2 (fun hc7 => ?_) (fun hc7 => ?_)
          · refine gt rfl (a1 (v := (.c (.ref 0 6 0 5))) rfl ?_)
            refine gt rfl (a1 (v := (I e_.N)) rfl ?_)
            refine gt rfl (a1 (v := (B (decide (e_.N ≤ 1000)))) rfl ?_)
            refine un (a1 (v := (B (decide (e_.N ≤ 1000)))) rfl ?_)
            refine dnil ?_
            exact hX _ (.putEq (by rw [hc7]; rfl) (.skip _ _ (.skip _ _ (.skip _ _ (.putEq (by rw [hc7]) (.refl _)) rfl) rfl) rfl))
          · refine gs rfl rfl ?_
            refine gs rfl rfl ?_
            refine gs rfl rfl ?_
            refine un (a1 (v := (B false)) rfl ?_)
            refine dnil ?_
            exact hX _ (.putEq (by rw [hc7]; rfl) (.skip _ _ (.skip _ _ (.skip _ _ (.putEq (by rw [hc7]) (.refl _)) rfl) rfl) rfl))
        refine un (a1 rfl ?_)
        refine dnil ?_
        refine Sv.ret ?_
        replace h := Option.some.inj h
        subst h
        exact ⟨_, .refl _, _, rfl, ⟨upd (fun _ => none) 0 (some (B ((decide (1 ≤ e_.N)) && (decide (e_.N ≤ 1000))))), (fun _ => none), 0⟩, (B ((decide (1 ≤ e_.N)) && (decide (e_.N ≤ 1000)))), weak_canon [] rfl List.nodup_nil (Nat.le_refl _) (fun b h => absurd h (Nat.not_lt_zero _)) (.cons rfl (avAs_free rfl) .nil) .nil, rfl, rfl, rfl, rfl⟩
      · replace h := ifF hc6 h
        refine Sv.skip ?_
        refine Sv.seq ?_
        refine Sv.region ?_
        refine un (a1 (v := (.c (.ref 0 6 0 0))) rfl ?_)
        refine un (a1 (v := (I e_.Kind)) rfl ?_)
        refine un (a1 (v := (B (decide (e_.Kind = 1)))) rfl ?_)
        refine un (a1 rfl ?_)
        refine gjoin 4 (d := 48) (v := (B ((decide (e_.Kind = 1)) && (decide (e_.N = 0))))) (fun X hX => ?_) ?_
        · refine split2 (fun hc8 => ?_) (fun hc8 => ?_)
          · refine gt rfl (a1 (v := (.c (.ref 0 6 0 5))) rfl ?_)
            refine gt rfl (a1 (v := (I e_.N)) rfl ?_)
            refine gt rfl (a1 (v := (B (decide (e_.N = 0)))) rfl ?_)
            refine un (a1 (v := (B (decide (e_.N = 0)))) rfl ?_)
            refine dnil ?_
            exact hX _ (.putEq (by rw [hc8]; rfl) (.skip _ _ (.skip _ _ (.skip _ _ (.putEq (by rw [hc8]) (.refl _)) rfl) rfl) rfl))
          · refine gs rfl rfl ?_
            refine gs rfl rfl ?_
            refine gs rfl rfl ?_
            refine un (a1 (v := (B false)) rfl ?_)
            refine dnil ?_
            exact hX _ (.putEq (by rw [hc8]; rfl) (.skip _ _ (.skip _ _ (.skip _ _ (.putEq (by rw [hc8]) (.refl _)) rfl) rfl) rfl))
        refine un (a1 rfl ?_)
        refine dnil ?_
        refine Sv.ret ?_
        replace h := Option.some.inj h
        subst h
        exact ⟨_, .refl _, _, rfl, ⟨upd (fun _ => none) 0 (some (B ((decide (e_.Kind = 1)) && (decide (e_.N = 0))))), (fun _ => none), 0⟩, (B ((decide (e_.Kind = 1)) && (decide (e_.N = 0)))), weak_canon [] rfl List.nodup_nil (Nat.le_refl _) (fun b h => absurd h (Nat.not_lt_zero _)) (.cons rfl (avAs_free rfl) .nil) .nil, rfl, rfl, rfl, rfl⟩
def a22_c0 : ACode := (.cond (.tmp 61) (.seq (.region [⟨(some 2), (.mov (.const (.c (.val (.int .i64 3))))), none⟩])
 .ret) .skip)
def a22_c1 : ACode := (.seq (.seq (.region [⟨(some 62), (.mov (.tmp 4)), none⟩, ⟨(some 63), (.mov (.tmp 3)), none⟩, ⟨(some 64), (.bin .lss (.tmp 62) (.tmp 63)), none⟩])
 (.cond (.tmp 64) .skip (.exit 0)))
 (.seq (.block 1 (.seq (.drawn (.fin [(⟨(some 67), (.faddr 11 (.tmp 1)), none⟩, (0, 0)), (⟨(some 68), (.load false 1 (.tmp 67)), none⟩, (0, 1)), (⟨(some 69), (.mov (.tmp 4)), none⟩, (0, 2)), (⟨(some 70), (.bin .sub (.tmp 69) (.const (.c (.val (.int .i64 1))))), none⟩, (0, 3)), (⟨(some 71), (.iaddr 3 (.tmp 68) (.tmp 70)), none⟩, (0, 4)), (⟨(some 72), (.faddr 0 (.tmp 71)), none⟩, (0, 5)), (⟨(some 73), (.load false 1 (.tmp 72)), none⟩, (0, 6)), (⟨(some 74), (.faddr 11 (.tmp 1)), none⟩, (0, 7)), (⟨(some 75), (.load false 1 (.tmp 74)), none⟩, (0, 8)), (⟨(some 76), (.mov (.tmp 4)), none⟩, (0, 9)), (⟨(some 77), (.iaddr 3 (.tmp 75) (.tmp 76)), none⟩, (0, 10)), (⟨(some 78), (.faddr 0 (.tmp 77)), none⟩, (0, 11)), (⟨(some 79), (.load false 1 (.tmp 78)), none⟩, (0, 12)), (⟨(some 80), (.bin .geq (.tmp 73) (.tmp 79)), none⟩, (0, 13))]))
 (.cond (.tmp 80) (.seq (.region [⟨(some 2), (.mov (.const (.c (.val (.int .i64 3))))), none⟩])
 .ret) .skip)))
 (.region [⟨(some 65), (.mov (.tmp 4)), none⟩, ⟨(some 66), (.bin .add (.tmp 65) (.const (.c (.val (.int .i64 1))))), none⟩, ⟨(some 4), (.mov (.tmp 66)), none⟩])))
def a22_c2 : ACode := (.seq (.seq (.region [⟨(some 4), (.mov (.const (.c (.val (.int .i64 1))))), none⟩])
 (.block 0 (.loop a22_c1)))
 (.seq (.region [⟨(some 2), (.mov (.const (.c (.val (.int .i64 0))))), none⟩])
 .ret))
def a22 : AFunc := ⟨1, [(.tmp 2)], (.seq (.region [⟨(some 1), (.box (.tmp 0)), none⟩, ⟨(some 2), (.mov (.const (.c (.val (.int .i64 0))))), none⟩])
 (.seq (.seq (.region [⟨(some 5), (.faddr 0 (.tmp 1)), none⟩, ⟨(some 6), (.load false 1 (.tmp 5)), none⟩, ⟨(some 7), (.bin .lss (.tmp 6) (.const (.c (.val (.int .i64 0))))), none⟩, ⟨(some 8), (.mov (.tmp 7)), none⟩, ⟨(some 9), (.faddr 0 (.tmp 1)), (some (8, false))⟩, ⟨(some 10), (.load false 1 (.tmp 9)), (some (8, false))⟩, ⟨(some 11), (.bin .gtr (.tmp 10) (.const (.c (.val (.int .i64 100000000))))), (some (8, false))⟩, ⟨(some 12), (.pick (.tmp 8) (.const (.c (.val (.bool true)))) (.tmp 11)), none⟩, ⟨(some 13), (.mov (.tmp 12)), none⟩, ⟨(some 14), (.faddr 1 (.tmp 1)), (some (13, false))⟩, ⟨(some 15), (.load false 1 (.tmp 14)), (some (13, false))⟩, ⟨(some 16), (.bin .lss (.tmp 15) (.const (.c (.val (.int .i64 1))))), (some (13, false))⟩, ⟨(some 17), (.pick (.tmp 13) (.const (.c (.val (.bool true)))) (.tmp 16)), none⟩, ⟨(some 18), (.mov (.tmp 17)), none⟩, ⟨(some 19), (.faddr 1 (.tmp 1)), (some (18, false))⟩, ⟨(some 20), (.load false 1 (.tmp 19)), (some (18, false))⟩, ⟨(some 21), (.bin .gtr (.tmp 20) (.const (.c (.val (.int .i64 100000000))))), (some (18, false))⟩, ⟨(some 22), (.pick (.tmp 18) (.const (.c (.val (.bool true)))) (.tmp 21)), none⟩, ⟨(some 23), (.mov (.tmp 22)), none⟩, ⟨(some 24), (.faddr 2 (.tmp 1)), (some (23, false))⟩, ⟨(some 25), (.load false 1 (.tmp 24)), (some (23, false))⟩, ⟨(some 26), (.bin .lss (.tmp 25) (.const (.c (.val (.int .i64 1))))), (some (23, false))⟩, ⟨(some 27), (.pick (.tmp 23) (.const (.c (.val (.bool true)))) (.tmp 26)), none⟩, ⟨(some 28), (.mov (.tmp 27)), none⟩, ⟨(some 29), (.faddr 2 (.tmp 1)), (some (28, false))⟩, ⟨(some 30), (.load false 1 (.tmp 29)), (some (28, false))⟩, ⟨(some 31), (.bin .gtr (.tmp 30) (.const (.c (.val (.int .i64 1000))))), (some (28, false))⟩, ⟨(some 32), (.pick (.tmp 28) (.const (.c (.val (.bool true)))) (.tmp 31)), none⟩])
 (.cond (.tmp 32) (.seq (.region [⟨(some 2), (.mov (.const (.c (.val (.int .i64 1))))), none⟩])
 .ret) .skip))
 (.seq (.seq (.region [⟨(some 33), (.faddr 5 (.tmp 1)), none⟩, ⟨(some 34), (.load true 6 (.tmp 33)), none⟩, ⟨(some 35), (.call 16 [(.tmp 34)]), none⟩, ⟨(some 36), (.un .not (.tmp 35)), none⟩])
 (.cond (.tmp 36) (.seq (.region [⟨(some 2), (.mov (.const (.c (.val (.int .i64 3))))), none⟩])
 .ret) .skip))
 (.seq (.region [⟨(some 37), (.faddr 11 (.tmp 1)), none⟩, ⟨(some 38), (.load false 1 (.tmp 37)), none⟩, ⟨(some 39), (.len (.tmp 38)), none⟩, ⟨(some 3), (.mov (.tmp 39)), none⟩])
 (.seq (.seq (.region [⟨(some 40), (.mov (.tmp 3)), none⟩, ⟨(some 41), (.bin .gtr (.tmp 40) (.const (.c (.val (.int .i64 10))))), none⟩])
 (.cond (.tmp 41) (.seq (.region [⟨(some 2), (.mov (.const (.c (.val (.int .i64 2))))), none⟩])
 .ret) .skip))
 (.seq (.seq (.region [⟨(some 42), (.mov (.tmp 3)), none⟩, ⟨(some 43), (.bin .lss (.tmp 42) (.const (.c (.val (.int .i64 2))))), none⟩, ⟨(some 44), (.mov (.tmp 43)), none⟩, ⟨(some 45), (.faddr 11 (.tmp 1)), (some (44, false))⟩, ⟨(some 46), (.load false 1 (.tmp 45)), (some (44, false))⟩, ⟨(some 47), (.iaddr 3 (.tmp 46) (.const (.c (.val (.int .i64 0))))), (some (44, false))⟩, ⟨(some 48), (.faddr 0 (.tmp 47)), (some (44, false))⟩, ⟨(some 49), (.load false 1 (.tmp 48)), (some (44, false))⟩, ⟨(some 50), (.bin .neq (.tmp 49) (.const (.c (.val (.int .i64 0))))), (some (44, false))⟩, ⟨(some 51), (.pick (.tmp 44) (.const (.c (.val (.bool true)))) (.tmp 50)), none⟩, ⟨(some 52), (.mov (.tmp 51)), none⟩, ⟨(some 53), (.faddr 11 (.tmp 1)), (some (52, false))⟩, ⟨(some 54), (.load false 1 (.tmp 53)), (some (52, false))⟩, ⟨(some 55), (.mov (.tmp 3)), (some (52, false))⟩, ⟨(some 56), (.bin .sub (.tmp 55) (.const (.c (.val (.int .i64 1))))), (some (52, false))⟩, ⟨(some 57), (.iaddr 3 (.tmp 54) (.tmp 56)), (some (52, false))⟩, ⟨(some 58), (.faddr 0 (.tmp 57)), (some (52, false))⟩, ⟨(some 59), (.load false 1 (.tmp 58)), (some (52, false))⟩, ⟨(some 60), (.bin .neq (.tmp 59) (.const (.c (.val (.int .i64 1000))))), (some (52, false))⟩, ⟨(some 61), (.pick (.tmp 52) (.const (.c (.val (.bool true)))) (.tmp 60)), none⟩])
 a22_c0)
 a22_c2))))))⟩
set_option maxRecDepth 100000 in
theorem c22 : compFunc Try.prog 22 = some a22 := by kernel_rfl
def clerestoryref2_AnimFault_post (r : Int) : AV → Heap → Nat → Prop := fun v h' n' => v = (I r) ∧ (h' = (fun _ => none)) ∧ n' = 0
noncomputable def clerestoryref2_AnimFault_l0 (a_ : TSAnim) (K0_ : Unit → Option Int) : Nat → Int → Option Int
  | 0, _ => none
  | k + 1, i_ =>
    if decide (i_ < (a_.Frames.length : Int)) then
      (at? a_.Frames (wi (i_ - 1))).bind fun x_ =>
      (at? a_.Frames i_).bind fun x_1 =>
      if decide (x_1.At ≤ x_.At) then
        some 3
      else
        (clerestoryref2_AnimFault_l0 a_ K0_ k) (wi (i_ + 1))
    else
      K0_ ()
theorem clerestoryref2_AnimFault_l0_ok {Γ : Glob} {Q : AExit → St → Prop} {a_ : TSAnim} {K0_ : Unit → Option Int} {k : Nat} {i_ : Int} {o : Int} (h : clerestoryref2_AnimFault_l0 a_ K0_ k i_ = some o)
    (hK0 : ∀ (_ : Unit), K0_ () = some o → ∀ s, Weak 0 s ⟨(fun _ => none), (fun _ => none), 0⟩ → Q (.exit 0) s)
    (hr : ∀ s, Ends a22.results 0 (clerestoryref2_AnimFault_post o) .ret s → Q .ret s) :
    Sv Try.prog Γ 0 (.loop a22_c1) Q ⟨(upd (upd (upd (fun _ => none) 1 (some (.c (.ref 0 12 0 0)))) 3 (some (I (a_.Frames.length : Int)))) 4 (some (I i_))), (upd (fun _ => none) 0 (some (.cells 12 [[cI a_.From, cI a_.Length, cI a_.Times, cB a_.Turn, cB a_.Stays, cI a_.Ease.Kind, cI a_.Ease.Curve.a0, cI a_.Ease.Curve.a1, cI a_.Ease.Curve.a2, cI a_.Ease.Curve.a3, cI a_.Ease.N, .ro false 3 (a_.Frames.map e_TSFrame)]]))), 1⟩ := by
  refine Sv.loop (I := fun k s => ∃ (i_ : Int), clerestoryref2_AnimFault_l0 a_ K0_ k i_ = some o ∧ s = ⟨(upd (upd (upd (fun _ => none) 1 (some (.c (.ref 0 12 0 0)))) 3 (some (I (a_.Frames.length : Int)))) 4 (some (I i_))), (upd (fun _ => none) 0 (some (.cells 12 [[cI a_.From, cI a_.Length, cI a_.Times, cB a_.Turn, cB a_.Stays, cI a_.Ease.Kind, cI a_.Ease.Curve.a0, cI a_.Ease.Curve.a1, cI a_.Ease.Curve.a2, cI a_.Ease.Curve.a3, cI a_.Ease.N, .ro false 3 (a_.Frames.map e_TSFrame)]]))), 1⟩) (fun k s hI => ?_) ⟨i_, h, rfl⟩
  clear h
  clear i_
  obtain ⟨i_, h, rfl⟩ := hI
  cases k with
  | zero => cases h
  | succ k =>
  rw [clerestoryref2_AnimFault_l0] at h
  have hself : ∀ (i_ : Int), (clerestoryref2_AnimFault_l0 a_ K0_ k) i_ = some o → ∀ s, Weak 0 s ⟨(upd (upd (upd (fun _ => none) 1 (some (.c (.ref 0 12 0 0)))) 3 (some (I (a_.Frames.length : Int)))) 4 (some (I i_))), (upd (fun _ => none) 0 (some (.cells 12 [[cI a_.From, cI a_.Length, cI a_.Times, cB a_.Turn, cB a_.Stays, cI a_.Ease.Kind, cI a_.Ease.Curve.a0, cI a_.Ease.Curve.a1, cI a_.Ease.Curve.a2, cI a_.Ease.Curve.a3, cI a_.Ease.N, .ro false 3 (a_.Frames.map e_TSFrame)]]))), 1⟩ → (AThen (fun s' => ∃ s'' k', Weak 0 s' s'' ∧ k' < k + 1 ∧ (fun k s => ∃ (i_ : Int), clerestoryref2_AnimFault_l0 a_ K0_ k i_ = some o ∧ s = ⟨(upd (upd (upd (fun _ => none) 1 (some (.c (.ref 0 12 0 0)))) 3 (some (I (a_.Frames.length : Int)))) 4 (some (I i_))), (upd (fun _ => none) 0 (some (.cells 12 [[cI a_.From, cI a_.Length, cI a_.Times, cB a_.Turn, cB a_.Stays, cI a_.Ease.Kind, cI a_.Ease.Curve.a0, cI a_.Ease.Curve.a1, cI a_.Ease.Curve.a2, cI a_.Ease.Curve.a3, cI a_.Ease.N, .ro false 3 (a_.Frames.map e_TSFrame)]]))), 1⟩) k' s'') Q) .normal s := fun i_ h s hw => ⟨_, k, hw, Nat.lt_succ_self k, i_, h, rfl⟩
  refine Sv.seq ?_
  refine Sv.seq ?_
  refine Sv.region ?_
  refine un (a1 rfl ?_)
  refine un (a1 rfl ?_)
  refine un (a1 (v := (B (decide (i_ < (a_.Frames.length : Int))))) rfl ?_)
  refine dnil ?_
  refine Sv.cond (b := decide (i_ < (a_.Frames.length : Int))) rfl (fun hc10 => ?_) (fun hc10 => ?_)
  · replace h := ifT hc10 h
    refine Sv.skip ?_
    refine Sv.seq ?_
    refine Sv.block ?_
    refine Sv.seq ?_
    refine Sv.drawn ?_
    refine un (a1 (v := (.c (.ref 0 12 0 11))) rfl ?_)
    refine un (a1 (v := (.c (.ro false 3 (a_.Frames.map e_TSFrame)))) rfl ?_)
    refine un (a1 rfl ?_)
    refine un (a1 (v := (I (wi (i_ - 1)))) rfl ?_)
    obtain ⟨x_, hx1, h⟩ := bnd h
    refine un (a1 (v := (.c (.rop [cI x_.At, cI x_.Val.Kind, cI x_.Val.N]))) (s_iaddr (e := e_TSFrame) (xs := a_.Frames) rfl rfl hx1) ?_)
    refine un (a1 (v := (.c (.rop [cI x_.At, cI x_.Val.Kind, cI x_.Val.N]))) rfl ?_)
    refine un (a1 (v := (I x_.At)) rfl ?_)
    refine un (a1 (v := (.c (.ref 0 12 0 11))) rfl ?_)
    refine un (a1 (v := (.c (.ro false 3 (a_.Frames.map e_TSFrame)))) rfl ?_)
    refine un (a1 rfl ?_)
    obtain ⟨x_1, hx2, h⟩ := bnd h
    refine un (a1 (v := (.c (.rop [cI x_1.At, cI x_1.Val.Kind, cI x_1.Val.N]))) (s_iaddr (e := e_TSFrame) (xs := a_.Frames) rfl rfl hx2) ?_)
    refine un (a1 (v := (.c (.rop [cI x_1.At, cI x_1.Val.Kind, cI x_1.Val.N]))) rfl ?_)
    refine un (a1 (v := (I x_1.At)) rfl ?_)
    refine un (a1 (v := (B (decide (x_1.At ≤ x_.At)))) rfl ?_)
    refine dnil ?_
    refine Sv.cond (b := decide (x_1.At ≤ x_.At)) rfl (fun hc11 => ?_) (fun hc11 => ?_)
    · replace h := ifT hc11 h
      refine Sv.seq ?_
      refine Sv.region ?_
      refine un (a1 rfl ?_)
      refine dnil ?_
      refine Sv.ret ?_
      replace h := Option.some.inj h
      subst h
      exact hr _ ⟨_, .refl _, _, rfl, ⟨upd (fun _ => none) 0 (some (I 3)), (fun _ => none), 0⟩, (I 3), weak_canon [] rfl List.nodup_nil (Nat.le_refl _) (fun b h => absurd h (Nat.not_lt_zero _)) (.cons rfl (avAs_free rfl) .nil) .nil, rfl, rfl, rfl, rfl⟩
    · replace h := ifF hc11 h
      refine Sv.skip ?_
      refine Sv.region ?_
      refine un (a1 rfl ?_)
      refine un (a1 (v := (I (wi (i_ + 1)))) rfl ?_)
      refine un (a1 rfl ?_)
      refine dnil ?_
      exact hself (wi (i_ + 1)) h _ (weak_canon [0] rfl (by decide) (by decide) (fun b h => absurd h (Nat.not_lt_zero _)) (.cons rfl (avAs_free rfl) (.cons rfl (avAs_free rfl) (.cons rfl (.c (.ref rfl (by decide))) .nil))) (.box (by decide) rfl (blkAs_cells (.cons (.same rfl) (.cons (.same rfl) (.cons (.same rfl) (.cons (.same rfl) (.cons (.same rfl) (.cons (.same rfl) (.cons (.same rfl) (.cons (.same rfl) (.cons (.same rfl) (.cons (.same rfl) (.cons (.same rfl) (.cons (.same rfl) .nil))))))))))))) .nil))
  · replace h := ifF hc10 h
    refine Sv.exit ?_
    exact hK0 () h _ (weak_canon [] rfl (by decide) (by decide) (fun b h => absurd h (Nat.not_lt_zero _)) .nil .nil)
abbrev clerestoryref2_AnimFault_q0 (Γ : Glob) (o : Int) : AExit → St → Prop := AThen (Sv Try.prog Γ 0 a22_c2 (Ends a22.results 0 (clerestoryref2_AnimFault_post o))) (Ends a22.results 0 (clerestoryref2_AnimFault_post o))
noncomputable def clerestoryref2_AnimFault_j1 (a_ : TSAnim) (v61 : Bool) : Option Int :=
  if v61 then
    some 3
  else
    lim fun kk => clerestoryref2_AnimFault_l0 a_ (fun (_ : Unit) => 
        some 0) kk 1
theorem clerestoryref2_AnimFault_j1_ok {Γ : Glob} {a_ : TSAnim} {v61 : Bool} {o : Int} (h : clerestoryref2_AnimFault_j1 a_ v61 = some o) :
    Sv Try.prog Γ 0 a22_c0 (clerestoryref2_AnimFault_q0 Γ o) ⟨(upd (upd (upd (fun _ => none) 1 (some (.c (.ref 0 12 0 0)))) 3 (some (I (a_.Frames.length : Int)))) 61 (some (B v61))), (upd (fun _ => none) 0 (some (.cells 12 [[cI a_.From, cI a_.Length, cI a_.Times, cB a_.Turn, cB a_.Stays, cI a_.Ease.Kind, cI a_.Ease.Curve.a0, cI a_.Ease.Curve.a1, cI a_.Ease.Curve.a2, cI a_.Ease.Curve.a3, cI a_.Ease.N, .ro false 3 (a_.Frames.map e_TSFrame)]]))), 1⟩ := by
  unfold clerestoryref2_AnimFault_j1 at h
  refine Sv.cond (b := v61) rfl (fun hc9 => ?_) (fun hc9 => ?_)
  · replace h := ifT hc9 h
    refine Sv.seq ?_
    refine Sv.region ?_
    refine un (a1 rfl ?_)
    refine dnil ?_
    refine Sv.ret ?_
    replace h := Option.some.inj h
    subst h
    exact ⟨_, .refl _, _, rfl, ⟨upd (fun _ => none) 0 (some (I 3)), (fun _ => none), 0⟩, (I 3), weak_canon [] rfl List.nodup_nil (Nat.le_refl _) (fun b h => absurd h (Nat.not_lt_zero _)) (.cons rfl (avAs_free rfl) .nil) .nil, rfl, rfl, rfl, rfl⟩
  · replace h := ifF hc9 h
    refine Sv.skip ?_
    refine Sv.seq ?_
    refine Sv.seq ?_
    refine Sv.region ?_
    refine un (a1 rfl ?_)
    refine dnil ?_
    refine Sv.block ?_
    obtain ⟨kk, h⟩ := lim_some h
    refine Sv.weak (weak_canon [0] rfl (by decide) (by decide) (fun b h => absurd h (Nat.not_lt_zero _)) (.cons rfl (avAs_free rfl) (.cons rfl (avAs_free rfl) (.cons rfl (.c (.ref rfl (by decide))) .nil))) (.box (by decide) rfl (blkAs_cells (.cons (.same rfl) (.cons (.same rfl) (.cons (.same rfl) (.cons (.same rfl) (.cons (.same rfl) (.cons (.same rfl) (.cons (.same rfl) (.cons (.same rfl) (.cons (.same rfl) (.cons (.same rfl) (.cons (.same rfl) (.cons (.same rfl) .nil))))))))))))) .nil)) (clerestoryref2_AnimFault_l0_ok h ?_ (fun s hs => hs))
    · intro _ h _ hw1
      refine Sv.weak hw1 ?_
      refine Sv.seq ?_
      refine Sv.region ?_
      refine un (a1 rfl ?_)
      refine dnil ?_
      refine Sv.ret ?_
      replace h := Option.some.inj h
      subst h
      exact ⟨_, .refl _, _, rfl, ⟨upd (fun _ => none) 0 (some (I 0)), (fun _ => none), 0⟩, (I 0), weak_canon [] rfl List.nodup_nil (Nat.le_refl _) (fun b h => absurd h (Nat.not_lt_zero _)) (.cons rfl (avAs_free rfl) .nil) .nil, rfl, rfl, rfl, rfl⟩
/-- clerestory/clerestoryref2.AnimFault -/
noncomputable def clerestoryref2_AnimFault (a_ : TSAnim) : Option Int :=
  if ((((((decide (a_.From < 0)) || (decide (100000000 < a_.From))) || (decide (a_.Length < 1))) || (decide (100000000 < a_.Length))) || (decide (a_.Times < 1))) || (decide (1000 < a_.Times))) then
    some 1
  else
    (clerestoryref2_EaseMay a_.Ease).bind fun r_ =>
    if (!r_) then
      some 3
    else
      if decide (10 < (a_.Frames.length : Int)) then
        some 2
      else
        if decide ((a_.Frames.length : Int) < 2) then
          clerestoryref2_AnimFault_j1 a_ true
        else
          (at? a_.Frames 0).bind fun x_2 =>
          if (!decide (x_2.At = 0)) then
            clerestoryref2_AnimFault_j1 a_ true
          else
            (at? a_.Frames (wi ((a_.Frames.length : Int) - 1))).bind fun x_3 =>
            clerestoryref2_AnimFault_j1 a_ (!decide (x_3.At = 1000))
theorem clerestoryref2_AnimFault_ok {Γ : Glob} {a_ : TSAnim} {r : Int} (h : clerestoryref2_AnimFault a_ = some r) : CPure Try.prog Γ 22 [(.agg [cI a_.From, cI a_.Length, cI a_.Times, cB a_.Turn, cB a_.Stays, cI a_.Ease.Kind, cI a_.Ease.Curve.a0, cI a_.Ease.Curve.a1, cI a_.Ease.Curve.a2, cI a_.Ease.Curve.a3, cI a_.Ease.N, .ro false 3 (a_.Frames.map e_TSFrame)])] (I r) := by
  refine acalls_of_sv hmix c22 (R := clerestoryref2_AnimFault_post r) ?_
  unfold clerestoryref2_AnimFault at h
  refine Sv.seq ?_
  refine Sv.region ?_
  refine un (a2v (v := (.c (.ref 0 12 0 0))) (h' := upd _ 0 (some (.cells 12 [[cI a_.From, cI a_.Length, cI a_.Times, cB a_.Turn, cB a_.Stays, cI a_.Ease.Kind, cI a_.Ease.Curve.a0, cI a_.Ease.Curve.a1, cI a_.Ease.Curve.a2, cI a_.Ease.Curve.a3, cI a_.Ease.N, .ro false 3 (a_.Frames.map e_TSFrame)]]))) (n' := 1) rfl rfl (fun h => by cases h) ?_)
  refine un (a1 rfl ?_)
  refine dnil ?_
  refine Sv.seq ?_
  refine Sv.seq ?_
  refine Sv.region ?_
  refine un (a1 (v := (.c (.ref 0 12 0 0))) rfl ?_)
  refine un (a1 (v := (I a_.From)) rfl ?_)
  refine un (a1 (v := (B (decide (a_.From < 0)))) rfl ?_)
  refine un (a1 rfl ?_)
  refine gjoin 4 (d := 12) (v := (B ((decide (a_.From < 0)) || (decide (100000000 < a_.From))))) (fun X hX => ?_) ?_
  · refine split2 (fun hc1 => ?_) (fun hc1 => ?_)
    · refine gs rfl rfl ?_
      refine gs rfl rfl ?_
      refine gs rfl rfl ?_
      refine un (a1 (v := (B true)) rfl ?_)
      refine dnil ?_
      exact hX _ (.putEq (by rw [hc1]; rfl) (.skip _ _ (.skip _ _ (.skip _ _ (.putEq (by rw [hc1]) (.refl _)) rfl) rfl) rfl))
    · refine gt rfl (a1 (v := (.c (.ref 0 12 0 0))) rfl ?_)
      refine gt rfl (a1 (v := (I a_.From)) rfl ?_)
      refine gt rfl (a1 (v := (B (decide (100000000 < a_.From)))) rfl ?_)
      refine un (a1 (v := (B (decide (100000000 < a_.From)))) rfl ?_)
      refine dnil ?_
      exact hX _ (.putEq (by rw [hc1]; rfl) (.skip _ _ (.skip _ _ (.skip _ _ (.putEq (by rw [hc1]) (.refl _)) rfl) rfl) rfl))
  refine un (a1 rfl ?_)
  refine gjoin 4 (d := 17) (v := (B (((decide (a_.From < 0)) || (decide (100000000 < a_.From))) || (decide (a_.Length < 1))))) (fun X hX => ?_) ?_
  · refine split2 (fun hc2 => ?_) (fun hc2 => ?_)
    · refine gs rfl rfl ?_
      refine gs rfl rfl ?_
      refine gs rfl rfl ?_
      refine un (a1 (v := (B true)) rfl ?_)
      refine dnil ?_
      exact hX _ (.putEq (by rw [hc2]; rfl) (.skip _ _ (.skip _ _ (.skip _ _ (.putEq (by rw [hc2]) (.refl _)) rfl) rfl) rfl))
    · refine gt rfl (a1 (v := (.c (.ref 0 12 0 1))) rfl ?_)
      refine gt rfl (a1 (v := (I a_.Length)) rfl ?_)
      refine gt rfl (a1 (v := (B (decide (a_.Length < 1)))) rfl ?_)
      refine un (a1 (v := (B (decide (a_.Length < 1)))) rfl ?_)
      refine dnil ?_
      exact hX _ (.putEq (by rw [hc2]; rfl) (.skip _ _ (.skip _ _ (.skip _ _ (.putEq (by rw [hc2]) (.refl _)) rfl) rfl) rfl))
  refine un (a1 rfl ?_)
  refine gjoin 4 (d := 22) (v := (B ((((decide (a_.From < 0)) || (decide (100000000 < a_.From))) || (decide (a_.Length < 1))) || (decide (100000000 < a_.Length))))) (fun X hX => ?_) ?_
  · refine split2 (fun hc3 => ?_) (fun hc3 => ?_)
    · refine gs rfl rfl ?_
      refine gs rfl rfl ?_
      refine gs rfl rfl ?_
      refine un (a1 (v := (B true)) rfl ?_)
      refine dnil ?_
      exact hX _ (.putEq (by rw [hc3]; rfl) (.skip _ _ (.skip _ _ (.skip _ _ (.putEq (by rw [hc3]) (.refl _)) rfl) rfl) rfl))
    · refine gt rfl (a1 (v := (.c (.ref 0 12 0 1))) rfl ?_)
      refine gt rfl (a1 (v := (I a_.Length)) rfl ?_)
      refine gt rfl (a1 (v := (B (decide (100000000 < a_.Length)))) rfl ?_)
      refine un (a1 (v := (B (decide (100000000 < a_.Length)))) rfl ?_)
      refine dnil ?_
      exact hX _ (.putEq (by rw [hc3]; rfl) (.skip _ _ (.skip _ _ (.skip _ _ (.putEq (by rw [hc3]) (.refl _)) rfl) rfl) rfl))
  refine un (a1 rfl ?_)
  refine gjoin 4 (d := 27) (v := (B (((((decide (a_.From < 0)) || (decide (100000000 < a_.From))) || (decide (a_.Length < 1))) || (decide (100000000 < a_.Length))) || (decide (a_.Times < 1))))) (fun X hX => ?_) ?_
  · refine split2 (fun hc4 => ?_) (fun hc4 => ?_)
    · refine gs rfl rfl ?_
      refine gs rfl rfl ?_
      refine gs rfl rfl ?_
      refine un (a1 (v := (B true)) rfl ?_)
      refine dnil ?_
      exact hX _ (.putEq (by rw [hc4]; rfl) (.skip _ _ (.skip _ _ (.skip _ _ (.putEq (by rw [hc4]) (.refl _)) rfl) rfl) rfl))
    · refine gt rfl (a1 (v := (.c (.ref 0 12 0 2))) rfl ?_)
      refine gt rfl (a1 (v := (I a_.Times)) rfl ?_)
      refine gt rfl (a1 (v := (B (decide (a_.Times < 1)))) rfl ?_)
      refine un (a1 (v := (B (decide (a_.Times < 1)))) rfl ?_)
      refine dnil ?_
      exact hX _ (.putEq (by rw [hc4]; rfl) (.skip _ _ (.skip _ _ (.skip _ _ (.putEq (by rw [hc4]) (.refl _)) rfl) rfl) rfl))
  refine un (a1 rfl ?_)
  refine gjoin 4 (d := 32) (v := (B ((((((decide (a_.From < 0)) || (decide (100000000 < a_.From))) || (decide (a_.Length < 1))) || (decide (100000000 < a_.Length))) || (decide (a_.Times < 1))) || (decide (1000 < a_.Times))))) (fun X hX => ?_) ?_
  · refine split2 (fun hc5 => ?_) (fun hc5 => ?_)
    · refine gs rfl rfl ?_
      refine gs rfl rfl ?_
      refine gs rfl rfl ?_
      refine un (a1 (v := (B true)) rfl ?_)
      refine dnil ?_
      exact hX _ (.putEq (by rw [hc5]; rfl) (.skip _ _ (.skip _ _ (.skip _ _ (.putEq (by rw [hc5]) (.refl _)) rfl) rfl) rfl))
    · refine gt rfl (a1 (v := (.c (.ref 0 12 0 2))) rfl ?_)
      refine gt rfl (a1 (v := (I a_.Times)) rfl ?_)
      refine gt rfl (a1 (v := (B (decide (1000 < a_.Times)))) rfl ?_)
      refine un (a1 (v := (B (decide (1000 < a_.Times)))) rfl ?_)
      refine dnil ?_
      exact hX _ (.putEq (by rw [hc5]; rfl) (.skip _ _ (.skip _ _ (.skip _ _ (.putEq (by rw [hc5]) (.refl _)) rfl) rfl) rfl))
  refine dnil ?_
  refine Sv.cond (b := ((((((decide (a_.From < 0)) || (decide (100000000 < a_.From))) || (decide (a_.Length < 1))) || (decide (100000000 < a_.Length))) || (decide (a_.Times < 1))) || (decide (1000 < a_.Times)))) rfl (fun hc6 => ?_) (fun hc6 => ?_)
  · replace h := ifT hc6 h
    refine Sv.seq ?_
    refine Sv.region ?_
    refine un (a1 rfl ?_)
    refine dnil ?_
    refine Sv.ret ?_
    replace h := Option.some.inj h
    subst h
    exact ⟨_, .refl _, _, rfl, ⟨upd (fun _ => none) 0 (some (I 1)), (fun _ => none), 0⟩, (I 1), weak_canon [] rfl List.nodup_nil (Nat.le_refl _) (fun b h => absurd h (Nat.not_lt_zero _)) (.cons rfl (avAs_free rfl) .nil) .nil, rfl, rfl, rfl, rfl⟩
  · replace h := ifF hc6 h
    refine Sv.skip ?_
    refine Sv.seq ?_
    refine Sv.seq ?_
    refine Sv.region ?_
    refine un (a1 (v := (.c (.ref 0 12 0 5))) rfl ?_)
    refine un (a1 (v := (.agg [cI a_.Ease.Kind, cI a_.Ease.Curve.a0, cI a_.Ease.Curve.a1, cI a_.Ease.Curve.a2, cI a_.Ease.Curve.a3, cI a_.Ease.N])) rfl ?_)
    obtain ⟨r_, hr1, h⟩ := bnd h
    refine un (ac_pure (clerestoryref2_EaseMay_ok hr1) rfl rfl rfl ?_)
    refine un (a1 (v := (B (!r_))) rfl ?_)
    refine dnil ?_
    refine Sv.cond (b := (!r_)) rfl (fun hc7 => ?_) (fun hc7 => ?_)
    · replace h := ifT hc7 h
      refine Sv.seq ?_
      refine Sv.region ?_
      refine un (a1 rfl ?_)
      refine dnil ?_
      refine Sv.ret ?_
      replace h := Option.some.inj h
      subst h
      exact ⟨_, .refl _, _, rfl, ⟨upd (fun _ => none) 0 (some (I 3)), (fun _ => none), 0⟩, (I 3), weak_canon [] rfl List.nodup_nil (Nat.le_refl _) (fun b h => absurd h (Nat.not_lt_zero _)) (.cons rfl (avAs_free rfl) .nil) .nil, rfl, rfl, rfl, rfl⟩
    · replace h := ifF hc7 h
      refine Sv.skip ?_
      refine Sv.seq ?_
      refine Sv.region ?_
      refine un (a1 (v := (.c (.ref 0 12 0 11))) rfl ?_)
      refine un (a1 (v := (.c (.ro false 3 (a_.Frames.map e_TSFrame)))) rfl ?_)
      refine un (a1 (v := (I (a_.Frames.length : Int))) (s_len (e := e_TSFrame) (xs := a_.Frames) rfl) ?_)
      refine un (a1 rfl ?_)
      refine dnil ?_
      refine Sv.seq ?_
      refine Sv.seq ?_
      refine Sv.region ?_
      refine un (a1 rfl ?_)
      refine un (a1 (v := (B (decide (10 < (a_.Frames.length : Int))))) rfl ?_)
      refine dnil ?_
      refine Sv.cond (b := decide (10 < (a_.Frames.length : Int))) rfl (fun hc8 => ?_) (fun hc8 => ?_)
      · replace h := ifT hc8 h
        refine Sv.seq ?_
        refine Sv.region ?_
        refine un (a1 rfl ?_)
        refine dnil ?_
        refine Sv.ret ?_
        replace h := Option.some.inj h
        subst h
        exact ⟨_, .refl _, _, rfl, ⟨upd (fun _ => none) 0 (some (I 2)), (fun _ => none), 0⟩, (I 2), weak_canon [] rfl List.nodup_nil (Nat.le_refl _) (fun b h => absurd h (Nat.not_lt_zero _)) (.cons rfl (avAs_free rfl) .nil) .nil, rfl, rfl, rfl, rfl⟩
      · replace h := ifF hc8 h
        refine Sv.skip ?_
        refine Sv.seq ?_
        refine Sv.seq ?_
        refine Sv.region ?_
        refine un (a1 rfl ?_)
        refine un (a1 (v := (B (decide ((a_.Frames.length : Int) < 2)))) rfl ?_)
        refine un (a1 rfl ?_)
        refine split2 (fun hc12 => ?_) (fun hc12 => ?_)
        · replace h := ifT hc12 h
          refine gs rfl rfl ?_
          refine gs rfl rfl ?_
          refine gs rfl rfl ?_
          refine gs rfl rfl ?_
          refine gs rfl rfl ?_
          refine gs rfl rfl ?_
          refine un (a1 (v := (B true)) rfl ?_)
          refine un (a1 rfl ?_)
          refine gs rfl rfl ?_
          refine gs rfl rfl ?_
          refine gs rfl rfl ?_
          refine gs rfl rfl ?_
          refine gs rfl rfl ?_
          refine gs rfl rfl ?_
          refine gs rfl rfl ?_
          refine gs rfl rfl ?_
          refine un (a1 (v := (B true)) rfl ?_)
          refine dnil ?_
          exact Sv.weak (weak_canon [0] rfl (by decide) (by decide) (fun b h => absurd h (Nat.not_lt_zero _)) (.cons rfl (avAs_free rfl) (.cons rfl (avAs_free rfl) (.cons rfl (.c (.ref rfl (by decide))) .nil))) (.box (by decide) rfl (blkAs_cells (.cons (.same rfl) (.cons (.same rfl) (.cons (.same rfl) (.cons (.same rfl) (.cons (.same rfl) (.cons (.same rfl) (.cons (.same rfl) (.cons (.same rfl) (.cons (.same rfl) (.cons (.same rfl) (.cons (.same rfl) (.cons (.same rfl) .nil))))))))))))) .nil)) (clerestoryref2_AnimFault_j1_ok h)
        · replace h := ifF hc12 h
          refine gt rfl (a1 (v := (.c (.ref 0 12 0 11))) rfl ?_)
          refine gt rfl (a1 (v := (.c (.ro false 3 (a_.Frames.map e_TSFrame)))) rfl ?_)
          obtain ⟨x_2, hx3, h⟩ := bnd h
          refine gt rfl (a1 (v := (.c (.rop [cI x_2.At, cI x_2.Val.Kind, cI x_2.Val.N]))) (s_iaddr (e := e_TSFrame) (xs := a_.Frames) rfl rfl hx3) ?_)
          refine gt rfl (a1 (v := (.c (.rop [cI x_2.At, cI x_2.Val.Kind, cI x_2.Val.N]))) rfl ?_)
          refine gt rfl (a1 (v := (I x_2.At)) rfl ?_)
          refine gt rfl (a1 (v := (B (!decide (x_2.At = 0)))) rfl ?_)
          refine un (a1 (v := (B (!decide (x_2.At = 0)))) rfl ?_)
          refine un (a1 rfl ?_)
          refine split2 (fun hc13 => ?_) (fun hc13 => ?_)
          · replace h := ifT hc13 h
            refine gs rfl rfl ?_
            refine gs rfl rfl ?_
            refine gs rfl rfl ?_
            refine gs rfl rfl ?_
            refine gs rfl rfl ?_
            refine gs rfl rfl ?_
            refine gs rfl rfl ?_
            refine gs rfl rfl ?_
            refine un (a1 (v := (B true)) rfl ?_)
            refine dnil ?_
            exact Sv.weak (weak_canon [0] rfl (by decide) (by decide) (fun b h => absurd h (Nat.not_lt_zero _)) (.cons rfl (avAs_free rfl) (.cons rfl (avAs_free rfl) (.cons rfl (.c (.ref rfl (by decide))) .nil))) (.box (by decide) rfl (blkAs_cells (.cons (.same rfl) (.cons (.same rfl) (.cons (.same rfl) (.cons (.same rfl) (.cons (.same rfl) (.cons (.same rfl) (.cons (.same rfl) (.cons (.same rfl) (.cons (.same rfl) (.cons (.same rfl) (.cons (.same rfl) (.cons (.same rfl) .nil))))))))))))) .nil)) (clerestoryref2_AnimFault_j1_ok h)
          · replace h := ifF hc13 h
            refine gt rfl (a1 (v := (.c (.ref 0 12 0 11))) rfl ?_)
            refine gt rfl (a1 (v := (.c (.ro false 3 (a_.Frames.map e_TSFrame)))) rfl ?_)
            refine gt rfl (a1 rfl ?_)
            refine gt rfl (a1 (v := (I (wi ((a_.Frames.length : Int) - 1)))) rfl ?_)
            obtain ⟨x_3, hx4, h⟩ := bnd h
            refine gt rfl (a1 (v := (.c (.rop [cI x_3.At, cI x_3.Val.Kind, cI x_3.Val.N]))) (s_iaddr (e := e_TSFrame) (xs := a_.Frames) rfl rfl hx4) ?_)
            refine gt rfl (a1 (v := (.c (.rop [cI x_3.At, cI x_3.Val.Kind, cI x_3.Val.N]))) rfl ?_)
            refine gt rfl (a1 (v := (I x_3.At)) rfl ?_)
            refine gt rfl (a1 (v := (B (!decide (x_3.At = 1000)))) rfl ?_)
            refine un (a1 (v := (B (!decide (x_3.At = 1000)))) rfl ?_)
            refine dnil ?_
            exact Sv.weak (weak_canon [0] rfl (by decide) (by decide) (fun b h => absurd h (Nat.not_lt_zero _)) (.cons rfl (avAs_free rfl) (.cons rfl (avAs_free rfl) (.cons rfl (.c (.ref rfl (by decide))) .nil))) (.box (by decide) rfl (blkAs_cells (.cons (.same rfl) (.cons (.same rfl) (.cons (.same rfl) (.cons (.same rfl) (.cons (.same rfl) (.cons (.same rfl) (.cons (.same rfl) (.cons (.same rfl) (.cons (.same rfl) (.cons (.same rfl) (.cons (.same rfl) (.cons (.same rfl) .nil))))))))))))) .nil)) (clerestoryref2_AnimFault_j1_ok h)
def a42 : AFunc := ⟨3, [(.tmp 6)], (.seq (.region [⟨(some 6), (.mov (.const (.c (.val (.int .i64 0))))), none⟩])
 (.seq (.region [⟨(some 8), (.mov (.tmp 2)), none⟩, ⟨(some 9), (.bin .sub (.const (.c (.val (.int .i64 4096)))) (.tmp 8)), none⟩, ⟨(some 7), (.mov (.tmp 9)), none⟩])
 (.seq (.region [⟨(some 10), (.mov (.tmp 7)), none⟩, ⟨(some 11), (.bin .mul (.const (.c (.val (.int .i64 3)))) (.tmp 10)), none⟩, ⟨(some 12), (.mov (.tmp 7)), none⟩, ⟨(some 13), (.bin .mul (.tmp 11) (.tmp 12)), none⟩, ⟨(some 14), (.mov (.tmp 2)), none⟩, ⟨(some 15), (.bin .mul (.tmp 13) (.tmp 14)), none⟩, ⟨(some 16), (.mov (.tmp 0)), none⟩, ⟨(some 17), (.bin .mul (.tmp 15) (.tmp 16)), none⟩, ⟨(some 18), (.mov (.tmp 7)), none⟩, ⟨(some 19), (.bin .mul (.const (.c (.val (.int .i64 3)))) (.tmp 18)), none⟩, ⟨(some 20), (.mov (.tmp 2)), none⟩, ⟨(some 21), (.bin .mul (.tmp 19) (.tmp 20)), none⟩, ⟨(some 22), (.mov (.tmp 2)), none⟩, ⟨(some 23), (.bin .mul (.tmp 21) (.tmp 22)), none⟩, ⟨(some 24), (.mov (.tmp 1)), none⟩, ⟨(some 25), (.bin .mul (.tmp 23) (.tmp 24)), none⟩, ⟨(some 26), (.bin .add (.tmp 17) (.tmp 25)), none⟩, ⟨(some 27), (.mov (.tmp 2)), none⟩, ⟨(some 28), (.mov (.tmp 2)), none⟩, ⟨(some 29), (.bin .mul (.tmp 27) (.tmp 28)), none⟩, ⟨(some 30), (.mov (.tmp 2)), none⟩, ⟨(some 31), (.bin .mul (.tmp 29) (.tmp 30)), none⟩, ⟨(some 32), (.bin .mul (.tmp 31) (.const (.c (.val (.int .i64 1000))))), none⟩, ⟨(some 33), (.bin .add (.tmp 26) (.tmp 32)), none⟩, ⟨(some 34), (.bin .quo (.tmp 33) (.const (.c (.val (.int .i64 68719476736))))), none⟩, ⟨(some 6), (.mov (.tmp 34)), none⟩])
 .ret)))⟩
set_option maxRecDepth 100000 in
theorem c42 : compFunc Try.prog 42 = some a42 := by kernel_rfl
def clerestoryref2_Bend_post (r : Int) : AV → Heap → Nat → Prop := fun v h' n' => v = (I r) ∧ (h' = (fun _ => none)) ∧ n' = 0
/-- clerestory/clerestoryref2.Bend -/
def clerestoryref2_Bend (a_ : Int) (b_ : Int) (k_ : Int) : Int :=
  letIn (wi ((wi ((wi ((wi (3 * (wi (4096 - k_)))) * (wi (4096 - k_)))) * k_)) * a_)) fun v17 : Int =>
  letIn (wi (v17 + (wi ((wi ((wi ((wi (3 * (wi (4096 - k_)))) * k_)) * k_)) * b_)))) fun v26 : Int =>
  letIn (wi ((wi (v26 + (wi ((wi ((wi (k_ * k_)) * k_)) * 1000)))).tdiv 68719476736)) fun v34 : Int =>
  v34
theorem clerestoryref2_Bend_ok {Γ : Glob} (a_ : Int) (b_ : Int) (k_ : Int) : CPure Try.prog Γ 42 [(I a_), (I b_), (I k_)] (I (clerestoryref2_Bend a_ b_ k_)) := by
  generalize h : clerestoryref2_Bend a_ b_ k_ = o
  refine acalls_of_sv hmix c42 (R := clerestoryref2_Bend_post o) ?_
  unfold clerestoryref2_Bend at h
  refine Sv.seq ?_
  refine Sv.region ?_
  refine un (a1 rfl ?_)
  refine dnil ?_
  refine Sv.seq ?_
  refine Sv.region ?_
  refine un (a1 rfl ?_)
  refine un (a1 (v := (I (wi (4096 - k_)))) rfl ?_)
  refine un (a1 rfl ?_)
  refine dnil ?_
  refine Sv.seq ?_
  refine Sv.region ?_
  refine un (a1 rfl ?_)
  refine un (a1 (v := (I (wi (3 * (wi (4096 - k_)))))) rfl ?_)
  refine un (a1 rfl ?_)
  refine un (a1 (v := (I (wi ((wi (3 * (wi (4096 - k_)))) * (wi (4096 - k_)))))) rfl ?_)
  refine un (a1 rfl ?_)
  refine un (a1 (v := (I (wi ((wi ((wi (3 * (wi (4096 - k_)))) * (wi (4096 - k_)))) * k_)))) rfl ?_)
  refine un (a1 rfl ?_)
  obtain ⟨v17, hv17⟩ : ∃ v17 : Int, v17 = (wi ((wi ((wi ((wi (3 * (wi (4096 - k_)))) * (wi (4096 - k_)))) * k_)) * a_)) := ⟨_, rfl⟩
  replace h := letAt hv17 h
  refine un (a1 (v := (I v17)) (by rw [hv17]; rfl) ?_)
  clear hv17
  refine un (a1 rfl ?_)
  refine un (a1 (v := (I (wi (3 * (wi (4096 - k_)))))) rfl ?_)
  refine un (a1 rfl ?_)
  refine un (a1 (v := (I (wi ((wi (3 * (wi (4096 - k_)))) * k_)))) rfl ?_)
  refine un (a1 rfl ?_)
  refine un (a1 (v := (I (wi ((wi ((wi (3 * (wi (4096 - k_)))) * k_)) * k_)))) rfl ?_)
  refine un (a1 rfl ?_)
  refine un (a1 (v := (I (wi ((wi ((wi ((wi (3 * (wi (4096 - k_)))) * k_)) * k_)) * b_)))) rfl ?_)
  obtain ⟨v26, hv26⟩ : ∃ v26 : Int, v26 = (wi (v17 + (wi ((wi ((wi ((wi (3 * (wi (4096 - k_)))) * k_)) * k_)) * b_)))) := ⟨_, rfl⟩
  replace h := letAt hv26 h
  refine un (a1 (v := (I v26)) (by rw [hv26]; rfl) ?_)
  clear hv26
  refine un (a1 rfl ?_)
  refine un (a1 rfl ?_)
  refine un (a1 (v := (I (wi (k_ * k_)))) rfl ?_)
  refine un (a1 rfl ?_)
  refine un (a1 (v := (I (wi ((wi (k_ * k_)) * k_)))) rfl ?_)
  refine un (a1 (v := (I (wi ((wi ((wi (k_ * k_)) * k_)) * 1000)))) rfl ?_)
  refine un (a1 (v := (I (wi (v26 + (wi ((wi ((wi (k_ * k_)) * k_)) * 1000)))))) rfl ?_)
  obtain ⟨v34, hv34⟩ : ∃ v34 : Int, v34 = (wi ((wi (v26 + (wi ((wi ((wi (k_ * k_)) * k_)) * 1000)))).tdiv 68719476736)) := ⟨_, rfl⟩
  replace h := letAt hv34 h
  refine un (a1 (v := (I v34)) (by rw [hv34]; rfl) ?_)
  clear hv34
  refine un (a1 rfl ?_)
  refine dnil ?_
  refine Sv.ret ?_
  subst h
  exact ⟨_, .refl _, _, rfl, ⟨upd (fun _ => none) 0 (some (I v34)), (fun _ => none), 0⟩, (I v34), weak_canon [] rfl List.nodup_nil (Nat.le_refl _) (fun b h => absurd h (Nat.not_lt_zero _)) (.cons rfl (avAs_free rfl) .nil) .nil, rfl, rfl, rfl, rfl⟩
def a17_c0 : ACode := (.seq (.seq (.region [⟨(some 22), (.faddr 1 (.tmp 2)), none⟩, ⟨(some 23), (.iaddrA 4 1 (.tmp 22) (.const (.c (.val (.int .i64 0))))), none⟩, ⟨(some 24), (.load false 1 (.tmp 23)), none⟩, ⟨(some 25), (.faddr 1 (.tmp 2)), none⟩, ⟨(some 26), (.iaddrA 4 1 (.tmp 25) (.const (.c (.val (.int .i64 2))))), none⟩, ⟨(some 27), (.load false 1 (.tmp 26)), none⟩, ⟨(some 28), (.mov (.tmp 5)), none⟩, ⟨(some 29), (.call 42 [(.tmp 24), (.tmp 27), (.tmp 28)]), none⟩, ⟨(some 30), (.mov (.tmp 1)), none⟩, ⟨(some 31), (.bin .lss (.tmp 29) (.tmp 30)), none⟩])
 (.cond (.tmp 31) .skip (.exit 0)))
 (.block 1 (.region [⟨(some 32), (.mov (.tmp 5)), none⟩, ⟨(some 33), (.bin .add (.tmp 32) (.const (.c (.val (.int .i64 1))))), none⟩, ⟨(some 5), (.mov (.tmp 33)), none⟩])))
def a17 : AFunc := ⟨2, [(.tmp 4)], (.seq (.region [⟨(some 2), (.box (.tmp 0)), none⟩, ⟨(some 4), (.mov (.const (.c (.val (.int .i64 0))))), none⟩])
 (.seq (.seq (.region [⟨(some 6), (.faddr 0 (.tmp 2)), none⟩, ⟨(some 7), (.load false 1 (.tmp 6)), none⟩, ⟨(some 8), (.bin .eql (.tmp 7) (.const (.c (.val (.int .i64 1))))), none⟩])
 (.cond (.tmp 8) (.seq (.region [⟨(some 9), (.mov (.tmp 1)), none⟩, ⟨(some 4), (.mov (.tmp 9)), none⟩])
 .ret) .skip))
 (.seq (.seq (.region [⟨(some 10), (.faddr 0 (.tmp 2)), none⟩, ⟨(some 11), (.load false 1 (.tmp 10)), none⟩, ⟨(some 12), (.bin .eql (.tmp 11) (.const (.c (.val (.int .i64 3))))), none⟩])
 (.cond (.tmp 12) (.seq (.region [⟨(some 13), (.mov (.tmp 1)), none⟩, ⟨(some 14), (.faddr 5 (.tmp 2)), none⟩, ⟨(some 15), (.load false 1 (.tmp 14)), none⟩, ⟨(some 16), (.bin .mul (.tmp 13) (.tmp 15)), none⟩, ⟨(some 17), (.bin .quo (.tmp 16) (.const (.c (.val (.int .i64 1000))))), none⟩, ⟨(some 18), (.bin .mul (.tmp 17) (.const (.c (.val (.int .i64 1000))))), none⟩, ⟨(some 19), (.faddr 5 (.tmp 2)), none⟩, ⟨(some 20), (.load false 1 (.tmp 19)), none⟩, ⟨(some 21), (.bin .quo (.tmp 18) (.tmp 20)), none⟩, ⟨(some 4), (.mov (.tmp 21)), none⟩])
 .ret) .skip))
 (.seq (.region [⟨(some 5), (.mov (.const (.c (.val (.int .i64 0))))), none⟩])
 (.seq (.block 0 (.loop a17_c0))
 (.seq (.region [⟨(some 34), (.faddr 1 (.tmp 2)), none⟩, ⟨(some 35), (.iaddrA 4 1 (.tmp 34) (.const (.c (.val (.int .i64 1))))), none⟩, ⟨(some 36), (.load false 1 (.tmp 35)), none⟩, ⟨(some 37), (.faddr 1 (.tmp 2)), none⟩, ⟨(some 38), (.iaddrA 4 1 (.tmp 37) (.const (.c (.val (.int .i64 3))))), none⟩, ⟨(some 39), (.load false 1 (.tmp 38)), none⟩, ⟨(some 40), (.mov (.tmp 5)), none⟩, ⟨(some 41), (.call 42 [(.tmp 36), (.tmp 39), (.tmp 40)]), none⟩, ⟨(some 4), (.mov (.tmp 41)), none⟩])
 .ret))))))⟩
set_option maxRecDepth 100000 in
theorem c17 : compFunc Try.prog 17 = some a17 := by kernel_rfl
def clerestoryref2_EaseOf_post (r : Int) : AV → Heap → Nat → Prop := fun v h' n' => v = (I r) ∧ (h' = (fun _ => none)) ∧ n' = 0
noncomputable def clerestoryref2_EaseOf_l0 (e_ : TSEase) (t_ : Int) (K0_ : Int → Option Int) : Nat → Int → Option Int
  | 0, _ => none
  | k + 1, k_ =>
    if decide ((clerestoryref2_Bend e_.Curve.a0 e_.Curve.a2 k_) < t_) then
      (clerestoryref2_EaseOf_l0 e_ t_ K0_ k) (wi (k_ + 1))
    else
      K0_ k_
theorem clerestoryref2_EaseOf_l0_ok {Γ : Glob} {Q : AExit → St → Prop} {e_ : TSEase} {t_ : Int} {K0_ : Int → Option Int} {k : Nat} {k_ : Int} {o : Int} (h : clerestoryref2_EaseOf_l0 e_ t_ K0_ k k_ = some o)
    (hK0 : ∀ (k_1 : Int), K0_ k_1 = some o → ∀ s, Weak 0 s ⟨(upd (upd (fun _ => none) 2 (some (.c (.ref 0 6 0 0)))) 5 (some (I k_1))), (upd (fun _ => none) 0 (some (.cells 6 [[cI e_.Kind, cI e_.Curve.a0, cI e_.Curve.a1, cI e_.Curve.a2, cI e_.Curve.a3, cI e_.N]]))), 1⟩ → Q (.exit 0) s)
    (hr : ∀ s, Ends a17.results 0 (clerestoryref2_EaseOf_post o) .ret s → Q .ret s) :
    Sv Try.prog Γ 0 (.loop a17_c0) Q ⟨(upd (upd (upd (fun _ => none) 1 (some (I t_))) 2 (some (.c (.ref 0 6 0 0)))) 5 (some (I k_))), (upd (fun _ => none) 0 (some (.cells 6 [[cI e_.Kind, cI e_.Curve.a0, cI e_.Curve.a1, cI e_.Curve.a2, cI e_.Curve.a3, cI e_.N]]))), 1⟩ := by
  refine Sv.loop (I := fun k s => ∃ (k_ : Int), clerestoryref2_EaseOf_l0 e_ t_ K0_ k k_ = some o ∧ s = ⟨(upd (upd (upd (fun _ => none) 1 (some (I t_))) 2 (some (.c (.ref 0 6 0 0)))) 5 (some (I k_))), (upd (fun _ => none) 0 (some (.cells 6 [[cI e_.Kind, cI e_.Curve.a0, cI e_.Curve.a1, cI e_.Curve.a2, cI e_.Curve.a3, cI e_.N]]))), 1⟩) (fun k s hI => ?_) ⟨k_, h, rfl⟩
  clear h
  clear k_
  obtain ⟨k_, h, rfl⟩ := hI
  cases k with
  | zero => cases h
  | succ k =>
  rw [clerestoryref2_EaseOf_l0] at h
  have hself : ∀ (k_ : Int), (clerestoryref2_EaseOf_l0 e_ t_ K0_ k) k_ = some o → ∀ s, Weak 0 s ⟨(upd (upd (upd (fun _ => none) 1 (some (I t_))) 2 (some (.c (.ref 0 6 0 0)))) 5 (some (I k_))), (upd (fun _ => none) 0 (some (.cells 6 [[cI e_.Kind, cI e_.Curve.a0, cI e_.Curve.a1, cI e_.Curve.a2, cI e_.Curve.a3, cI e_.N]]))), 1⟩ → (AThen (fun s' => ∃ s'' k', Weak 0 s' s'' ∧ k' < k + 1 ∧ (fun k s => ∃ (k_ : Int), clerestoryref2_EaseOf_l0 e_ t_ K0_ k k_ = some o ∧ s = ⟨(upd (upd (upd (fun _ => none) 1 (some (I t_))) 2 (some (.c (.ref 0 6 0 0)))) 5 (some (I k_))), (upd (fun _ => none) 0 (some (.cells 6 [[cI e_.Kind, cI e_.Curve.a0, cI e_.Curve.a1, cI e_.Curve.a2, cI e_.Curve.a3, cI e_.N]]))), 1⟩) k' s'') Q) .normal s := fun k_ h s hw => ⟨_, k, hw, Nat.lt_succ_self k, k_, h, rfl⟩
  refine Sv.seq ?_
  refine Sv.seq ?_
  refine Sv.region ?_
  refine un (a1 (v := (.c (.ref 0 6 0 1))) rfl ?_)
  refine un (a1 (v := (.c (.ref 0 6 0 1))) rfl ?_)
  refine un (a1 (v := (I e_.Curve.a0)) rfl ?_)
  refine un (a1 (v := (.c (.ref 0 6 0 1))) rfl ?_)
  refine un (a1 (v := (.c (.ref 0 6 0 3))) rfl ?_)
  refine un (a1 (v := (I e_.Curve.a2)) rfl ?_)
  refine un (a1 rfl ?_)
  refine un (ac_pure (clerestoryref2_Bend_ok (Γ := Γ) e_.Curve.a0 e_.Curve.a2 k_) rfl rfl rfl ?_)
  refine un (a1 rfl ?_)
  refine un (a1 (v := (B (decide ((clerestoryref2_Bend e_.Curve.a0 e_.Curve.a2 k_) < t_)))) rfl ?_)
  refine dnil ?_
  refine Sv.cond (b := decide ((clerestoryref2_Bend e_.Curve.a0 e_.Curve.a2 k_) < t_)) rfl (fun hc3 => ?_) (fun hc3 => ?_)
  · replace h := ifT hc3 h
    refine Sv.skip ?_
    refine Sv.block ?_
    refine Sv.region ?_
    refine un (a1 rfl ?_)
    refine un (a1 (v := (I (wi (k_ + 1)))) rfl ?_)
    refine un (a1 rfl ?_)
    refine dnil ?_
    exact hself (wi (k_ + 1)) h _ (weak_canon [0] rfl (by decide) (by decide) (fun b h => absurd h (Nat.not_lt_zero _)) (.cons rfl (avAs_free rfl) (.cons rfl (.c (.ref rfl (by decide))) (.cons rfl (avAs_free rfl) .nil))) (.box (by decide) rfl (blkAs_cells (.cons (.same rfl) (.cons (.same rfl) (.cons (.same rfl) (.cons (.same rfl) (.cons (.same rfl) (.cons (.same rfl) .nil))))))) .nil))
  · replace h := ifF hc3 h
    refine Sv.exit ?_
    exact hK0 k_ h _ (weak_canon [0] rfl (by decide) (by decide) (fun b h => absurd h (Nat.not_lt_zero _)) (.cons rfl (avAs_free rfl) (.cons rfl (.c (.ref rfl (by decide))) .nil)) (.box (by decide) rfl (blkAs_cells (.cons (.same rfl) (.cons (.same rfl) (.cons (.same rfl) (.cons (.same rfl) (.cons (.same rfl) (.cons (.same rfl) .nil))))))) .nil))
/-- clerestory/clerestoryref2.EaseOf -/
noncomputable def clerestoryref2_EaseOf (e_ : TSEase) (t_ : Int) : Option Int :=
  if decide (e_.Kind = 1) then
    some t_
  else
    if decide (e_.Kind = 3) then
      (quo? .i64 (wi ((wi ((wi (t_ * e_.N)).tdiv 1000)) * 1000)) e_.N).bind fun r_ =>
      some r_
    else
      lim fun kk => clerestoryref2_EaseOf_l0 e_ t_ (fun (k_1 : Int) => 
          some (clerestoryref2_Bend e_.Curve.a1 e_.Curve.a3 k_1)) kk 0
theorem clerestoryref2_EaseOf_ok {Γ : Glob} {e_ : TSEase} {t_ : Int} {r : Int} (h : clerestoryref2_EaseOf e_ t_ = some r) : CPure Try.prog Γ 17 [(.agg [cI e_.Kind, cI e_.Curve.a0, cI e_.Curve.a1, cI e_.Curve.a2, cI e_.Curve.a3, cI e_.N]), (I t_)] (I r) := by
  refine acalls_of_sv hmix c17 (R := clerestoryref2_EaseOf_post r) ?_
  unfold clerestoryref2_EaseOf at h
  refine Sv.seq ?_
  refine Sv.region ?_
  refine un (a2v (v := (.c (.ref 0 6 0 0))) (h' := upd _ 0 (some (.cells 6 [[cI e_.Kind, cI e_.Curve.a0, cI e_.Curve.a1, cI e_.Curve.a2, cI e_.Curve.a3, cI e_.N]]))) (n' := 1) rfl rfl (fun h => by cases h) ?_)
  refine un (a1 rfl ?_)
  refine dnil ?_
  refine Sv.seq ?_
  refine Sv.seq ?_
  refine Sv.region ?_
  refine un (a1 (v := (.c (.ref 0 6 0 0))) rfl ?_)
  refine un (a1 (v := (I e_.Kind)) rfl ?_)
  refine un (a1 (v := (B (decide (e_.Kind = 1)))) rfl ?_)
  refine dnil ?_
  refine Sv.cond (b := decide (e_.Kind = 1)) rfl (fun hc1 => ?_) (fun hc1 => ?_)
  · replace h := ifT hc1 h
    refine Sv.seq ?_
    refine Sv.region ?_
    refine un (a1 rfl ?_)
    refine un (a1 rfl ?_)
    refine dnil ?_
    refine Sv.ret ?_
    replace h := Option.some.inj h
    subst h
    exact ⟨_, .refl _, _, rfl, ⟨upd (fun _ => none) 0 (some (I t_)), (fun _ => none), 0⟩, (I t_), weak_canon [] rfl List.nodup_nil (Nat.le_refl _) (fun b h => absurd h (Nat.not_lt_zero _)) (.cons rfl (avAs_free rfl) .nil) .nil, rfl, rfl, rfl, rfl⟩
  · replace h := ifF hc1 h
    refine Sv.skip ?_
    refine Sv.seq ?_
    refine Sv.seq ?_
    refine Sv.region ?_
    refine un (a1 (v := (.c (.ref 0 6 0 0))) rfl ?_)
    refine un (a1 (v := (I e_.Kind)) rfl ?_)
    refine un (a1 (v := (B (decide (e_.Kind = 3)))) rfl ?_)
    refine dnil ?_
    refine Sv.cond (b := decide (e_.Kind = 3)) rfl (fun hc2 => ?_) (fun hc2 => ?_)
    · replace h := ifT hc2 h
      refine Sv.seq ?_
      refine Sv.region ?_
      refine un (a1 rfl ?_)
      refine un (a1 (v := (.c (.ref 0 6 0 5))) rfl ?_)
      refine un (a1 (v := (I e_.N)) rfl ?_)
      refine un (a1 (v := (I (wi (t_ * e_.N)))) rfl ?_)
      refine un (a1 (v := (I (wi ((wi (t_ * e_.N)).tdiv 1000)))) rfl ?_)
      refine un (a1 (v := (I (wi ((wi ((wi (t_ * e_.N)).tdiv 1000)) * 1000)))) rfl ?_)
      refine un (a1 (v := (.c (.ref 0 6 0 5))) rfl ?_)
      refine un (a1 (v := (I e_.N)) rfl ?_)
      obtain ⟨r_, hx1, h⟩ := bnd h
      refine un (a1 (v := (I r_)) (s_quo rfl rfl hx1) ?_)
      refine un (a1 rfl ?_)
      refine dnil ?_
      refine Sv.ret ?_
      replace h := Option.some.inj h
      subst h
      exact ⟨_, .refl _, _, rfl, ⟨upd (fun _ => none) 0 (some (I r_)), (fun _ => none), 0⟩, (I r_), weak_canon [] rfl List.nodup_nil (Nat.le_refl _) (fun b h => absurd h (Nat.not_lt_zero _)) (.cons rfl (avAs_free rfl) .nil) .nil, rfl, rfl, rfl, rfl⟩
    · replace h := ifF hc2 h
      refine Sv.skip ?_
      refine Sv.seq ?_
      refine Sv.region ?_
      refine un (a1 rfl ?_)
      refine dnil ?_
      refine Sv.seq ?_
      refine Sv.block ?_
      obtain ⟨kk, h⟩ := lim_some h
      refine Sv.weak (weak_canon [0] rfl (by decide) (by decide) (fun b h => absurd h (Nat.not_lt_zero _)) (.cons rfl (avAs_free rfl) (.cons rfl (.c (.ref rfl (by decide))) (.cons rfl (avAs_free rfl) .nil))) (.box (by decide) rfl (blkAs_cells (.cons (.same rfl) (.cons (.same rfl) (.cons (.same rfl) (.cons (.same rfl) (.cons (.same rfl) (.cons (.same rfl) .nil))))))) .nil)) (clerestoryref2_EaseOf_l0_ok h ?_ (fun s hs => hs))
      · intro k_1 h _ hw1
        refine Sv.weak hw1 ?_
        refine Sv.seq ?_
        refine Sv.region ?_
        refine un (a1 (v := (.c (.ref 0 6 0 1))) rfl ?_)
        refine un (a1 (v := (.c (.ref 0 6 0 2))) rfl ?_)
        refine un (a1 (v := (I e_.Curve.a1)) rfl ?_)
        refine un (a1 (v := (.c (.ref 0 6 0 1))) rfl ?_)
        refine un (a1 (v := (.c (.ref 0 6 0 4))) rfl ?_)
        refine un (a1 (v := (I e_.Curve.a3)) rfl ?_)
        refine un (a1 rfl ?_)
        refine un (ac_pure (clerestoryref2_Bend_ok (Γ := Γ) e_.Curve.a1 e_.Curve.a3 k_1) rfl rfl rfl ?_)
        refine un (a1 rfl ?_)
        refine dnil ?_
        refine Sv.ret ?_
        replace h := Option.some.inj h
        subst h
        exact ⟨_, .refl _, _, rfl, ⟨upd (fun _ => none) 0 (some (I (clerestoryref2_Bend e_.Curve.a1 e_.Curve.a3 k_1))), (fun _ => none), 0⟩, (I (clerestoryref2_Bend e_.Curve.a1 e_.Curve.a3 k_1)), weak_canon [] rfl List.nodup_nil (Nat.le_refl _) (fun b h => absurd h (Nat.not_lt_zero _)) (.cons rfl (avAs_free rfl) .nil) .nil, rfl, rfl, rfl, rfl⟩
def a46 : AFunc := ⟨1, [(.tmp 2)], (.seq (.region [⟨(some 2), (.mov (.const (.c (.val (.int .i64 0))))), none⟩])
 (.seq (.region [⟨(some 3), (.mov (.tmp 0)), none⟩, ⟨(some 4), (.mm false [(.tmp 3), (.const (.c (.val (.int .i64 16777216))))]), none⟩, ⟨(some 5), (.mm true [(.const (.c (.val (.int .i64 (-16777216))))), (.tmp 4)]), none⟩, ⟨(some 2), (.mov (.tmp 5)), none⟩])
 .ret))⟩
set_option maxRecDepth 100000 in
theorem c46 : compFunc Try.prog 46 = some a46 := by kernel_rfl
def clerestoryref2_Cut_post (r : Int) : AV → Heap → Nat → Prop := fun v h' n' => v = (I r) ∧ (h' = (fun _ => none)) ∧ n' = 0
/-- clerestory/clerestoryref2.Cut -/
def clerestoryref2_Cut (n_ : Int) : Int :=
  (mx (-16777216) (mn n_ 16777216))
theorem clerestoryref2_Cut_ok {Γ : Glob} (n_ : Int) : CPure Try.prog Γ 46 [(I n_)] (I (clerestoryref2_Cut n_)) := by
  generalize h : clerestoryref2_Cut n_ = o
  refine acalls_of_sv hmix c46 (R := clerestoryref2_Cut_post o) ?_
  unfold clerestoryref2_Cut at h
  refine Sv.seq ?_
  refine Sv.region ?_
  refine un (a1 rfl ?_)
  refine dnil ?_
  refine Sv.seq ?_
  refine Sv.region ?_
  refine un (a1 rfl ?_)
  refine un (a1 (v := (I (mn n_ 16777216))) (s_mn rfl rfl) ?_)
  refine un (a1 (v := (I (mx (-16777216) (mn n_ 16777216)))) (s_mx rfl rfl) ?_)
  refine un (a1 rfl ?_)
  refine dnil ?_
  refine Sv.ret ?_
  subst h
  exact ⟨_, .refl _, _, rfl, ⟨upd (fun _ => none) 0 (some (I (mx (-16777216) (mn n_ 16777216)))), (fun _ => none), 0⟩, (I (mx (-16777216) (mn n_ 16777216))), weak_canon [] rfl List.nodup_nil (Nat.le_refl _) (fun b h => absurd h (Nat.not_lt_zero _)) (.cons rfl (avAs_free rfl) .nil) .nil, rfl, rfl, rfl, rfl⟩
def a47_c0 : ACode := (.seq (.region [⟨(some 16), (.mov (.tmp 5)), none⟩, ⟨(some 4), (.mov (.tmp 16)), none⟩])
 .ret)
def a47 : AFunc := ⟨2, [(.tmp 4)], (.seq (.region [⟨(some 4), (.mov (.const (.c (.val (.int .i64 0))))), none⟩])
 (.seq (.region [⟨(some 6), (.mov (.tmp 0)), none⟩, ⟨(some 7), (.mov (.tmp 1)), none⟩, ⟨(some 8), (.bin .quo (.tmp 6) (.tmp 7)), none⟩, ⟨(some 5), (.mov (.tmp 8)), none⟩])
 (.seq (.seq (.region [⟨(some 9), (.mov (.tmp 5)), none⟩, ⟨(some 10), (.mov (.tmp 1)), none⟩, ⟨(some 11), (.bin .mul (.tmp 9) (.tmp 10)), none⟩, ⟨(some 12), (.mov (.tmp 0)), none⟩, ⟨(some 13), (.bin .gtr (.tmp 11) (.tmp 12)), none⟩])
 (.cond (.tmp 13) (.region [⟨(some 14), (.mov (.tmp 5)), none⟩, ⟨(some 15), (.bin .sub (.tmp 14) (.const (.c (.val (.int .i64 1))))), none⟩, ⟨(some 5), (.mov (.tmp 15)), none⟩]) .skip))
 a47_c0)))⟩
set_option maxRecDepth 100000 in
theorem c47 : compFunc Try.prog 47 = some a47 := by kernel_rfl
def clerestoryref2_Whole_post (r : Int) : AV → Heap → Nat → Prop := fun v h' n' => v = (I r) ∧ (h' = (fun _ => none)) ∧ n' = 0
noncomputable def clerestoryref2_Whole_j1 (q_ : Int) : Option Int :=
  some q_
theorem clerestoryref2_Whole_j1_ok {Γ : Glob} {q_ : Int} {o : Int} (h : clerestoryref2_Whole_j1 q_ = some o) :
    Sv Try.prog Γ 0 a47_c0 (Ends a47.results 0 (clerestoryref2_Whole_post o)) ⟨(upd (fun _ => none) 5 (some (I q_))), (fun _ => none), 0⟩ := by
  unfold clerestoryref2_Whole_j1 at h
  refine Sv.seq ?_
  refine Sv.region ?_
  refine un (a1 rfl ?_)
  refine un (a1 rfl ?_)
  refine dnil ?_
  refine Sv.ret ?_
  replace h := Option.some.inj h
  subst h
  exact ⟨_, .refl _, _, rfl, ⟨upd (fun _ => none) 0 (some (I q_)), (fun _ => none), 0⟩, (I q_), weak_canon [] rfl List.nodup_nil (Nat.le_refl _) (fun b h => absurd h (Nat.not_lt_zero _)) (.cons rfl (avAs_free rfl) .nil) .nil, rfl, rfl, rfl, rfl⟩
/-- clerestory/clerestoryref2.Whole -/
noncomputable def clerestoryref2_Whole (n_ : Int) (by_ : Int) : Option Int :=
  (quo? .i64 n_ by_).bind fun r_ =>
  if decide (n_ < (wi (r_ * by_))) then
    clerestoryref2_Whole_j1 (wi (r_ - 1))
  else
    clerestoryref2_Whole_j1 r_
theorem clerestoryref2_Whole_ok {Γ : Glob} {n_ : Int} {by_ : Int} {r : Int} (h : clerestoryref2_Whole n_ by_ = some r) : CPure Try.prog Γ 47 [(I n_), (I by_)] (I r) := by
  refine acalls_of_sv hmix c47 (R := clerestoryref2_Whole_post r) ?_
  unfold clerestoryref2_Whole at h
  refine Sv.seq ?_
  refine Sv.region ?_
  refine un (a1 rfl ?_)
  refine dnil ?_
  refine Sv.seq ?_
  refine Sv.region ?_
  refine un (a1 rfl ?_)
  refine un (a1 rfl ?_)
  obtain ⟨r_, hx1, h⟩ := bnd h
  refine un (a1 (v := (I r_)) (s_quo rfl rfl hx1) ?_)
  refine un (a1 rfl ?_)
  refine dnil ?_
  refine Sv.seq ?_
  refine Sv.seq ?_
  refine Sv.region ?_
  refine un (a1 rfl ?_)
  refine un (a1 rfl ?_)
  refine un (a1 (v := (I (wi (r_ * by_)))) rfl ?_)
  refine un (a1 rfl ?_)
  refine un (a1 (v := (B (decide (n_ < (wi (r_ * by_)))))) rfl ?_)
  refine dnil ?_
  refine Sv.cond (b := decide (n_ < (wi (r_ * by_)))) rfl (fun hc1 => ?_) (fun hc1 => ?_)
  · replace h := ifT hc1 h
    refine Sv.region ?_
    refine un (a1 rfl ?_)
    refine un (a1 (v := (I (wi (r_ - 1)))) rfl ?_)
    refine un (a1 rfl ?_)
    refine dnil ?_
    exact Sv.weak (weak_canon [] rfl (by decide) (by decide) (fun b h => absurd h (Nat.not_lt_zero _)) (.cons rfl (avAs_free rfl) .nil) .nil) (clerestoryref2_Whole_j1_ok h)
  · replace h := ifF hc1 h
    refine Sv.skip ?_
    exact Sv.weak (weak_canon [] rfl (by decide) (by decide) (fun b h => absurd h (Nat.not_lt_zero _)) (.cons rfl (avAs_free rfl) .nil) .nil) (clerestoryref2_Whole_j1_ok h)
def a48 : AFunc := ⟨2, [(.tmp 4)], (.seq (.region [⟨(some 4), (.mov (.const (.c (.val (.int .i64 0))))), none⟩])
 (.seq (.region [⟨(some 5), (.mov (.tmp 0)), none⟩, ⟨(some 6), (.conv .u32 (.tmp 5)), none⟩, ⟨(some 7), (.mov (.tmp 1)), none⟩, ⟨(some 8), (.bin .mul (.const (.c (.val (.int .i64 8)))) (.tmp 7)), none⟩, ⟨(some 9), (.conv .u64 (.tmp 8)), none⟩, ⟨(some 10), (.bin .shr (.tmp 6) (.tmp 9)), none⟩, ⟨(some 11), (.conv .i64 (.tmp 10)), none⟩, ⟨(some 12), (.bin .rem (.tmp 11) (.const (.c (.val (.int .i64 256))))), none⟩, ⟨(some 4), (.mov (.tmp 12)), none⟩])
 .ret))⟩
set_option maxRecDepth 100000 in
theorem c48 : compFunc Try.prog 48 = some a48 := by kernel_rfl
def clerestoryref2_Byte_post (r : Int) : AV → Heap → Nat → Prop := fun v h' n' => v = (I r) ∧ (h' = (fun _ => none)) ∧ n' = 0
/-- clerestory/clerestoryref2.Byte -/
noncomputable def clerestoryref2_Byte (c_ : Int) (i_ : Int) : Option Int :=
  (shr? .u32 (wr .u32 c_) (wr .u64 (wi (8 * i_)))).bind fun r_ =>
  some ((wr .i64 r_).tmod 256)
theorem clerestoryref2_Byte_ok {Γ : Glob} {c_ : Int} {i_ : Int} {r : Int} (h : clerestoryref2_Byte c_ i_ = some r) : CPure Try.prog Γ 48 [(I c_), (I i_)] (I r) := by
  refine acalls_of_sv hmix c48 (R := clerestoryref2_Byte_post r) ?_
  unfold clerestoryref2_Byte at h
  refine Sv.seq ?_
  refine Sv.region ?_
  refine un (a1 rfl ?_)
  refine dnil ?_
  refine Sv.seq ?_
  refine Sv.region ?_
  refine un (a1 rfl ?_)
  refine un (a1 (v := (.c (.val (.int .u32 (wr .u32 c_))))) rfl ?_)
  refine un (a1 rfl ?_)
  refine un (a1 (v := (I (wi (8 * i_)))) rfl ?_)
  refine un (a1 (v := (.c (.val (.int .u64 (wr .u64 (wi (8 * i_))))))) rfl ?_)
  obtain ⟨r_, hx1, h⟩ := bnd h
  refine un (a1 (v := (.c (.val (.int .u32 r_)))) (s_shr rfl rfl hx1) ?_)
  refine un (a1 (v := (I (wr .i64 r_))) rfl ?_)
  refine un (a1 (v := (I ((wr .i64 r_).tmod 256))) rfl ?_)
  refine un (a1 rfl ?_)
  refine dnil ?_
  refine Sv.ret ?_
  replace h := Option.some.inj h
  subst h
  exact ⟨_, .refl _, _, rfl, ⟨upd (fun _ => none) 0 (some (I ((wr .i64 r_).tmod 256))), (fun _ => none), 0⟩, (I ((wr .i64 r_).tmod 256)), weak_canon [] rfl List.nodup_nil (Nat.le_refl _) (fun b h => absurd h (Nat.not_lt_zero _)) (.cons rfl (avAs_free rfl) .nil) .nil, rfl, rfl, rfl, rfl⟩
def a24_c0 : ACode := (.seq (.seq (.region [⟨(some 57), (.mov (.tmp 9)), none⟩, ⟨(some 58), (.bin .geq (.tmp 57) (.const (.c (.val (.int .i64 0))))), none⟩])
 (.cond (.tmp 58) .skip (.exit 0)))
 (.seq (.block 1 (.drawn (.fin [(⟨(some 61), (.mov (.tmp 8)), none⟩, (0, 0)), (⟨(some 62), (.bin .mul (.const (.c (.val (.int .i64 256)))) (.tmp 61)), none⟩, (0, 1)), (⟨(some 63), (.faddr 1 (.tmp 3)), none⟩, (0, 2)), (⟨(some 64), (.load false 1 (.tmp 63)), none⟩, (0, 3)), (⟨(some 65), (.mov (.tmp 9)), none⟩, (0, 4)), (⟨(some 68), (.faddr 1 (.tmp 4)), none⟩, (0, 7)), (⟨(some 69), (.load false 1 (.tmp 68)), none⟩, (0, 8)), (⟨(some 70), (.mov (.tmp 9)), none⟩, (0, 9)), (⟨(some 72), (.faddr 1 (.tmp 3)), none⟩, (0, 11)), (⟨(some 73), (.load false 1 (.tmp 72)), none⟩, (0, 12)), (⟨(some 74), (.mov (.tmp 9)), none⟩, (0, 13)), (⟨(some 77), (.mov (.tmp 2)), none⟩, (0, 16)), (⟨(some 66), (.call 48 [(.tmp 64), (.tmp 65)]), none⟩, (1, 5)), (⟨(some 67), (.bin .add (.tmp 62) (.tmp 66)), none⟩, (0, 6)), (⟨(some 71), (.call 48 [(.tmp 69), (.tmp 70)]), none⟩, (1, 10)), (⟨(some 75), (.call 48 [(.tmp 73), (.tmp 74)]), none⟩, (2, 14)), (⟨(some 76), (.bin .sub (.tmp 71) (.tmp 75)), none⟩, (0, 15)), (⟨(some 78), (.bin .mul (.tmp 76) (.tmp 77)), none⟩, (0, 17)), (⟨(some 79), (.call 47 [(.tmp 78), (.const (.c (.val (.int .i64 1000))))]), none⟩, (2, 18)), (⟨(some 80), (.bin .add (.tmp 67) (.tmp 79)), none⟩, (0, 19)), (⟨(some 8), (.mov (.tmp 80)), none⟩, (0, 20))])))
 (.region [⟨(some 59), (.mov (.tmp 9)), none⟩, ⟨(some 60), (.bin .sub (.tmp 59) (.const (.c (.val (.int .i64 1))))), none⟩, ⟨(some 9), (.mov (.tmp 60)), none⟩])))
def a24 : AFunc := ⟨3, [(.cell true 2 6)], (.seq (.region [⟨(some 3), (.box (.tmp 0)), none⟩, ⟨(some 4), (.box (.tmp 1)), none⟩, ⟨(some 6), (.box (.const (.agg [(.val (.int .i64 0)), (.val (.int .i64 0))]))), none⟩])
 (.seq (.region [⟨(some 10), (.mov (.tmp 2)), none⟩, ⟨(some 11), (.mm false [(.tmp 10), (.const (.c (.val (.int .i64 1000))))]), none⟩, ⟨(some 12), (.mm true [(.const (.c (.val (.int .i64 0)))), (.tmp 11)]), none⟩, ⟨(some 2), (.mov (.tmp 12)), none⟩])
 (.seq (.seq (.region [⟨(some 13), (.faddr 0 (.tmp 3)), none⟩, ⟨(some 14), (.load false 1 (.tmp 13)), none⟩, ⟨(some 15), (.faddr 0 (.tmp 4)), none⟩, ⟨(some 16), (.load false 1 (.tmp 15)), none⟩, ⟨(some 17), (.bin .eql (.tmp 14) (.tmp 16)), none⟩, ⟨(some 18), (.mov (.tmp 17)), none⟩, ⟨(some 19), (.faddr 0 (.tmp 3)), (some (18, true))⟩, ⟨(some 20), (.load false 1 (.tmp 19)), (some (18, true))⟩, ⟨(some 21), (.bin .eql (.tmp 20) (.const (.c (.val (.int .i64 2))))), (some (18, true))⟩, ⟨(some 22), (.mov (.tmp 21)), (some (18, true))⟩, ⟨(some 23), (.faddr 0 (.tmp 3)), (some (22, false))⟩, ⟨(some 24), (.load false 1 (.tmp 23)), (some (22, false))⟩, ⟨(some 25), (.bin .eql (.tmp 24) (.const (.c (.val (.int .i64 3))))), (some (22, false))⟩, ⟨(some 26), (.pick (.tmp 22) (.const (.c (.val (.bool true)))) (.tmp 25)), (some (18, true))⟩, ⟨(some 27), (.mov (.tmp 26)), (some (18, true))⟩, ⟨(some 28), (.faddr 0 (.tmp 3)), (some (27, false))⟩, ⟨(some 29), (.load false 1 (.tmp 28)), (some (27, false))⟩, ⟨(some 30), (.bin .eql (.tmp 29) (.const (.c (.val (.int .i64 4))))), (some (27, false))⟩, ⟨(some 31), (.pick (.tmp 27) (.const (.c (.val (.bool true)))) (.tmp 30)), (some (18, true))⟩, ⟨(some 32), (.pick (.tmp 18) (.tmp 31) (.const (.c (.val (.bool false))))), none⟩])
 (.cond (.tmp 32) (.seq (.region [⟨(some 33), (.faddr 1 (.tmp 3)), none⟩, ⟨(some 34), (.load false 1 (.tmp 33)), none⟩, ⟨(some 35), (.call 46 [(.tmp 34)]), none⟩, ⟨(some 7), (.mov (.tmp 35)), none⟩])
 (.seq (.drawn (.fin [(⟨(some 36), (.faddr 0 (.tmp 3)), none⟩, (0, 0)), (⟨(some 37), (.load false 1 (.tmp 36)), none⟩, (0, 1)), (⟨(some 38), (.mov (.tmp 7)), none⟩, (0, 2)), (⟨(some 39), (.faddr 1 (.tmp 4)), none⟩, (0, 3)), (⟨(some 40), (.load false 1 (.tmp 39)), none⟩, (0, 4)), (⟨(some 42), (.mov (.tmp 7)), none⟩, (0, 6)), (⟨(some 44), (.mov (.tmp 2)), none⟩, (0, 8)), (⟨(some 41), (.call 46 [(.tmp 40)]), none⟩, (1, 5)), (⟨(some 43), (.bin .sub (.tmp 41) (.tmp 42)), none⟩, (0, 7)), (⟨(some 45), (.bin .mul (.tmp 43) (.tmp 44)), none⟩, (0, 9)), (⟨(some 46), (.call 47 [(.tmp 45), (.const (.c (.val (.int .i64 1000))))]), none⟩, (1, 10)), (⟨(some 47), (.bin .add (.tmp 38) (.tmp 46)), none⟩, (0, 11)), (⟨(some 48), (.build [(.val (.int .i64 0)), (.val (.int .i64 0))] [(0, (1, (.tmp 37))), (1, (1, (.tmp 47)))]), none⟩, (0, 12)), (⟨none, (.store 2 (.tmp 6) (.tmp 48)), none⟩, (2, 13))]))
 .ret)) .skip))
 (.seq (.seq (.region [⟨(some 49), (.faddr 0 (.tmp 3)), none⟩, ⟨(some 50), (.load false 1 (.tmp 49)), none⟩, ⟨(some 51), (.bin .eql (.tmp 50) (.const (.c (.val (.int .i64 5))))), none⟩, ⟨(some 52), (.mov (.tmp 51)), none⟩, ⟨(some 53), (.faddr 0 (.tmp 4)), (some (52, true))⟩, ⟨(some 54), (.load false 1 (.tmp 53)), (some (52, true))⟩, ⟨(some 55), (.bin .eql (.tmp 54) (.const (.c (.val (.int .i64 5))))), (some (52, true))⟩, ⟨(some 56), (.pick (.tmp 52) (.tmp 55) (.const (.c (.val (.bool false))))), none⟩])
 (.cond (.tmp 56) (.seq (.region [⟨(some 8), (.mov (.const (.c (.val (.int .i64 0))))), none⟩])
 (.seq (.seq (.region [⟨(some 9), (.mov (.const (.c (.val (.int .i64 3))))), none⟩])
 (.block 0 (.loop a24_c0)))
 (.seq (.region [⟨(some 81), (.mov (.tmp 8)), none⟩, ⟨(some 82), (.build [(.val (.int .i64 0)), (.val (.int .i64 0))] [(0, (1, (.const (.c (.val (.int .i64 5)))))), (1, (1, (.tmp 81)))]), none⟩, ⟨none, (.store 2 (.tmp 6) (.tmp 82)), none⟩])
 .ret))) .skip))
 (.seq (.seq (.region [⟨(some 83), (.mov (.tmp 2)), none⟩, ⟨(some 84), (.bin .lss (.tmp 83) (.const (.c (.val (.int .i64 500))))), none⟩])
 (.cond (.tmp 84) (.seq (.region [⟨(some 85), (.load true 2 (.tmp 3)), none⟩, ⟨none, (.store 2 (.tmp 6) (.tmp 85)), none⟩])
 .ret) .skip))
 (.seq (.region [⟨(some 86), (.load true 2 (.tmp 4)), none⟩, ⟨none, (.store 2 (.tmp 6) (.tmp 86)), none⟩])
 .ret))))))⟩
set_option maxRecDepth 100000 in
theorem c24 : compFunc Try.prog 24 = some a24 := by kernel_rfl
def clerestoryref2_MixOf_post (r : TVal) : AV → Heap → Nat → Prop := fun v h' n' => v = (.agg [cI r.Kind, cI r.N]) ∧ (h' = (fun _ => none)) ∧ n' = 0
noncomputable def clerestoryref2_MixOf_l0 (a_ : TVal) (b_ : TVal) (t_ : Int) (K0_ : Int → Option TVal) : Nat → Int → Int → Option TVal
  | 0, _, _ => none
  | k + 1, n_, i_ =>
    if decide (0 ≤ i_) then
      (clerestoryref2_Byte a_.N i_).bind fun r_1 =>
      (clerestoryref2_Byte b_.N i_).bind fun r_2 =>
      (clerestoryref2_Byte a_.N i_).bind fun r_3 =>
      (clerestoryref2_Whole (wi ((wi (r_2 - r_3)) * (mx 0 (mn t_ 1000)))) 1000).bind fun r_4 =>
      (clerestoryref2_MixOf_l0 a_ b_ t_ K0_ k) (wi ((wi ((wi (256 * n_)) + r_1)) + r_4)) (wi (i_ - 1))
    else
      K0_ n_
theorem clerestoryref2_MixOf_l0_ok {Γ : Glob} {Q : AExit → St → Prop} {a_ : TVal} {b_ : TVal} {t_ : Int} {K0_ : Int → Option TVal} {k : Nat} {n_ : Int} {i_ : Int} {o : TVal} (h : clerestoryref2_MixOf_l0 a_ b_ t_ K0_ k n_ i_ = some o)
    (hK0 : ∀ (n_1 : Int), K0_ n_1 = some o → ∀ s, Weak 0 s ⟨(upd (upd (fun _ => none) 6 (some (.c (.ref 0 2 0 0)))) 8 (some (I n_1))), (upd (fun _ => none) 0 (some (.cells 2 [[cI 0, cI 0]]))), 1⟩ → Q (.exit 0) s)
    (hr : ∀ s, Ends a24.results 0 (clerestoryref2_MixOf_post o) .ret s → Q .ret s) :
    Sv Try.prog Γ 0 (.loop a24_c0) Q ⟨(upd (upd (upd (upd (upd (upd (fun _ => none) 2 (some (I (mx 0 (mn t_ 1000))))) 3 (some (.c (.ref 0 2 0 0)))) 4 (some (.c (.ref 1 2 0 0)))) 6 (some (.c (.ref 2 2 0 0)))) 8 (some (I n_))) 9 (some (I i_))), (upd (upd (upd (fun _ => none) 0 (some (.cells 2 [[cI a_.Kind, cI a_.N]]))) 1 (some (.cells 2 [[cI b_.Kind, cI b_.N]]))) 2 (some (.cells 2 [[cI 0, cI 0]]))), 3⟩ := by
  refine Sv.loop (I := fun k s => ∃ (n_ : Int), ∃ (i_ : Int), clerestoryref2_MixOf_l0 a_ b_ t_ K0_ k n_ i_ = some o ∧ s = ⟨(upd (upd (upd (upd (upd (upd (fun _ => none) 2 (some (I (mx 0 (mn t_ 1000))))) 3 (some (.c (.ref 0 2 0 0)))) 4 (some (.c (.ref 1 2 0 0)))) 6 (some (.c (.ref 2 2 0 0)))) 8 (some (I n_))) 9 (some (I i_))), (upd (upd (upd (fun _ => none) 0 (some (.cells 2 [[cI a_.Kind, cI a_.N]]))) 1 (some (.cells 2 [[cI b_.Kind, cI b_.N]]))) 2 (some (.cells 2 [[cI 0, cI 0]]))), 3⟩) (fun k s hI => ?_) ⟨n_, i_, h, rfl⟩
  clear h
  clear i_ n_
  obtain ⟨n_, i_, h, rfl⟩ := hI
  cases k with
  | zero => cases h
  | succ k =>
  rw [clerestoryref2_MixOf_l0] at h
  have hself : ∀ (n_ : Int) (i_ : Int), (clerestoryref2_MixOf_l0 a_ b_ t_ K0_ k) n_ i_ = some o → ∀ s, Weak 0 s ⟨(upd (upd (upd (upd (upd (upd (fun _ => none) 2 (some (I (mx 0 (mn t_ 1000))))) 3 (some (.c (.ref 0 2 0 0)))) 4 (some (.c (.ref 1 2 0 0)))) 6 (some (.c (.ref 2 2 0 0)))) 8 (some (I n_))) 9 (some (I i_))), (upd (upd (upd (fun _ => none) 0 (some (.cells 2 [[cI a_.Kind, cI a_.N]]))) 1 (some (.cells 2 [[cI b_.Kind, cI b_.N]]))) 2 (some (.cells 2 [[cI 0, cI 0]]))), 3⟩ → (AThen (fun s' => ∃ s'' k', Weak 0 s' s'' ∧ k' < k + 1 ∧ (fun k s => ∃ (n_ : Int), ∃ (i_ : Int), clerestoryref2_MixOf_l0 a_ b_ t_ K0_ k n_ i_ = some o ∧ s = ⟨(upd (upd (upd (upd (upd (upd (fun _ => none) 2 (some (I (mx 0 (mn t_ 1000))))) 3 (some (.c (.ref 0 2 0 0)))) 4 (some (.c (.ref 1 2 0 0)))) 6 (some (.c (.ref 2 2 0 0)))) 8 (some (I n_))) 9 (some (I i_))), (upd (upd (upd (fun _ => none) 0 (some (.cells 2 [[cI a_.Kind, cI a_.N]]))) 1 (some (.cells 2 [[cI b_.Kind, cI b_.N]]))) 2 (some (.cells 2 [[cI 0, cI 0]]))), 3⟩) k' s'') Q) .normal s := fun n_ i_ h s hw => ⟨_, k, hw, Nat.lt_succ_self k, n_, i_, h, rfl⟩
  refine Sv.seq ?_
  refine Sv.seq ?_
  refine Sv.region ?_
  refine un (a1 rfl ?_)
  refine un (a1 (v := (B (decide (0 ≤ i_)))) rfl ?_)
  refine dnil ?_
  refine Sv.cond (b := decide (0 ≤ i_)) rfl (fun hc7 => ?_) (fun hc7 => ?_)
  · replace h := ifT hc7 h
    refine Sv.skip ?_
    refine Sv.seq ?_
    refine Sv.block ?_
    refine Sv.drawn ?_
    refine un (a1 rfl ?_)
    refine un (a1 (v := (I (wi (256 * n_)))) rfl ?_)
    refine un (a1 (v := (.c (.ref 0 2 0 1))) rfl ?_)
    refine un (a1 (v := (I a_.N)) rfl ?_)
    refine un (a1 rfl ?_)
    refine un (a1 (v := (.c (.ref 1 2 0 1))) rfl ?_)
    refine un (a1 (v := (I b_.N)) rfl ?_)
    refine un (a1 rfl ?_)
    refine un (a1 (v := (.c (.ref 0 2 0 1))) rfl ?_)
    refine un (a1 (v := (I a_.N)) rfl ?_)
    refine un (a1 rfl ?_)
    refine un (a1 rfl ?_)
    obtain ⟨r_1, hr2, h⟩ := bnd h
    refine un (ac_pure (clerestoryref2_Byte_ok hr2) rfl rfl rfl ?_)
    refine un (a1 (v := (I (wi ((wi (256 * n_)) + r_1)))) rfl ?_)
    obtain ⟨r_2, hr3, h⟩ := bnd h
    refine un (ac_pure (clerestoryref2_Byte_ok hr3) rfl rfl rfl ?_)
    obtain ⟨r_3, hr4, h⟩ := bnd h
    refine un (ac_pure (clerestoryref2_Byte_ok hr4) rfl rfl rfl ?_)
    refine un (a1 (v := (I (wi (r_2 - r_3)))) rfl ?_)
    refine un (a1 (v := (I (wi ((wi (r_2 - r_3)) * (mx 0 (mn t_ 1000)))))) rfl ?_)
    obtain ⟨r_4, hr5, h⟩ := bnd h
    refine un (ac_pure (clerestoryref2_Whole_ok hr5) rfl rfl rfl ?_)
    refine un (a1 (v := (I (wi ((wi ((wi (256 * n_)) + r_1)) + r_4)))) rfl ?_)
    refine un (a1 rfl ?_)
    refine dnil ?_
    refine Sv.region ?_
    refine un (a1 rfl ?_)
    refine un (a1 (v := (I (wi (i_ - 1)))) rfl ?_)
    refine un (a1 rfl ?_)
    refine dnil ?_
    exact hself (wi ((wi ((wi (256 * n_)) + r_1)) + r_4)) (wi (i_ - 1)) h _ (weak_canon [0, 1, 2] rfl (by decide) (by decide) (fun b h => absurd h (Nat.not_lt_zero _)) (.cons rfl (avAs_free rfl) (.cons rfl (avAs_free rfl) (.cons rfl (.c (.ref rfl (by decide))) (.cons rfl (.c (.ref rfl (by decide))) (.cons rfl (.c (.ref rfl (by decide))) (.cons rfl (avAs_free rfl) .nil)))))) (.box (by decide) rfl (blkAs_cells (.cons (.same rfl) (.cons (.same rfl) .nil))) (.box (by decide) rfl (blkAs_cells (.cons (.same rfl) (.cons (.same rfl) .nil))) (.box (by decide) rfl (blkAs_cells (.cons (.same rfl) (.cons (.same rfl) .nil))) .nil))))
  · replace h := ifF hc7 h
    refine Sv.exit ?_
    exact hK0 n_ h _ (weak_canon [2] rfl (by decide) (by decide) (fun b h => absurd h (Nat.not_lt_zero _)) (.cons rfl (avAs_free rfl) (.cons rfl (.c (.ref rfl (by decide))) .nil)) (.box (by decide) rfl (blkAs_cells (.cons (.same rfl) (.cons (.same rfl) .nil))) .nil))
/-- clerestory/clerestoryref2.MixOf -/
noncomputable def clerestoryref2_MixOf (a_ : TVal) (b_ : TVal) (t_ : Int) : Option TVal :=
  if ((decide (a_.Kind = b_.Kind)) && (((decide (a_.Kind = 2)) || (decide (a_.Kind = 3))) || (decide (a_.Kind = 4)))) then
    letIn (wi ((wi ((clerestoryref2_Cut b_.N) - (clerestoryref2_Cut a_.N))) * (mx 0 (mn t_ 1000)))) fun v45 : Int =>
    (clerestoryref2_Whole v45 1000).bind fun r_ =>
    some (⟨a_.Kind, (wi ((clerestoryref2_Cut a_.N) + r_))⟩ : TVal)
  else
    if ((decide (a_.Kind = 5)) && (decide (b_.Kind = 5))) then
      lim fun kk => clerestoryref2_MixOf_l0 a_ b_ t_ (fun (n_1 : Int) => 
          some (⟨5, n_1⟩ : TVal)) kk 0 3
    else
      if decide ((mx 0 (mn t_ 1000)) < 500) then
        some a_
      else
        some b_
theorem clerestoryref2_MixOf_ok {Γ : Glob} {a_ : TVal} {b_ : TVal} {t_ : Int} {r : TVal} (h : clerestoryref2_MixOf a_ b_ t_ = some r) : CPure Try.prog Γ 24 [(.agg [cI a_.Kind, cI a_.N]), (.agg [cI b_.Kind, cI b_.N]), (I t_)] (.agg [cI r.Kind, cI r.N]) := by
  refine acalls_of_sv hmix c24 (R := clerestoryref2_MixOf_post r) ?_
  unfold clerestoryref2_MixOf at h
  refine Sv.seq ?_
  refine Sv.region ?_
  refine un (a2v (v := (.c (.ref 0 2 0 0))) (h' := upd _ 0 (some (.cells 2 [[cI a_.Kind, cI a_.N]]))) (n' := 1) rfl rfl (fun h => by cases h) ?_)
  refine un (a2v (v := (.c (.ref 1 2 0 0))) (h' := upd _ 1 (some (.cells 2 [[cI b_.Kind, cI b_.N]]))) (n' := 2) rfl rfl (fun h => by cases h) ?_)
  refine un (a2v (v := (.c (.ref 2 2 0 0))) (h' := upd _ 2 (some (.cells 2 [[cI 0, cI 0]]))) (n' := 3) rfl rfl (fun h => by cases h) ?_)
  refine dnil ?_
  refine Sv.seq ?_
  refine Sv.region ?_
  refine un (a1 rfl ?_)
  refine un (a1 (v := (I (mn t_ 1000))) (s_mn rfl rfl) ?_)
  refine un (a1 (v := (I (mx 0 (mn t_ 1000)))) (s_mx rfl rfl) ?_)
  refine un (a1 rfl ?_)
  refine dnil ?_
  refine Sv.seq ?_
  refine Sv.seq ?_
  refine Sv.region ?_
  refine un (a1 (v := (.c (.ref 0 2 0 0))) rfl ?_)
  refine un (a1 (v := (I a_.Kind)) rfl ?_)
  refine un (a1 (v := (.c (.ref 1 2 0 0))) rfl ?_)
  refine un (a1 (v := (I b_.Kind)) rfl ?_)
  refine un (a1 (v := (B (decide (a_.Kind = b_.Kind)))) rfl ?_)
  refine un (a1 rfl ?_)
  refine gjoin 14 (d := 32) (v := (B ((decide (a_.Kind = b_.Kind)) && (((decide (a_.Kind = 2)) || (decide (a_.Kind = 3))) || (decide (a_.Kind = 4)))))) (fun X hX => ?_) ?_
  · refine split2 (fun hc3 => ?_) (fun hc3 => ?_)
    · refine gt rfl (a1 (v := (.c (.ref 0 2 0 0))) rfl ?_)
      refine gt rfl (a1 (v := (I a_.Kind)) rfl ?_)
      refine gt rfl (a1 (v := (B (decide (a_.Kind = 2)))) rfl ?_)
      refine gt rfl (a1 rfl ?_)
      refine gjoin 4 (d := 26) (v := (B ((decide (a_.Kind = 2)) || (decide (a_.Kind = 3))))) (fun X hX => ?_) ?_
      · refine split2 (fun hc1 => ?_) (fun hc1 => ?_)
        · refine gs rfl rfl ?_
          refine gs rfl rfl ?_
          refine gs rfl rfl ?_
          refine gt rfl (a1 (v := (B true)) rfl ?_)
          refine dnil ?_
          exact hX _ (.putEq (by rw [hc1]; rfl) (.skip _ _ (.skip _ _ (.skip _ _ (.putEq (by rw [hc1]) (.refl _)) rfl) rfl) rfl))
        · refine gt rfl (a1 (v := (.c (.ref 0 2 0 0))) rfl ?_)
          refine gt rfl (a1 (v := (I a_.Kind)) rfl ?_)
          refine gt rfl (a1 (v := (B (decide (a_.Kind = 3)))) rfl ?_)
          refine gt rfl (a1 (v := (B (decide (a_.Kind = 3)))) rfl ?_)
          refine dnil ?_
          exact hX _ (.putEq (by rw [hc1]; rfl) (.skip _ _ (.skip _ _ (.skip _ _ (.putEq (by rw [hc1]) (.refl _)) rfl) rfl) rfl))
      refine gt rfl (a1 rfl ?_)
      refine gjoin 4 (d := 31) (v := (B (((decide (a_.Kind = 2)) || (decide (a_.Kind = 3))) || (decide (a_.Kind = 4))))) (fun X hX => ?_) ?_
      · refine split2 (fun hc2 => ?_) (fun hc2 => ?_)
        · refine gs rfl rfl ?_
          refine gs rfl rfl ?_
          refine gs rfl rfl ?_
          refine gt rfl (a1 (v := (B true)) rfl ?_)
          refine dnil ?_
          exact hX _ (.putEq (by rw [hc2]; rfl) (.skip _ _ (.skip _ _ (.skip _ _ (.putEq (by rw [hc2]) (.refl _)) rfl) rfl) rfl))
        · refine gt rfl (a1 (v := (.c (.ref 0 2 0 0))) rfl ?_)
          refine gt rfl (a1 (v := (I a_.Kind)) rfl ?_)
          refine gt rfl (a1 (v := (B (decide (a_.Kind = 4)))) rfl ?_)
          refine gt rfl (a1 (v := (B (decide (a_.Kind = 4)))) rfl ?_)
          refine dnil ?_
          exact hX _ (.putEq (by rw [hc2]; rfl) (.skip _ _ (.skip _ _ (.skip _ _ (.putEq (by rw [hc2]) (.refl _)) rfl) rfl) rfl))
      refine un (a1 (v := (B (((decide (a_.Kind = 2)) || (decide (a_.Kind = 3))) || (decide (a_.Kind = 4))))) rfl ?_)
      refine dnil ?_
      exact hX _ (.putEq (by rw [hc3]; rfl) (.skip _ _ (.skip _ _ (.skip _ _ (.skip _ _ (.skip _ _ (.skip _ _ (.skip _ _ (.putEq (by rw [hc3]) (.refl _)) rfl) rfl) rfl) rfl) rfl) rfl) rfl))
    · refine gs rfl rfl ?_
      refine gs rfl rfl ?_
      refine gs rfl rfl ?_
      refine gs rfl rfl ?_
      refine gu rfl ?_
      refine gu rfl ?_
      refine gu rfl ?_
      refine gs rfl rfl ?_
      refine gs rfl rfl ?_
      refine gu rfl ?_
      refine gu rfl ?_
      refine gu rfl ?_
      refine gs rfl rfl ?_
      refine un (a1 (v := (B false)) rfl ?_)
      refine dnil ?_
      exact hX _ (.putEq (by rw [hc3]; rfl) (.skip _ _ (.skip _ _ (.skip _ _ (.skip _ _ (.skip _ _ (.skip _ _ (.skip _ _ (.skip _ _ (.skip _ _ (.skip _ _ (.skip _ _ (.skip _ _ (.skip _ _ (.putEq (by rw [hc3]) (.refl _)) rfl) rfl) rfl) rfl) rfl) rfl) rfl) rfl) rfl) rfl) rfl) rfl) rfl))
  refine dnil ?_
  refine Sv.cond (b := ((decide (a_.Kind = b_.Kind)) && (((decide (a_.Kind = 2)) || (decide (a_.Kind = 3))) || (decide (a_.Kind = 4))))) rfl (fun hc4 => ?_) (fun hc4 => ?_)
  · replace h := ifT hc4 h
    refine Sv.seq ?_
    refine Sv.region ?_
    refine un (a1 (v := (.c (.ref 0 2 0 1))) rfl ?_)
    refine un (a1 (v := (I a_.N)) rfl ?_)
    refine un (ac_pure (clerestoryref2_Cut_ok (Γ := Γ) a_.N) rfl rfl rfl ?_)
    refine un (a1 rfl ?_)
    refine dnil ?_
    refine Sv.seq ?_
    refine Sv.drawn ?_
    refine un (a1 (v := (.c (.ref 0 2 0 0))) rfl ?_)
    refine un (a1 (v := (I a_.Kind)) rfl ?_)
    refine un (a1 rfl ?_)
    refine un (a1 (v := (.c (.ref 1 2 0 1))) rfl ?_)
    refine un (a1 (v := (I b_.N)) rfl ?_)
    refine un (a1 rfl ?_)
    refine un (a1 rfl ?_)
    refine un (ac_pure (clerestoryref2_Cut_ok (Γ := Γ) b_.N) rfl rfl rfl ?_)
    refine un (a1 (v := (I (wi ((clerestoryref2_Cut b_.N) - (clerestoryref2_Cut a_.N))))) rfl ?_)
    obtain ⟨v45, hv45⟩ : ∃ v45 : Int, v45 = (wi ((wi ((clerestoryref2_Cut b_.N) - (clerestoryref2_Cut a_.N))) * (mx 0 (mn t_ 1000)))) := ⟨_, rfl⟩
    replace h := letAt hv45 h
    refine un (a1 (v := (I v45)) (by rw [hv45]; rfl) ?_)
    clear hv45
    obtain ⟨r_, hr1, h⟩ := bnd h
    refine un (ac_pure (clerestoryref2_Whole_ok hr1) rfl rfl rfl ?_)
    refine un (a1 (v := (I (wi ((clerestoryref2_Cut a_.N) + r_)))) rfl ?_)
    refine un (a1 (v := (.agg [cI a_.Kind, cI (wi ((clerestoryref2_Cut a_.N) + r_))])) rfl ?_)
    refine un (a2n (h' := upd _ 2 (some (.cells 2 [[cI a_.Kind, cI (wi ((clerestoryref2_Cut a_.N) + r_))]]))) (n' := 3) rfl rfl (fun h => by cases h) ?_)
    refine dnil ?_
    refine Sv.ret ?_
    replace h := Option.some.inj h
    subst h
    exact ⟨_, .refl _, _, rfl, ⟨upd (fun _ => none) 0 (some (.agg [cI a_.Kind, cI (wi ((clerestoryref2_Cut a_.N) + r_))])), (fun _ => none), 0⟩, (.agg [cI a_.Kind, cI (wi ((clerestoryref2_Cut a_.N) + r_))]), weak_canon [] rfl List.nodup_nil (Nat.le_refl _) (fun b h => absurd h (Nat.not_lt_zero _)) (.cons rfl (avAs_free rfl) .nil) .nil, rfl, rfl, rfl, rfl⟩
  · replace h := ifF hc4 h
    refine Sv.skip ?_
    refine Sv.seq ?_
    refine Sv.seq ?_
    refine Sv.region ?_
    refine un (a1 (v := (.c (.ref 0 2 0 0))) rfl ?_)
    refine un (a1 (v := (I a_.Kind)) rfl ?_)
    refine un (a1 (v := (B (decide (a_.Kind = 5)))) rfl ?_)
    refine un (a1 rfl ?_)
    refine gjoin 4 (d := 56) (v := (B ((decide (a_.Kind = 5)) && (decide (b_.Kind = 5))))) (fun X hX => ?_) ?_
    · refine split2 (fun hc5 => ?_) (fun hc5 => ?_)
      · refine gt rfl (a1 (v := (.c (.ref 1 2 0 0))) rfl ?_)
        refine gt rfl (a1 (v := (I b_.Kind)) rfl ?_)
        refine gt rfl (a1 (v := (B (decide (b_.Kind = 5)))) rfl ?_)
        refine un (a1 (v := (B (decide (b_.Kind = 5)))) rfl ?_)
        refine dnil ?_
        exact hX _ (.putEq (by rw [hc5]; rfl) (.skip _ _ (.skip _ _ (.skip _ _ (.putEq (by rw [hc5]) (.refl _)) rfl) rfl) rfl))
      · refine gs rfl rfl ?_
        refine gs rfl rfl ?_
        refine gs rfl rfl ?_
        refine un (a1 (v := (B false)) rfl ?_)
        refine dnil ?_
        exact hX _ (.putEq (by rw [hc5]; rfl) (.skip _ _ (.skip _ _ (.skip _ _ (.putEq (by rw [hc5]) (.refl _)) rfl) rfl) rfl))
    refine dnil ?_
    refine Sv.cond (b := ((decide (a_.Kind = 5)) && (decide (b_.Kind = 5)))) rfl (fun hc6 => ?_) (fun hc6 => ?_)
    · replace h := ifT hc6 h
      refine Sv.seq ?_
      refine Sv.region ?_
      refine un (a1 rfl ?_)
      refine dnil ?_
      refine Sv.seq ?_
      refine Sv.seq ?_
      refine Sv.region ?_
      refine un (a1 rfl ?_)
      refine dnil ?_
      refine Sv.block ?_
      obtain ⟨kk, h⟩ := lim_some h
      refine Sv.weak (weak_canon [0, 1, 2] rfl (by decide) (by decide) (fun b h => absurd h (Nat.not_lt_zero _)) (.cons rfl (avAs_free rfl) (.cons rfl (avAs_free rfl) (.cons rfl (.c (.ref rfl (by decide))) (.cons rfl (.c (.ref rfl (by decide))) (.cons rfl (.c (.ref rfl (by decide))) (.cons rfl (avAs_free rfl) .nil)))))) (.box (by decide) rfl (blkAs_cells (.cons (.same rfl) (.cons (.same rfl) .nil))) (.box (by decide) rfl (blkAs_cells (.cons (.same rfl) (.cons (.same rfl) .nil))) (.box (by decide) rfl (blkAs_cells (.cons (.same rfl) (.cons (.same rfl) .nil))) .nil)))) (clerestoryref2_MixOf_l0_ok h ?_ (fun s hs => hs))
      · intro n_1 h _ hw1
        refine Sv.weak hw1 ?_
        refine Sv.seq ?_
        refine Sv.region ?_
        refine un (a1 rfl ?_)
        refine un (a1 (v := (.agg [cI 5, cI n_1])) rfl ?_)
        refine un (a2n (h' := upd _ 0 (some (.cells 2 [[cI 5, cI n_1]]))) (n' := 1) rfl rfl (fun h => by cases h) ?_)
        refine dnil ?_
        refine Sv.ret ?_
        replace h := Option.some.inj h
        subst h
        exact ⟨_, .refl _, _, rfl, ⟨upd (fun _ => none) 0 (some (.agg [cI 5, cI n_1])), (fun _ => none), 0⟩, (.agg [cI 5, cI n_1]), weak_canon [] rfl List.nodup_nil (Nat.le_refl _) (fun b h => absurd h (Nat.not_lt_zero _)) (.cons rfl (avAs_free rfl) .nil) .nil, rfl, rfl, rfl, rfl⟩
    · replace h := ifF hc6 h
      refine Sv.skip ?_
      refine Sv.seq ?_
      refine Sv.seq ?_
      refine Sv.region ?_
      refine un (a1 rfl ?_)
      refine un (a1 (v := (B (decide ((mx 0 (mn t_ 1000)) < 500)))) rfl ?_)
      refine dnil ?_
      refine Sv.cond (b := decide ((mx 0 (mn t_ 1000)) < 500)) rfl (fun hc8 => ?_) (fun hc8 => ?_)
      · replace h := ifT hc8 h
        refine Sv.seq ?_
        refine Sv.region ?_
        refine un (a1 (v := (.agg [cI a_.Kind, cI a_.N])) rfl ?_)
        refine un (a2n (h' := upd _ 2 (some (.cells 2 [[cI a_.Kind, cI a_.N]]))) (n' := 3) rfl rfl (fun h => by cases h) ?_)
        refine dnil ?_
        refine Sv.ret ?_
        replace h := Option.some.inj h
        subst h
        exact ⟨_, .refl _, _, rfl, ⟨upd (fun _ => none) 0 (some (.agg [cI a_.Kind, cI a_.N])), (fun _ => none), 0⟩, (.agg [cI a_.Kind, cI a_.N]), weak_canon [] rfl List.nodup_nil (Nat.le_refl _) (fun b h => absurd h (Nat.not_lt_zero _)) (.cons rfl (avAs_free rfl) .nil) .nil, rfl, rfl, rfl, rfl⟩
      · replace h := ifF hc8 h
        refine Sv.skip ?_
        refine Sv.seq ?_
        refine Sv.region ?_
        refine un (a1 (v := (.agg [cI b_.Kind, cI b_.N])) rfl ?_)
        refine un (a2n (h' := upd _ 2 (some (.cells 2 [[cI b_.Kind, cI b_.N]]))) (n' := 3) rfl rfl (fun h => by cases h) ?_)
        refine dnil ?_
        refine Sv.ret ?_
        replace h := Option.some.inj h
        subst h
        exact ⟨_, .refl _, _, rfl, ⟨upd (fun _ => none) 0 (some (.agg [cI b_.Kind, cI b_.N])), (fun _ => none), 0⟩, (.agg [cI b_.Kind, cI b_.N]), weak_canon [] rfl List.nodup_nil (Nat.le_refl _) (fun b h => absurd h (Nat.not_lt_zero _)) (.cons rfl (avAs_free rfl) .nil) .nil, rfl, rfl, rfl, rfl⟩
def a51_c0 : ACode := (.seq (.seq (.region [⟨(some 12), (.mov (.tmp 5)), none⟩, ⟨(some 13), (.bin .geq (.tmp 12) (.const (.c (.val (.int .i64 0))))), none⟩])
 (.cond (.tmp 13) .skip (.exit 0)))
 (.seq (.block 1 (.seq (.region [⟨(some 16), (.faddr 11 (.tmp 2)), none⟩, ⟨(some 17), (.load false 1 (.tmp 16)), none⟩, ⟨(some 18), (.mov (.tmp 5)), none⟩, ⟨(some 19), (.iaddr 3 (.tmp 17) (.tmp 18)), none⟩, ⟨(some 20), (.load true 3 (.tmp 19)), none⟩, ⟨(some 6), (.box (.const (.agg [(.val (.int .i64 0)), (.val (.int .i64 0)), (.val (.int .i64 0))]))), none⟩, ⟨none, (.store 3 (.tmp 6) (.tmp 20)), none⟩])
 (.seq (.seq (.region [⟨(some 21), (.faddr 0 (.tmp 6)), none⟩, ⟨(some 22), (.load false 1 (.tmp 21)), none⟩, ⟨(some 23), (.mov (.tmp 1)), none⟩, ⟨(some 24), (.bin .gtr (.tmp 22) (.tmp 23)), none⟩])
 (.cond (.tmp 24) (.exit 1) .skip))
 (.seq (.seq (.region [⟨(some 25), (.mov (.tmp 5)), none⟩, ⟨(some 26), (.faddr 11 (.tmp 2)), none⟩, ⟨(some 27), (.load false 1 (.tmp 26)), none⟩, ⟨(some 28), (.len (.tmp 27)), none⟩, ⟨(some 29), (.bin .sub (.tmp 28) (.const (.c (.val (.int .i64 1))))), none⟩, ⟨(some 30), (.bin .eql (.tmp 25) (.tmp 29)), none⟩])
 (.cond (.tmp 30) (.seq (.region [⟨(some 31), (.faddr 1 (.tmp 6)), none⟩, ⟨(some 32), (.load true 2 (.tmp 31)), none⟩, ⟨none, (.store 2 (.tmp 4) (.tmp 32)), none⟩])
 .ret) .skip))
 (.seq (.region [⟨(some 33), (.faddr 11 (.tmp 2)), none⟩, ⟨(some 34), (.load false 1 (.tmp 33)), none⟩, ⟨(some 35), (.mov (.tmp 5)), none⟩, ⟨(some 36), (.bin .add (.tmp 35) (.const (.c (.val (.int .i64 1))))), none⟩, ⟨(some 37), (.iaddr 3 (.tmp 34) (.tmp 36)), none⟩, ⟨(some 38), (.load true 3 (.tmp 37)), none⟩, ⟨(some 7), (.box (.const (.agg [(.val (.int .i64 0)), (.val (.int .i64 0)), (.val (.int .i64 0))]))), none⟩, ⟨none, (.store 3 (.tmp 7) (.tmp 38)), none⟩])
 (.seq (.drawn (.fin [(⟨(some 39), (.faddr 1 (.tmp 6)), none⟩, (0, 0)), (⟨(some 40), (.load true 2 (.tmp 39)), none⟩, (0, 1)), (⟨(some 41), (.faddr 1 (.tmp 7)), none⟩, (0, 2)), (⟨(some 42), (.load true 2 (.tmp 41)), none⟩, (0, 3)), (⟨(some 43), (.faddr 5 (.tmp 2)), none⟩, (0, 4)), (⟨(some 44), (.load true 6 (.tmp 43)), none⟩, (0, 5)), (⟨(some 45), (.mov (.tmp 1)), none⟩, (0, 6)), (⟨(some 46), (.faddr 0 (.tmp 6)), none⟩, (0, 7)), (⟨(some 47), (.load false 1 (.tmp 46)), none⟩, (0, 8)), (⟨(some 48), (.bin .sub (.tmp 45) (.tmp 47)), none⟩, (0, 9)), (⟨(some 49), (.bin .mul (.tmp 48) (.const (.c (.val (.int .i64 1000))))), none⟩, (0, 10)), (⟨(some 50), (.faddr 0 (.tmp 7)), none⟩, (0, 11)), (⟨(some 51), (.load false 1 (.tmp 50)), none⟩, (0, 12)), (⟨(some 52), (.faddr 0 (.tmp 6)), none⟩, (0, 13)), (⟨(some 53), (.load false 1 (.tmp 52)), none⟩, (0, 14)), (⟨(some 54), (.bin .sub (.tmp 51) (.tmp 53)), none⟩, (0, 15)), (⟨(some 55), (.bin .quo (.tmp 49) (.tmp 54)), none⟩, (0, 16)), (⟨(some 56), (.call 17 [(.tmp 44), (.tmp 55)]), none⟩, (1, 17)), (⟨(some 57), (.call 24 [(.tmp 40), (.tmp 42), (.tmp 56)]), none⟩, (2, 18)), (⟨none, (.store 2 (.tmp 4) (.tmp 57)), none⟩, (2, 19))]))
 .ret))))))
 (.region [⟨(some 14), (.mov (.tmp 5)), none⟩, ⟨(some 15), (.bin .sub (.tmp 14) (.const (.c (.val (.int .i64 1))))), none⟩, ⟨(some 5), (.mov (.tmp 15)), none⟩])))
def a51 : AFunc := ⟨2, [(.cell true 2 4)], (.seq (.region [⟨(some 2), (.box (.tmp 0)), none⟩, ⟨(some 4), (.box (.const (.agg [(.val (.int .i64 0)), (.val (.int .i64 0))]))), none⟩])
 (.seq (.seq (.region [⟨(some 8), (.faddr 11 (.tmp 2)), none⟩, ⟨(some 9), (.load false 1 (.tmp 8)), none⟩, ⟨(some 10), (.len (.tmp 9)), none⟩, ⟨(some 11), (.bin .sub (.tmp 10) (.const (.c (.val (.int .i64 1))))), none⟩, ⟨(some 5), (.mov (.tmp 11)), none⟩])
 (.block 0 (.loop a51_c0)))
 (.seq (.region [⟨(some 58), (.build [(.val (.int .i64 0)), (.val (.int .i64 0))] []), none⟩, ⟨none, (.store 2 (.tmp 4) (.tmp 58)), none⟩])
 .ret)))⟩
set_option maxRecDepth 100000 in
theorem c51 : compFunc Try.prog 51 = some a51 := by kernel_rfl
def clerestoryref2_FrameValue_post (r : TVal) : AV → Heap → Nat → Prop := fun v h' n' => v = (.agg [cI r.Kind, cI r.N]) ∧ (h' = (fun _ => none)) ∧ n' = 0
noncomputable def clerestoryref2_FrameValue_l0 (a_ : TSAnim) (r_ : Int) (K0_ : Unit → Option TVal) : Nat → Int → Option TVal
  | 0, _ => none
  | k + 1, i_ =>
    if decide (0 ≤ i_) then
      (at? a_.Frames i_).bind fun x_ =>
      if decide (r_ < x_.At) then
        (clerestoryref2_FrameValue_l0 a_ r_ K0_ k) (wi (i_ - 1))
      else
        if decide (i_ = (wi ((a_.Frames.length : Int) - 1))) then
          some x_.Val
        else
          (at? a_.Frames (wi (i_ + 1))).bind fun x_1 =>
          (quo? .i64 (wi ((wi (r_ - x_.At)) * 1000)) (wi (x_1.At - x_.At))).bind fun r_1 =>
          (clerestoryref2_EaseOf a_.Ease r_1).bind fun r_2 =>
          (clerestoryref2_MixOf x_.Val x_1.Val r_2).bind fun r_3 =>
          some r_3
    else
      K0_ ()
theorem clerestoryref2_FrameValue_l0_ok {Γ : Glob} {Q : AExit → St → Prop} {a_ : TSAnim} {r_ : Int} {K0_ : Unit → Option TVal} {k : Nat} {i_ : Int} {o : TVal} (h : clerestoryref2_FrameValue_l0 a_ r_ K0_ k i_ = some o)
    (hK0 : ∀ (_ : Unit), K0_ () = some o → ∀ s, Weak 0 s ⟨(upd (fun _ => none) 4 (some (.c (.ref 0 2 0 0)))), (upd (fun _ => none) 0 (some (.cells 2 [[cI 0, cI 0]]))), 1⟩ → Q (.exit 0) s)
    (hr : ∀ s, Ends a51.results 0 (clerestoryref2_FrameValue_post o) .ret s → Q .ret s) :
    Sv Try.prog Γ 0 (.loop a51_c0) Q ⟨(upd (upd (upd (upd (fun _ => none) 1 (some (I r_))) 2 (some (.c (.ref 0 12 0 0)))) 4 (some (.c (.ref 1 2 0 0)))) 5 (some (I i_))), (upd (upd (fun _ => none) 0 (some (.cells 12 [[cI a_.From, cI a_.Length, cI a_.Times, cB a_.Turn, cB a_.Stays, cI a_.Ease.Kind, cI a_.Ease.Curve.a0, cI a_.Ease.Curve.a1, cI a_.Ease.Curve.a2, cI a_.Ease.Curve.a3, cI a_.Ease.N, .ro false 3 (a_.Frames.map e_TSFrame)]]))) 1 (some (.cells 2 [[cI 0, cI 0]]))), 2⟩ := by
  refine Sv.loop (I := fun k s => ∃ (i_ : Int), clerestoryref2_FrameValue_l0 a_ r_ K0_ k i_ = some o ∧ s = ⟨(upd (upd (upd (upd (fun _ => none) 1 (some (I r_))) 2 (some (.c (.ref 0 12 0 0)))) 4 (some (.c (.ref 1 2 0 0)))) 5 (some (I i_))), (upd (upd (fun _ => none) 0 (some (.cells 12 [[cI a_.From, cI a_.Length, cI a_.Times, cB a_.Turn, cB a_.Stays, cI a_.Ease.Kind, cI a_.Ease.Curve.a0, cI a_.Ease.Curve.a1, cI a_.Ease.Curve.a2, cI a_.Ease.Curve.a3, cI a_.Ease.N, .ro false 3 (a_.Frames.map e_TSFrame)]]))) 1 (some (.cells 2 [[cI 0, cI 0]]))), 2⟩) (fun k s hI => ?_) ⟨i_, h, rfl⟩
  clear h
  clear i_
  obtain ⟨i_, h, rfl⟩ := hI
  cases k with
  | zero => cases h
  | succ k =>
  rw [clerestoryref2_FrameValue_l0] at h
  have hself : ∀ (i_ : Int), (clerestoryref2_FrameValue_l0 a_ r_ K0_ k) i_ = some o → ∀ s, Weak 0 s ⟨(upd (upd (upd (upd (fun _ => none) 1 (some (I r_))) 2 (some (.c (.ref 0 12 0 0)))) 4 (some (.c (.ref 1 2 0 0)))) 5 (some (I i_))), (upd (upd (fun _ => none) 0 (some (.cells 12 [[cI a_.From, cI a_.Length, cI a_.Times, cB a_.Turn, cB a_.Stays, cI a_.Ease.Kind, cI a_.Ease.Curve.a0, cI a_.Ease.Curve.a1, cI a_.Ease.Curve.a2, cI a_.Ease.Curve.a3, cI a_.Ease.N, .ro false 3 (a_.Frames.map e_TSFrame)]]))) 1 (some (.cells 2 [[cI 0, cI 0]]))), 2⟩ → (AThen (fun s' => ∃ s'' k', Weak 0 s' s'' ∧ k' < k + 1 ∧ (fun k s => ∃ (i_ : Int), clerestoryref2_FrameValue_l0 a_ r_ K0_ k i_ = some o ∧ s = ⟨(upd (upd (upd (upd (fun _ => none) 1 (some (I r_))) 2 (some (.c (.ref 0 12 0 0)))) 4 (some (.c (.ref 1 2 0 0)))) 5 (some (I i_))), (upd (upd (fun _ => none) 0 (some (.cells 12 [[cI a_.From, cI a_.Length, cI a_.Times, cB a_.Turn, cB a_.Stays, cI a_.Ease.Kind, cI a_.Ease.Curve.a0, cI a_.Ease.Curve.a1, cI a_.Ease.Curve.a2, cI a_.Ease.Curve.a3, cI a_.Ease.N, .ro false 3 (a_.Frames.map e_TSFrame)]]))) 1 (some (.cells 2 [[cI 0, cI 0]]))), 2⟩) k' s'') Q) .normal s := fun i_ h s hw => ⟨_, k, hw, Nat.lt_succ_self k, i_, h, rfl⟩
  refine Sv.seq ?_
  refine Sv.seq ?_
  refine Sv.region ?_
  refine un (a1 rfl ?_)
  refine un (a1 (v := (B (decide (0 ≤ i_)))) rfl ?_)
  refine dnil ?_
  refine Sv.cond (b := decide (0 ≤ i_)) rfl (fun hc1 => ?_) (fun hc1 => ?_)
  · replace h := ifT hc1 h
    refine Sv.skip ?_
    refine Sv.seq ?_
    refine Sv.block ?_
    refine Sv.seq ?_
    refine Sv.region ?_
    refine un (a1 (v := (.c (.ref 0 12 0 11))) rfl ?_)
    refine un (a1 (v := (.c (.ro false 3 (a_.Frames.map e_TSFrame)))) rfl ?_)
    refine un (a1 rfl ?_)
    obtain ⟨x_, hx1, h⟩ := bnd h
    refine un (a1 (v := (.c (.rop [cI x_.At, cI x_.Val.Kind, cI x_.Val.N]))) (s_iaddr (e := e_TSFrame) (xs := a_.Frames) rfl rfl hx1) ?_)
    refine un (a1 (v := (.agg [cI x_.At, cI x_.Val.Kind, cI x_.Val.N])) rfl ?_)
    refine un (a2v (v := (.c (.ref 2 3 0 0))) (h' := upd _ 2 (some (.cells 3 [[cI 0, cI 0, cI 0]]))) (n' := 3) rfl rfl (fun h => by cases h) ?_)
    refine un (a2n (h' := upd _ 2 (some (.cells 3 [[cI x_.At, cI x_.Val.Kind, cI x_.Val.N]]))) (n' := 3) rfl rfl (fun h => by cases h) ?_)
    refine dnil ?_
    refine Sv.seq ?_
    refine Sv.seq ?_
    refine Sv.region ?_
    refine un (a1 (v := (.c (.ref 2 3 0 0))) rfl ?_)
    refine un (a1 (v := (I x_.At)) rfl ?_)
    refine un (a1 rfl ?_)
    refine un (a1 (v := (B (decide (r_ < x_.At)))) rfl ?_)
    refine dnil ?_
    refine Sv.cond (b := decide (r_ < x_.At)) rfl (fun hc2 => ?_) (fun hc2 => ?_)
    · replace h := ifT hc2 h
      refine Sv.exit ?_
      refine Sv.region ?_
      refine un (a1 rfl ?_)
      refine un (a1 (v := (I (wi (i_ - 1)))) rfl ?_)
      refine un (a1 rfl ?_)
      refine dnil ?_
      exact hself (wi (i_ - 1)) h _ (weak_canon [0, 1] rfl (by decide) (by decide) (fun b h => absurd h (Nat.not_lt_zero _)) (.cons rfl (avAs_free rfl) (.cons rfl (.c (.ref rfl (by decide))) (.cons rfl (.c (.ref rfl (by decide))) (.cons rfl (avAs_free rfl) .nil)))) (.box (by decide) rfl (blkAs_cells (.cons (.same rfl) (.cons (.same rfl) .nil))) (.box (by decide) rfl (blkAs_cells (.cons (.same rfl) (.cons (.same rfl) (.cons (.same rfl) (.cons (.same rfl) (.cons (.same rfl) (.cons (.same rfl) (.cons (.same rfl) (.cons (.same rfl) (.cons (.same rfl) (.cons (.same rfl) (.cons (.same rfl) (.cons (.same rfl) .nil))))))))))))) .nil)))
    · replace h := ifF hc2 h
      refine Sv.skip ?_
      refine Sv.seq ?_
      refine Sv.seq ?_
      refine Sv.region ?_
      refine un (a1 rfl ?_)
      refine un (a1 (v := (.c (.ref 0 12 0 11))) rfl ?_)
      refine un (a1 (v := (.c (.ro false 3 (a_.Frames.map e_TSFrame)))) rfl ?_)
      refine un (a1 (v := (I (a_.Frames.length : Int))) (s_len (e := e_TSFrame) (xs := a_.Frames) rfl) ?_)
      refine un (a1 (v := (I (wi ((a_.Frames.length : Int) - 1)))) rfl ?_)
      refine un (a1 (v := (B (decide (i_ = (wi ((a_.Frames.length : Int) - 1)))))) rfl ?_)
      refine dnil ?_
      refine Sv.cond (b := decide (i_ = (wi ((a_.Frames.length : Int) - 1)))) rfl (fun hc3 => ?_) (fun hc3 => ?_)
      · replace h := ifT hc3 h
        refine Sv.seq ?_
        refine Sv.region ?_
        refine un (a1 (v := (.c (.ref 2 3 0 1))) rfl ?_)
        refine un (a1 (v := (.agg [cI x_.Val.Kind, cI x_.Val.N])) rfl ?_)
        refine un (a2n (h' := upd _ 1 (some (.cells 2 [[cI x_.Val.Kind, cI x_.Val.N]]))) (n' := 3) rfl rfl (fun h => by cases h) ?_)
        refine dnil ?_
        refine Sv.ret ?_
        replace h := Option.some.inj h
        subst h
        exact hr _ ⟨_, .refl _, _, rfl, ⟨upd (fun _ => none) 0 (some (.agg [cI x_.Val.Kind, cI x_.Val.N])), (fun _ => none), 0⟩, (.agg [cI x_.Val.Kind, cI x_.Val.N]), weak_canon [] rfl List.nodup_nil (Nat.le_refl _) (fun b h => absurd h (Nat.not_lt_zero _)) (.cons rfl (avAs_free rfl) .nil) .nil, rfl, rfl, rfl, rfl⟩
      · replace h := ifF hc3 h
        refine Sv.skip ?_
        refine Sv.seq ?_
        refine Sv.region ?_
        refine un (a1 (v := (.c (.ref 0 12 0 11))) rfl ?_)
        refine un (a1 (v := (.c (.ro false 3 (a_.Frames.map e_TSFrame)))) rfl ?_)
        refine un (a1 rfl ?_)
        refine un (a1 (v := (I (wi (i_ + 1)))) rfl ?_)
        obtain ⟨x_1, hx2, h⟩ := bnd h
        refine un (a1 (v := (.c (.rop [cI x_1.At, cI x_1.Val.Kind, cI x_1.Val.N]))) (s_iaddr (e := e_TSFrame) (xs := a_.Frames) rfl rfl hx2) ?_)
        refine un (a1 (v := (.agg [cI x_1.At, cI x_1.Val.Kind, cI x_1.Val.N])) rfl ?_)
        refine un (a2v (v := (.c (.ref 3 3 0 0))) (h' := upd _ 3 (some (.cells 3 [[cI 0, cI 0, cI 0]]))) (n' := 4) rfl rfl (fun h => by cases h) ?_)
        refine un (a2n (h' := upd _ 3 (some (.cells 3 [[cI x_1.At, cI x_1.Val.Kind, cI x_1.Val.N]]))) (n' := 4) rfl rfl (fun h => by cases h) ?_)
        refine dnil ?_
        refine Sv.seq ?_
        refine Sv.drawn ?_
        refine un (a1 (v := (.c (.ref 2 3 0 1))) rfl ?_)
        refine un (a1 (v := (.agg [cI x_.Val.Kind, cI x_.Val.N])) rfl ?_)
        refine un (a1 (v := (.c (.ref 3 3 0 1))) rfl ?_)
        refine un (a1 (v := (.agg [cI x_1.Val.Kind, cI x_1.Val.N])) rfl ?_)
        refine un (a1 (v := (.c (.ref 0 12 0 5))) rfl ?_)
        refine un (a1 (v := (.agg [cI a_.Ease.Kind, cI a_.Ease.Curve.a0, cI a_.Ease.Curve.a1, cI a_.Ease.Curve.a2, cI a_.Ease.Curve.a3, cI a_.Ease.N])) rfl ?_)
        refine un (a1 rfl ?_)
        refine un (a1 (v := (.c (.ref 2 3 0 0))) rfl ?_)
        refine un (a1 (v := (I x_.At)) rfl ?_)
        refine un (a1 (v := (I (wi (r_ - x_.At)))) rfl ?_)
        refine un (a1 (v := (I (wi ((wi (r_ - x_.At)) * 1000)))) rfl ?_)
        refine un (a1 (v := (.c (.ref 3 3 0 0))) rfl ?_)
        refine un (a1 (v := (I x_1.At)) rfl ?_)
        refine un (a1 (v := (.c (.ref 2 3 0 0))) rfl ?_)
        refine un (a1 (v := (I x_.At)) rfl ?_)
        refine un (a1 (v := (I (wi (x_1.At - x_.At)))) rfl ?_)
        obtain ⟨r_1, hx3, h⟩ := bnd h
        refine un (a1 (v := (I r_1)) (s_quo rfl rfl hx3) ?_)
        obtain ⟨r_2, hr1, h⟩ := bnd h
        refine un (ac_pure (clerestoryref2_EaseOf_ok hr1) rfl rfl rfl ?_)
        obtain ⟨r_3, hr2, h⟩ := bnd h
        refine un (ac_pure (clerestoryref2_MixOf_ok hr2) rfl rfl rfl ?_)
        refine un (a2n (h' := upd _ 1 (some (.cells 2 [[cI r_3.Kind, cI r_3.N]]))) (n' := 4) rfl rfl (fun h => by cases h) ?_)
        refine dnil ?_
        refine Sv.ret ?_
        replace h := Option.some.inj h
        subst h
        exact hr _ ⟨_, .refl _, _, rfl, ⟨upd (fun _ => none) 0 (some (.agg [cI r_3.Kind, cI r_3.N])), (fun _ => none), 0⟩, (.agg [cI r_3.Kind, cI r_3.N]), weak_canon [] rfl List.nodup_nil (Nat.le_refl _) (fun b h => absurd h (Nat.not_lt_zero _)) (.cons rfl (avAs_free rfl) .nil) .nil, rfl, rfl, rfl, rfl⟩
  · replace h := ifF hc1 h
    refine Sv.exit ?_
    exact hK0 () h _ (weak_canon [1] rfl (by decide) (by decide) (fun b h => absurd h (Nat.not_lt_zero _)) (.cons rfl (.c (.ref rfl (by decide))) .nil) (.box (by decide) rfl (blkAs_cells (.cons (.same rfl) (.cons (.same rfl) .nil))) .nil))
/-- clerestory/clerestoryref2.FrameValue -/
noncomputable def clerestoryref2_FrameValue (a_ : TSAnim) (r_ : Int) : Option TVal :=
  lim fun kk => clerestoryref2_FrameValue_l0 a_ r_ (fun (_ : Unit) => 
      some (⟨0, 0⟩ : TVal)) kk (wi ((a_.Frames.length : Int) - 1))
theorem clerestoryref2_FrameValue_ok {Γ : Glob} {a_ : TSAnim} {r_ : Int} {r : TVal} (h : clerestoryref2_FrameValue a_ r_ = some r) : CPure Try.prog Γ 51 [(.agg [cI a_.From, cI a_.Length, cI a_.Times, cB a_.Turn, cB a_.Stays, cI a_.Ease.Kind, cI a_.Ease.Curve.a0, cI a_.Ease.Curve.a1, cI a_.Ease.Curve.a2, cI a_.Ease.Curve.a3, cI a_.Ease.N, .ro false 3 (a_.Frames.map e_TSFrame)]), (I r_)] (.agg [cI r.Kind, cI r.N]) := by
  refine acalls_of_sv hmix c51 (R := clerestoryref2_FrameValue_post r) ?_
  unfold clerestoryref2_FrameValue at h
  refine Sv.seq ?_
  refine Sv.region ?_
  refine un (a2v (v := (.c (.ref 0 12 0 0))) (h' := upd _ 0 (some (.cells 12 [[cI a_.From, cI a_.Length, cI a_.Times, cB a_.Turn, cB a_.Stays, cI a_.Ease.Kind, cI a_.Ease.Curve.a0, cI a_.Ease.Curve.a1, cI a_.Ease.Curve.a2, cI a_.Ease.Curve.a3, cI a_.Ease.N, .ro false 3 (a_.Frames.map e_TSFrame)]]))) (n' := 1) rfl rfl (fun h => by cases h) ?_)
  refine un (a2v (v := (.c (.ref 1 2 0 0))) (h' := upd _ 1 (some (.cells 2 [[cI 0, cI 0]]))) (n' := 2) rfl rfl (fun h => by cases h) ?_)
  refine dnil ?_
  refine Sv.seq ?_
  refine Sv.seq ?_
  refine Sv.region ?_
  refine un (a1 (v := (.c (.ref 0 12 0 11))) rfl ?_)
  refine un (a1 (v := (.c (.ro false 3 (a_.Frames.map e_TSFrame)))) rfl ?_)
  refine un (a1 (v := (I (a_.Frames.length : Int))) (s_len (e := e_TSFrame) (xs := a_.Frames) rfl) ?_)
  refine un (a1 (v := (I (wi ((a_.Frames.length : Int) - 1)))) rfl ?_)
  refine un (a1 rfl ?_)
  refine dnil ?_
  refine Sv.block ?_
  obtain ⟨kk, h⟩ := lim_some h
  refine Sv.weak (weak_canon [0, 1] rfl (by decide) (by decide) (fun b h => absurd h (Nat.not_lt_zero _)) (.cons rfl (avAs_free rfl) (.cons rfl (.c (.ref rfl (by decide))) (.cons rfl (.c (.ref rfl (by decide))) (.cons rfl (avAs_free rfl) .nil)))) (.box (by decide) rfl (blkAs_cells (.cons (.same rfl) (.cons (.same rfl) .nil))) (.box (by decide) rfl (blkAs_cells (.cons (.same rfl) (.cons (.same rfl) (.cons (.same rfl) (.cons (.same rfl) (.cons (.same rfl) (.cons (.same rfl) (.cons (.same rfl) (.cons (.same rfl) (.cons (.same rfl) (.cons (.same rfl) (.cons (.same rfl) (.cons (.same rfl) .nil))))))))))))) .nil))) (clerestoryref2_FrameValue_l0_ok h ?_ (fun s hs => hs))
  · intro _ h _ hw1
    refine Sv.weak hw1 ?_
    refine Sv.seq ?_
    refine Sv.region ?_
    refine un (a1 (v := (.agg [cI 0, cI 0])) rfl ?_)
    refine un (a2n (h' := upd _ 0 (some (.cells 2 [[cI 0, cI 0]]))) (n' := 1) rfl rfl (fun h => by cases h) ?_)
    refine dnil ?_
    refine Sv.ret ?_
    replace h := Option.some.inj h
    subst h
    exact ⟨_, .refl _, _, rfl, ⟨upd (fun _ => none) 0 (some (.agg [cI 0, cI 0])), (fun _ => none), 0⟩, (.agg [cI 0, cI 0]), weak_canon [] rfl List.nodup_nil (Nat.le_refl _) (fun b h => absurd h (Nat.not_lt_zero _)) (.cons rfl (avAs_free rfl) .nil) .nil, rfl, rfl, rfl, rfl⟩
def a29_c0 : ACode := (.seq (.seq (.region [⟨(some 56), (.mov (.tmp 7)), none⟩, ⟨(some 57), (.faddr 1 (.tmp 2)), none⟩, ⟨(some 58), (.load false 1 (.tmp 57)), none⟩, ⟨(some 59), (.bin .geq (.tmp 56) (.tmp 58)), none⟩, ⟨(some 60), (.mov (.tmp 59)), none⟩, ⟨(some 61), (.mov (.tmp 8)), (some (60, true))⟩, ⟨(some 62), (.bin .lss (.tmp 61) (.const (.c (.val (.int .i64 1000))))), (some (60, true))⟩, ⟨(some 63), (.pick (.tmp 60) (.tmp 62) (.const (.c (.val (.bool false))))), none⟩])
 (.cond (.tmp 63) .skip (.exit 0)))
 (.block 1 (.seq (.region [⟨(some 64), (.mov (.tmp 7)), none⟩, ⟨(some 65), (.faddr 1 (.tmp 2)), none⟩, ⟨(some 66), (.load false 1 (.tmp 65)), none⟩, ⟨(some 67), (.bin .sub (.tmp 64) (.tmp 66)), none⟩, ⟨(some 7), (.mov (.tmp 67)), none⟩])
 (.region [⟨(some 68), (.mov (.tmp 8)), none⟩, ⟨(some 69), (.bin .add (.tmp 68) (.const (.c (.val (.int .i64 1))))), none⟩, ⟨(some 8), (.mov (.tmp 69)), none⟩]))))
def a29_c1 : ACode := (.seq (.region [⟨(some 84), (.load true 12 (.tmp 2)), none⟩, ⟨(some 85), (.mov (.tmp 9)), none⟩, ⟨(some 86), (.call 51 [(.tmp 84), (.tmp 85)]), none⟩, ⟨none, (.store 2 (.tmp 4) (.tmp 86)), none⟩, ⟨(some 5), (.mov (.const (.c (.val (.bool true))))), none⟩])
 .ret)
def a29 : AFunc := ⟨2, [(.cell true 2 4), (.tmp 5)], (.seq (.region [⟨(some 2), (.box (.tmp 0)), none⟩, ⟨(some 4), (.box (.const (.agg [(.val (.int .i64 0)), (.val (.int .i64 0))]))), none⟩, ⟨(some 5), (.mov (.const (.c (.val (.bool false))))), none⟩])
 (.seq (.seq (.region [⟨(some 10), (.mov (.tmp 1)), none⟩, ⟨(some 11), (.faddr 0 (.tmp 2)), none⟩, ⟨(some 12), (.load false 1 (.tmp 11)), none⟩, ⟨(some 13), (.bin .lss (.tmp 10) (.tmp 12)), none⟩])
 (.cond (.tmp 13) (.seq (.region [⟨(some 14), (.build [(.val (.int .i64 0)), (.val (.int .i64 0))] []), none⟩, ⟨none, (.store 2 (.tmp 4) (.tmp 14)), none⟩, ⟨(some 5), (.mov (.const (.c (.val (.bool false))))), none⟩])
 .ret) .skip))
 (.seq (.region [⟨(some 15), (.faddr 0 (.tmp 2)), none⟩, ⟨(some 16), (.load false 1 (.tmp 15)), none⟩, ⟨(some 17), (.faddr 2 (.tmp 2)), none⟩, ⟨(some 18), (.load false 1 (.tmp 17)), none⟩, ⟨(some 19), (.faddr 1 (.tmp 2)), none⟩, ⟨(some 20), (.load false 1 (.tmp 19)), none⟩, ⟨(some 21), (.bin .mul (.tmp 18) (.tmp 20)), none⟩, ⟨(some 22), (.bin .add (.tmp 16) (.tmp 21)), none⟩, ⟨(some 6), (.mov (.tmp 22)), none⟩])
 (.seq (.seq (.region [⟨(some 23), (.mov (.tmp 1)), none⟩, ⟨(some 24), (.mov (.tmp 6)), none⟩, ⟨(some 25), (.bin .geq (.tmp 23) (.tmp 24)), none⟩])
 (.cond (.tmp 25) (.seq (.seq (.region [⟨(some 26), (.faddr 4 (.tmp 2)), none⟩, ⟨(some 27), (.load false 1 (.tmp 26)), none⟩, ⟨(some 28), (.un .not (.tmp 27)), none⟩])
 (.cond (.tmp 28) (.seq (.region [⟨(some 29), (.build [(.val (.int .i64 0)), (.val (.int .i64 0))] []), none⟩, ⟨none, (.store 2 (.tmp 4) (.tmp 29)), none⟩, ⟨(some 5), (.mov (.const (.c (.val (.bool false))))), none⟩])
 .ret) .skip))
 (.seq (.seq (.region [⟨(some 30), (.faddr 3 (.tmp 2)), none⟩, ⟨(some 31), (.load false 1 (.tmp 30)), none⟩, ⟨(some 32), (.mov (.tmp 31)), none⟩, ⟨(some 33), (.faddr 2 (.tmp 2)), (some (32, true))⟩, ⟨(some 34), (.load false 1 (.tmp 33)), (some (32, true))⟩, ⟨(some 35), (.bin .rem (.tmp 34) (.const (.c (.val (.int .i64 2))))), (some (32, true))⟩, ⟨(some 36), (.bin .eql (.tmp 35) (.const (.c (.val (.int .i64 0))))), (some (32, true))⟩, ⟨(some 37), (.pick (.tmp 32) (.tmp 36) (.const (.c (.val (.bool false))))), none⟩])
 (.cond (.tmp 37) (.seq (.region [⟨(some 38), (.faddr 11 (.tmp 2)), none⟩, ⟨(some 39), (.load false 1 (.tmp 38)), none⟩, ⟨(some 40), (.iaddr 3 (.tmp 39) (.const (.c (.val (.int .i64 0))))), none⟩, ⟨(some 41), (.faddr 1 (.tmp 40)), none⟩, ⟨(some 42), (.load true 2 (.tmp 41)), none⟩, ⟨none, (.store 2 (.tmp 4) (.tmp 42)), none⟩, ⟨(some 5), (.mov (.const (.c (.val (.bool true))))), none⟩])
 .ret) .skip))
 (.seq (.region [⟨(some 43), (.faddr 11 (.tmp 2)), none⟩, ⟨(some 44), (.load false 1 (.tmp 43)), none⟩, ⟨(some 45), (.faddr 11 (.tmp 2)), none⟩, ⟨(some 46), (.load false 1 (.tmp 45)), none⟩, ⟨(some 47), (.len (.tmp 46)), none⟩, ⟨(some 48), (.bin .sub (.tmp 47) (.const (.c (.val (.int .i64 1))))), none⟩, ⟨(some 49), (.iaddr 3 (.tmp 44) (.tmp 48)), none⟩, ⟨(some 50), (.faddr 1 (.tmp 49)), none⟩, ⟨(some 51), (.load true 2 (.tmp 50)), none⟩, ⟨none, (.store 2 (.tmp 4) (.tmp 51)), none⟩, ⟨(some 5), (.mov (.const (.c (.val (.bool true))))), none⟩])
 .ret))) .skip))
 (.seq (.region [⟨(some 52), (.mov (.tmp 1)), none⟩, ⟨(some 53), (.faddr 0 (.tmp 2)), none⟩, ⟨(some 54), (.load false 1 (.tmp 53)), none⟩, ⟨(some 55), (.bin .sub (.tmp 52) (.tmp 54)), none⟩, ⟨(some 7), (.mov (.tmp 55)), none⟩])
 (.seq (.region [⟨(some 8), (.mov (.const (.c (.val (.int .i64 0))))), none⟩])
 (.seq (.block 0 (.loop a29_c0))
 (.seq (.region [⟨(some 70), (.mov (.tmp 7)), none⟩, ⟨(some 71), (.bin .mul (.tmp 70) (.const (.c (.val (.int .i64 1000))))), none⟩, ⟨(some 72), (.faddr 1 (.tmp 2)), none⟩, ⟨(some 73), (.load false 1 (.tmp 72)), none⟩, ⟨(some 74), (.bin .quo (.tmp 71) (.tmp 73)), none⟩, ⟨(some 9), (.mov (.tmp 74)), none⟩])
 (.seq (.seq (.region [⟨(some 75), (.faddr 3 (.tmp 2)), none⟩, ⟨(some 76), (.load false 1 (.tmp 75)), none⟩, ⟨(some 77), (.mov (.tmp 76)), none⟩, ⟨(some 78), (.mov (.tmp 8)), (some (77, true))⟩, ⟨(some 79), (.bin .rem (.tmp 78) (.const (.c (.val (.int .i64 2))))), (some (77, true))⟩, ⟨(some 80), (.bin .eql (.tmp 79) (.const (.c (.val (.int .i64 1))))), (some (77, true))⟩, ⟨(some 81), (.pick (.tmp 77) (.tmp 80) (.const (.c (.val (.bool false))))), none⟩])
 (.cond (.tmp 81) (.region [⟨(some 82), (.mov (.tmp 9)), none⟩, ⟨(some 83), (.bin .sub (.const (.c (.val (.int .i64 1000)))) (.tmp 82)), none⟩, ⟨(some 9), (.mov (.tmp 83)), none⟩]) .skip))
 a29_c1)))))))))⟩
set_option maxRecDepth 100000 in
theorem c29 : compFunc Try.prog 29 = some a29 := by kernel_rfl
def clerestoryref2_AnimTells_post (r : (TVal × Bool)) : AV → Heap → Nat → Prop := fun v h' n' => v = (.tup [(.agg [cI r.1.Kind, cI r.1.N]), (B r.2)]) ∧ (h' = (fun _ => none)) ∧ n' = 0
noncomputable def clerestoryref2_AnimTells_l0 (a_ : TSAnim) (K0_ : Int → Int → Option (TVal × Bool)) : Nat → Int → Int → Option (TVal × Bool)
  | 0, _, _ => none
  | k + 1, left, turn =>
    if ((decide (a_.Length ≤ left)) && (decide (turn < 1000))) then
      (clerestoryref2_AnimTells_l0 a_ K0_ k) (wi (left - a_.Length)) (wi (turn + 1))
    else
      K0_ left turn
theorem clerestoryref2_AnimTells_l0_ok {Γ : Glob} {Q : AExit → St → Prop} {a_ : TSAnim} {K0_ : Int → Int → Option (TVal × Bool)} {k : Nat} {left : Int} {turn : Int} {o : (TVal × Bool)} (h : clerestoryref2_AnimTells_l0 a_ K0_ k left turn = some o)
    (hK0 : ∀ (left1 : Int) (turn1 : Int), K0_ left1 turn1 = some o → ∀ s, Weak 0 s ⟨(upd (upd (upd (upd (fun _ => none) 2 (some (.c (.ref 0 12 0 0)))) 4 (some (.c (.ref 1 2 0 0)))) 7 (some (I left1))) 8 (some (I turn1))), (upd (upd (fun _ => none) 0 (some (.cells 12 [[cI a_.From, cI a_.Length, cI a_.Times, cB a_.Turn, cB a_.Stays, cI a_.Ease.Kind, cI a_.Ease.Curve.a0, cI a_.Ease.Curve.a1, cI a_.Ease.Curve.a2, cI a_.Ease.Curve.a3, cI a_.Ease.N, .ro false 3 (a_.Frames.map e_TSFrame)]]))) 1 (some (.cells 2 [[cI 0, cI 0]]))), 2⟩ → Q (.exit 0) s)
    (hr : ∀ s, Ends a29.results 0 (clerestoryref2_AnimTells_post o) .ret s → Q .ret s) :
    Sv Try.prog Γ 0 (.loop a29_c0) Q ⟨(upd (upd (upd (upd (fun _ => none) 2 (some (.c (.ref 0 12 0 0)))) 4 (some (.c (.ref 1 2 0 0)))) 7 (some (I left))) 8 (some (I turn))), (upd (upd (fun _ => none) 0 (some (.cells 12 [[cI a_.From, cI a_.Length, cI a_.Times, cB a_.Turn, cB a_.Stays, cI a_.Ease.Kind, cI a_.Ease.Curve.a0, cI a_.Ease.Curve.a1, cI a_.Ease.Curve.a2, cI a_.Ease.Curve.a3, cI a_.Ease.N, .ro false 3 (a_.Frames.map e_TSFrame)]]))) 1 (some (.cells 2 [[cI 0, cI 0]]))), 2⟩ := by
  refine Sv.loop (I := fun k s => ∃ (left : Int), ∃ (turn : Int), clerestoryref2_AnimTells_l0 a_ K0_ k left turn = some o ∧ s = ⟨(upd (upd (upd (upd (fun _ => none) 2 (some (.c (.ref 0 12 0 0)))) 4 (some (.c (.ref 1 2 0 0)))) 7 (some (I left))) 8 (some (I turn))), (upd (upd (fun _ => none) 0 (some (.cells 12 [[cI a_.From, cI a_.Length, cI a_.Times, cB a_.Turn, cB a_.Stays, cI a_.Ease.Kind, cI a_.Ease.Curve.a0, cI a_.Ease.Curve.a1, cI a_.Ease.Curve.a2, cI a_.Ease.Curve.a3, cI a_.Ease.N, .ro false 3 (a_.Frames.map e_TSFrame)]]))) 1 (some (.cells 2 [[cI 0, cI 0]]))), 2⟩) (fun k s hI => ?_) ⟨left, turn, h, rfl⟩
  clear h
  clear turn left
  obtain ⟨left, turn, h, rfl⟩ := hI
  cases k with
  | zero => cases h
  | succ k =>
  rw [clerestoryref2_AnimTells_l0] at h
  have hself : ∀ (left : Int) (turn : Int), (clerestoryref2_AnimTells_l0 a_ K0_ k) left turn = some o → ∀ s, Weak 0 s ⟨(upd (upd (upd (upd (fun _ => none) 2 (some (.c (.ref 0 12 0 0)))) 4 (some (.c (.ref 1 2 0 0)))) 7 (some (I left))) 8 (some (I turn))), (upd (upd (fun _ => none) 0 (some (.cells 12 [[cI a_.From, cI a_.Length, cI a_.Times, cB a_.Turn, cB a_.Stays, cI a_.Ease.Kind, cI a_.Ease.Curve.a0, cI a_.Ease.Curve.a1, cI a_.Ease.Curve.a2, cI a_.Ease.Curve.a3, cI a_.Ease.N, .ro false 3 (a_.Frames.map e_TSFrame)]]))) 1 (some (.cells 2 [[cI 0, cI 0]]))), 2⟩ → (AThen (fun s' => ∃ s'' k', Weak 0 s' s'' ∧ k' < k + 1 ∧ (fun k s => ∃ (left : Int), ∃ (turn : Int), clerestoryref2_AnimTells_l0 a_ K0_ k left turn = some o ∧ s = ⟨(upd (upd (upd (upd (fun _ => none) 2 (some (.c (.ref 0 12 0 0)))) 4 (some (.c (.ref 1 2 0 0)))) 7 (some (I left))) 8 (some (I turn))), (upd (upd (fun _ => none) 0 (some (.cells 12 [[cI a_.From, cI a_.Length, cI a_.Times, cB a_.Turn, cB a_.Stays, cI a_.Ease.Kind, cI a_.Ease.Curve.a0, cI a_.Ease.Curve.a1, cI a_.Ease.Curve.a2, cI a_.Ease.Curve.a3, cI a_.Ease.N, .ro false 3 (a_.Frames.map e_TSFrame)]]))) 1 (some (.cells 2 [[cI 0, cI 0]]))), 2⟩) k' s'') Q) .normal s := fun left turn h s hw => ⟨_, k, hw, Nat.lt_succ_self k, left, turn, h, rfl⟩
  refine Sv.seq ?_
  refine Sv.seq ?_
  refine Sv.region ?_
  refine un (a1 rfl ?_)
  refine un (a1 (v := (.c (.ref 0 12 0 1))) rfl ?_)
  refine un (a1 (v := (I a_.Length)) rfl ?_)
  refine un (a1 (v := (B (decide (a_.Length ≤ left)))) rfl ?_)
  refine un (a1 rfl ?_)
  refine gjoin 3 (d := 63) (v := (B ((decide (a_.Length ≤ left)) && (decide (turn < 1000))))) (fun X hX => ?_) ?_
  · refine split2 (fun hc6 => ?_) (fun hc6 => ?_)
    · refine gt rfl (a1 rfl ?_)
      refine gt rfl (a1 (v := (B (decide (turn < 1000)))) rfl ?_)
      refine un (a1 (v := (B (decide (turn < 1000)))) rfl ?_)
      refine dnil ?_
      exact hX _ (.putEq (by rw [hc6]; rfl) (.skip _ _ (.skip _ _ (.putEq (by rw [hc6]) (.refl _)) rfl) rfl))
    · refine gs rfl rfl ?_
      refine gs rfl rfl ?_
      refine un (a1 (v := (B false)) rfl ?_)
      refine dnil ?_
      exact hX _ (.putEq (by rw [hc6]; rfl) (.skip _ _ (.skip _ _ (.putEq (by rw [hc6]) (.refl _)) rfl) rfl))
  refine dnil ?_
  refine Sv.cond (b := ((decide (a_.Length ≤ left)) && (decide (turn < 1000)))) rfl (fun hc7 => ?_) (fun hc7 => ?_)
  · replace h := ifT hc7 h
    refine Sv.skip ?_
    refine Sv.block ?_
    refine Sv.seq ?_
    refine Sv.region ?_
    refine un (a1 rfl ?_)
    refine un (a1 (v := (.c (.ref 0 12 0 1))) rfl ?_)
    refine un (a1 (v := (I a_.Length)) rfl ?_)
    refine un (a1 (v := (I (wi (left - a_.Length)))) rfl ?_)
    refine un (a1 rfl ?_)
    refine dnil ?_
    refine Sv.region ?_
    refine un (a1 rfl ?_)
    refine un (a1 (v := (I (wi (turn + 1)))) rfl ?_)
    refine un (a1 rfl ?_)
    refine dnil ?_
    exact hself (wi (left - a_.Length)) (wi (turn + 1)) h _ (weak_canon [0, 1] rfl (by decide) (by decide) (fun b h => absurd h (Nat.not_lt_zero _)) (.cons rfl (avAs_free rfl) (.cons rfl (avAs_free rfl) (.cons rfl (.c (.ref rfl (by decide))) (.cons rfl (.c (.ref rfl (by decide))) .nil)))) (.box (by decide) rfl (blkAs_cells (.cons (.same rfl) (.cons (.same rfl) .nil))) (.box (by decide) rfl (blkAs_cells (.cons (.same rfl) (.cons (.same rfl) (.cons (.same rfl) (.cons (.same rfl) (.cons (.same rfl) (.cons (.same rfl) (.cons (.same rfl) (.cons (.same rfl) (.cons (.same rfl) (.cons (.same rfl) (.cons (.same rfl) (.cons (.same rfl) .nil))))))))))))) .nil)))
  · replace h := ifF hc7 h
    refine Sv.exit ?_
    exact hK0 left turn h _ (weak_canon [0, 1] rfl (by decide) (by decide) (fun b h => absurd h (Nat.not_lt_zero _)) (.cons rfl (avAs_free rfl) (.cons rfl (avAs_free rfl) (.cons rfl (.c (.ref rfl (by decide))) (.cons rfl (.c (.ref rfl (by decide))) .nil)))) (.box (by decide) rfl (blkAs_cells (.cons (.same rfl) (.cons (.same rfl) .nil))) (.box (by decide) rfl (blkAs_cells (.cons (.same rfl) (.cons (.same rfl) (.cons (.same rfl) (.cons (.same rfl) (.cons (.same rfl) (.cons (.same rfl) (.cons (.same rfl) (.cons (.same rfl) (.cons (.same rfl) (.cons (.same rfl) (.cons (.same rfl) (.cons (.same rfl) .nil))))))))))))) .nil)))
noncomputable def clerestoryref2_AnimTells_j1 (a_ : TSAnim) (r_1 : Int) : Option (TVal × Bool) :=
  (clerestoryref2_FrameValue a_ r_1).bind fun r_2 =>
  some (r_2, true)
theorem clerestoryref2_AnimTells_j1_ok {Γ : Glob} {a_ : TSAnim} {r_1 : Int} {o : (TVal × Bool)} (h : clerestoryref2_AnimTells_j1 a_ r_1 = some o) :
    Sv Try.prog Γ 0 a29_c1 (Ends a29.results 0 (clerestoryref2_AnimTells_post o)) ⟨(upd (upd (upd (fun _ => none) 2 (some (.c (.ref 0 12 0 0)))) 4 (some (.c (.ref 1 2 0 0)))) 9 (some (I r_1))), (upd (upd (fun _ => none) 0 (some (.cells 12 [[cI a_.From, cI a_.Length, cI a_.Times, cB a_.Turn, cB a_.Stays, cI a_.Ease.Kind, cI a_.Ease.Curve.a0, cI a_.Ease.Curve.a1, cI a_.Ease.Curve.a2, cI a_.Ease.Curve.a3, cI a_.Ease.N, .ro false 3 (a_.Frames.map e_TSFrame)]]))) 1 (some (.cells 2 [[cI 0, cI 0]]))), 2⟩ := by
  unfold clerestoryref2_AnimTells_j1 at h
  refine Sv.seq ?_
  refine Sv.region ?_
  refine un (a1 (v := (.agg [cI a_.From, cI a_.Length, cI a_.Times, cB a_.Turn, cB a_.Stays, cI a_.Ease.Kind, cI a_.Ease.Curve.a0, cI a_.Ease.Curve.a1, cI a_.Ease.Curve.a2, cI a_.Ease.Curve.a3, cI a_.Ease.N, .ro false 3 (a_.Frames.map e_TSFrame)])) rfl ?_)
  refine un (a1 rfl ?_)
  obtain ⟨r_2, hr1, h⟩ := bnd h
  refine un (ac_pure (clerestoryref2_FrameValue_ok hr1) rfl rfl rfl ?_)
  refine un (a2n (h' := upd _ 1 (some (.cells 2 [[cI r_2.Kind, cI r_2.N]]))) (n' := 2) rfl rfl (fun h => by cases h) ?_)
  refine un (a1 rfl ?_)
  refine dnil ?_
  refine Sv.ret ?_
  replace h := Option.some.inj h
  subst h
  exact ⟨_, .refl _, _, rfl, ⟨upd (fun _ => none) 0 (some (.tup [(.agg [cI r_2.Kind, cI r_2.N]), (B true)])), (fun _ => none), 0⟩, (.tup [(.agg [cI r_2.Kind, cI r_2.N]), (B true)]), weak_canon [] rfl List.nodup_nil (Nat.le_refl _) (fun b h => absurd h (Nat.not_lt_zero _)) (.cons rfl (avAs_tup (.cons (avAs_free rfl) (.cons (avAs_free rfl) .nil))) .nil) .nil, rfl, rfl, rfl, rfl⟩
/-- clerestory/clerestoryref2.AnimTells -/
noncomputable def clerestoryref2_AnimTells (a_ : TSAnim) (now : Int) : Option (TVal × Bool) :=
  if decide (now < a_.From) then
    some ((⟨0, 0⟩ : TVal), false)
  else
    if decide ((wi (a_.From + (wi (a_.Times * a_.Length)))) ≤ now) then
      if (!a_.Stays) then
        some ((⟨0, 0⟩ : TVal), false)
      else
        if (a_.Turn && (decide ((a_.Times.tmod 2) = 0))) then
          (at? a_.Frames 0).bind fun x_ =>
          some (x_.Val, true)
        else
          (at? a_.Frames (wi ((a_.Frames.length : Int) - 1))).bind fun x_1 =>
          some (x_1.Val, true)
    else
      lim fun kk => clerestoryref2_AnimTells_l0 a_ (fun (left1 : Int) (turn1 : Int) => 
          (quo? .i64 (wi (left1 * 1000)) a_.Length).bind fun r_ =>
          if (a_.Turn && (decide ((turn1.tmod 2) = 1))) then
            clerestoryref2_AnimTells_j1 a_ (wi (1000 - r_))
          else
            clerestoryref2_AnimTells_j1 a_ r_) kk (wi (now - a_.From)) 0
theorem clerestoryref2_AnimTells_ok {Γ : Glob} {a_ : TSAnim} {now : Int} {r : (TVal × Bool)} (h : clerestoryref2_AnimTells a_ now = some r) : CPure Try.prog Γ 29 [(.agg [cI a_.From, cI a_.Length, cI a_.Times, cB a_.Turn, cB a_.Stays, cI a_.Ease.Kind, cI a_.Ease.Curve.a0, cI a_.Ease.Curve.a1, cI a_.Ease.Curve.a2, cI a_.Ease.Curve.a3, cI a_.Ease.N, .ro false 3 (a_.Frames.map e_TSFrame)]), (I now)] (.tup [(.agg [cI r.1.Kind, cI r.1.N]), (B r.2)]) := by
  refine acalls_of_sv hmix c29 (R := clerestoryref2_AnimTells_post r) ?_
  unfold clerestoryref2_AnimTells at h
  refine Sv.seq ?_
  refine Sv.region ?_
  refine un (a2v (v := (.c (.ref 0 12 0 0))) (h' := upd _ 0 (some (.cells 12 [[cI a_.From, cI a_.Length, cI a_.Times, cB a_.Turn, cB a_.Stays, cI a_.Ease.Kind, cI a_.Ease.Curve.a0, cI a_.Ease.Curve.a1, cI a_.Ease.Curve.a2, cI a_.Ease.Curve.a3, cI a_.Ease.N, .ro false 3 (a_.Frames.map e_TSFrame)]]))) (n' := 1) rfl rfl (fun h => by cases h) ?_)
  refine un (a2v (v := (.c (.ref 1 2 0 0))) (h' := upd _ 1 (some (.cells 2 [[cI 0, cI 0]]))) (n' := 2) rfl rfl (fun h => by cases h) ?_)
  refine un (a1 rfl ?_)
  refine dnil ?_
  refine Sv.seq ?_
  refine Sv.seq ?_
  refine Sv.region ?_
  refine un (a1 rfl ?_)
  refine un (a1 (v := (.c (.ref 0 12 0 0))) rfl ?_)
  refine un (a1 (v := (I a_.From)) rfl ?_)
  refine un (a1 (v := (B (decide (now < a_.From)))) rfl ?_)
  refine dnil ?_
  refine Sv.cond (b := decide (now < a_.From)) rfl (fun hc1 => ?_) (fun hc1 => ?_)
  · replace h := ifT hc1 h
    refine Sv.seq ?_
    refine Sv.region ?_
    refine un (a1 (v := (.agg [cI 0, cI 0])) rfl ?_)
    refine un (a2n (h' := upd _ 1 (some (.cells 2 [[cI 0, cI 0]]))) (n' := 2) rfl rfl (fun h => by cases h) ?_)
    refine un (a1 rfl ?_)
    refine dnil ?_
    refine Sv.ret ?_
    replace h := Option.some.inj h
    subst h
    exact ⟨_, .refl _, _, rfl, ⟨upd (fun _ => none) 0 (some (.tup [(.agg [cI 0, cI 0]), (B false)])), (fun _ => none), 0⟩, (.tup [(.agg [cI 0, cI 0]), (B false)]), weak_canon [] rfl List.nodup_nil (Nat.le_refl _) (fun b h => absurd h (Nat.not_lt_zero _)) (.cons rfl (avAs_tup (.cons (avAs_free rfl) (.cons (avAs_free rfl) .nil))) .nil) .nil, rfl, rfl, rfl, rfl⟩
  · replace h := ifF hc1 h
    refine Sv.skip ?_
    refine Sv.seq ?_
    refine Sv.region ?_
    refine un (a1 (v := (.c (.ref 0 12 0 0))) rfl ?_)
    refine un (a1 (v := (I a_.From)) rfl ?_)
    refine un (a1 (v := (.c (.ref 0 12 0 2))) rfl ?_)
    refine un (a1 (v := (I a_.Times)) rfl ?_)
    refine un (a1 (v := (.c (.ref 0 12 0 1))) rfl ?_)
    refine un (a1 (v := (I a_.Length)) rfl ?_)
    refine un (a1 (v := (I (wi (a_.Times * a_.Length)))) rfl ?_)
    refine un (a1 (v := (I (wi (a_.From + (wi (a_.Times * a_.Length)))))) rfl ?_)
    refine un (a1 rfl ?_)
    refine dnil ?_
    refine Sv.seq ?_
    refine Sv.seq ?_
    refine Sv.region ?_
    refine un (a1 rfl ?_)
    refine un (a1 rfl ?_)
    refine un (a1 (v := (B (decide ((wi (a_.From + (wi (a_.Times * a_.Length)))) ≤ now)))) rfl ?_)
    refine dnil ?_
    refine Sv.cond (b := decide ((wi (a_.From + (wi (a_.Times * a_.Length)))) ≤ now)) rfl (fun hc2 => ?_) (fun hc2 => ?_)
    · replace h := ifT hc2 h
      refine Sv.seq ?_
      refine Sv.seq ?_
      refine Sv.region ?_
      refine un (a1 (v := (.c (.ref 0 12 0 4))) rfl ?_)
      refine un (a1 (v := (B a_.Stays)) rfl ?_)
      refine un (a1 (v := (B (!a_.Stays))) rfl ?_)
      refine dnil ?_
      refine Sv.cond (b := (!a_.Stays)) rfl (fun hc3 => ?_) (fun hc3 => ?_)
      · replace h := ifT hc3 h
        refine Sv.seq ?_
        refine Sv.region ?_
        refine un (a1 (v := (.agg [cI 0, cI 0])) rfl ?_)
        refine un (a2n (h' := upd _ 1 (some (.cells 2 [[cI 0, cI 0]]))) (n' := 2) rfl rfl (fun h => by cases h) ?_)
        refine un (a1 rfl ?_)
        refine dnil ?_
        refine Sv.ret ?_
        replace h := Option.some.inj h
        subst h
        exact ⟨_, .refl _, _, rfl, ⟨upd (fun _ => none) 0 (some (.tup [(.agg [cI 0, cI 0]), (B false)])), (fun _ => none), 0⟩, (.tup [(.agg [cI 0, cI 0]), (B false)]), weak_canon [] rfl List.nodup_nil (Nat.le_refl _) (fun b h => absurd h (Nat.not_lt_zero _)) (.cons rfl (avAs_tup (.cons (avAs_free rfl) (.cons (avAs_free rfl) .nil))) .nil) .nil, rfl, rfl, rfl, rfl⟩
      · replace h := ifF hc3 h
        refine Sv.skip ?_
        refine Sv.seq ?_
        refine Sv.seq ?_
        refine Sv.region ?_
        refine un (a1 (v := (.c (.ref 0 12 0 3))) rfl ?_)
        refine un (a1 (v := (B a_.Turn)) rfl ?_)
        refine un (a1 rfl ?_)
        refine gjoin 5 (d := 37) (v := (B (a_.Turn && (decide ((a_.Times.tmod 2) = 0))))) (fun X hX => ?_) ?_
        · refine split2 (fun hc4 => ?_) (fun hc4 => ?_)
          · refine gt rfl (a1 (v := (.c (.ref 0 12 0 2))) rfl ?_)
            refine gt rfl (a1 (v := (I a_.Times)) rfl ?_)
            refine gt rfl (a1 (v := (I (a_.Times.tmod 2))) rfl ?_)
            refine gt rfl (a1 (v := (B (decide ((a_.Times.tmod 2) = 0)))) rfl ?_)
            refine un (a1 (v := (B (decide ((a_.Times.tmod 2) = 0)))) rfl ?_)
            refine dnil ?_
            exact hX _ (.putEq (by rw [hc4]; rfl) (.skip _ _ (.skip _ _ (.skip _ _ (.skip _ _ (.putEq (by rw [hc4]) (.refl _)) rfl) rfl) rfl) rfl))
          · refine gs rfl rfl ?_
            refine gs rfl rfl ?_
            refine gs rfl rfl ?_
            refine gs rfl rfl ?_
            refine un (a1 (v := (B false)) rfl ?_)
            refine dnil ?_
            exact hX _ (.putEq (by rw [hc4]; rfl) (.skip _ _ (.skip _ _ (.skip _ _ (.skip _ _ (.putEq (by rw [hc4]) (.refl _)) rfl) rfl) rfl) rfl))
        refine dnil ?_
        refine Sv.cond (b := (a_.Turn && (decide ((a_.Times.tmod 2) = 0)))) rfl (fun hc5 => ?_) (fun hc5 => ?_)
        · replace h := ifT hc5 h
          refine Sv.seq ?_
          refine Sv.region ?_
          refine un (a1 (v := (.c (.ref 0 12 0 11))) rfl ?_)
          refine un (a1 (v := (.c (.ro false 3 (a_.Frames.map e_TSFrame)))) rfl ?_)
          obtain ⟨x_, hx1, h⟩ := bnd h
          refine un (a1 (v := (.c (.rop [cI x_.At, cI x_.Val.Kind, cI x_.Val.N]))) (s_iaddr (e := e_TSFrame) (xs := a_.Frames) rfl rfl hx1) ?_)
          refine un (a1 (v := (.c (.rop [cI x_.Val.Kind, cI x_.Val.N]))) rfl ?_)
          refine un (a1 (v := (.agg [cI x_.Val.Kind, cI x_.Val.N])) rfl ?_)
          refine un (a2n (h' := upd _ 1 (some (.cells 2 [[cI x_.Val.Kind, cI x_.Val.N]]))) (n' := 2) rfl rfl (fun h => by cases h) ?_)
          refine un (a1 rfl ?_)
          refine dnil ?_
          refine Sv.ret ?_
          replace h := Option.some.inj h
          subst h
          exact ⟨_, .refl _, _, rfl, ⟨upd (fun _ => none) 0 (some (.tup [(.agg [cI x_.Val.Kind, cI x_.Val.N]), (B true)])), (fun _ => none), 0⟩, (.tup [(.agg [cI x_.Val.Kind, cI x_.Val.N]), (B true)]), weak_canon [] rfl List.nodup_nil (Nat.le_refl _) (fun b h => absurd h (Nat.not_lt_zero _)) (.cons rfl (avAs_tup (.cons (avAs_free rfl) (.cons (avAs_free rfl) .nil))) .nil) .nil, rfl, rfl, rfl, rfl⟩
        · replace h := ifF hc5 h
          refine Sv.skip ?_
          refine Sv.seq ?_
          refine Sv.region ?_
          refine un (a1 (v := (.c (.ref 0 12 0 11))) rfl ?_)
          refine un (a1 (v := (.c (.ro false 3 (a_.Frames.map e_TSFrame)))) rfl ?_)
          refine un (a1 (v := (.c (.ref 0 12 0 11))) rfl ?_)
          refine un (a1 (v := (.c (.ro false 3 (a_.Frames.map e_TSFrame)))) rfl ?_)
          refine un (a1 (v := (I (a_.Frames.length : Int))) (s_len (e := e_TSFrame) (xs := a_.Frames) rfl) ?_)
          refine un (a1 (v := (I (wi ((a_.Frames.length : Int) - 1)))) rfl ?_)
          obtain ⟨x_1, hx2, h⟩ := bnd h
          refine un (a1 (v := (.c (.rop [cI x_1.At, cI x_1.Val.Kind, cI x_1.Val.N]))) (s_iaddr (e := e_TSFrame) (xs := a_.Frames) rfl rfl hx2) ?_)
          refine un (a1 (v := (.c (.rop [cI x_1.Val.Kind, cI x_1.Val.N]))) rfl ?_)
          refine un (a1 (v := (.agg [cI x_1.Val.Kind, cI x_1.Val.N])) rfl ?_)
          refine un (a2n (h' := upd _ 1 (some (.cells 2 [[cI x_1.Val.Kind, cI x_1.Val.N]]))) (n' := 2) rfl rfl (fun h => by cases h) ?_)
          refine un (a1 rfl ?_)
          refine dnil ?_
          refine Sv.ret ?_
          replace h := Option.some.inj h
          subst h
          exact ⟨_, .refl _, _, rfl, ⟨upd (fun _ => none) 0 (some (.tup [(.agg [cI x_1.Val.Kind, cI x_1.Val.N]), (B true)])), (fun _ => none), 0⟩, (.tup [(.agg [cI x_1.Val.Kind, cI x_1.Val.N]), (B true)]), weak_canon [] rfl List.nodup_nil (Nat.le_refl _) (fun b h => absurd h (Nat.not_lt_zero _)) (.cons rfl (avAs_tup (.cons (avAs_free rfl) (.cons (avAs_free rfl) .nil))) .nil) .nil, rfl, rfl, rfl, rfl⟩
    · replace h := ifF hc2 h
      refine Sv.skip ?_
      refine Sv.seq ?_
      refine Sv.region ?_
      refine un (a1 rfl ?_)
      refine un (a1 (v := (.c (.ref 0 12 0 0))) rfl ?_)
      refine un (a1 (v := (I a_.From)) rfl ?_)
      refine un (a1 (v := (I (wi (now - a_.From)))) rfl ?_)
      refine un (a1 rfl ?_)
      refine dnil ?_
      refine Sv.seq ?_
      refine Sv.region ?_
      refine un (a1 rfl ?_)
      refine dnil ?_
      refine Sv.seq ?_
      refine Sv.block ?_
      obtain ⟨kk, h⟩ := lim_some h
      refine Sv.weak (weak_canon [0, 1] rfl (by decide) (by decide) (fun b h => absurd h (Nat.not_lt_zero _)) (.cons rfl (avAs_free rfl) (.cons rfl (avAs_free rfl) (.cons rfl (.c (.ref rfl (by decide))) (.cons rfl (.c (.ref rfl (by decide))) .nil)))) (.box (by decide) rfl (blkAs_cells (.cons (.same rfl) (.cons (.same rfl) .nil))) (.box (by decide) rfl (blkAs_cells (.cons (.same rfl) (.cons (.same rfl) (.cons (.same rfl) (.cons (.same rfl) (.cons (.same rfl) (.cons (.same rfl) (.cons (.same rfl) (.cons (.same rfl) (.cons (.same rfl) (.cons (.same rfl) (.cons (.same rfl) (.cons (.same rfl) .nil))))))))))))) .nil))) (clerestoryref2_AnimTells_l0_ok h ?_ (fun s hs => hs))
      · intro left1 turn1 h _ hw1
        refine Sv.weak hw1 ?_
        refine Sv.seq ?_
        refine Sv.region ?_
        refine un (a1 rfl ?_)
        refine un (a1 (v := (I (wi (left1 * 1000)))) rfl ?_)
        refine un (a1 (v := (.c (.ref 0 12 0 1))) rfl ?_)
        refine un (a1 (v := (I a_.Length)) rfl ?_)
        obtain ⟨r_, hx3, h⟩ := bnd h
        refine un (a1 (v := (I r_)) (s_quo rfl rfl hx3) ?_)
        refine un (a1 rfl ?_)
        refine dnil ?_
        refine Sv.seq ?_
        refine Sv.seq ?_
        refine Sv.region ?_
        refine un (a1 (v := (.c (.ref 0 12 0 3))) rfl ?_)
        refine un (a1 (v := (B a_.Turn)) rfl ?_)
        refine un (a1 rfl ?_)
        refine gjoin 4 (d := 81) (v := (B (a_.Turn && (decide ((turn1.tmod 2) = 1))))) (fun X hX => ?_) ?_
        · refine split2 (fun hc8 => ?_) (fun hc8 => ?_)
          · refine gt rfl (a1 rfl ?_)
            refine gt rfl (a1 (v := (I (turn1.tmod 2))) rfl ?_)
            refine gt rfl (a1 (v := (B (decide ((turn1.tmod 2) = 1)))) rfl ?_)
            refine un (a1 (v := (B (decide ((turn1.tmod 2) = 1)))) rfl ?_)
            refine dnil ?_
            exact hX _ (.putEq (by rw [hc8]; rfl) (.skip _ _ (.skip _ _ (.skip _ _ (.putEq (by rw [hc8]) (.refl _)) rfl) rfl) rfl))
          · refine gs rfl rfl ?_
            refine gs rfl rfl ?_
            refine gs rfl rfl ?_
            refine un (a1 (v := (B false)) rfl ?_)
            refine dnil ?_
            exact hX _ (.putEq (by rw [hc8]; rfl) (.skip _ _ (.skip _ _ (.skip _ _ (.putEq (by rw [hc8]) (.refl _)) rfl) rfl) rfl))
        refine dnil ?_
        refine Sv.cond (b := (a_.Turn && (decide ((turn1.tmod 2) = 1)))) rfl (fun hc9 => ?_) (fun hc9 => ?_)
        · replace h := ifT hc9 h
          refine Sv.region ?_
          refine un (a1 rfl ?_)
          refine un (a1 (v := (I (wi (1000 - r_)))) rfl ?_)
          refine un (a1 rfl ?_)
          refine dnil ?_
          exact Sv.weak (weak_canon [0, 1] rfl (by decide) (by decide) (fun b h => absurd h (Nat.not_lt_zero _)) (.cons rfl (avAs_free rfl) (.cons rfl (.c (.ref rfl (by decide))) (.cons rfl (.c (.ref rfl (by decide))) .nil))) (.box (by decide) rfl (blkAs_cells (.cons (.same rfl) (.cons (.same rfl) .nil))) (.box (by decide) rfl (blkAs_cells (.cons (.same rfl) (.cons (.same rfl) (.cons (.same rfl) (.cons (.same rfl) (.cons (.same rfl) (.cons (.same rfl) (.cons (.same rfl) (.cons (.same rfl) (.cons (.same rfl) (.cons (.same rfl) (.cons (.same rfl) (.cons (.same rfl) .nil))))))))))))) .nil))) (clerestoryref2_AnimTells_j1_ok h)
        · replace h := ifF hc9 h
          refine Sv.skip ?_
          exact Sv.weak (weak_canon [0, 1] rfl (by decide) (by decide) (fun b h => absurd h (Nat.not_lt_zero _)) (.cons rfl (avAs_free rfl) (.cons rfl (.c (.ref rfl (by decide))) (.cons rfl (.c (.ref rfl (by decide))) .nil))) (.box (by decide) rfl (blkAs_cells (.cons (.same rfl) (.cons (.same rfl) .nil))) (.box (by decide) rfl (blkAs_cells (.cons (.same rfl) (.cons (.same rfl) (.cons (.same rfl) (.cons (.same rfl) (.cons (.same rfl) (.cons (.same rfl) (.cons (.same rfl) (.cons (.same rfl) (.cons (.same rfl) (.cons (.same rfl) (.cons (.same rfl) (.cons (.same rfl) .nil))))))))))))) .nil))) (clerestoryref2_AnimTells_j1_ok h)
def a21_c0 : ACode := (.cond (.tmp 50) (.seq (.region [⟨(some 2), (.mov (.const (.c (.val (.int .i64 3))))), none⟩])
 .ret) .skip)
def a21_c1 : ACode := (.seq (.region [⟨(some 56), (.bin .lss (.tmp 55) (.tmp 54)), none⟩])
 (.seq (.cond (.tmp 56) .skip (.exit 0))
 (.seq (.block 1 (.seq (.region [⟨(some 57), (.mov (.tmp 55)), none⟩, ⟨(some 58), (.iaddr 3 (.tmp 53) (.tmp 55)), none⟩, ⟨(some 59), (.load true 3 (.tmp 58)), none⟩, ⟨(some 5), (.box (.const (.agg [(.val (.int .i64 0)), (.val (.int .i64 0)), (.val (.int .i64 0))]))), none⟩, ⟨(some 4), (.mov (.tmp 57)), none⟩, ⟨none, (.store 3 (.tmp 5) (.tmp 59)), none⟩])
 (.seq (.drawn (.fin [(⟨(some 60), (.faddr 0 (.tmp 5)), none⟩, (0, 0)), (⟨(some 61), (.load false 1 (.tmp 60)), none⟩, (0, 1)), (⟨(some 62), (.faddr 11 (.tmp 1)), none⟩, (0, 2)), (⟨(some 63), (.load false 1 (.tmp 62)), none⟩, (0, 3)), (⟨(some 64), (.mov (.tmp 4)), none⟩, (0, 4)), (⟨(some 65), (.iaddr 3 (.tmp 63) (.tmp 64)), none⟩, (0, 5)), (⟨(some 66), (.faddr 0 (.tmp 65)), none⟩, (0, 6)), (⟨(some 67), (.load false 1 (.tmp 66)), none⟩, (0, 7)), (⟨(some 68), (.bin .leq (.tmp 61) (.tmp 67)), none⟩, (0, 8))]))
 (.cond (.tmp 68) (.seq (.region [⟨(some 2), (.mov (.const (.c (.val (.int .i64 3))))), none⟩])
 .ret) .skip))))
 (.region [⟨(some 69), (.bin .add (.tmp 55) (.const (.c (.val (.int .i64 1))))), none⟩, ⟨(some 55), (.mov (.tmp 69)), none⟩]))))
def a21_c2 : ACode := (.seq (.seq (.region [⟨(some 51), (.faddr 11 (.tmp 1)), none⟩, ⟨(some 52), (.load false 1 (.tmp 51)), none⟩, ⟨(some 53), (.slSl 3 (.tmp 52) (some (.const (.c (.val (.int .i64 1))))) none none), none⟩, ⟨(some 54), (.len (.tmp 53)), none⟩, ⟨(some 55), (.mov (.const (.c (.val (.int .i64 0))))), none⟩])
 (.block 0 (.loop a21_c1)))
 (.seq (.region [⟨(some 2), (.mov (.const (.c (.val (.int .i64 0))))), none⟩])
 .ret))
def a21 : AFunc := ⟨1, [(.tmp 2)], (.seq (.region [⟨(some 1), (.box (.tmp 0)), none⟩, ⟨(some 2), (.mov (.const (.c (.val (.int .i64 0))))), none⟩])
 (.seq (.seq (.region [⟨(some 6), (.faddr 0 (.tmp 1)), none⟩, ⟨(some 7), (.load false 1 (.tmp 6)), none⟩, ⟨(some 8), (.call 40 [(.tmp 7), (.const (.c (.val (.int .i64 0)))), (.const (.c (.val (.int .i64 100000000))))]), none⟩, ⟨(some 9), (.un .not (.tmp 8)), none⟩, ⟨(some 10), (.mov (.tmp 9)), none⟩, ⟨(some 11), (.faddr 1 (.tmp 1)), (some (10, false))⟩, ⟨(some 12), (.load false 1 (.tmp 11)), (some (10, false))⟩, ⟨(some 13), (.call 40 [(.tmp 12), (.const (.c (.val (.int .i64 1)))), (.const (.c (.val (.int .i64 100000000))))]), (some (10, false))⟩, ⟨(some 14), (.un .not (.tmp 13)), (some (10, false))⟩, ⟨(some 15), (.pick (.tmp 10) (.const (.c (.val (.bool true)))) (.tmp 14)), none⟩, ⟨(some 16), (.mov (.tmp 15)), none⟩, ⟨(some 17), (.faddr 2 (.tmp 1)), (some (16, false))⟩, ⟨(some 18), (.load false 1 (.tmp 17)), (some (16, false))⟩, ⟨(some 19), (.call 40 [(.tmp 18), (.const (.c (.val (.int .i64 1)))), (.const (.c (.val (.int .i64 1000))))]), (some (16, false))⟩, ⟨(some 20), (.un .not (.tmp 19)), (some (16, false))⟩, ⟨(some 21), (.pick (.tmp 16) (.const (.c (.val (.bool true)))) (.tmp 20)), none⟩])
 (.cond (.tmp 21) (.seq (.region [⟨(some 2), (.mov (.const (.c (.val (.int .i64 1))))), none⟩])
 .ret) .skip))
 (.seq (.seq (.region [⟨(some 22), (.faddr 5 (.tmp 1)), none⟩, ⟨(some 23), (.load true 6 (.tmp 22)), none⟩, ⟨(some 24), (.call 39 [(.tmp 23)]), none⟩, ⟨(some 25), (.un .not (.tmp 24)), none⟩])
 (.cond (.tmp 25) (.seq (.region [⟨(some 2), (.mov (.const (.c (.val (.int .i64 3))))), none⟩])
 .ret) .skip))
 (.seq (.region [⟨(some 26), (.faddr 11 (.tmp 1)), none⟩, ⟨(some 27), (.load false 1 (.tmp 26)), none⟩, ⟨(some 28), (.len (.tmp 27)), none⟩, ⟨(some 3), (.mov (.tmp 28)), none⟩])
 (.seq (.seq (.region [⟨(some 29), (.mov (.tmp 3)), none⟩, ⟨(some 30), (.bin .gtr (.tmp 29) (.const (.c (.val (.int .i64 10))))), none⟩])
 (.cond (.tmp 30) (.seq (.region [⟨(some 2), (.mov (.const (.c (.val (.int .i64 2))))), none⟩])
 .ret) .skip))
 (.seq (.seq (.region [⟨(some 31), (.mov (.tmp 3)), none⟩, ⟨(some 32), (.bin .lss (.tmp 31) (.const (.c (.val (.int .i64 2))))), none⟩, ⟨(some 33), (.mov (.tmp 32)), none⟩, ⟨(some 34), (.faddr 11 (.tmp 1)), (some (33, false))⟩, ⟨(some 35), (.load false 1 (.tmp 34)), (some (33, false))⟩, ⟨(some 36), (.iaddr 3 (.tmp 35) (.const (.c (.val (.int .i64 0))))), (some (33, false))⟩, ⟨(some 37), (.faddr 0 (.tmp 36)), (some (33, false))⟩, ⟨(some 38), (.load false 1 (.tmp 37)), (some (33, false))⟩, ⟨(some 39), (.bin .neq (.tmp 38) (.const (.c (.val (.int .i64 0))))), (some (33, false))⟩, ⟨(some 40), (.pick (.tmp 33) (.const (.c (.val (.bool true)))) (.tmp 39)), none⟩, ⟨(some 41), (.mov (.tmp 40)), none⟩, ⟨(some 42), (.faddr 11 (.tmp 1)), (some (41, false))⟩, ⟨(some 43), (.load false 1 (.tmp 42)), (some (41, false))⟩, ⟨(some 44), (.mov (.tmp 3)), (some (41, false))⟩, ⟨(some 45), (.bin .sub (.tmp 44) (.const (.c (.val (.int .i64 1))))), (some (41, false))⟩, ⟨(some 46), (.iaddr 3 (.tmp 43) (.tmp 45)), (some (41, false))⟩, ⟨(some 47), (.faddr 0 (.tmp 46)), (some (41, false))⟩, ⟨(some 48), (.load false 1 (.tmp 47)), (some (41, false))⟩, ⟨(some 49), (.bin .neq (.tmp 48) (.const (.c (.val (.int .i64 1000))))), (some (41, false))⟩, ⟨(some 50), (.pick (.tmp 41) (.const (.c (.val (.bool true)))) (.tmp 49)), none⟩])
 a21_c0)
 a21_c2))))))⟩
set_option maxRecDepth 100000 in
theorem c21 : compFunc Try.prog 21 = some a21 := by kernel_rfl
def anim_Check_post (r : Int) : AV → Heap → Nat → Prop := fun v h' n' => v = (I r) ∧ (h' = (fun _ => none)) ∧ n' = 0
noncomputable def anim_Check_l0 (r_1 : (List TSFrame)) (a_ : TSAnim) (K0_ : Unit → Option Int) : Nat → Int → Option Int
  | 0, _ => none
  | k + 1, v55 =>
    if decide (v55 < (r_1.length : Int)) then
      (at? r_1 v55).bind fun x_ =>
      (at? a_.Frames v55).bind fun x_1 =>
      if decide (x_.At ≤ x_1.At) then
        some 3
      else
        (anim_Check_l0 r_1 a_ K0_ k) (wi (v55 + 1))
    else
      K0_ ()
theorem anim_Check_l0_ok {Γ : Glob} {Q : AExit → St → Prop} {r_1 : (List TSFrame)} {a_ : TSAnim} {K0_ : Unit → Option Int} {k : Nat} {v55 : Int} {o : Int} (h : anim_Check_l0 r_1 a_ K0_ k v55 = some o)
    (hK0 : ∀ (_ : Unit), K0_ () = some o → ∀ s, Weak 0 s ⟨(fun _ => none), (fun _ => none), 0⟩ → Q (.exit 0) s)
    (hr : ∀ s, Ends a21.results 0 (anim_Check_post o) .ret s → Q .ret s) :
    Sv Try.prog Γ 0 (.loop a21_c1) Q ⟨(upd (upd (upd (upd (fun _ => none) 1 (some (.c (.ref 0 12 0 0)))) 53 (some (.c (.ro false 3 (r_1.map e_TSFrame))))) 54 (some (I (r_1.length : Int)))) 55 (some (I v55))), (upd (fun _ => none) 0 (some (.cells 12 [[cI a_.From, cI a_.Length, cI a_.Times, cB a_.Turn, cB a_.Stays, cI a_.Ease.Kind, cI a_.Ease.Curve.a0, cI a_.Ease.Curve.a1, cI a_.Ease.Curve.a2, cI a_.Ease.Curve.a3, cI a_.Ease.N, .ro false 3 (a_.Frames.map e_TSFrame)]]))), 1⟩ := by
  refine Sv.loop (I := fun k s => ∃ (v55 : Int), anim_Check_l0 r_1 a_ K0_ k v55 = some o ∧ s = ⟨(upd (upd (upd (upd (fun _ => none) 1 (some (.c (.ref 0 12 0 0)))) 53 (some (.c (.ro false 3 (r_1.map e_TSFrame))))) 54 (some (I (r_1.length : Int)))) 55 (some (I v55))), (upd (fun _ => none) 0 (some (.cells 12 [[cI a_.From, cI a_.Length, cI a_.Times, cB a_.Turn, cB a_.Stays, cI a_.Ease.Kind, cI a_.Ease.Curve.a0, cI a_.Ease.Curve.a1, cI a_.Ease.Curve.a2, cI a_.Ease.Curve.a3, cI a_.Ease.N, .ro false 3 (a_.Frames.map e_TSFrame)]]))), 1⟩) (fun k s hI => ?_) ⟨v55, h, rfl⟩
  clear h
  clear v55
  obtain ⟨v55, h, rfl⟩ := hI
  cases k with
  | zero => cases h
  | succ k =>
  rw [anim_Check_l0] at h
  have hself : ∀ (v55 : Int), (anim_Check_l0 r_1 a_ K0_ k) v55 = some o → ∀ s, Weak 0 s ⟨(upd (upd (upd (upd (fun _ => none) 1 (some (.c (.ref 0 12 0 0)))) 53 (some (.c (.ro false 3 (r_1.map e_TSFrame))))) 54 (some (I (r_1.length : Int)))) 55 (some (I v55))), (upd (fun _ => none) 0 (some (.cells 12 [[cI a_.From, cI a_.Length, cI a_.Times, cB a_.Turn, cB a_.Stays, cI a_.Ease.Kind, cI a_.Ease.Curve.a0, cI a_.Ease.Curve.a1, cI a_.Ease.Curve.a2, cI a_.Ease.Curve.a3, cI a_.Ease.N, .ro false 3 (a_.Frames.map e_TSFrame)]]))), 1⟩ → (AThen (fun s' => ∃ s'' k', Weak 0 s' s'' ∧ k' < k + 1 ∧ (fun k s => ∃ (v55 : Int), anim_Check_l0 r_1 a_ K0_ k v55 = some o ∧ s = ⟨(upd (upd (upd (upd (fun _ => none) 1 (some (.c (.ref 0 12 0 0)))) 53 (some (.c (.ro false 3 (r_1.map e_TSFrame))))) 54 (some (I (r_1.length : Int)))) 55 (some (I v55))), (upd (fun _ => none) 0 (some (.cells 12 [[cI a_.From, cI a_.Length, cI a_.Times, cB a_.Turn, cB a_.Stays, cI a_.Ease.Kind, cI a_.Ease.Curve.a0, cI a_.Ease.Curve.a1, cI a_.Ease.Curve.a2, cI a_.Ease.Curve.a3, cI a_.Ease.N, .ro false 3 (a_.Frames.map e_TSFrame)]]))), 1⟩) k' s'') Q) .normal s := fun v55 h s hw => ⟨_, k, hw, Nat.lt_succ_self k, v55, h, rfl⟩
  refine Sv.seq ?_
  refine Sv.region ?_
  refine un (a1 (v := (B (decide (v55 < (r_1.length : Int))))) rfl ?_)
  refine dnil ?_
  refine Sv.seq ?_
  refine Sv.cond (b := decide (v55 < (r_1.length : Int))) rfl (fun hc7 => ?_) (fun hc7 => ?_)
  · replace h := ifT hc7 h
    refine Sv.skip ?_
    refine Sv.seq ?_
    refine Sv.block ?_
    refine Sv.seq ?_
    refine Sv.region ?_
    refine un (a1 rfl ?_)
    obtain ⟨x_, hx2, h⟩ := bnd h
    refine un (a1 (v := (.c (.rop [cI x_.At, cI x_.Val.Kind, cI x_.Val.N]))) (s_iaddr (e := e_TSFrame) (xs := r_1) rfl rfl hx2) ?_)
    refine un (a1 (v := (.agg [cI x_.At, cI x_.Val.Kind, cI x_.Val.N])) rfl ?_)
    refine un (a2v (v := (.c (.ref 1 3 0 0))) (h' := upd _ 1 (some (.cells 3 [[cI 0, cI 0, cI 0]]))) (n' := 2) rfl rfl (fun h => by cases h) ?_)
    refine un (a1 rfl ?_)
    refine un (a2n (h' := upd _ 1 (some (.cells 3 [[cI x_.At, cI x_.Val.Kind, cI x_.Val.N]]))) (n' := 2) rfl rfl (fun h => by cases h) ?_)
    refine dnil ?_
    refine Sv.seq ?_
    refine Sv.drawn ?_
    refine un (a1 (v := (.c (.ref 1 3 0 0))) rfl ?_)
    refine un (a1 (v := (I x_.At)) rfl ?_)
    refine un (a1 (v := (.c (.ref 0 12 0 11))) rfl ?_)
    refine un (a1 (v := (.c (.ro false 3 (a_.Frames.map e_TSFrame)))) rfl ?_)
    refine un (a1 rfl ?_)
    obtain ⟨x_1, hx3, h⟩ := bnd h
    refine un (a1 (v := (.c (.rop [cI x_1.At, cI x_1.Val.Kind, cI x_1.Val.N]))) (s_iaddr (e := e_TSFrame) (xs := a_.Frames) rfl rfl hx3) ?_)
    refine un (a1 (v := (.c (.rop [cI x_1.At, cI x_1.Val.Kind, cI x_1.Val.N]))) rfl ?_)
    refine un (a1 (v := (I x_1.At)) rfl ?_)
    refine un (a1 (v := (B (decide (x_.At ≤ x_1.At)))) rfl ?_)
    refine dnil ?_
    refine Sv.cond (b := decide (x_.At ≤ x_1.At)) rfl (fun hc8 => ?_) (fun hc8 => ?_)
    · replace h := ifT hc8 h
      refine Sv.seq ?_
      refine Sv.region ?_
      refine un (a1 rfl ?_)
      refine dnil ?_
      refine Sv.ret ?_
      replace h := Option.some.inj h
      subst h
      exact hr _ ⟨_, .refl _, _, rfl, ⟨upd (fun _ => none) 0 (some (I 3)), (fun _ => none), 0⟩, (I 3), weak_canon [] rfl List.nodup_nil (Nat.le_refl _) (fun b h => absurd h (Nat.not_lt_zero _)) (.cons rfl (avAs_free rfl) .nil) .nil, rfl, rfl, rfl, rfl⟩
    · replace h := ifF hc8 h
      refine Sv.skip ?_
      refine Sv.region ?_
      refine un (a1 (v := (I (wi (v55 + 1)))) rfl ?_)
      refine un (a1 rfl ?_)
      refine dnil ?_
      exact hself (wi (v55 + 1)) h _ (weak_canon [0] rfl (by decide) (by decide) (fun b h => absurd h (Nat.not_lt_zero _)) (.cons rfl (avAs_free rfl) (.cons rfl (avAs_free rfl) (.cons rfl (avAs_free rfl) (.cons rfl (.c (.ref rfl (by decide))) .nil)))) (.box (by decide) rfl (blkAs_cells (.cons (.same rfl) (.cons (.same rfl) (.cons (.same rfl) (.cons (.same rfl) (.cons (.same rfl) (.cons (.same rfl) (.cons (.same rfl) (.cons (.same rfl) (.cons (.same rfl) (.cons (.same rfl) (.cons (.same rfl) (.cons (.same rfl) .nil))))))))))))) .nil))
  · replace h := ifF hc7 h
    refine Sv.exit ?_
    exact hK0 () h _ (weak_canon [] rfl (by decide) (by decide) (fun b h => absurd h (Nat.not_lt_zero _)) .nil .nil)
abbrev anim_Check_q0 (Γ : Glob) (o : Int) : AExit → St → Prop := AThen (Sv Try.prog Γ 0 a21_c2 (Ends a21.results 0 (anim_Check_post o))) (Ends a21.results 0 (anim_Check_post o))
noncomputable def anim_Check_j1 (a_ : TSAnim) (v50 : Bool) : Option Int :=
  if v50 then
    some 3
  else
    (sub? a_.Frames 1 (a_.Frames.length : Int)).bind fun r_1 =>
    lim fun kk => anim_Check_l0 r_1 a_ (fun (_ : Unit) => 
        some 0) kk 0
theorem anim_Check_j1_ok {Γ : Glob} {a_ : TSAnim} {v50 : Bool} {o : Int} (h : anim_Check_j1 a_ v50 = some o) :
    Sv Try.prog Γ 0 a21_c0 (anim_Check_q0 Γ o) ⟨(upd (upd (fun _ => none) 1 (some (.c (.ref 0 12 0 0)))) 50 (some (B v50))), (upd (fun _ => none) 0 (some (.cells 12 [[cI a_.From, cI a_.Length, cI a_.Times, cB a_.Turn, cB a_.Stays, cI a_.Ease.Kind, cI a_.Ease.Curve.a0, cI a_.Ease.Curve.a1, cI a_.Ease.Curve.a2, cI a_.Ease.Curve.a3, cI a_.Ease.N, .ro false 3 (a_.Frames.map e_TSFrame)]]))), 1⟩ := by
  unfold anim_Check_j1 at h
  refine Sv.cond (b := v50) rfl (fun hc6 => ?_) (fun hc6 => ?_)
  · replace h := ifT hc6 h
    refine Sv.seq ?_
    refine Sv.region ?_
    refine un (a1 rfl ?_)
    refine dnil ?_
    refine Sv.ret ?_
    replace h := Option.some.inj h
    subst h
    exact ⟨_, .refl _, _, rfl, ⟨upd (fun _ => none) 0 (some (I 3)), (fun _ => none), 0⟩, (I 3), weak_canon [] rfl List.nodup_nil (Nat.le_refl _) (fun b h => absurd h (Nat.not_lt_zero _)) (.cons rfl (avAs_free rfl) .nil) .nil, rfl, rfl, rfl, rfl⟩
  · replace h := ifF hc6 h
    refine Sv.skip ?_
    refine Sv.seq ?_
    refine Sv.seq ?_
    refine Sv.region ?_
    refine un (a1 (v := (.c (.ref 0 12 0 11))) rfl ?_)
    refine un (a1 (v := (.c (.ro false 3 (a_.Frames.map e_TSFrame)))) rfl ?_)
    obtain ⟨r_1, hx1, h⟩ := bnd h
    refine un (a1 (v := (.c (.ro false 3 (r_1.map e_TSFrame)))) (s_slSl (e := e_TSFrame) rfl rfl rfl hx1) ?_)
    refine un (a1 (v := (I (r_1.length : Int))) (s_len (e := e_TSFrame) (xs := r_1) rfl) ?_)
    refine un (a1 rfl ?_)
    refine dnil ?_
    refine Sv.block ?_
    obtain ⟨kk, h⟩ := lim_some h
    refine Sv.weak (weak_canon [0] rfl (by decide) (by decide) (fun b h => absurd h (Nat.not_lt_zero _)) (.cons rfl (avAs_free rfl) (.cons rfl (avAs_free rfl) (.cons rfl (avAs_free rfl) (.cons rfl (.c (.ref rfl (by decide))) .nil)))) (.box (by decide) rfl (blkAs_cells (.cons (.same rfl) (.cons (.same rfl) (.cons (.same rfl) (.cons (.same rfl) (.cons (.same rfl) (.cons (.same rfl) (.cons (.same rfl) (.cons (.same rfl) (.cons (.same rfl) (.cons (.same rfl) (.cons (.same rfl) (.cons (.same rfl) .nil))))))))))))) .nil)) (anim_Check_l0_ok h ?_ (fun s hs => hs))
    · intro _ h _ hw1
      refine Sv.weak hw1 ?_
      refine Sv.seq ?_
      refine Sv.region ?_
      refine un (a1 rfl ?_)
      refine dnil ?_
      refine Sv.ret ?_
      replace h := Option.some.inj h
      subst h
      exact ⟨_, .refl _, _, rfl, ⟨upd (fun _ => none) 0 (some (I 0)), (fun _ => none), 0⟩, (I 0), weak_canon [] rfl List.nodup_nil (Nat.le_refl _) (fun b h => absurd h (Nat.not_lt_zero _)) (.cons rfl (avAs_free rfl) .nil) .nil, rfl, rfl, rfl, rfl⟩
/-- clerestory/anim.Check -/
noncomputable def anim_Check (a_ : TSAnim) : Option Int :=
  if (((!(anim_in a_.From 0 100000000)) || (!(anim_in a_.Length 1 100000000))) || (!(anim_in a_.Times 1 1000))) then
    some 1
  else
    (anim_easing a_.Ease).bind fun r_ =>
    if (!r_) then
      some 3
    else
      if decide (10 < (a_.Frames.length : Int)) then
        some 2
      else
        if decide ((a_.Frames.length : Int) < 2) then
          anim_Check_j1 a_ true
        else
          (at? a_.Frames 0).bind fun x_2 =>
          if (!decide (x_2.At = 0)) then
            anim_Check_j1 a_ true
          else
            (at? a_.Frames (wi ((a_.Frames.length : Int) - 1))).bind fun x_3 =>
            anim_Check_j1 a_ (!decide (x_3.At = 1000))
theorem anim_Check_ok {Γ : Glob} {a_ : TSAnim} {r : Int} (h : anim_Check a_ = some r) : CPure Try.prog Γ 21 [(.agg [cI a_.From, cI a_.Length, cI a_.Times, cB a_.Turn, cB a_.Stays, cI a_.Ease.Kind, cI a_.Ease.Curve.a0, cI a_.Ease.Curve.a1, cI a_.Ease.Curve.a2, cI a_.Ease.Curve.a3, cI a_.Ease.N, .ro false 3 (a_.Frames.map e_TSFrame)])] (I r) := by
  refine acalls_of_sv hmix c21 (R := anim_Check_post r) ?_
  unfold anim_Check at h
  refine Sv.seq ?_
  refine Sv.region ?_
  refine un (a2v (v := (.c (.ref 0 12 0 0))) (h' := upd _ 0 (some (.cells 12 [[cI a_.From, cI a_.Length, cI a_.Times, cB a_.Turn, cB a_.Stays, cI a_.Ease.Kind, cI a_.Ease.Curve.a0, cI a_.Ease.Curve.a1, cI a_.Ease.Curve.a2, cI a_.Ease.Curve.a3, cI a_.Ease.N, .ro false 3 (a_.Frames.map e_TSFrame)]]))) (n' := 1) rfl rfl (fun h => by cases h) ?_)
  refine un (a1 rfl ?_)
  refine dnil ?_
  refine Sv.seq ?_
  refine Sv.seq ?_
  refine Sv.region ?_
  refine un (a1 (v := (.c (.ref 0 12 0 0))) rfl ?_)
  refine un (a1 (v := (I a_.From)) rfl ?_)
  refine un (ac_pure (anim_in_ok (Γ := Γ) a_.From 0 100000000) rfl rfl rfl ?_)
  refine un (a1 (v := (B (!(anim_in a_.From 0 100000000)))) rfl ?_)
  refine un (a1 rfl ?_)
  refine gjoin 5 (d := 15) (v := (B ((!(anim_in a_.From 0 100000000)) || (!(anim_in a_.Length 1 100000000))))) (fun X hX => ?_) ?_
  · refine split2 (fun hc1 => ?_) (fun hc1 => ?_)
    · refine gs rfl rfl ?_
      refine gs rfl rfl ?_
      refine gs rfl rfl ?_
      refine gs rfl rfl ?_
      refine un (a1 (v := (B true)) rfl ?_)
      refine dnil ?_
      exact hX _ (.putEq (by rw [hc1]; rfl) (.skip _ _ (.skip _ _ (.skip _ _ (.skip _ _ (.putEq (by rw [hc1]) (.refl _)) rfl) rfl) rfl) rfl))
    · refine gt rfl (a1 (v := (.c (.ref 0 12 0 1))) rfl ?_)
      refine gt rfl (a1 (v := (I a_.Length)) rfl ?_)
      refine gt rfl (ac_pure (anim_in_ok (Γ := Γ) a_.Length 1 100000000) rfl rfl rfl ?_)
      refine gt rfl (a1 (v := (B (!(anim_in a_.Length 1 100000000)))) rfl ?_)
      refine un (a1 (v := (B (!(anim_in a_.Length 1 100000000)))) rfl ?_)
      refine dnil ?_
      exact hX _ (.putEq (by rw [hc1]; rfl) (.skip _ _ (.skip _ _ (.skip _ _ (.skip _ _ (.putEq (by rw [hc1]) (.refl _)) rfl) rfl) rfl) rfl))
  refine un (a1 rfl ?_)
  refine gjoin 5 (d := 21) (v := (B (((!(anim_in a_.From 0 100000000)) || (!(anim_in a_.Length 1 100000000))) || (!(anim_in a_.Times 1 1000))))) (fun X hX => ?_) ?_
  · refine split2 (fun hc2 => ?_) (fun hc2 => ?_)
    · refine gs rfl rfl ?_
      refine gs rfl rfl ?_
      refine gs rfl rfl ?_
      refine gs rfl rfl ?_
      refine un (a1 (v := (B true)) rfl ?_)
      refine dnil ?_
      exact hX _ (.putEq (by rw [hc2]; rfl) (.skip _ _ (.skip _ _ (.skip _ _ (.skip _ _ (.putEq (by rw [hc2]) (.refl _)) rfl) rfl) rfl) rfl))
    · refine gt rfl (a1 (v := (.c (.ref 0 12 0 2))) rfl ?_)
      refine gt rfl (a1 (v := (I a_.Times)) rfl ?_)
      refine gt rfl (ac_pure (anim_in_ok (Γ := Γ) a_.Times 1 1000) rfl rfl rfl ?_)
      refine gt rfl (a1 (v := (B (!(anim_in a_.Times 1 1000)))) rfl ?_)
      refine un (a1 (v := (B (!(anim_in a_.Times 1 1000)))) rfl ?_)
      refine dnil ?_
      exact hX _ (.putEq (by rw [hc2]; rfl) (.skip _ _ (.skip _ _ (.skip _ _ (.skip _ _ (.putEq (by rw [hc2]) (.refl _)) rfl) rfl) rfl) rfl))
  refine dnil ?_
  refine Sv.cond (b := (((!(anim_in a_.From 0 100000000)) || (!(anim_in a_.Length 1 100000000))) || (!(anim_in a_.Times 1 1000)))) rfl (fun hc3 => ?_) (fun hc3 => ?_)
  · replace h := ifT hc3 h
    refine Sv.seq ?_
    refine Sv.region ?_
    refine un (a1 rfl ?_)
    refine dnil ?_
    refine Sv.ret ?_
    replace h := Option.some.inj h
    subst h
    exact ⟨_, .refl _, _, rfl, ⟨upd (fun _ => none) 0 (some (I 1)), (fun _ => none), 0⟩, (I 1), weak_canon [] rfl List.nodup_nil (Nat.le_refl _) (fun b h => absurd h (Nat.not_lt_zero _)) (.cons rfl (avAs_free rfl) .nil) .nil, rfl, rfl, rfl, rfl⟩
  · replace h := ifF hc3 h
    refine Sv.skip ?_
    refine Sv.seq ?_
    refine Sv.seq ?_
    refine Sv.region ?_
    refine un (a1 (v := (.c (.ref 0 12 0 5))) rfl ?_)
    refine un (a1 (v := (.agg [cI a_.Ease.Kind, cI a_.Ease.Curve.a0, cI a_.Ease.Curve.a1, cI a_.Ease.Curve.a2, cI a_.Ease.Curve.a3, cI a_.Ease.N])) rfl ?_)
    obtain ⟨r_, hr1, h⟩ := bnd h
    refine un (ac_pure (anim_easing_ok hr1) rfl rfl rfl ?_)
    refine un (a1 (v := (B (!r_))) rfl ?_)
    refine dnil ?_
    refine Sv.cond (b := (!r_)) rfl (fun hc4 => ?_) (fun hc4 => ?_)
    · replace h := ifT hc4 h
      refine Sv.seq ?_
      refine Sv.region ?_
      refine un (a1 rfl ?_)
      refine dnil ?_
      refine Sv.ret ?_
      replace h := Option.some.inj h
      subst h
      exact ⟨_, .refl _, _, rfl, ⟨upd (fun _ => none) 0 (some (I 3)), (fun _ => none), 0⟩, (I 3), weak_canon [] rfl List.nodup_nil (Nat.le_refl _) (fun b h => absurd h (Nat.not_lt_zero _)) (.cons rfl (avAs_free rfl) .nil) .nil, rfl, rfl, rfl, rfl⟩
    · replace h := ifF hc4 h
      refine Sv.skip ?_
      refine Sv.seq ?_
      refine Sv.region ?_
      refine un (a1 (v := (.c (.ref 0 12 0 11))) rfl ?_)
      refine un (a1 (v := (.c (.ro false 3 (a_.Frames.map e_TSFrame)))) rfl ?_)
      refine un (a1 (v := (I (a_.Frames.length : Int))) (s_len (e := e_TSFrame) (xs := a_.Frames) rfl) ?_)
      refine un (a1 rfl ?_)
      refine dnil ?_
      refine Sv.seq ?_
      refine Sv.seq ?_
      refine Sv.region ?_
      refine un (a1 rfl ?_)
      refine un (a1 (v := (B (decide (10 < (a_.Frames.length : Int))))) rfl ?_)
      refine dnil ?_
      refine Sv.cond (b := decide (10 < (a_.Frames.length : Int))) rfl (fun hc5 => ?_) (fun hc5 => ?_)
      · replace h := ifT hc5 h
        refine Sv.seq ?_
        refine Sv.region ?_
        refine un (a1 rfl ?_)
        refine dnil ?_
        refine Sv.ret ?_
        replace h := Option.some.inj h
        subst h
        exact ⟨_, .refl _, _, rfl, ⟨upd (fun _ => none) 0 (some (I 2)), (fun _ => none), 0⟩, (I 2), weak_canon [] rfl List.nodup_nil (Nat.le_refl _) (fun b h => absurd h (Nat.not_lt_zero _)) (.cons rfl (avAs_free rfl) .nil) .nil, rfl, rfl, rfl, rfl⟩
      · replace h := ifF hc5 h
        refine Sv.skip ?_
        refine Sv.seq ?_
        refine Sv.seq ?_
        refine Sv.region ?_
        refine un (a1 rfl ?_)
        refine un (a1 (v := (B (decide ((a_.Frames.length : Int) < 2)))) rfl ?_)
        refine un (a1 rfl ?_)
        refine split2 (fun hc9 => ?_) (fun hc9 => ?_)
        · replace h := ifT hc9 h
          refine gs rfl rfl ?_
          refine gs rfl rfl ?_
          refine gs rfl rfl ?_
          refine gs rfl rfl ?_
          refine gs rfl rfl ?_
          refine gs rfl rfl ?_
          refine un (a1 (v := (B true)) rfl ?_)
          refine un (a1 rfl ?_)
          refine gs rfl rfl ?_
          refine gs rfl rfl ?_
          refine gs rfl rfl ?_
          refine gs rfl rfl ?_
          refine gs rfl rfl ?_
          refine gs rfl rfl ?_
          refine gs rfl rfl ?_
          refine gs rfl rfl ?_
          refine un (a1 (v := (B true)) rfl ?_)
          refine dnil ?_
          exact Sv.weak (weak_canon [0] rfl (by decide) (by decide) (fun b h => absurd h (Nat.not_lt_zero _)) (.cons rfl (avAs_free rfl) (.cons rfl (.c (.ref rfl (by decide))) .nil)) (.box (by decide) rfl (blkAs_cells (.cons (.same rfl) (.cons (.same rfl) (.cons (.same rfl) (.cons (.same rfl) (.cons (.same rfl) (.cons (.same rfl) (.cons (.same rfl) (.cons (.same rfl) (.cons (.same rfl) (.cons (.same rfl) (.cons (.same rfl) (.cons (.same rfl) .nil))))))))))))) .nil)) (anim_Check_j1_ok h)
        · replace h := ifF hc9 h
          refine gt rfl (a1 (v := (.c (.ref 0 12 0 11))) rfl ?_)
          refine gt rfl (a1 (v := (.c (.ro false 3 (a_.Frames.map e_TSFrame)))) rfl ?_)
          obtain ⟨x_2, hx4, h⟩ := bnd h
          refine gt rfl (a1 (v := (.c (.rop [cI x_2.At, cI x_2.Val.Kind, cI x_2.Val.N]))) (s_iaddr (e := e_TSFrame) (xs := a_.Frames) rfl rfl hx4) ?_)
          refine gt rfl (a1 (v := (.c (.rop [cI x_2.At, cI x_2.Val.Kind, cI x_2.Val.N]))) rfl ?_)
          refine gt rfl (a1 (v := (I x_2.At)) rfl ?_)
          refine gt rfl (a1 (v := (B (!decide (x_2.At = 0)))) rfl ?_)
          refine un (a1 (v := (B (!decide (x_2.At = 0)))) rfl ?_)
          refine un (a1 rfl ?_)
          refine split2 (fun hc10 => ?_) (fun hc10 => ?_)
          · replace h := ifT hc10 h
            refine gs rfl rfl ?_
            refine gs rfl rfl ?_
            refine gs rfl rfl ?_
            refine gs rfl rfl ?_
            refine gs rfl rfl ?_
            refine gs rfl rfl ?_
            refine gs rfl rfl ?_
            refine gs rfl rfl ?_
            refine un (a1 (v := (B true)) rfl ?_)
            refine dnil ?_
            exact Sv.weak (weak_canon [0] rfl (by decide) (by decide) (fun b h => absurd h (Nat.not_lt_zero _)) (.cons rfl (avAs_free rfl) (.cons rfl (.c (.ref rfl (by decide))) .nil)) (.box (by decide) rfl (blkAs_cells (.cons (.same rfl) (.cons (.same rfl) (.cons (.same rfl) (.cons (.same rfl) (.cons (.same rfl) (.cons (.same rfl) (.cons (.same rfl) (.cons (.same rfl) (.cons (.same rfl) (.cons (.same rfl) (.cons (.same rfl) (.cons (.same rfl) .nil))))))))))))) .nil)) (anim_Check_j1_ok h)
          · replace h := ifF hc10 h
            refine gt rfl (a1 (v := (.c (.ref 0 12 0 11))) rfl ?_)
            refine gt rfl (a1 (v := (.c (.ro false 3 (a_.Frames.map e_TSFrame)))) rfl ?_)
            refine gt rfl (a1 rfl ?_)
            refine gt rfl (a1 (v := (I (wi ((a_.Frames.length : Int) - 1)))) rfl ?_)
            obtain ⟨x_3, hx5, h⟩ := bnd h
            refine gt rfl (a1 (v := (.c (.rop [cI x_3.At, cI x_3.Val.Kind, cI x_3.Val.N]))) (s_iaddr (e := e_TSFrame) (xs := a_.Frames) rfl rfl hx5) ?_)
            refine gt rfl (a1 (v := (.c (.rop [cI x_3.At, cI x_3.Val.Kind, cI x_3.Val.N]))) rfl ?_)
            refine gt rfl (a1 (v := (I x_3.At)) rfl ?_)
            refine gt rfl (a1 (v := (B (!decide (x_3.At = 1000)))) rfl ?_)
            refine un (a1 (v := (B (!decide (x_3.At = 1000)))) rfl ?_)
            refine dnil ?_
            exact Sv.weak (weak_canon [0] rfl (by decide) (by decide) (fun b h => absurd h (Nat.not_lt_zero _)) (.cons rfl (avAs_free rfl) (.cons rfl (.c (.ref rfl (by decide))) .nil)) (.box (by decide) rfl (blkAs_cells (.cons (.same rfl) (.cons (.same rfl) (.cons (.same rfl) (.cons (.same rfl) (.cons (.same rfl) (.cons (.same rfl) (.cons (.same rfl) (.cons (.same rfl) (.cons (.same rfl) (.cons (.same rfl) (.cons (.same rfl) (.cons (.same rfl) .nil))))))))))))) .nil)) (anim_Check_j1_ok h)
end Go.Proofs.YtgfcmhomndofaaaBv
