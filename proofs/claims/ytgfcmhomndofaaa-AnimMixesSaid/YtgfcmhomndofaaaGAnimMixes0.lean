/- Printed by a program of mine (bgen.py): plain functions, and the walks that show that the code comes to what they answer. -/
import Derived.Test.YtgfcmhomndofaaaRows
import Derived.Test.YtgfcmhomndofaaaBv22
namespace Go.Proofs.YtgfcmhomndofaaaBv
open Go
set_option linter.unusedVariables false
set_option maxRecDepth 100000
theorem hmix : Try.prog.follows .mixedOrders = true := by kernel_rfl
structure TSEase where
  Kind : Int
  Curve : (Ar4 Int)
  N : Int
def e_TSEase (x : TSEase) : List Cel := [cI x.Kind, cI x.Curve.a0, cI x.Curve.a1, cI x.Curve.a2, cI x.Curve.a3, cI x.N]
structure TVal where
  Kind : Int
  N : Int
def e_TVal (x : TVal) : List Cel := [cI x.Kind, cI x.N]
def a40 : AFunc := ⟨3, [(.tmp 6)], (.seq (.region [⟨(some 6), (.mov (.const (.c (.val (.bool false))))), none⟩])
 (.seq (.region [⟨(some 7), (.mov (.tmp 0)), none⟩, ⟨(some 8), (.mov (.tmp 1)), none⟩, ⟨(some 9), (.bin .geq (.tmp 7) (.tmp 8)), none⟩, ⟨(some 10), (.mov (.tmp 9)), none⟩, ⟨(some 11), (.mov (.tmp 0)), (some (10, true))⟩, ⟨(some 12), (.mov (.tmp 2)), (some (10, true))⟩, ⟨(some 13), (.bin .leq (.tmp 11) (.tmp 12)), (some (10, true))⟩, ⟨(some 14), (.pick (.tmp 10) (.tmp 13) (.const (.c (.val (.bool false))))), none⟩, ⟨(some 6), (.mov (.tmp 14)), none⟩])
 .ret))⟩
set_option maxRecDepth 100000 in
theorem c40 : compFunc Try.prog 40 = some a40 := by kernel_rfl
def anim_in_post (r : Bool) : AV → Heap → Nat → Prop := fun v h' n' => v = (B r) ∧ (h' = fun _ => none) ∧ n' = 0
/-- clerestory/anim.in -/
def anim_in (n_ : Int) (low : Int) (high : Int) : Bool :=
  ((decide (low ≤ n_)) && (decide (n_ ≤ high)))
theorem anim_in_ok {Γ : Glob} (n_ : Int) (low : Int) (high : Int) : CPure Try.prog Γ 40 [(I n_), (I low), (I high)] (B (anim_in n_ low high)) := by
  generalize h : anim_in n_ low high = o
  refine acalls_of_sv hmix c40 (R := anim_in_post o) ?_
  unfold anim_in at h
  refine Sv.seq ?_
  refine Sv.region ?_
  refine un (a1 rfl ?_)
  refine dnil ?_
  refine Sv.seq ?_
  refine Sv.region ?_
  refine un (a1 rfl ?_)
  refine un (a1 rfl ?_)
  refine un (a1 (v := (B (decide (low ≤ n_)))) rfl ?_)
  refine un (a1 rfl ?_)
  refine gjoin 4 (d := 14) (v := (B ((decide (low ≤ n_)) && (decide (n_ ≤ high))))) (fun X hX => ?_) ?_
  · refine split2 (fun hc1 => ?_) (fun hc1 => ?_)
    · refine gt rfl (a1 rfl ?_)
      refine gt rfl (a1 rfl ?_)
      refine gt rfl (a1 (v := (B (decide (n_ ≤ high)))) rfl ?_)
      refine un (a1 (v := (B (decide (n_ ≤ high)))) rfl ?_)
      refine dnil ?_
      exact hX _ (.putEq (by rw [hc1]; rfl) (.skip _ _ (.skip _ _ (.skip _ _ (.putEq (by rw [hc1]) (.refl _)) rfl) rfl) rfl))
    · refine gs rfl rfl ?_
      refine gs rfl rfl ?_
      refine gs rfl rfl ?_
      refine un (a1 (v := (B false)) rfl ?_)
      refine dnil ?_
      exact hX _ (.putEq (by rw [hc1]; rfl) (.skip _ _ (.skip _ _ (.skip _ _ (.putEq (by rw [hc1]) (.refl _)) rfl) rfl) rfl))
  refine un (a1 rfl ?_)
  refine dnil ?_
  refine Sv.ret ?_
  subst h
  exact ⟨_, .refl _, _, rfl, ⟨upd (fun _ => none) 0 (some (B ((decide (low ≤ n_)) && (decide (n_ ≤ high))))), fun _ => none, 0⟩, (B ((decide (low ≤ n_)) && (decide (n_ ≤ high)))), weak_canon [] rfl List.nodup_nil (Nat.le_refl _) (fun b h => absurd h (Nat.not_lt_zero _)) (.cons rfl (avAs_free rfl) .nil) .nil, rfl, rfl, rfl, rfl⟩
def a39_c0 : ACode := (.seq (.region [⟨(some 28), (.bin .lss (.tmp 27) (.const (.c (.val (.int .i64 4))))), none⟩])
 (.seq (.cond (.tmp 28) .skip (.exit 1))
 (.seq (.block 2 (.seq (.region [⟨(some 29), (.idxA false 4 1 (.tmp 26) (.tmp 27)), none⟩, ⟨(some 4), (.mov (.tmp 29)), none⟩])
 (.seq (.region [⟨(some 30), (.mov (.tmp 4)), none⟩, ⟨(some 31), (.call 40 [(.tmp 30), (.const (.c (.val (.int .i64 0)))), (.const (.c (.val (.int .i64 1000))))]), none⟩, ⟨(some 32), (.un .not (.tmp 31)), none⟩])
 (.cond (.tmp 32) (.seq (.region [⟨(some 2), (.mov (.const (.c (.val (.bool false))))), none⟩])
 .ret) .skip))))
 (.region [⟨(some 33), (.bin .add (.tmp 27) (.const (.c (.val (.int .i64 1))))), none⟩, ⟨(some 27), (.mov (.tmp 33)), none⟩]))))
def a39 : AFunc := ⟨1, [(.tmp 2)], (.seq (.region [⟨(some 1), (.box (.tmp 0)), none⟩, ⟨(some 2), (.mov (.const (.c (.val (.bool false))))), none⟩])
 (.seq (.seq (.region [⟨(some 5), (.faddr 0 (.tmp 1)), none⟩, ⟨(some 6), (.load false 1 (.tmp 5)), none⟩])
 (.block 0 (.seq (.region [⟨(some 8), (.bin .eql (.tmp 6) (.const (.c (.val (.int .i64 1))))), none⟩, ⟨(some 7), (.mov (.tmp 8)), none⟩])
 (.cond (.tmp 7) (.seq (.region [⟨(some 9), (.load true 6 (.tmp 1)), none⟩, ⟨(some 10), (.build [(.val (.int .i64 0)), (.val (.int .i64 0)), (.val (.int .i64 0)), (.val (.int .i64 0)), (.val (.int .i64 0)), (.val (.int .i64 0))] [(0, (1, (.const (.c (.val (.int .i64 1))))))]), none⟩, ⟨(some 11), (.eqs false true [.i, .i, .i, .i, .i, .i] (.tmp 9) (.tmp 10)), none⟩, ⟨(some 2), (.mov (.tmp 11)), none⟩])
 .ret) (.seq (.region [⟨(some 13), (.bin .eql (.tmp 6) (.const (.c (.val (.int .i64 3))))), none⟩, ⟨(some 12), (.mov (.tmp 13)), none⟩])
 (.cond (.tmp 12) (.seq (.region [⟨(some 14), (.faddr 5 (.tmp 1)), none⟩, ⟨(some 15), (.load false 1 (.tmp 14)), none⟩, ⟨(some 16), (.call 40 [(.tmp 15), (.const (.c (.val (.int .i64 1)))), (.const (.c (.val (.int .i64 1000))))]), none⟩, ⟨(some 17), (.mov (.tmp 16)), none⟩, ⟨(some 18), (.faddr 1 (.tmp 1)), (some (17, true))⟩, ⟨(some 19), (.load true 4 (.tmp 18)), (some (17, true))⟩, ⟨(some 20), (.build [(.val (.int .i64 0)), (.val (.int .i64 0)), (.val (.int .i64 0)), (.val (.int .i64 0))] []), (some (17, true))⟩, ⟨(some 21), (.eqs false true [.i, .i, .i, .i] (.tmp 19) (.tmp 20)), (some (17, true))⟩, ⟨(some 22), (.pick (.tmp 17) (.tmp 21) (.const (.c (.val (.bool false))))), none⟩, ⟨(some 2), (.mov (.tmp 22)), none⟩])
 .ret) (.seq (.region [⟨(some 24), (.bin .eql (.tmp 6) (.const (.c (.val (.int .i64 2))))), none⟩, ⟨(some 23), (.mov (.tmp 24)), none⟩])
 (.cond (.tmp 23) (.seq (.seq (.region [⟨(some 25), (.faddr 1 (.tmp 1)), none⟩, ⟨(some 26), (.load true 4 (.tmp 25)), none⟩, ⟨(some 27), (.mov (.const (.c (.val (.int .i64 0))))), none⟩])
 (.block 1 (.loop a39_c0)))
 (.seq (.region [⟨(some 34), (.faddr 5 (.tmp 1)), none⟩, ⟨(some 35), (.load false 1 (.tmp 34)), none⟩, ⟨(some 36), (.bin .eql (.tmp 35) (.const (.c (.val (.int .i64 0))))), none⟩, ⟨(some 2), (.mov (.tmp 36)), none⟩])
 .ret)) .skip))))))))
 (.seq (.region [⟨(some 2), (.mov (.const (.c (.val (.bool false))))), none⟩])
 .ret)))⟩
set_option maxRecDepth 100000 in
theorem c39 : compFunc Try.prog 39 = some a39 := by kernel_rfl
def anim_easing_post (r : Bool) : AV → Heap → Nat → Prop := fun v h' n' => v = (B r) ∧ (h' = fun _ => none) ∧ n' = 0
noncomputable def anim_easing_l0 (e_ : TSEase) (K1_ : Unit → Option Bool) : Nat → Int → Option Bool
  | 0, _ => none
  | k + 1, v27 =>
    if decide (v27 < 4) then
      (at? [e_.Curve.a0, e_.Curve.a1, e_.Curve.a2, e_.Curve.a3] v27).bind fun x_ =>
      if (!(anim_in x_ 0 1000)) then
        some false
      else
        (anim_easing_l0 e_ K1_ k) (wi (v27 + 1))
    else
      K1_ ()
theorem anim_easing_l0_ok {Γ : Glob} {Q : AExit → St → Prop} {e_ : TSEase} {K1_ : Unit → Option Bool} {k : Nat} {v27 : Int} {o : Bool} (h : anim_easing_l0 e_ K1_ k v27 = some o)
    (hK1 : ∀ (_ : Unit), K1_ () = some o → ∀ s, Weak 0 s ⟨(upd (fun _ => none) 1 (some (.c (.ref 0 6 0 0)))), (upd (fun _ => none) 0 (some (.cells 6 [[cI e_.Kind, cI e_.Curve.a0, cI e_.Curve.a1, cI e_.Curve.a2, cI e_.Curve.a3, cI e_.N]]))), 1⟩ → Q (.exit 1) s)
    (hr : ∀ s, Ends a39.results 0 (anim_easing_post o) .ret s → Q .ret s) :
    Sv Try.prog Γ 0 (.loop a39_c0) Q ⟨(upd (upd (upd (fun _ => none) 1 (some (.c (.ref 0 6 0 0)))) 26 (some (.agg [cI e_.Curve.a0, cI e_.Curve.a1, cI e_.Curve.a2, cI e_.Curve.a3]))) 27 (some (I v27))), (upd (fun _ => none) 0 (some (.cells 6 [[cI e_.Kind, cI e_.Curve.a0, cI e_.Curve.a1, cI e_.Curve.a2, cI e_.Curve.a3, cI e_.N]]))), 1⟩ := by
  refine Sv.loop (I := fun k s => ∃ (v27 : Int), anim_easing_l0 e_ K1_ k v27 = some o ∧ s = ⟨(upd (upd (upd (fun _ => none) 1 (some (.c (.ref 0 6 0 0)))) 26 (some (.agg [cI e_.Curve.a0, cI e_.Curve.a1, cI e_.Curve.a2, cI e_.Curve.a3]))) 27 (some (I v27))), (upd (fun _ => none) 0 (some (.cells 6 [[cI e_.Kind, cI e_.Curve.a0, cI e_.Curve.a1, cI e_.Curve.a2, cI e_.Curve.a3, cI e_.N]]))), 1⟩) (fun k s hI => ?_) ⟨v27, h, rfl⟩
  clear h
  clear v27
  obtain ⟨v27, h, rfl⟩ := hI
  cases k with
  | zero => cases h
  | succ k =>
  rw [anim_easing_l0] at h
  have hself : ∀ (v27 : Int), (anim_easing_l0 e_ K1_ k) v27 = some o → ∀ s, Weak 0 s ⟨(upd (upd (upd (fun _ => none) 1 (some (.c (.ref 0 6 0 0)))) 26 (some (.agg [cI e_.Curve.a0, cI e_.Curve.a1, cI e_.Curve.a2, cI e_.Curve.a3]))) 27 (some (I v27))), (upd (fun _ => none) 0 (some (.cells 6 [[cI e_.Kind, cI e_.Curve.a0, cI e_.Curve.a1, cI e_.Curve.a2, cI e_.Curve.a3, cI e_.N]]))), 1⟩ → (AThen (fun s' => ∃ s'' k', Weak 0 s' s'' ∧ k' < k + 1 ∧ (fun k s => ∃ (v27 : Int), anim_easing_l0 e_ K1_ k v27 = some o ∧ s = ⟨(upd (upd (upd (fun _ => none) 1 (some (.c (.ref 0 6 0 0)))) 26 (some (.agg [cI e_.Curve.a0, cI e_.Curve.a1, cI e_.Curve.a2, cI e_.Curve.a3]))) 27 (some (I v27))), (upd (fun _ => none) 0 (some (.cells 6 [[cI e_.Kind, cI e_.Curve.a0, cI e_.Curve.a1, cI e_.Curve.a2, cI e_.Curve.a3, cI e_.N]]))), 1⟩) k' s'') Q) .normal s := fun v27 h s hw => ⟨_, k, hw, Nat.lt_succ_self k, v27, h, rfl⟩
  refine Sv.seq ?_
  refine Sv.region ?_
  refine un (a1 (v := (B (decide (v27 < 4)))) rfl ?_)
  refine dnil ?_
  refine Sv.seq ?_
  refine Sv.cond (b := decide (v27 < 4)) rfl (fun hc5 => ?_) (fun hc5 => ?_)
  · replace h := ifT hc5 h
    refine Sv.skip ?_
    refine Sv.seq ?_
    refine Sv.block ?_
    refine Sv.seq ?_
    refine Sv.region ?_
    obtain ⟨x_, hx1, h⟩ := bnd h
    refine un (a1 (v := (I x_)) (s_idxA (L := [e_.Curve.a0, e_.Curve.a1, e_.Curve.a2, e_.Curve.a3]) (v := fun q => (I q)) rfl rfl rfl (.cons rfl (.cons rfl (.cons rfl (.cons rfl .nil)))) hx1) ?_)
    refine un (a1 rfl ?_)
    refine dnil ?_
    refine Sv.seq ?_
    refine Sv.region ?_
    refine un (a1 rfl ?_)
    refine un (ac_pure (anim_in_ok (Γ := Γ) x_ 0 1000) rfl rfl rfl ?_)
    refine un (a1 (v := (B (!(anim_in x_ 0 1000)))) rfl ?_)
    refine dnil ?_
    refine Sv.cond (b := (!(anim_in x_ 0 1000))) rfl (fun hc6 => ?_) (fun hc6 => ?_)
    · replace h := ifT hc6 h
      refine Sv.seq ?_
      refine Sv.region ?_
      refine un (a1 rfl ?_)
      refine dnil ?_
      refine Sv.ret ?_
      replace h := Option.some.inj h
      subst h
      exact hr _ ⟨_, .refl _, _, rfl, ⟨upd (fun _ => none) 0 (some (B false)), fun _ => none, 0⟩, (B false), weak_canon [] rfl List.nodup_nil (Nat.le_refl _) (fun b h => absurd h (Nat.not_lt_zero _)) (.cons rfl (avAs_free rfl) .nil) .nil, rfl, rfl, rfl, rfl⟩
    · replace h := ifF hc6 h
      refine Sv.skip ?_
      refine Sv.region ?_
      refine un (a1 (v := (I (wi (v27 + 1)))) rfl ?_)
      refine un (a1 rfl ?_)
      refine dnil ?_
      exact hself (wi (v27 + 1)) h _ (weak_canon [0] rfl (by decide) (by decide) (fun b h => absurd h (Nat.not_lt_zero _)) (.cons rfl (avAs_free rfl) (.cons rfl (avAs_free rfl) (.cons rfl (.c (.ref rfl (by decide))) .nil))) (.box (by decide) rfl (blkAs_cells (.cons (.same rfl) (.cons (.same rfl) (.cons (.same rfl) (.cons (.same rfl) (.cons (.same rfl) (.cons (.same rfl) .nil))))))) .nil))
  · replace h := ifF hc5 h
    refine Sv.exit ?_
    exact hK1 () h _ (weak_canon [0] rfl (by decide) (by decide) (fun b h => absurd h (Nat.not_lt_zero _)) (.cons rfl (.c (.ref rfl (by decide))) .nil) (.box (by decide) rfl (blkAs_cells (.cons (.same rfl) (.cons (.same rfl) (.cons (.same rfl) (.cons (.same rfl) (.cons (.same rfl) (.cons (.same rfl) .nil))))))) .nil))
/-- clerestory/anim.easing -/
noncomputable def anim_easing (e_ : TSEase) : Option Bool :=
  if decide (e_.Kind = 1) then
    letIn (decide (e_.Kind = 1) && (decide (e_.Curve.a0 = 0) && (decide (e_.Curve.a1 = 0) && (decide (e_.Curve.a2 = 0) && (decide (e_.Curve.a3 = 0) && (decide (e_.N = 0) && true)))))) fun v11 : Bool =>
    some v11
  else
    if decide (e_.Kind = 3) then
      some ((anim_in e_.N 1 1000) && (decide (e_.Curve.a0 = 0) && (decide (e_.Curve.a1 = 0) && (decide (e_.Curve.a2 = 0) && (decide (e_.Curve.a3 = 0) && true)))))
    else
      if decide (e_.Kind = 2) then
        lim fun kk => anim_easing_l0 e_ (fun (_ : Unit) => 
            some (decide (e_.N = 0))) kk 0
      else
        some false
theorem anim_easing_ok {Γ : Glob} {e_ : TSEase} {r : Bool} (h : anim_easing e_ = some r) : CPure Try.prog Γ 39 [(.agg [cI e_.Kind, cI e_.Curve.a0, cI e_.Curve.a1, cI e_.Curve.a2, cI e_.Curve.a3, cI e_.N])] (B r) := by
  refine acalls_of_sv hmix c39 (R := anim_easing_post r) ?_
  unfold anim_easing at h
  refine Sv.seq ?_
  refine Sv.region ?_
  refine un (a2v (v := (.c (.ref 0 6 0 0))) (h' := upd _ 0 (some (.cells 6 [[cI e_.Kind, cI e_.Curve.a0, cI e_.Curve.a1, cI e_.Curve.a2, cI e_.Curve.a3, cI e_.N]]))) (n' := 1) rfl rfl (fun h => by cases h) ?_)
  refine un (a1 rfl ?_)
  refine dnil ?_
  refine Sv.seq ?_
  refine Sv.seq ?_
  refine Sv.region ?_
  refine un (a1 (v := (.c (.ref 0 6 0 0))) rfl ?_)
  refine un (a1 (v := (I e_.Kind)) rfl ?_)
  refine dnil ?_
  refine Sv.block ?_
  refine Sv.seq ?_
  refine Sv.region ?_
  refine un (a1 (v := (B (decide (e_.Kind = 1)))) rfl ?_)
  refine un (a1 rfl ?_)
  refine dnil ?_
  refine Sv.cond (b := decide (e_.Kind = 1)) rfl (fun hc1 => ?_) (fun hc1 => ?_)
  · replace h := ifT hc1 h
    refine Sv.seq ?_
    refine Sv.region ?_
    refine un (a1 (v := (.agg [cI e_.Kind, cI e_.Curve.a0, cI e_.Curve.a1, cI e_.Curve.a2, cI e_.Curve.a3, cI e_.N])) rfl ?_)
    refine un (a1 (v := (.agg [cI 1, cI 0, cI 0, cI 0, cI 0, cI 0])) rfl ?_)
    obtain ⟨v11, hv11⟩ : ∃ v11 : Bool, v11 = (decide (e_.Kind = 1) && (decide (e_.Curve.a0 = 0) && (decide (e_.Curve.a1 = 0) && (decide (e_.Curve.a2 = 0) && (decide (e_.Curve.a3 = 0) && (decide (e_.N = 0) && true)))))) := ⟨_, rfl⟩
    replace h := letAt hv11 h
    refine un (a1 (v := (B v11)) (by rw [hv11]; rfl) ?_)
    clear hv11
    refine un (a1 rfl ?_)
    refine dnil ?_
    refine Sv.ret ?_
    replace h := Option.some.inj h
    subst h
    exact ⟨_, .refl _, _, rfl, ⟨upd (fun _ => none) 0 (some (B v11)), fun _ => none, 0⟩, (B v11), weak_canon [] rfl List.nodup_nil (Nat.le_refl _) (fun b h => absurd h (Nat.not_lt_zero _)) (.cons rfl (avAs_free rfl) .nil) .nil, rfl, rfl, rfl, rfl⟩
  · replace h := ifF hc1 h
    refine Sv.seq ?_
    refine Sv.region ?_
    refine un (a1 (v := (B (decide (e_.Kind = 3)))) rfl ?_)
    refine un (a1 rfl ?_)
    refine dnil ?_
    refine Sv.cond (b := decide (e_.Kind = 3)) rfl (fun hc2 => ?_) (fun hc2 => ?_)
    · replace h := ifT hc2 h
      refine Sv.seq ?_
      refine Sv.region ?_
      refine un (a1 (v := (.c (.ref 0 6 0 5))) rfl ?_)
      refine un (a1 (v := (I e_.N)) rfl ?_)
      refine un (ac_pure (anim_in_ok (Γ := Γ) e_.N 1 1000) rfl rfl rfl ?_)
      refine un (a1 rfl ?_)
      refine gjoin 5 (d := 22) (v := (B ((anim_in e_.N 1 1000) && (decide (e_.Curve.a0 = 0) && (decide (e_.Curve.a1 = 0) && (decide (e_.Curve.a2 = 0) && (decide (e_.Curve.a3 = 0) && true))))))) (fun X hX => ?_) ?_
      · refine split2 (fun hc3 => ?_) (fun hc3 => ?_)
        · refine gt rfl (a1 (v := (.c (.ref 0 6 0 1))) rfl ?_)
          refine gt rfl (a1 (v := (.agg [cI e_.Curve.a0, cI e_.Curve.a1, cI e_.Curve.a2, cI e_.Curve.a3])) rfl ?_)
          refine gt rfl (a1 (v := (.agg [cI 0, cI 0, cI 0, cI 0])) rfl ?_)
          refine gt rfl (a1 (v := (B (decide (e_.Curve.a0 = 0) && (decide (e_.Curve.a1 = 0) && (decide (e_.Curve.a2 = 0) && (decide (e_.Curve.a3 = 0) && true)))))) rfl ?_)
          refine un (a1 (v := (B (decide (e_.Curve.a0 = 0) && (decide (e_.Curve.a1 = 0) && (decide (e_.Curve.a2 = 0) && (decide (e_.Curve.a3 = 0) && true)))))) rfl ?_)
          refine dnil ?_
          exact hX _ (.putEq (by rw [hc3]; rfl) (.skip _ _ (.skip _ _ (.skip _ _ (.skip _ _ (.putEq (by rw [hc3]) (.refl _)) rfl) rfl) rfl) rfl))
        · refine gs rfl rfl ?_
          refine gs rfl rfl ?_
          refine gs rfl rfl ?_
          refine gs rfl rfl ?_
          refine un (a1 (v := (B false)) rfl ?_)
          refine dnil ?_
          exact hX _ (.putEq (by rw [hc3]; rfl) (.skip _ _ (.skip _ _ (.skip _ _ (.skip _ _ (.putEq (by rw [hc3]) (.refl _)) rfl) rfl) rfl) rfl))
      refine un (a1 rfl ?_)
      refine dnil ?_
      refine Sv.ret ?_
      replace h := Option.some.inj h
      subst h
      exact ⟨_, .refl _, _, rfl, ⟨upd (fun _ => none) 0 (some (B ((anim_in e_.N 1 1000) && (decide (e_.Curve.a0 = 0) && (decide (e_.Curve.a1 = 0) && (decide (e_.Curve.a2 = 0) && (decide (e_.Curve.a3 = 0) && true))))))), fun _ => none, 0⟩, (B ((anim_in e_.N 1 1000) && (decide (e_.Curve.a0 = 0) && (decide (e_.Curve.a1 = 0) && (decide (e_.Curve.a2 = 0) && (decide (e_.Curve.a3 = 0) && true)))))), weak_canon [] rfl List.nodup_nil (Nat.le_refl _) (fun b h => absurd h (Nat.not_lt_zero _)) (.cons rfl (avAs_free rfl) .nil) .nil, rfl, rfl, rfl, rfl⟩
    · replace h := ifF hc2 h
      refine Sv.seq ?_
      refine Sv.region ?_
      refine un (a1 (v := (B (decide (e_.Kind = 2)))) rfl ?_)
      refine un (a1 rfl ?_)
      refine dnil ?_
      refine Sv.cond (b := decide (e_.Kind = 2)) rfl (fun hc4 => ?_) (fun hc4 => ?_)
      · replace h := ifT hc4 h
        refine Sv.seq ?_
        refine Sv.seq ?_
        refine Sv.region ?_
        refine un (a1 (v := (.c (.ref 0 6 0 1))) rfl ?_)
        refine un (a1 (v := (.agg [cI e_.Curve.a0, cI e_.Curve.a1, cI e_.Curve.a2, cI e_.Curve.a3])) rfl ?_)
        refine un (a1 rfl ?_)
        refine dnil ?_
        refine Sv.block ?_
        obtain ⟨kk, h⟩ := lim_some h
        refine Sv.weak (weak_canon [0] rfl (by decide) (by decide) (fun b h => absurd h (Nat.not_lt_zero _)) (.cons rfl (avAs_free rfl) (.cons rfl (avAs_free rfl) (.cons rfl (.c (.ref rfl (by decide))) .nil))) (.box (by decide) rfl (blkAs_cells (.cons (.same rfl) (.cons (.same rfl) (.cons (.same rfl) (.cons (.same rfl) (.cons (.same rfl) (.cons (.same rfl) .nil))))))) .nil)) (anim_easing_l0_ok h ?_ (fun s hs => hs))
        · intro _ h _ hw1
          refine Sv.weak hw1 ?_
          refine Sv.seq ?_
          refine Sv.region ?_
          refine un (a1 (v := (.c (.ref 0 6 0 5))) rfl ?_)
          refine un (a1 (v := (I e_.N)) rfl ?_)
          refine un (a1 (v := (B (decide (e_.N = 0)))) rfl ?_)
          refine un (a1 rfl ?_)
          refine dnil ?_
          refine Sv.ret ?_
          replace h := Option.some.inj h
          subst h
          exact ⟨_, .refl _, _, rfl, ⟨upd (fun _ => none) 0 (some (B (decide (e_.N = 0)))), fun _ => none, 0⟩, (B (decide (e_.N = 0))), weak_canon [] rfl List.nodup_nil (Nat.le_refl _) (fun b h => absurd h (Nat.not_lt_zero _)) (.cons rfl (avAs_free rfl) .nil) .nil, rfl, rfl, rfl, rfl⟩
      · replace h := ifF hc4 h
        refine Sv.skip ?_
        refine Sv.seq ?_
        refine Sv.region ?_
        refine un (a1 rfl ?_)
        refine dnil ?_
        refine Sv.ret ?_
        replace h := Option.some.inj h
        subst h
        exact ⟨_, .refl _, _, rfl, ⟨upd (fun _ => none) 0 (some (B false)), fun _ => none, 0⟩, (B false), weak_canon [] rfl List.nodup_nil (Nat.le_refl _) (fun b h => absurd h (Nat.not_lt_zero _)) (.cons rfl (avAs_free rfl) .nil) .nil, rfl, rfl, rfl, rfl⟩
def a68 : AFunc := ⟨3, [(.tmp 6)], (.seq (.region [⟨(some 6), (.mov (.const (.c (.val (.int .i64 0))))), none⟩])
 (.seq (.region [⟨(some 8), (.mov (.tmp 2)), none⟩, ⟨(some 9), (.bin .sub (.const (.c (.val (.int .i64 4096)))) (.tmp 8)), none⟩, ⟨(some 7), (.mov (.tmp 9)), none⟩])
 (.seq (.region [⟨(some 10), (.mov (.tmp 7)), none⟩, ⟨(some 11), (.bin .mul (.const (.c (.val (.int .i64 3)))) (.tmp 10)), none⟩, ⟨(some 12), (.mov (.tmp 7)), none⟩, ⟨(some 13), (.bin .mul (.tmp 11) (.tmp 12)), none⟩, ⟨(some 14), (.mov (.tmp 2)), none⟩, ⟨(some 15), (.bin .mul (.tmp 13) (.tmp 14)), none⟩, ⟨(some 16), (.mov (.tmp 0)), none⟩, ⟨(some 17), (.bin .mul (.tmp 15) (.tmp 16)), none⟩, ⟨(some 18), (.mov (.tmp 7)), none⟩, ⟨(some 19), (.bin .mul (.const (.c (.val (.int .i64 3)))) (.tmp 18)), none⟩, ⟨(some 20), (.mov (.tmp 2)), none⟩, ⟨(some 21), (.bin .mul (.tmp 19) (.tmp 20)), none⟩, ⟨(some 22), (.mov (.tmp 2)), none⟩, ⟨(some 23), (.bin .mul (.tmp 21) (.tmp 22)), none⟩, ⟨(some 24), (.mov (.tmp 1)), none⟩, ⟨(some 25), (.bin .mul (.tmp 23) (.tmp 24)), none⟩, ⟨(some 26), (.bin .add (.tmp 17) (.tmp 25)), none⟩, ⟨(some 27), (.mov (.tmp 2)), none⟩, ⟨(some 28), (.mov (.tmp 2)), none⟩, ⟨(some 29), (.bin .mul (.tmp 27) (.tmp 28)), none⟩, ⟨(some 30), (.mov (.tmp 2)), none⟩, ⟨(some 31), (.bin .mul (.tmp 29) (.tmp 30)), none⟩, ⟨(some 32), (.bin .mul (.tmp 31) (.const (.c (.val (.int .i64 1000))))), none⟩, ⟨(some 33), (.bin .add (.tmp 26) (.tmp 32)), none⟩, ⟨(some 34), (.bin .quo (.tmp 33) (.const (.c (.val (.int .i64 68719476736))))), none⟩, ⟨(some 6), (.mov (.tmp 34)), none⟩])
 .ret)))⟩
set_option maxRecDepth 100000 in
theorem c68 : compFunc Try.prog 68 = some a68 := by kernel_rfl
def anim_bend_post (r : Int) : AV → Heap → Nat → Prop := fun v h' n' => v = (I r) ∧ (h' = fun _ => none) ∧ n' = 0
/-- clerestory/anim.bend -/
def anim_bend (a_ : Int) (b_ : Int) (k_ : Int) : Int :=
  letIn (wi ((wi ((wi ((wi (3 * (wi (4096 - k_)))) * (wi (4096 - k_)))) * k_)) * a_)) fun v17 : Int =>
  letIn (wi (v17 + (wi ((wi ((wi ((wi (3 * (wi (4096 - k_)))) * k_)) * k_)) * b_)))) fun v26 : Int =>
  letIn (wi ((wi (v26 + (wi ((wi ((wi (k_ * k_)) * k_)) * 1000)))).tdiv 68719476736)) fun v34 : Int =>
  v34
theorem anim_bend_ok {Γ : Glob} (a_ : Int) (b_ : Int) (k_ : Int) : CPure Try.prog Γ 68 [(I a_), (I b_), (I k_)] (I (anim_bend a_ b_ k_)) := by
  generalize h : anim_bend a_ b_ k_ = o
  refine acalls_of_sv hmix c68 (R := anim_bend_post o) ?_
  unfold anim_bend at h
  refine Sv.seq ?_
  refine Sv.region ?_
  refine un (a1 rfl ?_)
  refine dnil ?_
  refine Sv.seq ?_
  refine Sv.region ?_
  refine un (a1 rfl ?_)
  refine un (a1 (v := (I (wi (4096 - k_)))) rfl ?_)
  refine un (a1 rfl ?_)
  refine dnil ?_
  refine Sv.seq ?_
  refine Sv.region ?_
  refine un (a1 rfl ?_)
  refine un (a1 (v := (I (wi (3 * (wi (4096 - k_)))))) rfl ?_)
  refine un (a1 rfl ?_)
  refine un (a1 (v := (I (wi ((wi (3 * (wi (4096 - k_)))) * (wi (4096 - k_)))))) rfl ?_)
  refine un (a1 rfl ?_)
  refine un (a1 (v := (I (wi ((wi ((wi (3 * (wi (4096 - k_)))) * (wi (4096 - k_)))) * k_)))) rfl ?_)
  refine un (a1 rfl ?_)
  obtain ⟨v17, hv17⟩ : ∃ v17 : Int, v17 = (wi ((wi ((wi ((wi (3 * (wi (4096 - k_)))) * (wi (4096 - k_)))) * k_)) * a_)) := ⟨_, rfl⟩
  replace h := letAt hv17 h
  refine un (a1 (v := (I v17)) (by rw [hv17]; rfl) ?_)
  clear hv17
  refine un (a1 rfl ?_)
  refine un (a1 (v := (I (wi (3 * (wi (4096 - k_)))))) rfl ?_)
  refine un (a1 rfl ?_)
  refine un (a1 (v := (I (wi ((wi (3 * (wi (4096 - k_)))) * k_)))) rfl ?_)
  refine un (a1 rfl ?_)
  refine un (a1 (v := (I (wi ((wi ((wi (3 * (wi (4096 - k_)))) * k_)) * k_)))) rfl ?_)
  refine un (a1 rfl ?_)
  refine un (a1 (v := (I (wi ((wi ((wi ((wi (3 * (wi (4096 - k_)))) * k_)) * k_)) * b_)))) rfl ?_)
  obtain ⟨v26, hv26⟩ : ∃ v26 : Int, v26 = (wi (v17 + (wi ((wi ((wi ((wi (3 * (wi (4096 - k_)))) * k_)) * k_)) * b_)))) := ⟨_, rfl⟩
  replace h := letAt hv26 h
  refine un (a1 (v := (I v26)) (by rw [hv26]; rfl) ?_)
  clear hv26
  refine un (a1 rfl ?_)
  refine un (a1 rfl ?_)
  refine un (a1 (v := (I (wi (k_ * k_)))) rfl ?_)
  refine un (a1 rfl ?_)
  refine un (a1 (v := (I (wi ((wi (k_ * k_)) * k_)))) rfl ?_)
  refine un (a1 (v := (I (wi ((wi ((wi (k_ * k_)) * k_)) * 1000)))) rfl ?_)
  refine un (a1 (v := (I (wi (v26 + (wi ((wi ((wi (k_ * k_)) * k_)) * 1000)))))) rfl ?_)
  obtain ⟨v34, hv34⟩ : ∃ v34 : Int, v34 = (wi ((wi (v26 + (wi ((wi ((wi (k_ * k_)) * k_)) * 1000)))).tdiv 68719476736)) := ⟨_, rfl⟩
  replace h := letAt hv34 h
  refine un (a1 (v := (I v34)) (by rw [hv34]; rfl) ?_)
  clear hv34
  refine un (a1 rfl ?_)
  refine dnil ?_
  refine Sv.ret ?_
  subst h
  exact ⟨_, .refl _, _, rfl, ⟨upd (fun _ => none) 0 (some (I v34)), fun _ => none, 0⟩, (I v34), weak_canon [] rfl List.nodup_nil (Nat.le_refl _) (fun b h => absurd h (Nat.not_lt_zero _)) (.cons rfl (avAs_free rfl) .nil) .nil, rfl, rfl, rfl, rfl⟩
def a41_c0 : ACode := (.seq (.seq (.region [⟨(some 23), (.mov (.tmp 5)), none⟩, ⟨(some 24), (.mov (.tmp 6)), none⟩, ⟨(some 25), (.bin .lss (.tmp 23) (.tmp 24)), none⟩])
 (.cond (.tmp 25) .skip (.exit 1)))
 (.block 2 (.seq (.region [⟨(some 26), (.mov (.tmp 5)), none⟩, ⟨(some 27), (.mov (.tmp 6)), none⟩, ⟨(some 28), (.bin .add (.tmp 26) (.tmp 27)), none⟩, ⟨(some 29), (.bin .quo (.tmp 28) (.const (.c (.val (.int .i64 2))))), none⟩, ⟨(some 7), (.mov (.tmp 29)), none⟩])
 (.seq (.region [⟨(some 30), (.faddr 1 (.tmp 2)), none⟩, ⟨(some 31), (.iaddrA 4 1 (.tmp 30) (.const (.c (.val (.int .i64 0))))), none⟩, ⟨(some 32), (.load false 1 (.tmp 31)), none⟩, ⟨(some 33), (.faddr 1 (.tmp 2)), none⟩, ⟨(some 34), (.iaddrA 4 1 (.tmp 33) (.const (.c (.val (.int .i64 2))))), none⟩, ⟨(some 35), (.load false 1 (.tmp 34)), none⟩, ⟨(some 36), (.mov (.tmp 7)), none⟩, ⟨(some 37), (.call 68 [(.tmp 32), (.tmp 35), (.tmp 36)]), none⟩, ⟨(some 38), (.mov (.tmp 1)), none⟩, ⟨(some 39), (.bin .geq (.tmp 37) (.tmp 38)), none⟩])
 (.cond (.tmp 39) (.region [⟨(some 40), (.mov (.tmp 7)), none⟩, ⟨(some 6), (.mov (.tmp 40)), none⟩]) (.region [⟨(some 41), (.mov (.tmp 7)), none⟩, ⟨(some 42), (.bin .add (.tmp 41) (.const (.c (.val (.int .i64 1))))), none⟩, ⟨(some 5), (.mov (.tmp 42)), none⟩]))))))
def a41 : AFunc := ⟨2, [(.tmp 4)], (.seq (.region [⟨(some 2), (.box (.tmp 0)), none⟩, ⟨(some 4), (.mov (.const (.c (.val (.int .i64 0))))), none⟩])
 (.seq (.seq (.region [⟨(some 8), (.faddr 0 (.tmp 2)), none⟩, ⟨(some 9), (.load false 1 (.tmp 8)), none⟩])
 (.block 0 (.seq (.region [⟨(some 11), (.bin .eql (.tmp 9) (.const (.c (.val (.int .i64 3))))), none⟩, ⟨(some 10), (.mov (.tmp 11)), none⟩])
 (.cond (.tmp 10) (.seq (.region [⟨(some 12), (.mov (.tmp 1)), none⟩, ⟨(some 13), (.faddr 5 (.tmp 2)), none⟩, ⟨(some 14), (.load false 1 (.tmp 13)), none⟩, ⟨(some 15), (.bin .mul (.tmp 12) (.tmp 14)), none⟩, ⟨(some 16), (.bin .quo (.tmp 15) (.const (.c (.val (.int .i64 1000))))), none⟩, ⟨(some 17), (.bin .mul (.tmp 16) (.const (.c (.val (.int .i64 1000))))), none⟩, ⟨(some 18), (.faddr 5 (.tmp 2)), none⟩, ⟨(some 19), (.load false 1 (.tmp 18)), none⟩, ⟨(some 20), (.bin .quo (.tmp 17) (.tmp 19)), none⟩, ⟨(some 4), (.mov (.tmp 20)), none⟩])
 .ret) (.seq (.region [⟨(some 22), (.bin .eql (.tmp 9) (.const (.c (.val (.int .i64 2))))), none⟩, ⟨(some 21), (.mov (.tmp 22)), none⟩])
 (.cond (.tmp 21) (.seq (.region [⟨(some 5), (.mov (.const (.c (.val (.int .i64 0))))), none⟩, ⟨(some 6), (.mov (.const (.c (.val (.int .i64 4096))))), none⟩])
 (.seq (.block 1 (.loop a41_c0))
 (.seq (.region [⟨(some 43), (.faddr 1 (.tmp 2)), none⟩, ⟨(some 44), (.iaddrA 4 1 (.tmp 43) (.const (.c (.val (.int .i64 1))))), none⟩, ⟨(some 45), (.load false 1 (.tmp 44)), none⟩, ⟨(some 46), (.faddr 1 (.tmp 2)), none⟩, ⟨(some 47), (.iaddrA 4 1 (.tmp 46) (.const (.c (.val (.int .i64 3))))), none⟩, ⟨(some 48), (.load false 1 (.tmp 47)), none⟩, ⟨(some 49), (.mov (.tmp 5)), none⟩, ⟨(some 50), (.call 68 [(.tmp 45), (.tmp 48), (.tmp 49)]), none⟩, ⟨(some 4), (.mov (.tmp 50)), none⟩])
 .ret))) .skip))))))
 (.seq (.region [⟨(some 51), (.mov (.tmp 1)), none⟩, ⟨(some 4), (.mov (.tmp 51)), none⟩])
 .ret)))⟩
set_option maxRecDepth 100000 in
theorem c41 : compFunc Try.prog 41 = some a41 := by kernel_rfl
def anim_eased_post (r : Int) : AV → Heap → Nat → Prop := fun v h' n' => v = (I r) ∧ (h' = fun _ => none) ∧ n' = 0
noncomputable def anim_eased_l0 (t_ : Int) (e_ : TSEase) (K1_ : Int → Option Int) : Nat → Int → Int → Option Int
  | 0, _, _ => none
  | k + 1, low, high =>
    if decide (low < high) then
      letIn (decide (t_ ≤ (anim_bend e_.Curve.a0 e_.Curve.a2 (wi ((wi (low + high)).tdiv 2))))) fun v39 : Bool =>
      if v39 then
        (anim_eased_l0 t_ e_ K1_ k) low (wi ((wi (low + high)).tdiv 2))
      else
        (anim_eased_l0 t_ e_ K1_ k) (wi ((wi ((wi (low + high)).tdiv 2)) + 1)) high
    else
      K1_ low
theorem anim_eased_l0_ok {Γ : Glob} {Q : AExit → St → Prop} {t_ : Int} {e_ : TSEase} {K1_ : Int → Option Int} {k : Nat} {low : Int} {high : Int} {o : Int} (h : anim_eased_l0 t_ e_ K1_ k low high = some o)
    (hK1 : ∀ (low1 : Int), K1_ low1 = some o → ∀ s, Weak 0 s ⟨(upd (upd (fun _ => none) 2 (some (.c (.ref 0 6 0 0)))) 5 (some (I low1))), (upd (fun _ => none) 0 (some (.cells 6 [[cI e_.Kind, cI e_.Curve.a0, cI e_.Curve.a1, cI e_.Curve.a2, cI e_.Curve.a3, cI e_.N]]))), 1⟩ → Q (.exit 1) s)
    (hr : ∀ s, Ends a41.results 0 (anim_eased_post o) .ret s → Q .ret s) :
    Sv Try.prog Γ 0 (.loop a41_c0) Q ⟨(upd (upd (upd (upd (fun _ => none) 1 (some (I t_))) 2 (some (.c (.ref 0 6 0 0)))) 5 (some (I low))) 6 (some (I high))), (upd (fun _ => none) 0 (some (.cells 6 [[cI e_.Kind, cI e_.Curve.a0, cI e_.Curve.a1, cI e_.Curve.a2, cI e_.Curve.a3, cI e_.N]]))), 1⟩ := by
  refine Sv.loop (I := fun k s => ∃ (low : Int), ∃ (high : Int), anim_eased_l0 t_ e_ K1_ k low high = some o ∧ s = ⟨(upd (upd (upd (upd (fun _ => none) 1 (some (I t_))) 2 (some (.c (.ref 0 6 0 0)))) 5 (some (I low))) 6 (some (I high))), (upd (fun _ => none) 0 (some (.cells 6 [[cI e_.Kind, cI e_.Curve.a0, cI e_.Curve.a1, cI e_.Curve.a2, cI e_.Curve.a3, cI e_.N]]))), 1⟩) (fun k s hI => ?_) ⟨low, high, h, rfl⟩
  clear h
  clear high low
  obtain ⟨low, high, h, rfl⟩ := hI
  cases k with
  | zero => cases h
  | succ k =>
  rw [anim_eased_l0] at h
  have hself : ∀ (low : Int) (high : Int), (anim_eased_l0 t_ e_ K1_ k) low high = some o → ∀ s, Weak 0 s ⟨(upd (upd (upd (upd (fun _ => none) 1 (some (I t_))) 2 (some (.c (.ref 0 6 0 0)))) 5 (some (I low))) 6 (some (I high))), (upd (fun _ => none) 0 (some (.cells 6 [[cI e_.Kind, cI e_.Curve.a0, cI e_.Curve.a1, cI e_.Curve.a2, cI e_.Curve.a3, cI e_.N]]))), 1⟩ → (AThen (fun s' => ∃ s'' k', Weak 0 s' s'' ∧ k' < k + 1 ∧ (fun k s => ∃ (low : Int), ∃ (high : Int), anim_eased_l0 t_ e_ K1_ k low high = some o ∧ s = ⟨(upd (upd (upd (upd (fun _ => none) 1 (some (I t_))) 2 (some (.c (.ref 0 6 0 0)))) 5 (some (I low))) 6 (some (I high))), (upd (fun _ => none) 0 (some (.cells 6 [[cI e_.Kind, cI e_.Curve.a0, cI e_.Curve.a1, cI e_.Curve.a2, cI e_.Curve.a3, cI e_.N]]))), 1⟩) k' s'') Q) .normal s := fun low high h s hw => ⟨_, k, hw, Nat.lt_succ_self k, low, high, h, rfl⟩
  refine Sv.seq ?_
  refine Sv.seq ?_
  refine Sv.region ?_
  refine un (a1 rfl ?_)
  refine un (a1 rfl ?_)
  refine un (a1 (v := (B (decide (low < high)))) rfl ?_)
  refine dnil ?_
  refine Sv.cond (b := decide (low < high)) rfl (fun hc3 => ?_) (fun hc3 => ?_)
  · replace h := ifT hc3 h
    refine Sv.skip ?_
    refine Sv.block ?_
    refine Sv.seq ?_
    refine Sv.region ?_
    refine un (a1 rfl ?_)
    refine un (a1 rfl ?_)
    refine un (a1 (v := (I (wi (low + high)))) rfl ?_)
    refine un (a1 (v := (I (wi ((wi (low + high)).tdiv 2)))) rfl ?_)
    refine un (a1 rfl ?_)
    refine dnil ?_
    refine Sv.seq ?_
    refine Sv.region ?_
    refine un (a1 (v := (.c (.ref 0 6 0 1))) rfl ?_)
    refine un (a1 (v := (.c (.ref 0 6 0 1))) rfl ?_)
    refine un (a1 (v := (I e_.Curve.a0)) rfl ?_)
    refine un (a1 (v := (.c (.ref 0 6 0 1))) rfl ?_)
    refine un (a1 (v := (.c (.ref 0 6 0 3))) rfl ?_)
    refine un (a1 (v := (I e_.Curve.a2)) rfl ?_)
    refine un (a1 rfl ?_)
    refine un (ac_pure (anim_bend_ok (Γ := Γ) e_.Curve.a0 e_.Curve.a2 (wi ((wi (low + high)).tdiv 2))) rfl rfl rfl ?_)
    refine un (a1 rfl ?_)
    obtain ⟨v39, hv39⟩ : ∃ v39 : Bool, v39 = decide (t_ ≤ (anim_bend e_.Curve.a0 e_.Curve.a2 (wi ((wi (low + high)).tdiv 2)))) := ⟨_, rfl⟩
    replace h := letAt hv39 h
    refine un (a1 (v := (B v39)) (by rw [hv39]; rfl) ?_)
    clear hv39
    refine dnil ?_
    refine Sv.cond (b := v39) rfl (fun hc4 => ?_) (fun hc4 => ?_)
    · replace h := ifT hc4 h
      refine Sv.region ?_
      refine un (a1 rfl ?_)
      refine un (a1 rfl ?_)
      refine dnil ?_
      exact hself low (wi ((wi (low + high)).tdiv 2)) h _ (weak_canon [0] rfl (by decide) (by decide) (fun b h => absurd h (Nat.not_lt_zero _)) (.cons rfl (avAs_free rfl) (.cons rfl (avAs_free rfl) (.cons rfl (.c (.ref rfl (by decide))) (.cons rfl (avAs_free rfl) .nil)))) (.box (by decide) rfl (blkAs_cells (.cons (.same rfl) (.cons (.same rfl) (.cons (.same rfl) (.cons (.same rfl) (.cons (.same rfl) (.cons (.same rfl) .nil))))))) .nil))
    · replace h := ifF hc4 h
      refine Sv.region ?_
      refine un (a1 rfl ?_)
      refine un (a1 (v := (I (wi ((wi ((wi (low + high)).tdiv 2)) + 1)))) rfl ?_)
      refine un (a1 rfl ?_)
      refine dnil ?_
      exact hself (wi ((wi ((wi (low + high)).tdiv 2)) + 1)) high h _ (weak_canon [0] rfl (by decide) (by decide) (fun b h => absurd h (Nat.not_lt_zero _)) (.cons rfl (avAs_free rfl) (.cons rfl (avAs_free rfl) (.cons rfl (.c (.ref rfl (by decide))) (.cons rfl (avAs_free rfl) .nil)))) (.box (by decide) rfl (blkAs_cells (.cons (.same rfl) (.cons (.same rfl) (.cons (.same rfl) (.cons (.same rfl) (.cons (.same rfl) (.cons (.same rfl) .nil))))))) .nil))
  · replace h := ifF hc3 h
    refine Sv.exit ?_
    exact hK1 low h _ (weak_canon [0] rfl (by decide) (by decide) (fun b h => absurd h (Nat.not_lt_zero _)) (.cons rfl (avAs_free rfl) (.cons rfl (.c (.ref rfl (by decide))) .nil)) (.box (by decide) rfl (blkAs_cells (.cons (.same rfl) (.cons (.same rfl) (.cons (.same rfl) (.cons (.same rfl) (.cons (.same rfl) (.cons (.same rfl) .nil))))))) .nil))
/-- clerestory/anim.eased -/
noncomputable def anim_eased (e_ : TSEase) (t_ : Int) : Option Int :=
  if decide (e_.Kind = 3) then
    (quo? .i64 (wi ((wi ((wi (t_ * e_.N)).tdiv 1000)) * 1000)) e_.N).bind fun r_ =>
    some r_
  else
    if decide (e_.Kind = 2) then
      lim fun kk => anim_eased_l0 t_ e_ (fun (low1 : Int) => 
          some (anim_bend e_.Curve.a1 e_.Curve.a3 low1)) kk 0 4096
    else
      some t_
theorem anim_eased_ok {Γ : Glob} {e_ : TSEase} {t_ : Int} {r : Int} (h : anim_eased e_ t_ = some r) : CPure Try.prog Γ 41 [(.agg [cI e_.Kind, cI e_.Curve.a0, cI e_.Curve.a1, cI e_.Curve.a2, cI e_.Curve.a3, cI e_.N]), (I t_)] (I r) := by
  refine acalls_of_sv hmix c41 (R := anim_eased_post r) ?_
  unfold anim_eased at h
  refine Sv.seq ?_
  refine Sv.region ?_
  refine un (a2v (v := (.c (.ref 0 6 0 0))) (h' := upd _ 0 (some (.cells 6 [[cI e_.Kind, cI e_.Curve.a0, cI e_.Curve.a1, cI e_.Curve.a2, cI e_.Curve.a3, cI e_.N]]))) (n' := 1) rfl rfl (fun h => by cases h) ?_)
  refine un (a1 rfl ?_)
  refine dnil ?_
  refine Sv.seq ?_
  refine Sv.seq ?_
  refine Sv.region ?_
  refine un (a1 (v := (.c (.ref 0 6 0 0))) rfl ?_)
  refine un (a1 (v := (I e_.Kind)) rfl ?_)
  refine dnil ?_
  refine Sv.block ?_
  refine Sv.seq ?_
  refine Sv.region ?_
  refine un (a1 (v := (B (decide (e_.Kind = 3)))) rfl ?_)
  refine un (a1 rfl ?_)
  refine dnil ?_
  refine Sv.cond (b := decide (e_.Kind = 3)) rfl (fun hc1 => ?_) (fun hc1 => ?_)
  · replace h := ifT hc1 h
    refine Sv.seq ?_
    refine Sv.region ?_
    refine un (a1 rfl ?_)
    refine un (a1 (v := (.c (.ref 0 6 0 5))) rfl ?_)
    refine un (a1 (v := (I e_.N)) rfl ?_)
    refine un (a1 (v := (I (wi (t_ * e_.N)))) rfl ?_)
    refine un (a1 (v := (I (wi ((wi (t_ * e_.N)).tdiv 1000)))) rfl ?_)
    refine un (a1 (v := (I (wi ((wi ((wi (t_ * e_.N)).tdiv 1000)) * 1000)))) rfl ?_)
    refine un (a1 (v := (.c (.ref 0 6 0 5))) rfl ?_)
    refine un (a1 (v := (I e_.N)) rfl ?_)
    obtain ⟨r_, hx1, h⟩ := bnd h
    refine un (a1 (v := (I r_)) (s_quo rfl rfl hx1) ?_)
    refine un (a1 rfl ?_)
    refine dnil ?_
    refine Sv.ret ?_
    replace h := Option.some.inj h
    subst h
    exact ⟨_, .refl _, _, rfl, ⟨upd (fun _ => none) 0 (some (I r_)), fun _ => none, 0⟩, (I r_), weak_canon [] rfl List.nodup_nil (Nat.le_refl _) (fun b h => absurd h (Nat.not_lt_zero _)) (.cons rfl (avAs_free rfl) .nil) .nil, rfl, rfl, rfl, rfl⟩
  · replace h := ifF hc1 h
    refine Sv.seq ?_
    refine Sv.region ?_
    refine un (a1 (v := (B (decide (e_.Kind = 2)))) rfl ?_)
    refine un (a1 rfl ?_)
    refine dnil ?_
    refine Sv.cond (b := decide (e_.Kind = 2)) rfl (fun hc2 => ?_) (fun hc2 => ?_)
    · replace h := ifT hc2 h
      refine Sv.seq ?_
      refine Sv.region ?_
      refine un (a1 rfl ?_)
      refine un (a1 rfl ?_)
      refine dnil ?_
      refine Sv.seq ?_
      refine Sv.block ?_
      obtain ⟨kk, h⟩ := lim_some h
      refine Sv.weak (weak_canon [0] rfl (by decide) (by decide) (fun b h => absurd h (Nat.not_lt_zero _)) (.cons rfl (avAs_free rfl) (.cons rfl (avAs_free rfl) (.cons rfl (.c (.ref rfl (by decide))) (.cons rfl (avAs_free rfl) .nil)))) (.box (by decide) rfl (blkAs_cells (.cons (.same rfl) (.cons (.same rfl) (.cons (.same rfl) (.cons (.same rfl) (.cons (.same rfl) (.cons (.same rfl) .nil))))))) .nil)) (anim_eased_l0_ok h ?_ (fun s hs => hs))
      · intro low1 h _ hw1
        refine Sv.weak hw1 ?_
        refine Sv.seq ?_
        refine Sv.region ?_
        refine un (a1 (v := (.c (.ref 0 6 0 1))) rfl ?_)
        refine un (a1 (v := (.c (.ref 0 6 0 2))) rfl ?_)
        refine un (a1 (v := (I e_.Curve.a1)) rfl ?_)
        refine un (a1 (v := (.c (.ref 0 6 0 1))) rfl ?_)
        refine un (a1 (v := (.c (.ref 0 6 0 4))) rfl ?_)
        refine un (a1 (v := (I e_.Curve.a3)) rfl ?_)
        refine un (a1 rfl ?_)
        refine un (ac_pure (anim_bend_ok (Γ := Γ) e_.Curve.a1 e_.Curve.a3 low1) rfl rfl rfl ?_)
        refine un (a1 rfl ?_)
        refine dnil ?_
        refine Sv.ret ?_
        replace h := Option.some.inj h
        subst h
        exact ⟨_, .refl _, _, rfl, ⟨upd (fun _ => none) 0 (some (I (anim_bend e_.Curve.a1 e_.Curve.a3 low1))), fun _ => none, 0⟩, (I (anim_bend e_.Curve.a1 e_.Curve.a3 low1)), weak_canon [] rfl List.nodup_nil (Nat.le_refl _) (fun b h => absurd h (Nat.not_lt_zero _)) (.cons rfl (avAs_free rfl) .nil) .nil, rfl, rfl, rfl, rfl⟩
    · replace h := ifF hc2 h
      refine Sv.skip ?_
      refine Sv.seq ?_
      refine Sv.region ?_
      refine un (a1 rfl ?_)
      refine un (a1 rfl ?_)
      refine dnil ?_
      refine Sv.ret ?_
      replace h := Option.some.inj h
      subst h
      exact ⟨_, .refl _, _, rfl, ⟨upd (fun _ => none) 0 (some (I t_)), fun _ => none, 0⟩, (I t_), weak_canon [] rfl List.nodup_nil (Nat.le_refl _) (fun b h => absurd h (Nat.not_lt_zero _)) (.cons rfl (avAs_free rfl) .nil) .nil, rfl, rfl, rfl, rfl⟩
def a15 : AFunc := ⟨2, [(.tmp 4), (.tmp 5)], (.seq (.region [⟨(some 2), (.box (.tmp 0)), none⟩, ⟨(some 4), (.mov (.const (.c (.val (.int .i64 0))))), none⟩, ⟨(some 5), (.mov (.const (.c (.val (.int .i64 0))))), none⟩])
 (.seq (.seq (.region [⟨(some 6), (.load true 6 (.tmp 2)), none⟩, ⟨(some 7), (.call 39 [(.tmp 6)]), none⟩, ⟨(some 8), (.un .not (.tmp 7)), none⟩])
 (.cond (.tmp 8) (.seq (.region [⟨(some 4), (.mov (.const (.c (.val (.int .i64 0))))), none⟩, ⟨(some 5), (.mov (.const (.c (.val (.int .i64 3))))), none⟩])
 .ret) .skip))
 (.seq (.seq (.region [⟨(some 9), (.mov (.tmp 1)), none⟩, ⟨(some 10), (.call 40 [(.tmp 9), (.const (.c (.val (.int .i64 0)))), (.const (.c (.val (.int .i64 1000))))]), none⟩, ⟨(some 11), (.un .not (.tmp 10)), none⟩])
 (.cond (.tmp 11) (.seq (.region [⟨(some 4), (.mov (.const (.c (.val (.int .i64 0))))), none⟩, ⟨(some 5), (.mov (.const (.c (.val (.int .i64 1))))), none⟩])
 .ret) .skip))
 (.seq (.region [⟨(some 12), (.load true 6 (.tmp 2)), none⟩, ⟨(some 13), (.mov (.tmp 1)), none⟩, ⟨(some 14), (.call 41 [(.tmp 12), (.tmp 13)]), none⟩, ⟨(some 4), (.mov (.tmp 14)), none⟩, ⟨(some 5), (.mov (.const (.c (.val (.int .i64 0))))), none⟩])
 .ret))))⟩
set_option maxRecDepth 100000 in
theorem c15 : compFunc Try.prog 15 = some a15 := by kernel_rfl
def anim_Ease_post (r : (Int × Int)) : AV → Heap → Nat → Prop := fun v h' n' => v = (.tup [(I r.1), (I r.2)]) ∧ (h' = fun _ => none) ∧ n' = 0
/-- clerestory/anim.Ease -/
noncomputable def anim_Ease (e_ : TSEase) (t_ : Int) : Option (Int × Int) :=
  (anim_easing e_).bind fun r_ =>
  if (!r_) then
    some (0, 3)
  else
    if (!(anim_in t_ 0 1000)) then
      some (0, 1)
    else
      (anim_eased e_ t_).bind fun r_1 =>
      some (r_1, 0)
theorem anim_Ease_ok {Γ : Glob} {e_ : TSEase} {t_ : Int} {r : (Int × Int)} (h : anim_Ease e_ t_ = some r) : CPure Try.prog Γ 15 [(.agg [cI e_.Kind, cI e_.Curve.a0, cI e_.Curve.a1, cI e_.Curve.a2, cI e_.Curve.a3, cI e_.N]), (I t_)] (.tup [(I r.1), (I r.2)]) := by
  refine acalls_of_sv hmix c15 (R := anim_Ease_post r) ?_
  unfold anim_Ease at h
  refine Sv.seq ?_
  refine Sv.region ?_
  refine un (a2v (v := (.c (.ref 0 6 0 0))) (h' := upd _ 0 (some (.cells 6 [[cI e_.Kind, cI e_.Curve.a0, cI e_.Curve.a1, cI e_.Curve.a2, cI e_.Curve.a3, cI e_.N]]))) (n' := 1) rfl rfl (fun h => by cases h) ?_)
  refine un (a1 rfl ?_)
  refine un (a1 rfl ?_)
  refine dnil ?_
  refine Sv.seq ?_
  refine Sv.seq ?_
  refine Sv.region ?_
  refine un (a1 (v := (.agg [cI e_.Kind, cI e_.Curve.a0, cI e_.Curve.a1, cI e_.Curve.a2, cI e_.Curve.a3, cI e_.N])) rfl ?_)
  obtain ⟨r_, hr1, h⟩ := bnd h
  refine un (ac_pure (anim_easing_ok hr1) rfl rfl rfl ?_)
  refine un (a1 (v := (B (!r_))) rfl ?_)
  refine dnil ?_
  refine Sv.cond (b := (!r_)) rfl (fun hc1 => ?_) (fun hc1 => ?_)
  · replace h := ifT hc1 h
    refine Sv.seq ?_
    refine Sv.region ?_
    refine un (a1 rfl ?_)
    refine un (a1 rfl ?_)
    refine dnil ?_
    refine Sv.ret ?_
    replace h := Option.some.inj h
    subst h
    exact ⟨_, .refl _, _, rfl, ⟨upd (fun _ => none) 0 (some (.tup [(I 0), (I 3)])), fun _ => none, 0⟩, (.tup [(I 0), (I 3)]), weak_canon [] rfl List.nodup_nil (Nat.le_refl _) (fun b h => absurd h (Nat.not_lt_zero _)) (.cons rfl (avAs_tup (.cons (avAs_free rfl) (.cons (avAs_free rfl) .nil))) .nil) .nil, rfl, rfl, rfl, rfl⟩
  · replace h := ifF hc1 h
    refine Sv.skip ?_
    refine Sv.seq ?_
    refine Sv.seq ?_
    refine Sv.region ?_
    refine un (a1 rfl ?_)
    refine un (ac_pure (anim_in_ok (Γ := Γ) t_ 0 1000) rfl rfl rfl ?_)
    refine un (a1 (v := (B (!(anim_in t_ 0 1000)))) rfl ?_)
    refine dnil ?_
    refine Sv.cond (b := (!(anim_in t_ 0 1000))) rfl (fun hc2 => ?_) (fun hc2 => ?_)
    · replace h := ifT hc2 h
      refine Sv.seq ?_
      refine Sv.region ?_
      refine un (a1 rfl ?_)
      refine un (a1 rfl ?_)
      refine dnil ?_
      refine Sv.ret ?_
      replace h := Option.some.inj h
      subst h
      exact ⟨_, .refl _, _, rfl, ⟨upd (fun _ => none) 0 (some (.tup [(I 0), (I 1)])), fun _ => none, 0⟩, (.tup [(I 0), (I 1)]), weak_canon [] rfl List.nodup_nil (Nat.le_refl _) (fun b h => absurd h (Nat.not_lt_zero _)) (.cons rfl (avAs_tup (.cons (avAs_free rfl) (.cons (avAs_free rfl) .nil))) .nil) .nil, rfl, rfl, rfl, rfl⟩
    · replace h := ifF hc2 h
      refine Sv.skip ?_
      refine Sv.seq ?_
      refine Sv.region ?_
      refine un (a1 (v := (.agg [cI e_.Kind, cI e_.Curve.a0, cI e_.Curve.a1, cI e_.Curve.a2, cI e_.Curve.a3, cI e_.N])) rfl ?_)
      refine un (a1 rfl ?_)
      obtain ⟨r_1, hr2, h⟩ := bnd h
      refine un (ac_pure (anim_eased_ok hr2) rfl rfl rfl ?_)
      refine un (a1 rfl ?_)
      refine un (a1 rfl ?_)
      refine dnil ?_
      refine Sv.ret ?_
      replace h := Option.some.inj h
      subst h
      exact ⟨_, .refl _, _, rfl, ⟨upd (fun _ => none) 0 (some (.tup [(I r_1), (I 0)])), fun _ => none, 0⟩, (.tup [(I r_1), (I 0)]), weak_canon [] rfl List.nodup_nil (Nat.le_refl _) (fun b h => absurd h (Nat.not_lt_zero _)) (.cons rfl (avAs_tup (.cons (avAs_free rfl) (.cons (avAs_free rfl) .nil))) .nil) .nil, rfl, rfl, rfl, rfl⟩
def a14 : AFunc := ⟨0, [(.tmp 0)], (.seq (.region [⟨(some 0), (.mov (.const (.c (.val (.bool false))))), none⟩])
 (.seq (.region [⟨(some 4), (.build [(.val (.int .i64 0)), (.val (.int .i64 0)), (.val (.int .i64 0)), (.val (.int .i64 0)), (.val (.int .i64 0)), (.val (.int .i64 0))] [(0, (1, (.const (.c (.val (.int .i64 3)))))), (5, (1, (.const (.c (.val (.int .i64 4))))))]), none⟩, ⟨(some 5), (.call 15 [(.tmp 4), (.const (.c (.val (.int .i64 600))))]), none⟩, ⟨(some 3), (.mov (.tmp 5)), none⟩, ⟨(some 6), (.ext (.tmp 3) 0), none⟩, ⟨(some 7), (.ext (.tmp 3) 1), none⟩, ⟨(some 1), (.mov (.tmp 6)), none⟩, ⟨(some 2), (.mov (.tmp 7)), none⟩])
 (.seq (.region [⟨(some 8), (.mov (.tmp 2)), none⟩, ⟨(some 9), (.bin .eql (.tmp 8) (.const (.c (.val (.int .i64 0))))), none⟩, ⟨(some 10), (.mov (.tmp 9)), none⟩, ⟨(some 11), (.mov (.tmp 1)), (some (10, true))⟩, ⟨(some 12), (.bin .eql (.tmp 11) (.const (.c (.val (.int .i64 500))))), (some (10, true))⟩, ⟨(some 13), (.pick (.tmp 10) (.tmp 12) (.const (.c (.val (.bool false))))), none⟩, ⟨(some 0), (.mov (.tmp 13)), none⟩])
 .ret)))⟩
set_option maxRecDepth 100000 in
theorem c14 : compFunc Try.prog 14 = some a14 := by kernel_rfl
def clerestorylaw2_stepped_post (r : Bool) : AV → Heap → Nat → Prop := fun v h' n' => v = (B r) ∧ (h' = fun _ => none) ∧ n' = 0
/-- clerestory/clerestorylaw2.stepped -/
noncomputable def clerestorylaw2_stepped : Option Bool :=
  (anim_Ease (⟨3, (⟨0, 0, 0, 0⟩ : (Ar4 Int)), 4⟩ : TSEase) 600).bind fun r_ =>
  some ((decide (r_.2 = 0)) && (decide (r_.1 = 500)))
theorem clerestorylaw2_stepped_ok {Γ : Glob} {r : Bool} (h : clerestorylaw2_stepped = some r) : CPure Try.prog Γ 14 [] (B r) := by
  refine acalls_of_sv hmix c14 (R := clerestorylaw2_stepped_post r) ?_
  unfold clerestorylaw2_stepped at h
  refine Sv.seq ?_
  refine Sv.region ?_
  refine un (a1 rfl ?_)
  refine dnil ?_
  refine Sv.seq ?_
  refine Sv.region ?_
  refine un (a1 (v := (.agg [cI 3, cI 0, cI 0, cI 0, cI 0, cI 4])) rfl ?_)
  obtain ⟨r_, hr1, h⟩ := bnd h
  refine un (ac_pure (anim_Ease_ok hr1) rfl rfl rfl ?_)
  refine un (a1 rfl ?_)
  refine un (a1 (v := (I r_.1)) rfl ?_)
  refine un (a1 (v := (I r_.2)) rfl ?_)
  refine un (a1 rfl ?_)
  refine un (a1 rfl ?_)
  refine dnil ?_
  refine Sv.seq ?_
  refine Sv.region ?_
  refine un (a1 rfl ?_)
  refine un (a1 (v := (B (decide (r_.2 = 0)))) rfl ?_)
  refine un (a1 rfl ?_)
  refine gjoin 3 (d := 13) (v := (B ((decide (r_.2 = 0)) && (decide (r_.1 = 500))))) (fun X hX => ?_) ?_
  · refine split2 (fun hc1 => ?_) (fun hc1 => ?_)
    · refine gt rfl (a1 rfl ?_)
      refine gt rfl (a1 (v := (B (decide (r_.1 = 500)))) rfl ?_)
      refine un (a1 (v := (B (decide (r_.1 = 500)))) rfl ?_)
      refine dnil ?_
      exact hX _ (.putEq (by rw [hc1]; rfl) (.skip _ _ (.skip _ _ (.putEq (by rw [hc1]) (.refl _)) rfl) rfl))
    · refine gs rfl rfl ?_
      refine gs rfl rfl ?_
      refine un (a1 (v := (B false)) rfl ?_)
      refine dnil ?_
      exact hX _ (.putEq (by rw [hc1]; rfl) (.skip _ _ (.skip _ _ (.putEq (by rw [hc1]) (.refl _)) rfl) rfl))
  refine un (a1 rfl ?_)
  refine dnil ?_
  refine Sv.ret ?_
  replace h := Option.some.inj h
  subst h
  exact ⟨_, .refl _, _, rfl, ⟨upd (fun _ => none) 0 (some (B ((decide (r_.2 = 0)) && (decide (r_.1 = 500))))), fun _ => none, 0⟩, (B ((decide (r_.2 = 0)) && (decide (r_.1 = 500)))), weak_canon [] rfl List.nodup_nil (Nat.le_refl _) (fun b h => absurd h (Nat.not_lt_zero _)) (.cons rfl (avAs_free rfl) .nil) .nil, rfl, rfl, rfl, rfl⟩
def a45 : AFunc := ⟨1, [(.tmp 2)], (.seq (.region [⟨(some 2), (.mov (.const (.c (.val (.int .i64 0))))), none⟩])
 (.seq (.region [⟨(some 3), (.mov (.tmp 0)), none⟩, ⟨(some 4), (.mm true [(.tmp 3), (.const (.c (.val (.int .i64 (-16777216)))))]), none⟩, ⟨(some 5), (.mm false [(.tmp 4), (.const (.c (.val (.int .i64 16777216))))]), none⟩, ⟨(some 2), (.mov (.tmp 5)), none⟩])
 .ret))⟩
set_option maxRecDepth 100000 in
theorem c45 : compFunc Try.prog 45 = some a45 := by kernel_rfl
def anim_cut_post (r : Int) : AV → Heap → Nat → Prop := fun v h' n' => v = (I r) ∧ (h' = fun _ => none) ∧ n' = 0
/-- clerestory/anim.cut -/
def anim_cut (n_ : Int) : Int :=
  (mn (mx n_ (-16777216)) 16777216)
theorem anim_cut_ok {Γ : Glob} (n_ : Int) : CPure Try.prog Γ 45 [(I n_)] (I (anim_cut n_)) := by
  generalize h : anim_cut n_ = o
  refine acalls_of_sv hmix c45 (R := anim_cut_post o) ?_
  unfold anim_cut at h
  refine Sv.seq ?_
  refine Sv.region ?_
  refine un (a1 rfl ?_)
  refine dnil ?_
  refine Sv.seq ?_
  refine Sv.region ?_
  refine un (a1 rfl ?_)
  refine un (a1 (v := (I (mx n_ (-16777216)))) (s_mx rfl rfl) ?_)
  refine un (a1 (v := (I (mn (mx n_ (-16777216)) 16777216))) (s_mn rfl rfl) ?_)
  refine un (a1 rfl ?_)
  refine dnil ?_
  refine Sv.ret ?_
  subst h
  exact ⟨_, .refl _, _, rfl, ⟨upd (fun _ => none) 0 (some (I (mn (mx n_ (-16777216)) 16777216))), fun _ => none, 0⟩, (I (mn (mx n_ (-16777216)) 16777216)), weak_canon [] rfl List.nodup_nil (Nat.le_refl _) (fun b h => absurd h (Nat.not_lt_zero _)) (.cons rfl (avAs_free rfl) .nil) .nil, rfl, rfl, rfl, rfl⟩
def a44_c0 : ACode := (.seq (.region [⟨(some 21), (.mov (.tmp 0)), none⟩, ⟨(some 22), (.mov (.tmp 8)), none⟩, ⟨(some 23), (.bin .add (.tmp 21) (.tmp 22)), none⟩, ⟨(some 6), (.mov (.tmp 23)), none⟩])
 .ret)
def a44 : AFunc := ⟨3, [(.tmp 6)], (.seq (.region [⟨(some 6), (.mov (.const (.c (.val (.int .i64 0))))), none⟩])
 (.seq (.region [⟨(some 9), (.mov (.tmp 1)), none⟩, ⟨(some 10), (.mov (.tmp 0)), none⟩, ⟨(some 11), (.bin .sub (.tmp 9) (.tmp 10)), none⟩, ⟨(some 12), (.mov (.tmp 2)), none⟩, ⟨(some 13), (.bin .mul (.tmp 11) (.tmp 12)), none⟩, ⟨(some 7), (.mov (.tmp 13)), none⟩])
 (.seq (.region [⟨(some 14), (.mov (.tmp 7)), none⟩, ⟨(some 15), (.bin .quo (.tmp 14) (.const (.c (.val (.int .i64 1000))))), none⟩, ⟨(some 8), (.mov (.tmp 15)), none⟩])
 (.seq (.seq (.region [⟨(some 16), (.mov (.tmp 7)), none⟩, ⟨(some 17), (.bin .rem (.tmp 16) (.const (.c (.val (.int .i64 1000))))), none⟩, ⟨(some 18), (.bin .lss (.tmp 17) (.const (.c (.val (.int .i64 0))))), none⟩])
 (.cond (.tmp 18) (.region [⟨(some 19), (.mov (.tmp 8)), none⟩, ⟨(some 20), (.bin .sub (.tmp 19) (.const (.c (.val (.int .i64 1))))), none⟩, ⟨(some 8), (.mov (.tmp 20)), none⟩]) .skip))
 a44_c0))))⟩
set_option maxRecDepth 100000 in
theorem c44 : compFunc Try.prog 44 = some a44 := by kernel_rfl
def anim_part_post (r : Int) : AV → Heap → Nat → Prop := fun v h' n' => v = (I r) ∧ (h' = fun _ => none) ∧ n' = 0
def anim_part_j1 (a_ : Int) (q_ : Int) : Int :=
  (wi (a_ + q_))
theorem anim_part_j1_ok {Γ : Glob} {a_ : Int} {q_ : Int} {o : Int} (h : anim_part_j1 a_ q_ = o) :
    Sv Try.prog Γ 0 a44_c0 (Ends a44.results 0 (anim_part_post o)) ⟨(upd (upd (fun _ => none) 0 (some (I a_))) 8 (some (I q_))), (fun _ => none), 0⟩ := by
  unfold anim_part_j1 at h
  refine Sv.seq ?_
  refine Sv.region ?_
  refine un (a1 rfl ?_)
  refine un (a1 rfl ?_)
  refine un (a1 (v := (I (wi (a_ + q_)))) rfl ?_)
  refine un (a1 rfl ?_)
  refine dnil ?_
  refine Sv.ret ?_
  subst h
  exact ⟨_, .refl _, _, rfl, ⟨upd (fun _ => none) 0 (some (I (wi (a_ + q_)))), fun _ => none, 0⟩, (I (wi (a_ + q_))), weak_canon [] rfl List.nodup_nil (Nat.le_refl _) (fun b h => absurd h (Nat.not_lt_zero _)) (.cons rfl (avAs_free rfl) .nil) .nil, rfl, rfl, rfl, rfl⟩
/-- clerestory/anim.part -/
def anim_part (a_ : Int) (b_ : Int) (t_ : Int) : Int :=
  if decide (((wi ((wi (b_ - a_)) * t_)).tmod 1000) < 0) then
    anim_part_j1 a_ (wi ((wi ((wi ((wi (b_ - a_)) * t_)).tdiv 1000)) - 1))
  else
    anim_part_j1 a_ (wi ((wi ((wi (b_ - a_)) * t_)).tdiv 1000))
theorem anim_part_ok {Γ : Glob} (a_ : Int) (b_ : Int) (t_ : Int) : CPure Try.prog Γ 44 [(I a_), (I b_), (I t_)] (I (anim_part a_ b_ t_)) := by
  generalize h : anim_part a_ b_ t_ = o
  refine acalls_of_sv hmix c44 (R := anim_part_post o) ?_
  unfold anim_part at h
  refine Sv.seq ?_
  refine Sv.region ?_
  refine un (a1 rfl ?_)
  refine dnil ?_
  refine Sv.seq ?_
  refine Sv.region ?_
  refine un (a1 rfl ?_)
  refine un (a1 rfl ?_)
  refine un (a1 (v := (I (wi (b_ - a_)))) rfl ?_)
  refine un (a1 rfl ?_)
  refine un (a1 (v := (I (wi ((wi (b_ - a_)) * t_)))) rfl ?_)
  refine un (a1 rfl ?_)
  refine dnil ?_
  refine Sv.seq ?_
  refine Sv.region ?_
  refine un (a1 rfl ?_)
  refine un (a1 (v := (I (wi ((wi ((wi (b_ - a_)) * t_)).tdiv 1000)))) rfl ?_)
  refine un (a1 rfl ?_)
  refine dnil ?_
  refine Sv.seq ?_
  refine Sv.seq ?_
  refine Sv.region ?_
  refine un (a1 rfl ?_)
  refine un (a1 (v := (I ((wi ((wi (b_ - a_)) * t_)).tmod 1000))) rfl ?_)
  refine un (a1 (v := (B (decide (((wi ((wi (b_ - a_)) * t_)).tmod 1000) < 0)))) rfl ?_)
  refine dnil ?_
  refine Sv.cond (b := decide (((wi ((wi (b_ - a_)) * t_)).tmod 1000) < 0)) rfl (fun hc1 => ?_) (fun hc1 => ?_)
  · replace h := ifT hc1 h
    refine Sv.region ?_
    refine un (a1 rfl ?_)
    refine un (a1 (v := (I (wi ((wi ((wi ((wi (b_ - a_)) * t_)).tdiv 1000)) - 1)))) rfl ?_)
    refine un (a1 rfl ?_)
    refine dnil ?_
    exact Sv.weak (weak_canon [] rfl (by decide) (by decide) (fun b h => absurd h (Nat.not_lt_zero _)) (.cons rfl (avAs_free rfl) (.cons rfl (avAs_free rfl) .nil)) .nil) (anim_part_j1_ok h)
  · replace h := ifF hc1 h
    refine Sv.skip ?_
    exact Sv.weak (weak_canon [] rfl (by decide) (by decide) (fun b h => absurd h (Nat.not_lt_zero _)) (.cons rfl (avAs_free rfl) (.cons rfl (avAs_free rfl) .nil)) .nil) (anim_part_j1_ok h)
def a23_c0 : ACode := (.seq (.seq (.region [⟨(some 43), (.mov (.tmp 8)), none⟩, ⟨(some 44), (.bin .geq (.tmp 43) (.const (.c (.val (.int .i64 0))))), none⟩])
 (.cond (.tmp 44) .skip (.exit 1)))
 (.seq (.block 2 (.drawn [(⟨(some 47), (.mov (.tmp 7)), none⟩, (0, 0)), (⟨(some 48), (.bin .shl (.tmp 47) (.const (.c (.val (.int .u64 8))))), none⟩, (0, 1)), (⟨(some 49), (.faddr 1 (.tmp 3)), none⟩, (0, 2)), (⟨(some 50), (.load false 1 (.tmp 49)), none⟩, (0, 3)), (⟨(some 51), (.conv .u32 (.tmp 50)), none⟩, (0, 4)), (⟨(some 52), (.mov (.tmp 8)), none⟩, (0, 5)), (⟨(some 53), (.bin .shr (.tmp 51) (.tmp 52)), none⟩, (0, 6)), (⟨(some 54), (.bin .and (.tmp 53) (.const (.c (.val (.int .u32 255))))), none⟩, (0, 7)), (⟨(some 55), (.conv .i64 (.tmp 54)), none⟩, (0, 8)), (⟨(some 56), (.faddr 1 (.tmp 4)), none⟩, (0, 9)), (⟨(some 57), (.load false 1 (.tmp 56)), none⟩, (0, 10)), (⟨(some 58), (.conv .u32 (.tmp 57)), none⟩, (0, 11)), (⟨(some 59), (.mov (.tmp 8)), none⟩, (0, 12)), (⟨(some 60), (.bin .shr (.tmp 58) (.tmp 59)), none⟩, (0, 13)), (⟨(some 61), (.bin .and (.tmp 60) (.const (.c (.val (.int .u32 255))))), none⟩, (0, 14)), (⟨(some 62), (.conv .i64 (.tmp 61)), none⟩, (0, 15)), (⟨(some 63), (.mov (.tmp 2)), none⟩, (0, 16)), (⟨(some 64), (.call 44 [(.tmp 55), (.tmp 62), (.tmp 63)]), none⟩, (2, 17)), (⟨(some 65), (.bin .or (.tmp 48) (.tmp 64)), none⟩, (0, 18)), (⟨(some 7), (.mov (.tmp 65)), none⟩, (0, 19))]))
 (.region [⟨(some 45), (.mov (.tmp 8)), none⟩, ⟨(some 46), (.bin .sub (.tmp 45) (.const (.c (.val (.int .i64 8))))), none⟩, ⟨(some 8), (.mov (.tmp 46)), none⟩])))
def a23 : AFunc := ⟨3, [(.cell true 2 6)], (.seq (.region [⟨(some 3), (.box (.tmp 0)), none⟩, ⟨(some 4), (.box (.tmp 1)), none⟩, ⟨(some 6), (.box (.const (.agg [(.val (.int .i64 0)), (.val (.int .i64 0))]))), none⟩])
 (.seq (.region [⟨(some 9), (.mov (.tmp 2)), none⟩, ⟨(some 10), (.mm true [(.tmp 9), (.const (.c (.val (.int .i64 0))))]), none⟩, ⟨(some 11), (.mm false [(.tmp 10), (.const (.c (.val (.int .i64 1000))))]), none⟩, ⟨(some 2), (.mov (.tmp 11)), none⟩])
 (.seq (.block 0 (.seq (.region [⟨(some 13), (.faddr 0 (.tmp 3)), none⟩, ⟨(some 14), (.load false 1 (.tmp 13)), none⟩, ⟨(some 15), (.faddr 0 (.tmp 4)), none⟩, ⟨(some 16), (.load false 1 (.tmp 15)), none⟩, ⟨(some 17), (.bin .eql (.tmp 14) (.tmp 16)), none⟩, ⟨(some 18), (.mov (.tmp 17)), none⟩, ⟨(some 19), (.faddr 0 (.tmp 3)), (some (18, true))⟩, ⟨(some 20), (.load false 1 (.tmp 19)), (some (18, true))⟩, ⟨(some 21), (.call 40 [(.tmp 20), (.const (.c (.val (.int .i64 2)))), (.const (.c (.val (.int .i64 4))))]), (some (18, true))⟩, ⟨(some 22), (.pick (.tmp 18) (.tmp 21) (.const (.c (.val (.bool false))))), none⟩, ⟨(some 12), (.mov (.tmp 22)), none⟩])
 (.cond (.tmp 12) (.seq (.drawn [(⟨(some 23), (.faddr 0 (.tmp 3)), none⟩, (0, 0)), (⟨(some 24), (.load false 1 (.tmp 23)), none⟩, (0, 1)), (⟨(some 25), (.faddr 1 (.tmp 3)), none⟩, (0, 2)), (⟨(some 26), (.load false 1 (.tmp 25)), none⟩, (0, 3)), (⟨(some 28), (.faddr 1 (.tmp 4)), none⟩, (0, 5)), (⟨(some 29), (.load false 1 (.tmp 28)), none⟩, (0, 6)), (⟨(some 31), (.mov (.tmp 2)), none⟩, (0, 8)), (⟨(some 27), (.call 45 [(.tmp 26)]), none⟩, (1, 4)), (⟨(some 30), (.call 45 [(.tmp 29)]), none⟩, (1, 7)), (⟨(some 32), (.call 44 [(.tmp 27), (.tmp 30), (.tmp 31)]), none⟩, (1, 9)), (⟨(some 33), (.build [(.val (.int .i64 0)), (.val (.int .i64 0))] [(0, (1, (.tmp 24))), (1, (1, (.tmp 32)))]), none⟩, (0, 10)), (⟨none, (.store 2 (.tmp 6) (.tmp 33)), none⟩, (2, 11))])
 .ret) (.seq (.region [⟨(some 35), (.faddr 0 (.tmp 3)), none⟩, ⟨(some 36), (.load false 1 (.tmp 35)), none⟩, ⟨(some 37), (.bin .eql (.tmp 36) (.const (.c (.val (.int .i64 5))))), none⟩, ⟨(some 38), (.mov (.tmp 37)), none⟩, ⟨(some 39), (.faddr 0 (.tmp 4)), (some (38, true))⟩, ⟨(some 40), (.load false 1 (.tmp 39)), (some (38, true))⟩, ⟨(some 41), (.bin .eql (.tmp 40) (.const (.c (.val (.int .i64 5))))), (some (38, true))⟩, ⟨(some 42), (.pick (.tmp 38) (.tmp 41) (.const (.c (.val (.bool false))))), none⟩, ⟨(some 34), (.mov (.tmp 42)), none⟩])
 (.cond (.tmp 34) (.seq (.region [⟨(some 7), (.mov (.const (.c (.val (.int .i64 0))))), none⟩])
 (.seq (.seq (.region [⟨(some 8), (.mov (.const (.c (.val (.int .i64 24))))), none⟩])
 (.block 1 (.loop a23_c0)))
 (.seq (.region [⟨(some 66), (.mov (.tmp 7)), none⟩, ⟨(some 67), (.build [(.val (.int .i64 0)), (.val (.int .i64 0))] [(0, (1, (.const (.c (.val (.int .i64 5)))))), (1, (1, (.tmp 66)))]), none⟩, ⟨none, (.store 2 (.tmp 6) (.tmp 67)), none⟩])
 .ret))) (.seq (.region [⟨(some 69), (.mov (.tmp 2)), none⟩, ⟨(some 70), (.bin .lss (.tmp 69) (.const (.c (.val (.int .i64 500))))), none⟩, ⟨(some 68), (.mov (.tmp 70)), none⟩])
 (.cond (.tmp 68) (.seq (.region [⟨(some 71), (.load true 2 (.tmp 3)), none⟩, ⟨none, (.store 2 (.tmp 6) (.tmp 71)), none⟩])
 .ret) .skip)))))))
 (.seq (.region [⟨(some 72), (.load true 2 (.tmp 4)), none⟩, ⟨none, (.store 2 (.tmp 6) (.tmp 72)), none⟩])
 .ret))))⟩
set_option maxRecDepth 100000 in
theorem c23 : compFunc Try.prog 23 = some a23 := by kernel_rfl
def anim_Mix_post (r : TVal) : AV → Heap → Nat → Prop := fun v h' n' => v = (.agg [cI r.Kind, cI r.N]) ∧ (h' = fun _ => none) ∧ n' = 0
noncomputable def anim_Mix_l0 (a_ : TVal) (b_ : TVal) (t_ : Int) (K1_ : Int → Option TVal) : Nat → Int → Int → Option TVal
  | 0, _, _ => none
  | k + 1, n_, at_ =>
    if decide (0 ≤ at_) then
      (shr? .u32 (wr .u32 a_.N) at_).bind fun r_ =>
      (shr? .u32 (wr .u32 b_.N) at_).bind fun r_1 =>
      letIn (anim_part (wr .i64 (bitsV .and .u32 r_ 255)) (wr .i64 (bitsV .and .u32 r_1 255)) (mn (mx t_ 0) 1000)) fun r_2 : Int =>
      (anim_Mix_l0 a_ b_ t_ K1_ k) (bitsV .or .i64 (shl .i64 n_ 8) r_2) (wi (at_ - 8))
    else
      K1_ n_
theorem anim_Mix_l0_ok {Γ : Glob} {Q : AExit → St → Prop} {a_ : TVal} {b_ : TVal} {t_ : Int} {K1_ : Int → Option TVal} {k : Nat} {n_ : Int} {at_ : Int} {o : TVal} (h : anim_Mix_l0 a_ b_ t_ K1_ k n_ at_ = some o)
    (hK1 : ∀ (n_1 : Int), K1_ n_1 = some o → ∀ s, Weak 0 s ⟨(upd (upd (fun _ => none) 6 (some (.c (.ref 0 2 0 0)))) 7 (some (I n_1))), (upd (fun _ => none) 0 (some (.cells 2 [[cI 0, cI 0]]))), 1⟩ → Q (.exit 1) s)
    (hr : ∀ s, Ends a23.results 0 (anim_Mix_post o) .ret s → Q .ret s) :
    Sv Try.prog Γ 0 (.loop a23_c0) Q ⟨(upd (upd (upd (upd (upd (upd (fun _ => none) 2 (some (I (mn (mx t_ 0) 1000)))) 3 (some (.c (.ref 0 2 0 0)))) 4 (some (.c (.ref 1 2 0 0)))) 6 (some (.c (.ref 2 2 0 0)))) 7 (some (I n_))) 8 (some (I at_))), (upd (upd (upd (fun _ => none) 0 (some (.cells 2 [[cI a_.Kind, cI a_.N]]))) 1 (some (.cells 2 [[cI b_.Kind, cI b_.N]]))) 2 (some (.cells 2 [[cI 0, cI 0]]))), 3⟩ := by
  refine Sv.loop (I := fun k s => ∃ (n_ : Int), ∃ (at_ : Int), anim_Mix_l0 a_ b_ t_ K1_ k n_ at_ = some o ∧ s = ⟨(upd (upd (upd (upd (upd (upd (fun _ => none) 2 (some (I (mn (mx t_ 0) 1000)))) 3 (some (.c (.ref 0 2 0 0)))) 4 (some (.c (.ref 1 2 0 0)))) 6 (some (.c (.ref 2 2 0 0)))) 7 (some (I n_))) 8 (some (I at_))), (upd (upd (upd (fun _ => none) 0 (some (.cells 2 [[cI a_.Kind, cI a_.N]]))) 1 (some (.cells 2 [[cI b_.Kind, cI b_.N]]))) 2 (some (.cells 2 [[cI 0, cI 0]]))), 3⟩) (fun k s hI => ?_) ⟨n_, at_, h, rfl⟩
  clear h
  clear at_ n_
  obtain ⟨n_, at_, h, rfl⟩ := hI
  cases k with
  | zero => cases h
  | succ k =>
  rw [anim_Mix_l0] at h
  have hself : ∀ (n_ : Int) (at_ : Int), (anim_Mix_l0 a_ b_ t_ K1_ k) n_ at_ = some o → ∀ s, Weak 0 s ⟨(upd (upd (upd (upd (upd (upd (fun _ => none) 2 (some (I (mn (mx t_ 0) 1000)))) 3 (some (.c (.ref 0 2 0 0)))) 4 (some (.c (.ref 1 2 0 0)))) 6 (some (.c (.ref 2 2 0 0)))) 7 (some (I n_))) 8 (some (I at_))), (upd (upd (upd (fun _ => none) 0 (some (.cells 2 [[cI a_.Kind, cI a_.N]]))) 1 (some (.cells 2 [[cI b_.Kind, cI b_.N]]))) 2 (some (.cells 2 [[cI 0, cI 0]]))), 3⟩ → (AThen (fun s' => ∃ s'' k', Weak 0 s' s'' ∧ k' < k + 1 ∧ (fun k s => ∃ (n_ : Int), ∃ (at_ : Int), anim_Mix_l0 a_ b_ t_ K1_ k n_ at_ = some o ∧ s = ⟨(upd (upd (upd (upd (upd (upd (fun _ => none) 2 (some (I (mn (mx t_ 0) 1000)))) 3 (some (.c (.ref 0 2 0 0)))) 4 (some (.c (.ref 1 2 0 0)))) 6 (some (.c (.ref 2 2 0 0)))) 7 (some (I n_))) 8 (some (I at_))), (upd (upd (upd (fun _ => none) 0 (some (.cells 2 [[cI a_.Kind, cI a_.N]]))) 1 (some (.cells 2 [[cI b_.Kind, cI b_.N]]))) 2 (some (.cells 2 [[cI 0, cI 0]]))), 3⟩) k' s'') Q) .normal s := fun n_ at_ h s hw => ⟨_, k, hw, Nat.lt_succ_self k, n_, at_, h, rfl⟩
  refine Sv.seq ?_
  refine Sv.seq ?_
  refine Sv.region ?_
  refine un (a1 rfl ?_)
  refine un (a1 (v := (B (decide (0 ≤ at_)))) rfl ?_)
  refine dnil ?_
  refine Sv.cond (b := decide (0 ≤ at_)) rfl (fun hc5 => ?_) (fun hc5 => ?_)
  · replace h := ifT hc5 h
    refine Sv.skip ?_
    refine Sv.seq ?_
    refine Sv.block ?_
    refine Sv.drawn ?_
    refine un (a1 rfl ?_)
    refine un (a1 (v := (I (shl .i64 n_ 8))) rfl ?_)
    refine un (a1 (v := (.c (.ref 0 2 0 1))) rfl ?_)
    refine un (a1 (v := (I a_.N)) rfl ?_)
    refine un (a1 (v := (.c (.val (.int .u32 (wr .u32 a_.N))))) rfl ?_)
    refine un (a1 rfl ?_)
    obtain ⟨r_, hx1, h⟩ := bnd h
    refine un (a1 (v := (.c (.val (.int .u32 r_)))) (s_shr rfl rfl hx1) ?_)
    refine un (a1 (v := (.c (.val (.int .u32 (bitsV .and .u32 r_ 255))))) rfl ?_)
    refine un (a1 (v := (I (wr .i64 (bitsV .and .u32 r_ 255)))) rfl ?_)
    refine un (a1 (v := (.c (.ref 1 2 0 1))) rfl ?_)
    refine un (a1 (v := (I b_.N)) rfl ?_)
    refine un (a1 (v := (.c (.val (.int .u32 (wr .u32 b_.N))))) rfl ?_)
    refine un (a1 rfl ?_)
    obtain ⟨r_1, hx2, h⟩ := bnd h
    refine un (a1 (v := (.c (.val (.int .u32 r_1)))) (s_shr rfl rfl hx2) ?_)
    refine un (a1 (v := (.c (.val (.int .u32 (bitsV .and .u32 r_1 255))))) rfl ?_)
    refine un (a1 (v := (I (wr .i64 (bitsV .and .u32 r_1 255)))) rfl ?_)
    refine un (a1 rfl ?_)
    obtain ⟨r_2, hr_2⟩ : ∃ r_2 : Int, r_2 = (anim_part (wr .i64 (bitsV .and .u32 r_ 255)) (wr .i64 (bitsV .and .u32 r_1 255)) (mn (mx t_ 0) 1000)) := ⟨_, rfl⟩
    replace h := letAt hr_2 h
    have pr_2 := (anim_part_ok (Γ := Γ) (wr .i64 (bitsV .and .u32 r_ 255)) (wr .i64 (bitsV .and .u32 r_1 255)) (mn (mx t_ 0) 1000))
    rw [← hr_2] at pr_2
    refine un (ac_pure pr_2 rfl rfl rfl ?_)
    refine un (a1 (v := (I (bitsV .or .i64 (shl .i64 n_ 8) r_2))) rfl ?_)
    refine un (a1 rfl ?_)
    refine dnil ?_
    refine Sv.region ?_
    refine un (a1 rfl ?_)
    refine un (a1 (v := (I (wi (at_ - 8)))) rfl ?_)
    refine un (a1 rfl ?_)
    refine dnil ?_
    exact hself (bitsV .or .i64 (shl .i64 n_ 8) r_2) (wi (at_ - 8)) h _ (weak_canon [0, 1, 2] rfl (by decide) (by decide) (fun b h => absurd h (Nat.not_lt_zero _)) (.cons rfl (avAs_free rfl) (.cons rfl (avAs_free rfl) (.cons rfl (.c (.ref rfl (by decide))) (.cons rfl (.c (.ref rfl (by decide))) (.cons rfl (.c (.ref rfl (by decide))) (.cons rfl (avAs_free rfl) .nil)))))) (.box (by decide) rfl (blkAs_cells (.cons (.same rfl) (.cons (.same rfl) .nil))) (.box (by decide) rfl (blkAs_cells (.cons (.same rfl) (.cons (.same rfl) .nil))) (.box (by decide) rfl (blkAs_cells (.cons (.same rfl) (.cons (.same rfl) .nil))) .nil))))
  · replace h := ifF hc5 h
    refine Sv.exit ?_
    exact hK1 n_ h _ (weak_canon [2] rfl (by decide) (by decide) (fun b h => absurd h (Nat.not_lt_zero _)) (.cons rfl (avAs_free rfl) (.cons rfl (.c (.ref rfl (by decide))) .nil)) (.box (by decide) rfl (blkAs_cells (.cons (.same rfl) (.cons (.same rfl) .nil))) .nil))
/-- clerestory/anim.Mix -/
noncomputable def anim_Mix (a_ : TVal) (b_ : TVal) (t_ : Int) : Option TVal :=
  if ((decide (a_.Kind = b_.Kind)) && (anim_in a_.Kind 2 4)) then
    some (⟨a_.Kind, (anim_part (anim_cut a_.N) (anim_cut b_.N) (mn (mx t_ 0) 1000))⟩ : TVal)
  else
    if ((decide (a_.Kind = 5)) && (decide (b_.Kind = 5))) then
      lim fun kk => anim_Mix_l0 a_ b_ t_ (fun (n_1 : Int) => 
          some (⟨5, n_1⟩ : TVal)) kk 0 24
    else
      if decide ((mn (mx t_ 0) 1000) < 500) then
        some a_
      else
        some b_
theorem anim_Mix_ok {Γ : Glob} {a_ : TVal} {b_ : TVal} {t_ : Int} {r : TVal} (h : anim_Mix a_ b_ t_ = some r) : CPure Try.prog Γ 23 [(.agg [cI a_.Kind, cI a_.N]), (.agg [cI b_.Kind, cI b_.N]), (I t_)] (.agg [cI r.Kind, cI r.N]) := by
  refine acalls_of_sv hmix c23 (R := anim_Mix_post r) ?_
  unfold anim_Mix at h
  refine Sv.seq ?_
  refine Sv.region ?_
  refine un (a2v (v := (.c (.ref 0 2 0 0))) (h' := upd _ 0 (some (.cells 2 [[cI a_.Kind, cI a_.N]]))) (n' := 1) rfl rfl (fun h => by cases h) ?_)
  refine un (a2v (v := (.c (.ref 1 2 0 0))) (h' := upd _ 1 (some (.cells 2 [[cI b_.Kind, cI b_.N]]))) (n' := 2) rfl rfl (fun h => by cases h) ?_)
  refine un (a2v (v := (.c (.ref 2 2 0 0))) (h' := upd _ 2 (some (.cells 2 [[cI 0, cI 0]]))) (n' := 3) rfl rfl (fun h => by cases h) ?_)
  refine dnil ?_
  refine Sv.seq ?_
  refine Sv.region ?_
  refine un (a1 rfl ?_)
  refine un (a1 (v := (I (mx t_ 0))) (s_mx rfl rfl) ?_)
  refine un (a1 (v := (I (mn (mx t_ 0) 1000))) (s_mn rfl rfl) ?_)
  refine un (a1 rfl ?_)
  refine dnil ?_
  refine Sv.seq ?_
  refine Sv.block ?_
  refine Sv.seq ?_
  refine Sv.region ?_
  refine un (a1 (v := (.c (.ref 0 2 0 0))) rfl ?_)
  refine un (a1 (v := (I a_.Kind)) rfl ?_)
  refine un (a1 (v := (.c (.ref 1 2 0 0))) rfl ?_)
  refine un (a1 (v := (I b_.Kind)) rfl ?_)
  refine un (a1 (v := (B (decide (a_.Kind = b_.Kind)))) rfl ?_)
  refine un (a1 rfl ?_)
  refine gjoin 4 (d := 22) (v := (B ((decide (a_.Kind = b_.Kind)) && (anim_in a_.Kind 2 4)))) (fun X hX => ?_) ?_
  · refine split2 (fun hc1 => ?_) (fun hc1 => ?_)
    · refine gt rfl (a1 (v := (.c (.ref 0 2 0 0))) rfl ?_)
      refine gt rfl (a1 (v := (I a_.Kind)) rfl ?_)
      refine gt rfl (ac_pure (anim_in_ok (Γ := Γ) a_.Kind 2 4) rfl rfl rfl ?_)
      refine un (a1 (v := (B (anim_in a_.Kind 2 4))) rfl ?_)
      refine dnil ?_
      exact hX _ (.putEq (by rw [hc1]; rfl) (.skip _ _ (.skip _ _ (.skip _ _ (.putEq (by rw [hc1]) (.refl _)) rfl) rfl) rfl))
    · refine gs rfl rfl ?_
      refine gs rfl rfl ?_
      refine gs rfl rfl ?_
      refine un (a1 (v := (B false)) rfl ?_)
      refine dnil ?_
      exact hX _ (.putEq (by rw [hc1]; rfl) (.skip _ _ (.skip _ _ (.skip _ _ (.putEq (by rw [hc1]) (.refl _)) rfl) rfl) rfl))
  refine un (a1 rfl ?_)
  refine dnil ?_
  refine Sv.cond (b := ((decide (a_.Kind = b_.Kind)) && (anim_in a_.Kind 2 4))) rfl (fun hc2 => ?_) (fun hc2 => ?_)
  · replace h := ifT hc2 h
    refine Sv.seq ?_
    refine Sv.drawn ?_
    refine un (a1 (v := (.c (.ref 0 2 0 0))) rfl ?_)
    refine un (a1 (v := (I a_.Kind)) rfl ?_)
    refine un (a1 (v := (.c (.ref 0 2 0 1))) rfl ?_)
    refine un (a1 (v := (I a_.N)) rfl ?_)
    refine un (a1 (v := (.c (.ref 1 2 0 1))) rfl ?_)
    refine un (a1 (v := (I b_.N)) rfl ?_)
    refine un (a1 rfl ?_)
    refine un (ac_pure (anim_cut_ok (Γ := Γ) a_.N) rfl rfl rfl ?_)
    refine un (ac_pure (anim_cut_ok (Γ := Γ) b_.N) rfl rfl rfl ?_)
    refine un (ac_pure (anim_part_ok (Γ := Γ) (anim_cut a_.N) (anim_cut b_.N) (mn (mx t_ 0) 1000)) rfl rfl rfl ?_)
    refine un (a1 (v := (.agg [cI a_.Kind, cI (anim_part (anim_cut a_.N) (anim_cut b_.N) (mn (mx t_ 0) 1000))])) rfl ?_)
    refine un (a2n (h' := upd _ 2 (some (.cells 2 [[cI a_.Kind, cI (anim_part (anim_cut a_.N) (anim_cut b_.N) (mn (mx t_ 0) 1000))]]))) (n' := 3) rfl rfl (fun h => by cases h) ?_)
    refine dnil ?_
    refine Sv.ret ?_
    replace h := Option.some.inj h
    subst h
    exact ⟨_, .refl _, _, rfl, ⟨upd (fun _ => none) 0 (some (.agg [cI a_.Kind, cI (anim_part (anim_cut a_.N) (anim_cut b_.N) (mn (mx t_ 0) 1000))])), fun _ => none, 0⟩, (.agg [cI a_.Kind, cI (anim_part (anim_cut a_.N) (anim_cut b_.N) (mn (mx t_ 0) 1000))]), weak_canon [] rfl List.nodup_nil (Nat.le_refl _) (fun b h => absurd h (Nat.not_lt_zero _)) (.cons rfl (avAs_free rfl) .nil) .nil, rfl, rfl, rfl, rfl⟩
  · replace h := ifF hc2 h
    refine Sv.seq ?_
    refine Sv.region ?_
    refine un (a1 (v := (.c (.ref 0 2 0 0))) rfl ?_)
    refine un (a1 (v := (I a_.Kind)) rfl ?_)
    refine un (a1 (v := (B (decide (a_.Kind = 5)))) rfl ?_)
    refine un (a1 rfl ?_)
    refine gjoin 4 (d := 42) (v := (B ((decide (a_.Kind = 5)) && (decide (b_.Kind = 5))))) (fun X hX => ?_) ?_
    · refine split2 (fun hc3 => ?_) (fun hc3 => ?_)
      · refine gt rfl (a1 (v := (.c (.ref 1 2 0 0))) rfl ?_)
        refine gt rfl (a1 (v := (I b_.Kind)) rfl ?_)
        refine gt rfl (a1 (v := (B (decide (b_.Kind = 5)))) rfl ?_)
        refine un (a1 (v := (B (decide (b_.Kind = 5)))) rfl ?_)
        refine dnil ?_
        exact hX _ (.putEq (by rw [hc3]; rfl) (.skip _ _ (.skip _ _ (.skip _ _ (.putEq (by rw [hc3]) (.refl _)) rfl) rfl) rfl))
      · refine gs rfl rfl ?_
        refine gs rfl rfl ?_
        refine gs rfl rfl ?_
        refine un (a1 (v := (B false)) rfl ?_)
        refine dnil ?_
        exact hX _ (.putEq (by rw [hc3]; rfl) (.skip _ _ (.skip _ _ (.skip _ _ (.putEq (by rw [hc3]) (.refl _)) rfl) rfl) rfl))
    refine un (a1 rfl ?_)
    refine dnil ?_
    refine Sv.cond (b := ((decide (a_.Kind = 5)) && (decide (b_.Kind = 5)))) rfl (fun hc4 => ?_) (fun hc4 => ?_)
    · replace h := ifT hc4 h
      refine Sv.seq ?_
      refine Sv.region ?_
      refine un (a1 rfl ?_)
      refine dnil ?_
      refine Sv.seq ?_
      refine Sv.seq ?_
      refine Sv.region ?_
      refine un (a1 rfl ?_)
      refine dnil ?_
      refine Sv.block ?_
      obtain ⟨kk, h⟩ := lim_some h
      refine Sv.weak (weak_canon [0, 1, 2] rfl (by decide) (by decide) (fun b h => absurd h (Nat.not_lt_zero _)) (.cons rfl (avAs_free rfl) (.cons rfl (avAs_free rfl) (.cons rfl (.c (.ref rfl (by decide))) (.cons rfl (.c (.ref rfl (by decide))) (.cons rfl (.c (.ref rfl (by decide))) (.cons rfl (avAs_free rfl) .nil)))))) (.box (by decide) rfl (blkAs_cells (.cons (.same rfl) (.cons (.same rfl) .nil))) (.box (by decide) rfl (blkAs_cells (.cons (.same rfl) (.cons (.same rfl) .nil))) (.box (by decide) rfl (blkAs_cells (.cons (.same rfl) (.cons (.same rfl) .nil))) .nil)))) (anim_Mix_l0_ok h ?_ (fun s hs => hs))
      · intro n_1 h _ hw1
        refine Sv.weak hw1 ?_
        refine Sv.seq ?_
        refine Sv.region ?_
        refine un (a1 rfl ?_)
        refine un (a1 (v := (.agg [cI 5, cI n_1])) rfl ?_)
        refine un (a2n (h' := upd _ 0 (some (.cells 2 [[cI 5, cI n_1]]))) (n' := 1) rfl rfl (fun h => by cases h) ?_)
        refine dnil ?_
        refine Sv.ret ?_
        replace h := Option.some.inj h
        subst h
        exact ⟨_, .refl _, _, rfl, ⟨upd (fun _ => none) 0 (some (.agg [cI 5, cI n_1])), fun _ => none, 0⟩, (.agg [cI 5, cI n_1]), weak_canon [] rfl List.nodup_nil (Nat.le_refl _) (fun b h => absurd h (Nat.not_lt_zero _)) (.cons rfl (avAs_free rfl) .nil) .nil, rfl, rfl, rfl, rfl⟩
    · replace h := ifF hc4 h
      refine Sv.seq ?_
      refine Sv.region ?_
      refine un (a1 rfl ?_)
      refine un (a1 (v := (B (decide ((mn (mx t_ 0) 1000) < 500)))) rfl ?_)
      refine un (a1 rfl ?_)
      refine dnil ?_
      refine Sv.cond (b := decide ((mn (mx t_ 0) 1000) < 500)) rfl (fun hc6 => ?_) (fun hc6 => ?_)
      · replace h := ifT hc6 h
        refine Sv.seq ?_
        refine Sv.region ?_
        refine un (a1 (v := (.agg [cI a_.Kind, cI a_.N])) rfl ?_)
        refine un (a2n (h' := upd _ 2 (some (.cells 2 [[cI a_.Kind, cI a_.N]]))) (n' := 3) rfl rfl (fun h => by cases h) ?_)
        refine dnil ?_
        refine Sv.ret ?_
        replace h := Option.some.inj h
        subst h
        exact ⟨_, .refl _, _, rfl, ⟨upd (fun _ => none) 0 (some (.agg [cI a_.Kind, cI a_.N])), fun _ => none, 0⟩, (.agg [cI a_.Kind, cI a_.N]), weak_canon [] rfl List.nodup_nil (Nat.le_refl _) (fun b h => absurd h (Nat.not_lt_zero _)) (.cons rfl (avAs_free rfl) .nil) .nil, rfl, rfl, rfl, rfl⟩
      · replace h := ifF hc6 h
        refine Sv.skip ?_
        refine Sv.seq ?_
        refine Sv.region ?_
        refine un (a1 (v := (.agg [cI b_.Kind, cI b_.N])) rfl ?_)
        refine un (a2n (h' := upd _ 2 (some (.cells 2 [[cI b_.Kind, cI b_.N]]))) (n' := 3) rfl rfl (fun h => by cases h) ?_)
        refine dnil ?_
        refine Sv.ret ?_
        replace h := Option.some.inj h
        subst h
        exact ⟨_, .refl _, _, rfl, ⟨upd (fun _ => none) 0 (some (.agg [cI b_.Kind, cI b_.N])), fun _ => none, 0⟩, (.agg [cI b_.Kind, cI b_.N]), weak_canon [] rfl List.nodup_nil (Nat.le_refl _) (fun b h => absurd h (Nat.not_lt_zero _)) (.cons rfl (avAs_free rfl) .nil) .nil, rfl, rfl, rfl, rfl⟩
def a46 : AFunc := ⟨1, [(.tmp 2)], (.seq (.region [⟨(some 2), (.mov (.const (.c (.val (.int .i64 0))))), none⟩])
 (.seq (.region [⟨(some 3), (.mov (.tmp 0)), none⟩, ⟨(some 4), (.mm false [(.tmp 3), (.const (.c (.val (.int .i64 16777216))))]), none⟩, ⟨(some 5), (.mm true [(.const (.c (.val (.int .i64 (-16777216))))), (.tmp 4)]), none⟩, ⟨(some 2), (.mov (.tmp 5)), none⟩])
 .ret))⟩
set_option maxRecDepth 100000 in
theorem c46 : compFunc Try.prog 46 = some a46 := by kernel_rfl
def clerestoryref2_Cut_post (r : Int) : AV → Heap → Nat → Prop := fun v h' n' => v = (I r) ∧ (h' = fun _ => none) ∧ n' = 0
/-- clerestory/clerestoryref2.Cut -/
def clerestoryref2_Cut (n_ : Int) : Int :=
  (mx (-16777216) (mn n_ 16777216))
theorem clerestoryref2_Cut_ok {Γ : Glob} (n_ : Int) : CPure Try.prog Γ 46 [(I n_)] (I (clerestoryref2_Cut n_)) := by
  generalize h : clerestoryref2_Cut n_ = o
  refine acalls_of_sv hmix c46 (R := clerestoryref2_Cut_post o) ?_
  unfold clerestoryref2_Cut at h
  refine Sv.seq ?_
  refine Sv.region ?_
  refine un (a1 rfl ?_)
  refine dnil ?_
  refine Sv.seq ?_
  refine Sv.region ?_
  refine un (a1 rfl ?_)
  refine un (a1 (v := (I (mn n_ 16777216))) (s_mn rfl rfl) ?_)
  refine un (a1 (v := (I (mx (-16777216) (mn n_ 16777216)))) (s_mx rfl rfl) ?_)
  refine un (a1 rfl ?_)
  refine dnil ?_
  refine Sv.ret ?_
  subst h
  exact ⟨_, .refl _, _, rfl, ⟨upd (fun _ => none) 0 (some (I (mx (-16777216) (mn n_ 16777216)))), fun _ => none, 0⟩, (I (mx (-16777216) (mn n_ 16777216))), weak_canon [] rfl List.nodup_nil (Nat.le_refl _) (fun b h => absurd h (Nat.not_lt_zero _)) (.cons rfl (avAs_free rfl) .nil) .nil, rfl, rfl, rfl, rfl⟩
def a47_c0 : ACode := (.seq (.region [⟨(some 16), (.mov (.tmp 5)), none⟩, ⟨(some 4), (.mov (.tmp 16)), none⟩])
 .ret)
def a47 : AFunc := ⟨2, [(.tmp 4)], (.seq (.region [⟨(some 4), (.mov (.const (.c (.val (.int .i64 0))))), none⟩])
 (.seq (.region [⟨(some 6), (.mov (.tmp 0)), none⟩, ⟨(some 7), (.mov (.tmp 1)), none⟩, ⟨(some 8), (.bin .quo (.tmp 6) (.tmp 7)), none⟩, ⟨(some 5), (.mov (.tmp 8)), none⟩])
 (.seq (.seq (.region [⟨(some 9), (.mov (.tmp 5)), none⟩, ⟨(some 10), (.mov (.tmp 1)), none⟩, ⟨(some 11), (.bin .mul (.tmp 9) (.tmp 10)), none⟩, ⟨(some 12), (.mov (.tmp 0)), none⟩, ⟨(some 13), (.bin .gtr (.tmp 11) (.tmp 12)), none⟩])
 (.cond (.tmp 13) (.region [⟨(some 14), (.mov (.tmp 5)), none⟩, ⟨(some 15), (.bin .sub (.tmp 14) (.const (.c (.val (.int .i64 1))))), none⟩, ⟨(some 5), (.mov (.tmp 15)), none⟩]) .skip))
 a47_c0)))⟩
set_option maxRecDepth 100000 in
theorem c47 : compFunc Try.prog 47 = some a47 := by kernel_rfl
def clerestoryref2_Whole_post (r : Int) : AV → Heap → Nat → Prop := fun v h' n' => v = (I r) ∧ (h' = fun _ => none) ∧ n' = 0
noncomputable def clerestoryref2_Whole_j1 (q_ : Int) : Option Int :=
  some q_
theorem clerestoryref2_Whole_j1_ok {Γ : Glob} {q_ : Int} {o : Int} (h : clerestoryref2_Whole_j1 q_ = some o) :
    Sv Try.prog Γ 0 a47_c0 (Ends a47.results 0 (clerestoryref2_Whole_post o)) ⟨(upd (fun _ => none) 5 (some (I q_))), (fun _ => none), 0⟩ := by
  unfold clerestoryref2_Whole_j1 at h
  refine Sv.seq ?_
  refine Sv.region ?_
  refine un (a1 rfl ?_)
  refine un (a1 rfl ?_)
  refine dnil ?_
  refine Sv.ret ?_
  replace h := Option.some.inj h
  subst h
  exact ⟨_, .refl _, _, rfl, ⟨upd (fun _ => none) 0 (some (I q_)), fun _ => none, 0⟩, (I q_), weak_canon [] rfl List.nodup_nil (Nat.le_refl _) (fun b h => absurd h (Nat.not_lt_zero _)) (.cons rfl (avAs_free rfl) .nil) .nil, rfl, rfl, rfl, rfl⟩
/-- clerestory/clerestoryref2.Whole -/
noncomputable def clerestoryref2_Whole (n_ : Int) (by_ : Int) : Option Int :=
  (quo? .i64 n_ by_).bind fun r_ =>
  if decide (n_ < (wi (r_ * by_))) then
    clerestoryref2_Whole_j1 (wi (r_ - 1))
  else
    clerestoryref2_Whole_j1 r_
theorem clerestoryref2_Whole_ok {Γ : Glob} {n_ : Int} {by_ : Int} {r : Int} (h : clerestoryref2_Whole n_ by_ = some r) : CPure Try.prog Γ 47 [(I n_), (I by_)] (I r) := by
  refine acalls_of_sv hmix c47 (R := clerestoryref2_Whole_post r) ?_
  unfold clerestoryref2_Whole at h
  refine Sv.seq ?_
  refine Sv.region ?_
  refine un (a1 rfl ?_)
  refine dnil ?_
  refine Sv.seq ?_
  refine Sv.region ?_
  refine un (a1 rfl ?_)
  refine un (a1 rfl ?_)
  obtain ⟨r_, hx1, h⟩ := bnd h
  refine un (a1 (v := (I r_)) (s_quo rfl rfl hx1) ?_)
  refine un (a1 rfl ?_)
  refine dnil ?_
  refine Sv.seq ?_
  refine Sv.seq ?_
  refine Sv.region ?_
  refine un (a1 rfl ?_)
  refine un (a1 rfl ?_)
  refine un (a1 (v := (I (wi (r_ * by_)))) rfl ?_)
  refine un (a1 rfl ?_)
  refine un (a1 (v := (B (decide (n_ < (wi (r_ * by_)))))) rfl ?_)
  refine dnil ?_
  refine Sv.cond (b := decide (n_ < (wi (r_ * by_)))) rfl (fun hc1 => ?_) (fun hc1 => ?_)
  · replace h := ifT hc1 h
    refine Sv.region ?_
    refine un (a1 rfl ?_)
    refine un (a1 (v := (I (wi (r_ - 1)))) rfl ?_)
    refine un (a1 rfl ?_)
    refine dnil ?_
    exact Sv.weak (weak_canon [] rfl (by decide) (by decide) (fun b h => absurd h (Nat.not_lt_zero _)) (.cons rfl (avAs_free rfl) .nil) .nil) (clerestoryref2_Whole_j1_ok h)
  · replace h := ifF hc1 h
    refine Sv.skip ?_
    exact Sv.weak (weak_canon [] rfl (by decide) (by decide) (fun b h => absurd h (Nat.not_lt_zero _)) (.cons rfl (avAs_free rfl) .nil) .nil) (clerestoryref2_Whole_j1_ok h)
def a48 : AFunc := ⟨2, [(.tmp 4)], (.seq (.region [⟨(some 4), (.mov (.const (.c (.val (.int .i64 0))))), none⟩])
 (.seq (.region [⟨(some 5), (.mov (.tmp 0)), none⟩, ⟨(some 6), (.conv .u32 (.tmp 5)), none⟩, ⟨(some 7), (.mov (.tmp 1)), none⟩, ⟨(some 8), (.bin .mul (.const (.c (.val (.int .i64 8)))) (.tmp 7)), none⟩, ⟨(some 9), (.conv .u64 (.tmp 8)), none⟩, ⟨(some 10), (.bin .shr (.tmp 6) (.tmp 9)), none⟩, ⟨(some 11), (.conv .i64 (.tmp 10)), none⟩, ⟨(some 12), (.bin .rem (.tmp 11) (.const (.c (.val (.int .i64 256))))), none⟩, ⟨(some 4), (.mov (.tmp 12)), none⟩])
 .ret))⟩
set_option maxRecDepth 100000 in
theorem c48 : compFunc Try.prog 48 = some a48 := by kernel_rfl
def clerestoryref2_Byte_post (r : Int) : AV → Heap → Nat → Prop := fun v h' n' => v = (I r) ∧ (h' = fun _ => none) ∧ n' = 0
/-- clerestory/clerestoryref2.Byte -/
noncomputable def clerestoryref2_Byte (c_ : Int) (i_ : Int) : Option Int :=
  (shr? .u32 (wr .u32 c_) (wr .u64 (wi (8 * i_)))).bind fun r_ =>
  some ((wr .i64 r_).tmod 256)
theorem clerestoryref2_Byte_ok {Γ : Glob} {c_ : Int} {i_ : Int} {r : Int} (h : clerestoryref2_Byte c_ i_ = some r) : CPure Try.prog Γ 48 [(I c_), (I i_)] (I r) := by
  refine acalls_of_sv hmix c48 (R := clerestoryref2_Byte_post r) ?_
  unfold clerestoryref2_Byte at h
  refine Sv.seq ?_
  refine Sv.region ?_
  refine un (a1 rfl ?_)
  refine dnil ?_
  refine Sv.seq ?_
  refine Sv.region ?_
  refine un (a1 rfl ?_)
  refine un (a1 (v := (.c (.val (.int .u32 (wr .u32 c_))))) rfl ?_)
  refine un (a1 rfl ?_)
  refine un (a1 (v := (I (wi (8 * i_)))) rfl ?_)
  refine un (a1 (v := (.c (.val (.int .u64 (wr .u64 (wi (8 * i_))))))) rfl ?_)
  obtain ⟨r_, hx1, h⟩ := bnd h
  refine un (a1 (v := (.c (.val (.int .u32 r_)))) (s_shr rfl rfl hx1) ?_)
  refine un (a1 (v := (I (wr .i64 r_))) rfl ?_)
  refine un (a1 (v := (I ((wr .i64 r_).tmod 256))) rfl ?_)
  refine un (a1 rfl ?_)
  refine dnil ?_
  refine Sv.ret ?_
  replace h := Option.some.inj h
  subst h
  exact ⟨_, .refl _, _, rfl, ⟨upd (fun _ => none) 0 (some (I ((wr .i64 r_).tmod 256))), fun _ => none, 0⟩, (I ((wr .i64 r_).tmod 256)), weak_canon [] rfl List.nodup_nil (Nat.le_refl _) (fun b h => absurd h (Nat.not_lt_zero _)) (.cons rfl (avAs_free rfl) .nil) .nil, rfl, rfl, rfl, rfl⟩
def a24_c0 : ACode := (.seq (.seq (.region [⟨(some 57), (.mov (.tmp 9)), none⟩, ⟨(some 58), (.bin .geq (.tmp 57) (.const (.c (.val (.int .i64 0))))), none⟩])
 (.cond (.tmp 58) .skip (.exit 0)))
 (.seq (.block 1 (.drawn [(⟨(some 61), (.mov (.tmp 8)), none⟩, (0, 0)), (⟨(some 62), (.bin .mul (.const (.c (.val (.int .i64 256)))) (.tmp 61)), none⟩, (0, 1)), (⟨(some 63), (.faddr 1 (.tmp 3)), none⟩, (0, 2)), (⟨(some 64), (.load false 1 (.tmp 63)), none⟩, (0, 3)), (⟨(some 65), (.mov (.tmp 9)), none⟩, (0, 4)), (⟨(some 68), (.faddr 1 (.tmp 4)), none⟩, (0, 7)), (⟨(some 69), (.load false 1 (.tmp 68)), none⟩, (0, 8)), (⟨(some 70), (.mov (.tmp 9)), none⟩, (0, 9)), (⟨(some 72), (.faddr 1 (.tmp 3)), none⟩, (0, 11)), (⟨(some 73), (.load false 1 (.tmp 72)), none⟩, (0, 12)), (⟨(some 74), (.mov (.tmp 9)), none⟩, (0, 13)), (⟨(some 77), (.mov (.tmp 2)), none⟩, (0, 16)), (⟨(some 66), (.call 48 [(.tmp 64), (.tmp 65)]), none⟩, (1, 5)), (⟨(some 67), (.bin .add (.tmp 62) (.tmp 66)), none⟩, (0, 6)), (⟨(some 71), (.call 48 [(.tmp 69), (.tmp 70)]), none⟩, (1, 10)), (⟨(some 75), (.call 48 [(.tmp 73), (.tmp 74)]), none⟩, (2, 14)), (⟨(some 76), (.bin .sub (.tmp 71) (.tmp 75)), none⟩, (0, 15)), (⟨(some 78), (.bin .mul (.tmp 76) (.tmp 77)), none⟩, (0, 17)), (⟨(some 79), (.call 47 [(.tmp 78), (.const (.c (.val (.int .i64 1000))))]), none⟩, (2, 18)), (⟨(some 80), (.bin .add (.tmp 67) (.tmp 79)), none⟩, (0, 19)), (⟨(some 8), (.mov (.tmp 80)), none⟩, (0, 20))]))
 (.region [⟨(some 59), (.mov (.tmp 9)), none⟩, ⟨(some 60), (.bin .sub (.tmp 59) (.const (.c (.val (.int .i64 1))))), none⟩, ⟨(some 9), (.mov (.tmp 60)), none⟩])))
def a24 : AFunc := ⟨3, [(.cell true 2 6)], (.seq (.region [⟨(some 3), (.box (.tmp 0)), none⟩, ⟨(some 4), (.box (.tmp 1)), none⟩, ⟨(some 6), (.box (.const (.agg [(.val (.int .i64 0)), (.val (.int .i64 0))]))), none⟩])
 (.seq (.region [⟨(some 10), (.mov (.tmp 2)), none⟩, ⟨(some 11), (.mm false [(.tmp 10), (.const (.c (.val (.int .i64 1000))))]), none⟩, ⟨(some 12), (.mm true [(.const (.c (.val (.int .i64 0)))), (.tmp 11)]), none⟩, ⟨(some 2), (.mov (.tmp 12)), none⟩])
 (.seq (.seq (.region [⟨(some 13), (.faddr 0 (.tmp 3)), none⟩, ⟨(some 14), (.load false 1 (.tmp 13)), none⟩, ⟨(some 15), (.faddr 0 (.tmp 4)), none⟩, ⟨(some 16), (.load false 1 (.tmp 15)), none⟩, ⟨(some 17), (.bin .eql (.tmp 14) (.tmp 16)), none⟩, ⟨(some 18), (.mov (.tmp 17)), none⟩, ⟨(some 19), (.faddr 0 (.tmp 3)), (some (18, true))⟩, ⟨(some 20), (.load false 1 (.tmp 19)), (some (18, true))⟩, ⟨(some 21), (.bin .eql (.tmp 20) (.const (.c (.val (.int .i64 2))))), (some (18, true))⟩, ⟨(some 22), (.mov (.tmp 21)), (some (18, true))⟩, ⟨(some 23), (.faddr 0 (.tmp 3)), (some (22, false))⟩, ⟨(some 24), (.load false 1 (.tmp 23)), (some (22, false))⟩, ⟨(some 25), (.bin .eql (.tmp 24) (.const (.c (.val (.int .i64 3))))), (some (22, false))⟩, ⟨(some 26), (.pick (.tmp 22) (.const (.c (.val (.bool true)))) (.tmp 25)), (some (18, true))⟩, ⟨(some 27), (.mov (.tmp 26)), (some (18, true))⟩, ⟨(some 28), (.faddr 0 (.tmp 3)), (some (27, false))⟩, ⟨(some 29), (.load false 1 (.tmp 28)), (some (27, false))⟩, ⟨(some 30), (.bin .eql (.tmp 29) (.const (.c (.val (.int .i64 4))))), (some (27, false))⟩, ⟨(some 31), (.pick (.tmp 27) (.const (.c (.val (.bool true)))) (.tmp 30)), (some (18, true))⟩, ⟨(some 32), (.pick (.tmp 18) (.tmp 31) (.const (.c (.val (.bool false))))), none⟩])
 (.cond (.tmp 32) (.seq (.region [⟨(some 33), (.faddr 1 (.tmp 3)), none⟩, ⟨(some 34), (.load false 1 (.tmp 33)), none⟩, ⟨(some 35), (.call 46 [(.tmp 34)]), none⟩, ⟨(some 7), (.mov (.tmp 35)), none⟩])
 (.seq (.drawn [(⟨(some 36), (.faddr 0 (.tmp 3)), none⟩, (0, 0)), (⟨(some 37), (.load false 1 (.tmp 36)), none⟩, (0, 1)), (⟨(some 38), (.mov (.tmp 7)), none⟩, (0, 2)), (⟨(some 39), (.faddr 1 (.tmp 4)), none⟩, (0, 3)), (⟨(some 40), (.load false 1 (.tmp 39)), none⟩, (0, 4)), (⟨(some 42), (.mov (.tmp 7)), none⟩, (0, 6)), (⟨(some 44), (.mov (.tmp 2)), none⟩, (0, 8)), (⟨(some 41), (.call 46 [(.tmp 40)]), none⟩, (1, 5)), (⟨(some 43), (.bin .sub (.tmp 41) (.tmp 42)), none⟩, (0, 7)), (⟨(some 45), (.bin .mul (.tmp 43) (.tmp 44)), none⟩, (0, 9)), (⟨(some 46), (.call 47 [(.tmp 45), (.const (.c (.val (.int .i64 1000))))]), none⟩, (1, 10)), (⟨(some 47), (.bin .add (.tmp 38) (.tmp 46)), none⟩, (0, 11)), (⟨(some 48), (.build [(.val (.int .i64 0)), (.val (.int .i64 0))] [(0, (1, (.tmp 37))), (1, (1, (.tmp 47)))]), none⟩, (0, 12)), (⟨none, (.store 2 (.tmp 6) (.tmp 48)), none⟩, (2, 13))])
 .ret)) .skip))
 (.seq (.seq (.region [⟨(some 49), (.faddr 0 (.tmp 3)), none⟩, ⟨(some 50), (.load false 1 (.tmp 49)), none⟩, ⟨(some 51), (.bin .eql (.tmp 50) (.const (.c (.val (.int .i64 5))))), none⟩, ⟨(some 52), (.mov (.tmp 51)), none⟩, ⟨(some 53), (.faddr 0 (.tmp 4)), (some (52, true))⟩, ⟨(some 54), (.load false 1 (.tmp 53)), (some (52, true))⟩, ⟨(some 55), (.bin .eql (.tmp 54) (.const (.c (.val (.int .i64 5))))), (some (52, true))⟩, ⟨(some 56), (.pick (.tmp 52) (.tmp 55) (.const (.c (.val (.bool false))))), none⟩])
 (.cond (.tmp 56) (.seq (.region [⟨(some 8), (.mov (.const (.c (.val (.int .i64 0))))), none⟩])
 (.seq (.seq (.region [⟨(some 9), (.mov (.const (.c (.val (.int .i64 3))))), none⟩])
 (.block 0 (.loop a24_c0)))
 (.seq (.region [⟨(some 81), (.mov (.tmp 8)), none⟩, ⟨(some 82), (.build [(.val (.int .i64 0)), (.val (.int .i64 0))] [(0, (1, (.const (.c (.val (.int .i64 5)))))), (1, (1, (.tmp 81)))]), none⟩, ⟨none, (.store 2 (.tmp 6) (.tmp 82)), none⟩])
 .ret))) .skip))
 (.seq (.seq (.region [⟨(some 83), (.mov (.tmp 2)), none⟩, ⟨(some 84), (.bin .lss (.tmp 83) (.const (.c (.val (.int .i64 500))))), none⟩])
 (.cond (.tmp 84) (.seq (.region [⟨(some 85), (.load true 2 (.tmp 3)), none⟩, ⟨none, (.store 2 (.tmp 6) (.tmp 85)), none⟩])
 .ret) .skip))
 (.seq (.region [⟨(some 86), (.load true 2 (.tmp 4)), none⟩, ⟨none, (.store 2 (.tmp 6) (.tmp 86)), none⟩])
 .ret))))))⟩
set_option maxRecDepth 100000 in
theorem c24 : compFunc Try.prog 24 = some a24 := by kernel_rfl
def clerestoryref2_MixOf_post (r : TVal) : AV → Heap → Nat → Prop := fun v h' n' => v = (.agg [cI r.Kind, cI r.N]) ∧ (h' = fun _ => none) ∧ n' = 0
noncomputable def clerestoryref2_MixOf_l0 (a_ : TVal) (b_ : TVal) (t_ : Int) (K0_ : Int → Option TVal) : Nat → Int → Int → Option TVal
  | 0, _, _ => none
  | k + 1, n_, i_ =>
    if decide (0 ≤ i_) then
      (clerestoryref2_Byte a_.N i_).bind fun r_1 =>
      (clerestoryref2_Byte b_.N i_).bind fun r_2 =>
      (clerestoryref2_Byte a_.N i_).bind fun r_3 =>
      (clerestoryref2_Whole (wi ((wi (r_2 - r_3)) * (mx 0 (mn t_ 1000)))) 1000).bind fun r_4 =>
      (clerestoryref2_MixOf_l0 a_ b_ t_ K0_ k) (wi ((wi ((wi (256 * n_)) + r_1)) + r_4)) (wi (i_ - 1))
    else
      K0_ n_
theorem clerestoryref2_MixOf_l0_ok {Γ : Glob} {Q : AExit → St → Prop} {a_ : TVal} {b_ : TVal} {t_ : Int} {K0_ : Int → Option TVal} {k : Nat} {n_ : Int} {i_ : Int} {o : TVal} (h : clerestoryref2_MixOf_l0 a_ b_ t_ K0_ k n_ i_ = some o)
    (hK0 : ∀ (n_1 : Int), K0_ n_1 = some o → ∀ s, Weak 0 s ⟨(upd (upd (fun _ => none) 6 (some (.c (.ref 0 2 0 0)))) 8 (some (I n_1))), (upd (fun _ => none) 0 (some (.cells 2 [[cI 0, cI 0]]))), 1⟩ → Q (.exit 0) s)
    (hr : ∀ s, Ends a24.results 0 (clerestoryref2_MixOf_post o) .ret s → Q .ret s) :
    Sv Try.prog Γ 0 (.loop a24_c0) Q ⟨(upd (upd (upd (upd (upd (upd (fun _ => none) 2 (some (I (mx 0 (mn t_ 1000))))) 3 (some (.c (.ref 0 2 0 0)))) 4 (some (.c (.ref 1 2 0 0)))) 6 (some (.c (.ref 2 2 0 0)))) 8 (some (I n_))) 9 (some (I i_))), (upd (upd (upd (fun _ => none) 0 (some (.cells 2 [[cI a_.Kind, cI a_.N]]))) 1 (some (.cells 2 [[cI b_.Kind, cI b_.N]]))) 2 (some (.cells 2 [[cI 0, cI 0]]))), 3⟩ := by
  refine Sv.loop (I := fun k s => ∃ (n_ : Int), ∃ (i_ : Int), clerestoryref2_MixOf_l0 a_ b_ t_ K0_ k n_ i_ = some o ∧ s = ⟨(upd (upd (upd (upd (upd (upd (fun _ => none) 2 (some (I (mx 0 (mn t_ 1000))))) 3 (some (.c (.ref 0 2 0 0)))) 4 (some (.c (.ref 1 2 0 0)))) 6 (some (.c (.ref 2 2 0 0)))) 8 (some (I n_))) 9 (some (I i_))), (upd (upd (upd (fun _ => none) 0 (some (.cells 2 [[cI a_.Kind, cI a_.N]]))) 1 (some (.cells 2 [[cI b_.Kind, cI b_.N]]))) 2 (some (.cells 2 [[cI 0, cI 0]]))), 3⟩) (fun k s hI => ?_) ⟨n_, i_, h, rfl⟩
  clear h
  clear i_ n_
  obtain ⟨n_, i_, h, rfl⟩ := hI
  cases k with
  | zero => cases h
  | succ k =>
  rw [clerestoryref2_MixOf_l0] at h
  have hself : ∀ (n_ : Int) (i_ : Int), (clerestoryref2_MixOf_l0 a_ b_ t_ K0_ k) n_ i_ = some o → ∀ s, Weak 0 s ⟨(upd (upd (upd (upd (upd (upd (fun _ => none) 2 (some (I (mx 0 (mn t_ 1000))))) 3 (some (.c (.ref 0 2 0 0)))) 4 (some (.c (.ref 1 2 0 0)))) 6 (some (.c (.ref 2 2 0 0)))) 8 (some (I n_))) 9 (some (I i_))), (upd (upd (upd (fun _ => none) 0 (some (.cells 2 [[cI a_.Kind, cI a_.N]]))) 1 (some (.cells 2 [[cI b_.Kind, cI b_.N]]))) 2 (some (.cells 2 [[cI 0, cI 0]]))), 3⟩ → (AThen (fun s' => ∃ s'' k', Weak 0 s' s'' ∧ k' < k + 1 ∧ (fun k s => ∃ (n_ : Int), ∃ (i_ : Int), clerestoryref2_MixOf_l0 a_ b_ t_ K0_ k n_ i_ = some o ∧ s = ⟨(upd (upd (upd (upd (upd (upd (fun _ => none) 2 (some (I (mx 0 (mn t_ 1000))))) 3 (some (.c (.ref 0 2 0 0)))) 4 (some (.c (.ref 1 2 0 0)))) 6 (some (.c (.ref 2 2 0 0)))) 8 (some (I n_))) 9 (some (I i_))), (upd (upd (upd (fun _ => none) 0 (some (.cells 2 [[cI a_.Kind, cI a_.N]]))) 1 (some (.cells 2 [[cI b_.Kind, cI b_.N]]))) 2 (some (.cells 2 [[cI 0, cI 0]]))), 3⟩) k' s'') Q) .normal s := fun n_ i_ h s hw => ⟨_, k, hw, Nat.lt_succ_self k, n_, i_, h, rfl⟩
  refine Sv.seq ?_
  refine Sv.seq ?_
  refine Sv.region ?_
  refine un (a1 rfl ?_)
  refine un (a1 (v := (B (decide (0 ≤ i_)))) rfl ?_)
  refine dnil ?_
  refine Sv.cond (b := decide (0 ≤ i_)) rfl (fun hc7 => ?_) (fun hc7 => ?_)
  · replace h := ifT hc7 h
    refine Sv.skip ?_
    refine Sv.seq ?_
    refine Sv.block ?_
    refine Sv.drawn ?_
    refine un (a1 rfl ?_)
    refine un (a1 (v := (I (wi (256 * n_)))) rfl ?_)
    refine un (a1 (v := (.c (.ref 0 2 0 1))) rfl ?_)
    refine un (a1 (v := (I a_.N)) rfl ?_)
    refine un (a1 rfl ?_)
    refine un (a1 (v := (.c (.ref 1 2 0 1))) rfl ?_)
    refine un (a1 (v := (I b_.N)) rfl ?_)
    refine un (a1 rfl ?_)
    refine un (a1 (v := (.c (.ref 0 2 0 1))) rfl ?_)
    refine un (a1 (v := (I a_.N)) rfl ?_)
    refine un (a1 rfl ?_)
    refine un (a1 rfl ?_)
    obtain ⟨r_1, hr2, h⟩ := bnd h
    refine un (ac_pure (clerestoryref2_Byte_ok hr2) rfl rfl rfl ?_)
    refine un (a1 (v := (I (wi ((wi (256 * n_)) + r_1)))) rfl ?_)
    obtain ⟨r_2, hr3, h⟩ := bnd h
    refine un (ac_pure (clerestoryref2_Byte_ok hr3) rfl rfl rfl ?_)
    obtain ⟨r_3, hr4, h⟩ := bnd h
    refine un (ac_pure (clerestoryref2_Byte_ok hr4) rfl rfl rfl ?_)
    refine un (a1 (v := (I (wi (r_2 - r_3)))) rfl ?_)
    refine un (a1 (v := (I (wi ((wi (r_2 - r_3)) * (mx 0 (mn t_ 1000)))))) rfl ?_)
    obtain ⟨r_4, hr5, h⟩ := bnd h
    refine un (ac_pure (clerestoryref2_Whole_ok hr5) rfl rfl rfl ?_)
    refine un (a1 (v := (I (wi ((wi ((wi (256 * n_)) + r_1)) + r_4)))) rfl ?_)
    refine un (a1 rfl ?_)
    refine dnil ?_
    refine Sv.region ?_
    refine un (a1 rfl ?_)
    refine un (a1 (v := (I (wi (i_ - 1)))) rfl ?_)
    refine un (a1 rfl ?_)
    refine dnil ?_
    exact hself (wi ((wi ((wi (256 * n_)) + r_1)) + r_4)) (wi (i_ - 1)) h _ (weak_canon [0, 1, 2] rfl (by decide) (by decide) (fun b h => absurd h (Nat.not_lt_zero _)) (.cons rfl (avAs_free rfl) (.cons rfl (avAs_free rfl) (.cons rfl (.c (.ref rfl (by decide))) (.cons rfl (.c (.ref rfl (by decide))) (.cons rfl (.c (.ref rfl (by decide))) (.cons rfl (avAs_free rfl) .nil)))))) (.box (by decide) rfl (blkAs_cells (.cons (.same rfl) (.cons (.same rfl) .nil))) (.box (by decide) rfl (blkAs_cells (.cons (.same rfl) (.cons (.same rfl) .nil))) (.box (by decide) rfl (blkAs_cells (.cons (.same rfl) (.cons (.same rfl) .nil))) .nil))))
  · replace h := ifF hc7 h
    refine Sv.exit ?_
    exact hK0 n_ h _ (weak_canon [2] rfl (by decide) (by decide) (fun b h => absurd h (Nat.not_lt_zero _)) (.cons rfl (avAs_free rfl) (.cons rfl (.c (.ref rfl (by decide))) .nil)) (.box (by decide) rfl (blkAs_cells (.cons (.same rfl) (.cons (.same rfl) .nil))) .nil))
/-- clerestory/clerestoryref2.MixOf -/
noncomputable def clerestoryref2_MixOf (a_ : TVal) (b_ : TVal) (t_ : Int) : Option TVal :=
  if ((decide (a_.Kind = b_.Kind)) && (((decide (a_.Kind = 2)) || (decide (a_.Kind = 3))) || (decide (a_.Kind = 4)))) then
    letIn (wi ((wi ((clerestoryref2_Cut b_.N) - (clerestoryref2_Cut a_.N))) * (mx 0 (mn t_ 1000)))) fun v45 : Int =>
    (clerestoryref2_Whole v45 1000).bind fun r_ =>
    some (⟨a_.Kind, (wi ((clerestoryref2_Cut a_.N) + r_))⟩ : TVal)
  else
    if ((decide (a_.Kind = 5)) && (decide (b_.Kind = 5))) then
      lim fun kk => clerestoryref2_MixOf_l0 a_ b_ t_ (fun (n_1 : Int) => 
          some (⟨5, n_1⟩ : TVal)) kk 0 3
    else
      if decide ((mx 0 (mn t_ 1000)) < 500) then
        some a_
      else
        some b_
theorem clerestoryref2_MixOf_ok {Γ : Glob} {a_ : TVal} {b_ : TVal} {t_ : Int} {r : TVal} (h : clerestoryref2_MixOf a_ b_ t_ = some r) : CPure Try.prog Γ 24 [(.agg [cI a_.Kind, cI a_.N]), (.agg [cI b_.Kind, cI b_.N]), (I t_)] (.agg [cI r.Kind, cI r.N]) := by
  refine acalls_of_sv hmix c24 (R := clerestoryref2_MixOf_post r) ?_
  unfold clerestoryref2_MixOf at h
  refine Sv.seq ?_
  refine Sv.region ?_
  refine un (a2v (v := (.c (.ref 0 2 0 0))) (h' := upd _ 0 (some (.cells 2 [[cI a_.Kind, cI a_.N]]))) (n' := 1) rfl rfl (fun h => by cases h) ?_)
  refine un (a2v (v := (.c (.ref 1 2 0 0))) (h' := upd _ 1 (some (.cells 2 [[cI b_.Kind, cI b_.N]]))) (n' := 2) rfl rfl (fun h => by cases h) ?_)
  refine un (a2v (v := (.c (.ref 2 2 0 0))) (h' := upd _ 2 (some (.cells 2 [[cI 0, cI 0]]))) (n' := 3) rfl rfl (fun h => by cases h) ?_)
  refine dnil ?_
  refine Sv.seq ?_
  refine Sv.region ?_
  refine un (a1 rfl ?_)
  refine un (a1 (v := (I (mn t_ 1000))) (s_mn rfl rfl) ?_)
  refine un (a1 (v := (I (mx 0 (mn t_ 1000)))) (s_mx rfl rfl) ?_)
  refine un (a1 rfl ?_)
  refine dnil ?_
  refine Sv.seq ?_
  refine Sv.seq ?_
  refine Sv.region ?_
  refine un (a1 (v := (.c (.ref 0 2 0 0))) rfl ?_)
  refine un (a1 (v := (I a_.Kind)) rfl ?_)
  refine un (a1 (v := (.c (.ref 1 2 0 0))) rfl ?_)
  refine un (a1 (v := (I b_.Kind)) rfl ?_)
  refine un (a1 (v := (B (decide (a_.Kind = b_.Kind)))) rfl ?_)
  refine un (a1 rfl ?_)
  refine gjoin 14 (d := 32) (v := (B ((decide (a_.Kind = b_.Kind)) && (((decide (a_.Kind = 2)) || (decide (a_.Kind = 3))) || (decide (a_.Kind = 4)))))) (fun X hX => ?_) ?_
  · refine split2 (fun hc3 => ?_) (fun hc3 => ?_)
    · refine gt rfl (a1 (v := (.c (.ref 0 2 0 0))) rfl ?_)
      refine gt rfl (a1 (v := (I a_.Kind)) rfl ?_)
      refine gt rfl (a1 (v := (B (decide (a_.Kind = 2)))) rfl ?_)
      refine gt rfl (a1 rfl ?_)
      refine gjoin 4 (d := 26) (v := (B ((decide (a_.Kind = 2)) || (decide (a_.Kind = 3))))) (fun X hX => ?_) ?_
      · refine split2 (fun hc1 => ?_) (fun hc1 => ?_)
        · refine gs rfl rfl ?_
          refine gs rfl rfl ?_
          refine gs rfl rfl ?_
          refine gt rfl (a1 (v := (B true)) rfl ?_)
          refine dnil ?_
          exact hX _ (.putEq (by rw [hc1]; rfl) (.skip _ _ (.skip _ _ (.skip _ _ (.putEq (by rw [hc1]) (.refl _)) rfl) rfl) rfl))
        · refine gt rfl (a1 (v := (.c (.ref 0 2 0 0))) rfl ?_)
          refine gt rfl (a1 (v := (I a_.Kind)) rfl ?_)
          refine gt rfl (a1 (v := (B (decide (a_.Kind = 3)))) rfl ?_)
          refine gt rfl (a1 (v := (B (decide (a_.Kind = 3)))) rfl ?_)
          refine dnil ?_
          exact hX _ (.putEq (by rw [hc1]; rfl) (.skip _ _ (.skip _ _ (.skip _ _ (.putEq (by rw [hc1]) (.refl _)) rfl) rfl) rfl))
      refine gt rfl (a1 rfl ?_)
      refine gjoin 4 (d := 31) (v := (B (((decide (a_.Kind = 2)) || (decide (a_.Kind = 3))) || (decide (a_.Kind = 4))))) (fun X hX => ?_) ?_
      · refine split2 (fun hc2 => ?_) (fun hc2 => ?_)
        · refine gs rfl rfl ?_
          refine gs rfl rfl ?_
          refine gs rfl rfl ?_
          refine gt rfl (a1 (v := (B true)) rfl ?_)
          refine dnil ?_
          exact hX _ (.putEq (by rw [hc2]; rfl) (.skip _ _ (.skip _ _ (.skip _ _ (.putEq (by rw [hc2]) (.refl _)) rfl) rfl) rfl))
        · refine gt rfl (a1 (v := (.c (.ref 0 2 0 0))) rfl ?_)
          refine gt rfl (a1 (v := (I a_.Kind)) rfl ?_)
          refine gt rfl (a1 (v := (B (decide (a_.Kind = 4)))) rfl ?_)
          refine gt rfl (a1 (v := (B (decide (a_.Kind = 4)))) rfl ?_)
          refine dnil ?_
          exact hX _ (.putEq (by rw [hc2]; rfl) (.skip _ _ (.skip _ _ (.skip _ _ (.putEq (by rw [hc2]) (.refl _)) rfl) rfl) rfl))
      refine un (a1 (v := (B (((decide (a_.Kind = 2)) || (decide (a_.Kind = 3))) || (decide (a_.Kind = 4))))) rfl ?_)
      refine dnil ?_
      exact hX _ (.putEq (by rw [hc3]; rfl) (.skip _ _ (.skip _ _ (.skip _ _ (.skip _ _ (.skip _ _ (.skip _ _ (.skip _ _ (.putEq (by rw [hc3]) (.refl _)) rfl) rfl) rfl) rfl) rfl) rfl) rfl))
    · refine gs rfl rfl ?_
      refine gs rfl rfl ?_
      refine gs rfl rfl ?_
      refine gs rfl rfl ?_
      refine gu rfl ?_
      refine gu rfl ?_
      refine gu rfl ?_
      refine gs rfl rfl ?_
      refine gs rfl rfl ?_
      refine gu rfl ?_
      refine gu rfl ?_
      refine gu rfl ?_
      refine gs rfl rfl ?_
      refine un (a1 (v := (B false)) rfl ?_)
      refine dnil ?_
      exact hX _ (.putEq (by rw [hc3]; rfl) (.skip _ _ (.skip _ _ (.skip _ _ (.skip _ _ (.skip _ _ (.skip _ _ (.skip _ _ (.skip _ _ (.skip _ _ (.skip _ _ (.skip _ _ (.skip _ _ (.skip _ _ (.putEq (by rw [hc3]) (.refl _)) rfl) rfl) rfl) rfl) rfl) rfl) rfl) rfl) rfl) rfl) rfl) rfl) rfl))
  refine dnil ?_
  refine Sv.cond (b := ((decide (a_.Kind = b_.Kind)) && (((decide (a_.Kind = 2)) || (decide (a_.Kind = 3))) || (decide (a_.Kind = 4))))) rfl (fun hc4 => ?_) (fun hc4 => ?_)
  · replace h := ifT hc4 h
    refine Sv.seq ?_
    refine Sv.region ?_
    refine un (a1 (v := (.c (.ref 0 2 0 1))) rfl ?_)
    refine un (a1 (v := (I a_.N)) rfl ?_)
    refine un (ac_pure (clerestoryref2_Cut_ok (Γ := Γ) a_.N) rfl rfl rfl ?_)
    refine un (a1 rfl ?_)
    refine dnil ?_
    refine Sv.seq ?_
    refine Sv.drawn ?_
    refine un (a1 (v := (.c (.ref 0 2 0 0))) rfl ?_)
    refine un (a1 (v := (I a_.Kind)) rfl ?_)
    refine un (a1 rfl ?_)
    refine un (a1 (v := (.c (.ref 1 2 0 1))) rfl ?_)
    refine un (a1 (v := (I b_.N)) rfl ?_)
    refine un (a1 rfl ?_)
    refine un (a1 rfl ?_)
    refine un (ac_pure (clerestoryref2_Cut_ok (Γ := Γ) b_.N) rfl rfl rfl ?_)
    refine un (a1 (v := (I (wi ((clerestoryref2_Cut b_.N) - (clerestoryref2_Cut a_.N))))) rfl ?_)
    obtain ⟨v45, hv45⟩ : ∃ v45 : Int, v45 = (wi ((wi ((clerestoryref2_Cut b_.N) - (clerestoryref2_Cut a_.N))) * (mx 0 (mn t_ 1000)))) := ⟨_, rfl⟩
    replace h := letAt hv45 h
    refine un (a1 (v := (I v45)) (by rw [hv45]; rfl) ?_)
    clear hv45
    obtain ⟨r_, hr1, h⟩ := bnd h
    refine un (ac_pure (clerestoryref2_Whole_ok hr1) rfl rfl rfl ?_)
    refine un (a1 (v := (I (wi ((clerestoryref2_Cut a_.N) + r_)))) rfl ?_)
    refine un (a1 (v := (.agg [cI a_.Kind, cI (wi ((clerestoryref2_Cut a_.N) + r_))])) rfl ?_)
    refine un (a2n (h' := upd _ 2 (some (.cells 2 [[cI a_.Kind, cI (wi ((clerestoryref2_Cut a_.N) + r_))]]))) (n' := 3) rfl rfl (fun h => by cases h) ?_)
    refine dnil ?_
    refine Sv.ret ?_
    replace h := Option.some.inj h
    subst h
    exact ⟨_, .refl _, _, rfl, ⟨upd (fun _ => none) 0 (some (.agg [cI a_.Kind, cI (wi ((clerestoryref2_Cut a_.N) + r_))])), fun _ => none, 0⟩, (.agg [cI a_.Kind, cI (wi ((clerestoryref2_Cut a_.N) + r_))]), weak_canon [] rfl List.nodup_nil (Nat.le_refl _) (fun b h => absurd h (Nat.not_lt_zero _)) (.cons rfl (avAs_free rfl) .nil) .nil, rfl, rfl, rfl, rfl⟩
  · replace h := ifF hc4 h
    refine Sv.skip ?_
    refine Sv.seq ?_
    refine Sv.seq ?_
    refine Sv.region ?_
    refine un (a1 (v := (.c (.ref 0 2 0 0))) rfl ?_)
    refine un (a1 (v := (I a_.Kind)) rfl ?_)
    refine un (a1 (v := (B (decide (a_.Kind = 5)))) rfl ?_)
    refine un (a1 rfl ?_)
    refine gjoin 4 (d := 56) (v := (B ((decide (a_.Kind = 5)) && (decide (b_.Kind = 5))))) (fun X hX => ?_) ?_
    · refine split2 (fun hc5 => ?_) (fun hc5 => ?_)
      · refine gt rfl (a1 (v := (.c (.ref 1 2 0 0))) rfl ?_)
        refine gt rfl (a1 (v := (I b_.Kind)) rfl ?_)
        refine gt rfl (a1 (v := (B (decide (b_.Kind = 5)))) rfl ?_)
        refine un (a1 (v := (B (decide (b_.Kind = 5)))) rfl ?_)
        refine dnil ?_
        exact hX _ (.putEq (by rw [hc5]; rfl) (.skip _ _ (.skip _ _ (.skip _ _ (.putEq (by rw [hc5]) (.refl _)) rfl) rfl) rfl))
      · refine gs rfl rfl ?_
        refine gs rfl rfl ?_
        refine gs rfl rfl ?_
        refine un (a1 (v := (B false)) rfl ?_)
        refine dnil ?_
        exact hX _ (.putEq (by rw [hc5]; rfl) (.skip _ _ (.skip _ _ (.skip _ _ (.putEq (by rw [hc5]) (.refl _)) rfl) rfl) rfl))
    refine dnil ?_
    refine Sv.cond (b := ((decide (a_.Kind = 5)) && (decide (b_.Kind = 5)))) rfl (fun hc6 => ?_) (fun hc6 => ?_)
    · replace h := ifT hc6 h
      refine Sv.seq ?_
      refine Sv.region ?_
      refine un (a1 rfl ?_)
      refine dnil ?_
      refine Sv.seq ?_
      refine Sv.seq ?_
      refine Sv.region ?_
      refine un (a1 rfl ?_)
      refine dnil ?_
      refine Sv.block ?_
      obtain ⟨kk, h⟩ := lim_some h
      refine Sv.weak (weak_canon [0, 1, 2] rfl (by decide) (by decide) (fun b h => absurd h (Nat.not_lt_zero _)) (.cons rfl (avAs_free rfl) (.cons rfl (avAs_free rfl) (.cons rfl (.c (.ref rfl (by decide))) (.cons rfl (.c (.ref rfl (by decide))) (.cons rfl (.c (.ref rfl (by decide))) (.cons rfl (avAs_free rfl) .nil)))))) (.box (by decide) rfl (blkAs_cells (.cons (.same rfl) (.cons (.same rfl) .nil))) (.box (by decide) rfl (blkAs_cells (.cons (.same rfl) (.cons (.same rfl) .nil))) (.box (by decide) rfl (blkAs_cells (.cons (.same rfl) (.cons (.same rfl) .nil))) .nil)))) (clerestoryref2_MixOf_l0_ok h ?_ (fun s hs => hs))
      · intro n_1 h _ hw1
        refine Sv.weak hw1 ?_
        refine Sv.seq ?_
        refine Sv.region ?_
        refine un (a1 rfl ?_)
        refine un (a1 (v := (.agg [cI 5, cI n_1])) rfl ?_)
        refine un (a2n (h' := upd _ 0 (some (.cells 2 [[cI 5, cI n_1]]))) (n' := 1) rfl rfl (fun h => by cases h) ?_)
        refine dnil ?_
        refine Sv.ret ?_
        replace h := Option.some.inj h
        subst h
        exact ⟨_, .refl _, _, rfl, ⟨upd (fun _ => none) 0 (some (.agg [cI 5, cI n_1])), fun _ => none, 0⟩, (.agg [cI 5, cI n_1]), weak_canon [] rfl List.nodup_nil (Nat.le_refl _) (fun b h => absurd h (Nat.not_lt_zero _)) (.cons rfl (avAs_free rfl) .nil) .nil, rfl, rfl, rfl, rfl⟩
    · replace h := ifF hc6 h
      refine Sv.skip ?_
      refine Sv.seq ?_
      refine Sv.seq ?_
      refine Sv.region ?_
      refine un (a1 rfl ?_)
      refine un (a1 (v := (B (decide ((mx 0 (mn t_ 1000)) < 500)))) rfl ?_)
      refine dnil ?_
      refine Sv.cond (b := decide ((mx 0 (mn t_ 1000)) < 500)) rfl (fun hc8 => ?_) (fun hc8 => ?_)
      · replace h := ifT hc8 h
        refine Sv.seq ?_
        refine Sv.region ?_
        refine un (a1 (v := (.agg [cI a_.Kind, cI a_.N])) rfl ?_)
        refine un (a2n (h' := upd _ 2 (some (.cells 2 [[cI a_.Kind, cI a_.N]]))) (n' := 3) rfl rfl (fun h => by cases h) ?_)
        refine dnil ?_
        refine Sv.ret ?_
        replace h := Option.some.inj h
        subst h
        exact ⟨_, .refl _, _, rfl, ⟨upd (fun _ => none) 0 (some (.agg [cI a_.Kind, cI a_.N])), fun _ => none, 0⟩, (.agg [cI a_.Kind, cI a_.N]), weak_canon [] rfl List.nodup_nil (Nat.le_refl _) (fun b h => absurd h (Nat.not_lt_zero _)) (.cons rfl (avAs_free rfl) .nil) .nil, rfl, rfl, rfl, rfl⟩
      · replace h := ifF hc8 h
        refine Sv.skip ?_
        refine Sv.seq ?_
        refine Sv.region ?_
        refine un (a1 (v := (.agg [cI b_.Kind, cI b_.N])) rfl ?_)
        refine un (a2n (h' := upd _ 2 (some (.cells 2 [[cI b_.Kind, cI b_.N]]))) (n' := 3) rfl rfl (fun h => by cases h) ?_)
        refine dnil ?_
        refine Sv.ret ?_
        replace h := Option.some.inj h
        subst h
        exact ⟨_, .refl _, _, rfl, ⟨upd (fun _ => none) 0 (some (.agg [cI b_.Kind, cI b_.N])), fun _ => none, 0⟩, (.agg [cI b_.Kind, cI b_.N]), weak_canon [] rfl List.nodup_nil (Nat.le_refl _) (fun b h => absurd h (Nat.not_lt_zero _)) (.cons rfl (avAs_free rfl) .nil) .nil, rfl, rfl, rfl, rfl⟩
def a7_c0 : ACode := .ret
def a7 : AFunc := ⟨3, [(.tmp 6)], (.seq (.region [⟨(some 3), (.box (.tmp 0)), none⟩, ⟨(some 4), (.box (.tmp 1)), none⟩, ⟨(some 6), (.mov (.const (.c (.val (.bool false))))), none⟩])
 (.seq (.region [⟨(some 8), (.call 14 []), none⟩, ⟨(some 7), (.mov (.tmp 8)), none⟩])
 (.seq (.drawn [(⟨(some 9), (.mov (.tmp 7)), none⟩, (0, 0)), (⟨(some 10), (.mov (.tmp 9)), none⟩, (0, 1)), (⟨(some 11), (.load true 2 (.tmp 3)), (some (10, true))⟩, (0, 2)), (⟨(some 12), (.load true 2 (.tmp 4)), (some (10, true))⟩, (0, 3)), (⟨(some 13), (.mov (.tmp 2)), (some (10, true))⟩, (0, 4)), (⟨(some 15), (.load true 2 (.tmp 3)), (some (10, true))⟩, (0, 6)), (⟨(some 16), (.load true 2 (.tmp 4)), (some (10, true))⟩, (0, 7)), (⟨(some 17), (.mov (.tmp 2)), (some (10, true))⟩, (0, 8)), (⟨(some 14), (.call 23 [(.tmp 11), (.tmp 12), (.tmp 13)]), (some (10, true))⟩, (1, 5)), (⟨(some 18), (.call 24 [(.tmp 15), (.tmp 16), (.tmp 17)]), (some (10, true))⟩, (2, 9)), (⟨(some 19), (.eqs false true [.i, .i] (.tmp 14) (.tmp 18)), (some (10, true))⟩, (0, 10)), (⟨(some 20), (.pick (.tmp 10) (.tmp 19) (.const (.c (.val (.bool false))))), none⟩, (0, 11)), (⟨(some 6), (.mov (.tmp 20)), none⟩, (0, 12))])
 a7_c0)))⟩
set_option maxRecDepth 100000 in
theorem c7 : compFunc Try.prog 7 = some a7 := by kernel_rfl
def clerestorylaw2_AnimMixes_post (r : Bool) : AV → Heap → Nat → Prop := fun v h' n' => v = (B r) ∧ (h' = fun _ => none) ∧ n' = 0
noncomputable def clerestorylaw2_AnimMixes_j1 (v6 : Bool) : Option Bool :=
  some v6
theorem clerestorylaw2_AnimMixes_j1_ok {Γ : Glob} {v6 : Bool} {o : Bool} (h : clerestorylaw2_AnimMixes_j1 v6 = some o) :
    Sv Try.prog Γ 0 a7_c0 (Ends a7.results 0 (clerestorylaw2_AnimMixes_post o)) ⟨(upd (fun _ => none) 6 (some (B v6))), (fun _ => none), 0⟩ := by
  unfold clerestorylaw2_AnimMixes_j1 at h
  refine Sv.ret ?_
  replace h := Option.some.inj h
  subst h
  exact ⟨_, .refl _, _, rfl, ⟨upd (fun _ => none) 0 (some (B v6)), fun _ => none, 0⟩, (B v6), weak_canon [] rfl List.nodup_nil (Nat.le_refl _) (fun b h => absurd h (Nat.not_lt_zero _)) (.cons rfl (avAs_free rfl) .nil) .nil, rfl, rfl, rfl, rfl⟩
/-- clerestory/clerestorylaw2.AnimMixes -/
noncomputable def clerestorylaw2_AnimMixes (a_ : TVal) (b_ : TVal) (t_ : Int) : Option Bool :=
  (clerestorylaw2_stepped).bind fun r_ =>
  if r_ then
    (anim_Mix a_ b_ t_).bind fun r_1 =>
    (clerestoryref2_MixOf a_ b_ t_).bind fun r_2 =>
    clerestorylaw2_AnimMixes_j1 (decide (r_1.Kind = r_2.Kind) && (decide (r_1.N = r_2.N) && true))
  else
    clerestorylaw2_AnimMixes_j1 false
theorem clerestorylaw2_AnimMixes_ok {Γ : Glob} {a_ : TVal} {b_ : TVal} {t_ : Int} {r : Bool} (h : clerestorylaw2_AnimMixes a_ b_ t_ = some r) : CPure Try.prog Γ 7 [(.agg [cI a_.Kind, cI a_.N]), (.agg [cI b_.Kind, cI b_.N]), (I t_)] (B r) := by
  refine acalls_of_sv hmix c7 (R := clerestorylaw2_AnimMixes_post r) ?_
  unfold clerestorylaw2_AnimMixes at h
  refine Sv.seq ?_
  refine Sv.region ?_
  refine un (a2v (v := (.c (.ref 0 2 0 0))) (h' := upd _ 0 (some (.cells 2 [[cI a_.Kind, cI a_.N]]))) (n' := 1) rfl rfl (fun h => by cases h) ?_)
  refine un (a2v (v := (.c (.ref 1 2 0 0))) (h' := upd _ 1 (some (.cells 2 [[cI b_.Kind, cI b_.N]]))) (n' := 2) rfl rfl (fun h => by cases h) ?_)
  refine un (a1 rfl ?_)
  refine dnil ?_
  refine Sv.seq ?_
  refine Sv.region ?_
  obtain ⟨r_, hr1, h⟩ := bnd h
  refine un (ac_pure (clerestorylaw2_stepped_ok hr1) rfl rfl rfl ?_)
  refine un (a1 rfl ?_)
  refine dnil ?_
  refine Sv.seq ?_
  refine Sv.drawn ?_
  refine un (a1 rfl ?_)
  refine un (a1 rfl ?_)
  refine split2 (fun hc1 => ?_) (fun hc1 => ?_)
  · replace h := ifT hc1 h
    refine gt rfl (a1 (v := (.agg [cI a_.Kind, cI a_.N])) rfl ?_)
    refine gt rfl (a1 (v := (.agg [cI b_.Kind, cI b_.N])) rfl ?_)
    refine gt rfl (a1 rfl ?_)
    refine gt rfl (a1 (v := (.agg [cI a_.Kind, cI a_.N])) rfl ?_)
    refine gt rfl (a1 (v := (.agg [cI b_.Kind, cI b_.N])) rfl ?_)
    refine gt rfl (a1 rfl ?_)
    obtain ⟨r_1, hr2, h⟩ := bnd h
    refine gt rfl (ac_pure (anim_Mix_ok hr2) rfl rfl rfl ?_)
    obtain ⟨r_2, hr3, h⟩ := bnd h
    refine gt rfl (ac_pure (clerestoryref2_MixOf_ok hr3) rfl rfl rfl ?_)
    refine gt rfl (a1 (v := (B (decide (r_1.Kind = r_2.Kind) && (decide (r_1.N = r_2.N) && true)))) rfl ?_)
    refine un (a1 (v := (B (decide (r_1.Kind = r_2.Kind) && (decide (r_1.N = r_2.N) && true)))) rfl ?_)
    refine un (a1 rfl ?_)
    refine dnil ?_
    exact Sv.weak (weak_canon [] rfl (by decide) (by decide) (fun b h => absurd h (Nat.not_lt_zero _)) (.cons rfl (avAs_free rfl) .nil) .nil) (clerestorylaw2_AnimMixes_j1_ok h)
  · replace h := ifF hc1 h
    refine gs rfl rfl ?_
    refine gs rfl rfl ?_
    refine gs rfl rfl ?_
    refine gs rfl rfl ?_
    refine gs rfl rfl ?_
    refine gs rfl rfl ?_
    refine gs rfl rfl ?_
    refine gs rfl rfl ?_
    refine gs rfl rfl ?_
    refine un (a1 (v := (B false)) rfl ?_)
    refine un (a1 rfl ?_)
    refine dnil ?_
    exact Sv.weak (weak_canon [] rfl (by decide) (by decide) (fun b h => absurd h (Nat.not_lt_zero _)) (.cons rfl (avAs_free rfl) .nil) .nil) (clerestorylaw2_AnimMixes_j1_ok h)
end Go.Proofs.YtgfcmhomndofaaaBv
