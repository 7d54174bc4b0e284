/- Printed by a program of mine (bgen.py): plain functions, and the walks that show that the code comes to what they answer. -/
import Derived.Test.YtdmmjgjmfpalhaaDoorGValueSigns0
namespace Go.Proofs.YtdmmjgjmfpalhaaDoorBv
open Go
set_option linter.unusedVariables false
set_option maxRecDepth 100000
def a56_c1 : ACode := (.seq (.region [⟨(some 25), (.mov (.tmp 1)), none⟩, ⟨(some 26), (.bin .quo (.tmp 25) (.const (.c (.val (.int .i64 2))))), none⟩, ⟨(some 1), (.mov (.tmp 26)), none⟩])
 (.seq (.region [⟨(some 27), (.mov (.tmp 1)), none⟩, ⟨(some 28), (.bin .gtr (.tmp 27) (.const (.c (.val (.int .i64 0))))), none⟩])
 (.cond (.tmp 28) (.seq (.region [⟨(some 29), (.mov (.tmp 6)), none⟩, ⟨(some 30), (.mov (.tmp 6)), none⟩, ⟨(some 31), (.bin .add (.tmp 29) (.tmp 30)), none⟩, ⟨(some 6), (.mov (.tmp 31)), none⟩])
 (.seq (.region [⟨(some 32), (.mov (.tmp 6)), none⟩, ⟨(some 33), (.call 74 [(.tmp 32), (.const (.c (.val (.int .i64 (-1152921504606846976))))), (.const (.c (.val (.int .i64 1152921504606846976))))]), none⟩, ⟨(some 34), (.un .not (.tmp 33)), none⟩])
 (.cond (.tmp 34) (.seq (.region [⟨(some 4), (.mov (.const (.c (.val (.int .i64 1152921504606846976))))), none⟩])
 .ret) .skip))) .skip)))
def a56_c2 : ACode := (.seq (.seq (.region [⟨(some 14), (.mov (.tmp 1)), none⟩, ⟨(some 15), (.bin .gtr (.tmp 14) (.const (.c (.val (.int .i64 0))))), none⟩])
 (.cond (.tmp 15) .skip (.exit 0)))
 (.block 1 (.seq (.seq (.region [⟨(some 16), (.mov (.tmp 1)), none⟩, ⟨(some 17), (.bin .rem (.tmp 16) (.const (.c (.val (.int .i64 2))))), none⟩, ⟨(some 18), (.bin .eql (.tmp 17) (.const (.c (.val (.int .i64 1))))), none⟩])
 (.cond (.tmp 18) (.seq (.region [⟨(some 19), (.mov (.tmp 5)), none⟩, ⟨(some 20), (.mov (.tmp 6)), none⟩, ⟨(some 21), (.bin .add (.tmp 19) (.tmp 20)), none⟩, ⟨(some 5), (.mov (.tmp 21)), none⟩])
 (.seq (.region [⟨(some 22), (.mov (.tmp 5)), none⟩, ⟨(some 23), (.call 74 [(.tmp 22), (.const (.c (.val (.int .i64 (-1152921504606846976))))), (.const (.c (.val (.int .i64 1152921504606846976))))]), none⟩, ⟨(some 24), (.un .not (.tmp 23)), none⟩])
 (.cond (.tmp 24) (.seq (.region [⟨(some 4), (.mov (.const (.c (.val (.int .i64 1152921504606846976))))), none⟩])
 .ret) .skip))) .skip))
 a56_c1)))
def a56_c0 : ACode := (.seq (.region [⟨(some 13), (.mov (.tmp 0)), none⟩, ⟨(some 5), (.mov (.const (.c (.val (.int .i64 0))))), none⟩, ⟨(some 6), (.mov (.tmp 13)), none⟩])
 (.seq (.block 0 (.loop a56_c2))
 (.seq (.region [⟨(some 35), (.mov (.tmp 5)), none⟩, ⟨(some 4), (.mov (.tmp 35)), none⟩])
 .ret)))
def a56 : AFunc := ⟨2, [(.tmp 4)], (.seq (.region [⟨(some 4), (.mov (.const (.c (.val (.int .i64 0))))), none⟩])
 (.seq (.seq (.region [⟨(some 7), (.mov (.tmp 1)), none⟩, ⟨(some 8), (.bin .lss (.tmp 7) (.const (.c (.val (.int .i64 0))))), none⟩])
 (.cond (.tmp 8) (.region [⟨(some 9), (.mov (.tmp 0)), none⟩, ⟨(some 10), (.un .neg (.tmp 9)), none⟩, ⟨(some 11), (.mov (.tmp 1)), none⟩, ⟨(some 12), (.un .neg (.tmp 11)), none⟩, ⟨(some 0), (.mov (.tmp 10)), none⟩, ⟨(some 1), (.mov (.tmp 12)), none⟩]) .skip))
 a56_c0))⟩
set_option maxRecDepth 100000 in
theorem c56 : compFunc Tryd.prog 56 = some a56 := by kernel_rfl
def clerestoryref4_timesOf_post (r : Int) : AV → Heap → Nat → Prop := fun v h' n' => v = (I r) ∧ (h' = (fun _ => none)) ∧ n' = 0
abbrev clerestoryref4_timesOf_q0 (Q : AExit → St → Prop) : AExit → St → Prop := ABlock 1 Q
noncomputable def clerestoryref4_timesOf_j4 (b_2 : Int) (grow : Int) (self : Int → Int → Int → Option Int) (K0_ : Int → Option Int) (out2 : Int) : Option Int :=
  if decide (0 < (wi (b_2.tdiv 2))) then
    letIn (clerestoryref4_Between (wi (grow + grow)) (-1152921504606846976) 1152921504606846976) fun r_ : Bool =>
    if (!r_) then
      some 1152921504606846976
    else
      self (wi (b_2.tdiv 2)) out2 (wi (grow + grow))
  else
    self (wi (b_2.tdiv 2)) out2 grow
theorem clerestoryref4_timesOf_j4_ok {Q : AExit → St → Prop} {b_2 : Int} {grow : Int} {self : Int → Int → Int → Option Int} {K0_ : Int → Option Int} {out2 : Int} {o : Int} (h : clerestoryref4_timesOf_j4 b_2 grow self K0_ out2 = some o)
    (hself : ∀ (b_2 : Int) (out : Int) (grow : Int), self b_2 out grow = some o → ∀ s, Weak 0 s ⟨(upd (upd (upd (fun _ => none) 1 (some (I b_2))) 5 (some (I out))) 6 (some (I grow))), (fun _ => none), 0⟩ → (Q) .normal s)
    (hK0 : ∀ (out1 : Int), K0_ out1 = some o → ∀ s, Weak 0 s ⟨(upd (fun _ => none) 5 (some (I out1))), (fun _ => none), 0⟩ → Q (.exit 0) s)
    (hr : ∀ s, Ends a56.results 0 (clerestoryref4_timesOf_post o) .ret s → Q .ret s) :
    Sv Tryd.prog GG 0 a56_c1 (clerestoryref4_timesOf_q0 Q) ⟨(upd (upd (upd (fun _ => none) 1 (some (I b_2))) 5 (some (I out2))) 6 (some (I grow))), (fun _ => none), 0⟩ := by
  unfold clerestoryref4_timesOf_j4 at h
  refine Sv.seq ?_
  refine Sv.region ?_
  refine un (a1 rfl ?_)
  refine un (a1 (v := (I (wi (b_2.tdiv 2)))) rfl ?_)
  refine un (a1 rfl ?_)
  refine dnil ?_
  refine Sv.seq ?_
  refine Sv.region ?_
  refine un (a1 rfl ?_)
  refine un (a1 (v := (B (decide (0 < (wi (b_2.tdiv 2)))))) rfl ?_)
  refine dnil ?_
  refine Sv.cond (b := decide (0 < (wi (b_2.tdiv 2)))) rfl (fun hc2 => ?_) (fun hc2 => ?_)
  · replace h := ifT hc2 h
    refine Sv.seq ?_
    refine Sv.region ?_
    refine un (a1 rfl ?_)
    refine un (a1 rfl ?_)
    refine un (a1 (v := (I (wi (grow + grow)))) rfl ?_)
    refine un (a1 rfl ?_)
    refine dnil ?_
    refine Sv.seq ?_
    refine Sv.region ?_
    refine un (a1 rfl ?_)
    obtain ⟨r_, hr_⟩ : ∃ r_ : Bool, r_ = (clerestoryref4_Between (wi (grow + grow)) (-1152921504606846976) 1152921504606846976) := ⟨_, rfl⟩
    replace h := letAt hr_ h
    have pr_ := (clerestoryref4_Between_ok (wi (grow + grow)) (-1152921504606846976) 1152921504606846976)
    rw [← hr_] at pr_
    refine un (ac_pure pr_ rfl rfl rfl ?_)
    refine un (a1 (v := (B (!r_))) rfl ?_)
    refine dnil ?_
    refine Sv.cond (b := (!r_)) rfl (fun hc3 => ?_) (fun hc3 => ?_)
    · replace h := ifT hc3 h
      refine Sv.seq ?_
      refine Sv.region ?_
      refine un (a1 rfl ?_)
      refine dnil ?_
      refine Sv.ret ?_
      replace h := Option.some.inj h
      subst h
      exact hr _ ⟨_, .refl _, _, rfl, ⟨upd (fun _ => none) 0 (some (I 1152921504606846976)), (fun _ => none), 0⟩, (I 1152921504606846976), weak_canon [] rfl List.nodup_nil (Nat.le_refl _) (fun b h => absurd h (Nat.not_lt_zero _)) (.cons rfl (avAs_free rfl) .nil) .nil, rfl, rfl, rfl, rfl⟩
    · replace h := ifF hc3 h
      refine Sv.skip ?_
      exact hself (wi (b_2.tdiv 2)) out2 (wi (grow + grow)) h _ (weak_canon [] rfl (by decide) (by decide) (fun b h => absurd h (Nat.not_lt_zero _)) (.cons rfl (avAs_free rfl) (.cons rfl (avAs_free rfl) (.cons rfl (avAs_free rfl) .nil))) .nil)
  · replace h := ifF hc2 h
    refine Sv.skip ?_
    exact hself (wi (b_2.tdiv 2)) out2 grow h _ (weak_canon [] rfl (by decide) (by decide) (fun b h => absurd h (Nat.not_lt_zero _)) (.cons rfl (avAs_free rfl) (.cons rfl (avAs_free rfl) (.cons rfl (avAs_free rfl) .nil))) .nil)
noncomputable def clerestoryref4_timesOf_l0 (K0_ : Int → Option Int) : Nat → Int → Int → Int → Option Int
  | 0, _, _, _ => none
  | k + 1, b_2, out, grow =>
    if decide (0 < b_2) then
      if decide ((b_2.tmod 2) = 1) then
        letIn (clerestoryref4_Between (wi (out + grow)) (-1152921504606846976) 1152921504606846976) fun r_1 : Bool =>
        if (!r_1) then
          some 1152921504606846976
        else
          clerestoryref4_timesOf_j4 b_2 grow (clerestoryref4_timesOf_l0 K0_ k) K0_ (wi (out + grow))
      else
        clerestoryref4_timesOf_j4 b_2 grow (clerestoryref4_timesOf_l0 K0_ k) K0_ out
    else
      K0_ out
theorem clerestoryref4_timesOf_l0_ok {Q : AExit → St → Prop} {K0_ : Int → Option Int} {k : Nat} {b_2 : Int} {out : Int} {grow : Int} {o : Int} (h : clerestoryref4_timesOf_l0 K0_ k b_2 out grow = some o)
    (hK0 : ∀ (out1 : Int), K0_ out1 = some o → ∀ s, Weak 0 s ⟨(upd (fun _ => none) 5 (some (I out1))), (fun _ => none), 0⟩ → Q (.exit 0) s)
    (hr : ∀ s, Ends a56.results 0 (clerestoryref4_timesOf_post o) .ret s → Q .ret s) :
    Sv Tryd.prog GG 0 (.loop a56_c2) Q ⟨(upd (upd (upd (fun _ => none) 1 (some (I b_2))) 5 (some (I out))) 6 (some (I grow))), (fun _ => none), 0⟩ := by
  refine Sv.loop (I := fun k s => ∃ (b_2 : Int), ∃ (out : Int), ∃ (grow : Int), clerestoryref4_timesOf_l0 K0_ k b_2 out grow = some o ∧ s = ⟨(upd (upd (upd (fun _ => none) 1 (some (I b_2))) 5 (some (I out))) 6 (some (I grow))), (fun _ => none), 0⟩) (fun k s hI => ?_) ⟨b_2, out, grow, h, rfl⟩
  clear h
  clear grow out b_2
  obtain ⟨b_2, out, grow, h, rfl⟩ := hI
  cases k with
  | zero => cases h
  | succ k =>
  rw [clerestoryref4_timesOf_l0] at h
  have hself : ∀ (b_2 : Int) (out : Int) (grow : Int), (clerestoryref4_timesOf_l0 K0_ k) b_2 out grow = some o → ∀ s, Weak 0 s ⟨(upd (upd (upd (fun _ => none) 1 (some (I b_2))) 5 (some (I out))) 6 (some (I grow))), (fun _ => none), 0⟩ → (AThen (fun s' => ∃ s'' k', Weak 0 s' s'' ∧ k' < k + 1 ∧ (fun k s => ∃ (b_2 : Int), ∃ (out : Int), ∃ (grow : Int), clerestoryref4_timesOf_l0 K0_ k b_2 out grow = some o ∧ s = ⟨(upd (upd (upd (fun _ => none) 1 (some (I b_2))) 5 (some (I out))) 6 (some (I grow))), (fun _ => none), 0⟩) k' s'') Q) .normal s := fun b_2 out grow h s hw => ⟨_, k, hw, Nat.lt_succ_self k, b_2, out, grow, h, rfl⟩
  refine Sv.seq ?_
  refine Sv.seq ?_
  refine Sv.region ?_
  refine un (a1 rfl ?_)
  refine un (a1 (v := (B (decide (0 < b_2)))) rfl ?_)
  refine dnil ?_
  refine Sv.cond (b := decide (0 < b_2)) rfl (fun hc1 => ?_) (fun hc1 => ?_)
  · replace h := ifT hc1 h
    refine Sv.skip ?_
    refine Sv.block ?_
    refine Sv.seq ?_
    refine Sv.seq ?_
    refine Sv.region ?_
    refine un (a1 rfl ?_)
    refine un (a1 (v := (I (b_2.tmod 2))) rfl ?_)
    refine un (a1 (v := (B (decide ((b_2.tmod 2) = 1)))) rfl ?_)
    refine dnil ?_
    refine Sv.cond (b := decide ((b_2.tmod 2) = 1)) rfl (fun hc4 => ?_) (fun hc4 => ?_)
    · replace h := ifT hc4 h
      refine Sv.seq ?_
      refine Sv.region ?_
      refine un (a1 rfl ?_)
      refine un (a1 rfl ?_)
      refine un (a1 (v := (I (wi (out + grow)))) rfl ?_)
      refine un (a1 rfl ?_)
      refine dnil ?_
      refine Sv.seq ?_
      refine Sv.region ?_
      refine un (a1 rfl ?_)
      obtain ⟨r_1, hr_1⟩ : ∃ r_1 : Bool, r_1 = (clerestoryref4_Between (wi (out + grow)) (-1152921504606846976) 1152921504606846976) := ⟨_, rfl⟩
      replace h := letAt hr_1 h
      have pr_1 := (clerestoryref4_Between_ok (wi (out + grow)) (-1152921504606846976) 1152921504606846976)
      rw [← hr_1] at pr_1
      refine un (ac_pure pr_1 rfl rfl rfl ?_)
      refine un (a1 (v := (B (!r_1))) rfl ?_)
      refine dnil ?_
      refine Sv.cond (b := (!r_1)) rfl (fun hc5 => ?_) (fun hc5 => ?_)
      · replace h := ifT hc5 h
        refine Sv.seq ?_
        refine Sv.region ?_
        refine un (a1 rfl ?_)
        refine dnil ?_
        refine Sv.ret ?_
        replace h := Option.some.inj h
        subst h
        exact hr _ ⟨_, .refl _, _, rfl, ⟨upd (fun _ => none) 0 (some (I 1152921504606846976)), (fun _ => none), 0⟩, (I 1152921504606846976), weak_canon [] rfl List.nodup_nil (Nat.le_refl _) (fun b h => absurd h (Nat.not_lt_zero _)) (.cons rfl (avAs_free rfl) .nil) .nil, rfl, rfl, rfl, rfl⟩
      · replace h := ifF hc5 h
        refine Sv.skip ?_
        exact Sv.weak (weak_canon [] rfl (by decide) (by decide) (fun b h => absurd h (Nat.not_lt_zero _)) (.cons rfl (avAs_free rfl) (.cons rfl (avAs_free rfl) (.cons rfl (avAs_free rfl) .nil))) .nil) (clerestoryref4_timesOf_j4_ok h hself hK0 hr)
    · replace h := ifF hc4 h
      refine Sv.skip ?_
      exact Sv.weak (weak_canon [] rfl (by decide) (by decide) (fun b h => absurd h (Nat.not_lt_zero _)) (.cons rfl (avAs_free rfl) (.cons rfl (avAs_free rfl) (.cons rfl (avAs_free rfl) .nil))) .nil) (clerestoryref4_timesOf_j4_ok h hself hK0 hr)
  · replace h := ifF hc1 h
    refine Sv.exit ?_
    exact hK0 out h _ (weak_canon [] rfl (by decide) (by decide) (fun b h => absurd h (Nat.not_lt_zero _)) (.cons rfl (avAs_free rfl) .nil) .nil)
noncomputable def clerestoryref4_timesOf_j1 (a_1 : Int) (b_1 : Int) : Option Int :=
  lim fun kk => clerestoryref4_timesOf_l0 (fun (out1 : Int) => 
      some out1) kk b_1 0 a_1
theorem clerestoryref4_timesOf_j1_ok {a_1 : Int} {b_1 : Int} {o : Int} (h : clerestoryref4_timesOf_j1 a_1 b_1 = some o) :
    Sv Tryd.prog GG 0 a56_c0 (Ends a56.results 0 (clerestoryref4_timesOf_post o)) ⟨(upd (upd (fun _ => none) 0 (some (I a_1))) 1 (some (I b_1))), (fun _ => none), 0⟩ := by
  unfold clerestoryref4_timesOf_j1 at h
  refine Sv.seq ?_
  refine Sv.region ?_
  refine un (a1 rfl ?_)
  refine un (a1 rfl ?_)
  refine un (a1 rfl ?_)
  refine dnil ?_
  refine Sv.seq ?_
  refine Sv.block ?_
  obtain ⟨kk, h⟩ := lim_some h
  refine Sv.weak (weak_canon [] rfl (by decide) (by decide) (fun b h => absurd h (Nat.not_lt_zero _)) (.cons rfl (avAs_free rfl) (.cons rfl (avAs_free rfl) (.cons rfl (avAs_free rfl) .nil))) .nil) (clerestoryref4_timesOf_l0_ok h ?_ (fun s hs => hs))
  · intro out1 h _ hw1
    refine Sv.weak hw1 ?_
    refine Sv.seq ?_
    refine Sv.region ?_
    refine un (a1 rfl ?_)
    refine un (a1 rfl ?_)
    refine dnil ?_
    refine Sv.ret ?_
    replace h := Option.some.inj h
    subst h
    exact ⟨_, .refl _, _, rfl, ⟨upd (fun _ => none) 0 (some (I out1)), (fun _ => none), 0⟩, (I out1), weak_canon [] rfl List.nodup_nil (Nat.le_refl _) (fun b h => absurd h (Nat.not_lt_zero _)) (.cons rfl (avAs_free rfl) .nil) .nil, rfl, rfl, rfl, rfl⟩
/-- clerestory/clerestoryref4.timesOf -/
noncomputable def clerestoryref4_timesOf (a_ : Int) (b_ : Int) : Option Int :=
  if decide (b_ < 0) then
    clerestoryref4_timesOf_j1 (wi (0 - a_)) (wi (0 - b_))
  else
    clerestoryref4_timesOf_j1 a_ b_
theorem clerestoryref4_timesOf_ok {a_ : Int} {b_ : Int} {r : Int} (h : clerestoryref4_timesOf a_ b_ = some r) : CPure Tryd.prog GG 56 [(I a_), (I b_)] (I r) := by
  refine acalls_of_sv hmix c56 (R := clerestoryref4_timesOf_post r) ?_
  unfold clerestoryref4_timesOf at h
  refine Sv.seq ?_
  refine Sv.region ?_
  refine un (a1 rfl ?_)
  refine dnil ?_
  refine Sv.seq ?_
  refine Sv.seq ?_
  refine Sv.region ?_
  refine un (a1 rfl ?_)
  refine un (a1 (v := (B (decide (b_ < 0)))) rfl ?_)
  refine dnil ?_
  refine Sv.cond (b := decide (b_ < 0)) rfl (fun hc6 => ?_) (fun hc6 => ?_)
  · replace h := ifT hc6 h
    refine Sv.region ?_
    refine un (a1 rfl ?_)
    refine un (a1 (v := (I (wi (0 - a_)))) rfl ?_)
    refine un (a1 rfl ?_)
    refine un (a1 (v := (I (wi (0 - b_)))) rfl ?_)
    refine un (a1 rfl ?_)
    refine un (a1 rfl ?_)
    refine dnil ?_
    exact Sv.weak (weak_canon [] rfl (by decide) (by decide) (fun b h => absurd h (Nat.not_lt_zero _)) (.cons rfl (avAs_free rfl) (.cons rfl (avAs_free rfl) .nil)) .nil) (clerestoryref4_timesOf_j1_ok h)
  · replace h := ifF hc6 h
    refine Sv.skip ?_
    exact Sv.weak (weak_canon [] rfl (by decide) (by decide) (fun b h => absurd h (Nat.not_lt_zero _)) (.cons rfl (avAs_free rfl) (.cons rfl (avAs_free rfl) .nil)) .nil) (clerestoryref4_timesOf_j1_ok h)
def a17_c2 : ACode := (.cond (.tmp 122) .skip (.seq (.region [⟨(some 66), (.build [(.val (.int .i64 0)), (.val (.int .i64 0)), (.str [])] []), none⟩, ⟨none, (.store 3 (.tmp 6) (.tmp 66)), none⟩, ⟨(some 7), (.mov (.const (.c (.str [115, 105, 103, 110])))), none⟩])
 .ret))
def a17_c1 : ACode := (.cond (.tmp 83) (.seq (.seq (.region [⟨(some 88), (.mov (.tmp 13)), none⟩, ⟨(some 89), (.un .not (.tmp 88)), none⟩])
 (.cond (.tmp 89) (.seq (.region [⟨(some 90), (.build [(.val (.int .i64 0)), (.val (.int .i64 0)), (.str [])] []), none⟩, ⟨none, (.store 3 (.tmp 6) (.tmp 90)), none⟩, ⟨(some 7), (.mov (.const (.c (.str [107, 105, 110, 100])))), none⟩])
 .ret) .skip))
 (.seq (.region [⟨(some 91), (.mov (.tmp 0)), none⟩, ⟨(some 92), (.bin .eql (.tmp 91) (.const (.c (.str [60])))), none⟩, ⟨(some 93), (.mov (.tmp 92)), none⟩, ⟨(some 94), (.mov (.tmp 11)), (some (93, true))⟩, ⟨(some 95), (.pick (.tmp 93) (.tmp 94) (.const (.c (.val (.bool false))))), none⟩, ⟨(some 96), (.mov (.tmp 95)), none⟩, ⟨(some 97), (.mov (.tmp 0)), (some (96, false))⟩, ⟨(some 98), (.bin .eql (.tmp 97) (.const (.c (.str [62])))), (some (96, false))⟩, ⟨(some 99), (.mov (.tmp 98)), (some (96, false))⟩, ⟨(some 100), (.mov (.tmp 12)), (some (99, true))⟩, ⟨(some 101), (.pick (.tmp 99) (.tmp 100) (.const (.c (.val (.bool false))))), (some (96, false))⟩, ⟨(some 102), (.pick (.tmp 96) (.const (.c (.val (.bool true)))) (.tmp 101)), none⟩, ⟨(some 103), (.mov (.tmp 102)), none⟩, ⟨(some 104), (.mov (.tmp 0)), (some (103, false))⟩, ⟨(some 105), (.bin .eql (.tmp 104) (.const (.c (.str [60, 61])))), (some (103, false))⟩, ⟨(some 106), (.mov (.tmp 105)), (some (103, false))⟩, ⟨(some 107), (.mov (.tmp 12)), (some (106, true))⟩, ⟨(some 108), (.un .not (.tmp 107)), (some (106, true))⟩, ⟨(some 109), (.pick (.tmp 106) (.tmp 108) (.const (.c (.val (.bool false))))), (some (103, false))⟩, ⟨(some 110), (.pick (.tmp 103) (.const (.c (.val (.bool true)))) (.tmp 109)), none⟩, ⟨(some 111), (.mov (.tmp 110)), none⟩, ⟨(some 112), (.mov (.tmp 0)), (some (111, false))⟩, ⟨(some 113), (.bin .eql (.tmp 112) (.const (.c (.str [62, 61])))), (some (111, false))⟩, ⟨(some 114), (.mov (.tmp 113)), (some (111, false))⟩, ⟨(some 115), (.mov (.tmp 11)), (some (114, true))⟩, ⟨(some 116), (.un .not (.tmp 115)), (some (114, true))⟩, ⟨(some 117), (.pick (.tmp 114) (.tmp 116) (.const (.c (.val (.bool false))))), (some (111, false))⟩, ⟨(some 118), (.pick (.tmp 111) (.const (.c (.val (.bool true)))) (.tmp 117)), none⟩, ⟨(some 119), (.call 52 [(.tmp 118)]), none⟩, ⟨(some 120), (.ext (.tmp 119) 0), none⟩, ⟨(some 121), (.ext (.tmp 119) 1), none⟩, ⟨none, (.store 3 (.tmp 6) (.tmp 120)), none⟩, ⟨(some 7), (.mov (.tmp 121)), none⟩])
 .ret)) (.seq (.seq (.region [⟨(some 123), (.bin .eql (.tmp 65) (.const (.c (.str [43])))), none⟩, ⟨(some 122), (.mov (.tmp 123)), none⟩])
 (.cond (.tmp 122) .skip (.seq (.region [⟨(some 124), (.bin .eql (.tmp 65) (.const (.c (.str [45])))), none⟩, ⟨(some 122), (.mov (.tmp 124)), none⟩])
 (.cond (.tmp 122) .skip (.seq (.region [⟨(some 125), (.bin .eql (.tmp 65) (.const (.c (.str [42])))), none⟩, ⟨(some 122), (.mov (.tmp 125)), none⟩])
 (.cond (.tmp 122) .skip (.seq (.region [⟨(some 126), (.bin .eql (.tmp 65) (.const (.c (.str [47])))), none⟩, ⟨(some 122), (.mov (.tmp 126)), none⟩])
 (.cond (.tmp 122) .skip (.region [⟨(some 127), (.bin .eql (.tmp 65) (.const (.c (.str [37])))), none⟩, ⟨(some 122), (.mov (.tmp 127)), none⟩])))))))))
 a17_c2))
def a17_c3 : ACode := (.seq (.seq (.region [⟨(some 128), (.mov (.tmp 0)), none⟩, ⟨(some 129), (.bin .eql (.tmp 128) (.const (.c (.str [43])))), none⟩, ⟨(some 130), (.mov (.tmp 129)), none⟩, ⟨(some 131), (.faddr 0 (.tmp 4)), (some (130, true))⟩, ⟨(some 132), (.load false 1 (.tmp 131)), (some (130, true))⟩, ⟨(some 133), (.bin .eql (.tmp 132) (.const (.c (.val (.int .i64 3))))), (some (130, true))⟩, ⟨(some 134), (.mov (.tmp 133)), (some (130, true))⟩, ⟨(some 135), (.faddr 0 (.tmp 5)), (some (134, false))⟩, ⟨(some 136), (.load false 1 (.tmp 135)), (some (134, false))⟩, ⟨(some 137), (.bin .eql (.tmp 136) (.const (.c (.val (.int .i64 3))))), (some (134, false))⟩, ⟨(some 138), (.pick (.tmp 134) (.const (.c (.val (.bool true)))) (.tmp 137)), (some (130, true))⟩, ⟨(some 139), (.pick (.tmp 130) (.tmp 138) (.const (.c (.val (.bool false))))), none⟩])
 (.cond (.tmp 139) (.seq (.drawn (.fin [(⟨(some 140), (.load true 3 (.tmp 4)), none⟩, (0, 0)), (⟨(some 142), (.load true 3 (.tmp 5)), none⟩, (0, 2)), (⟨(some 141), (.call 55 [(.tmp 140)]), none⟩, (1, 1)), (⟨(some 143), (.call 55 [(.tmp 142)]), none⟩, (2, 3)), (⟨(some 144), (.bin .add (.tmp 141) (.tmp 143)), none⟩, (0, 4)), (⟨(some 14), (.mov (.tmp 144)), none⟩, (0, 5))]))
 (.seq (.seq (.region [⟨(some 145), (.mov (.tmp 14)), none⟩, ⟨(some 146), (.lenS (.tmp 145)), none⟩, ⟨(some 147), (.bin .gtr (.tmp 146) (.const (.c (.val (.int .i64 2000))))), none⟩])
 (.cond (.tmp 147) (.seq (.region [⟨(some 148), (.build [(.val (.int .i64 0)), (.val (.int .i64 0)), (.str [])] []), none⟩, ⟨none, (.store 3 (.tmp 6) (.tmp 148)), none⟩, ⟨(some 7), (.mov (.const (.c (.str [108, 97, 114, 103, 101])))), none⟩])
 .ret) .skip))
 (.seq (.region [⟨(some 149), (.mov (.tmp 14)), none⟩, ⟨(some 150), (.build [(.val (.int .i64 0)), (.val (.int .i64 0)), (.str [])] [(0, (1, (.const (.c (.val (.int .i64 3)))))), (2, (1, (.tmp 149)))]), none⟩, ⟨none, (.store 3 (.tmp 6) (.tmp 150)), none⟩, ⟨(some 7), (.mov (.const (.c (.str [])))), none⟩])
 .ret))) .skip))
 (.seq (.seq (.region [⟨(some 151), (.mov (.tmp 10)), none⟩, ⟨(some 152), (.un .not (.tmp 151)), none⟩])
 (.cond (.tmp 152) (.seq (.region [⟨(some 153), (.build [(.val (.int .i64 0)), (.val (.int .i64 0)), (.str [])] []), none⟩, ⟨none, (.store 3 (.tmp 6) (.tmp 153)), none⟩, ⟨(some 7), (.mov (.const (.c (.str [107, 105, 110, 100])))), none⟩])
 .ret) .skip))
 (.seq (.seq (.region [⟨(some 154), (.mov (.tmp 0)), none⟩])
 (.block 1 (.seq (.region [⟨(some 156), (.bin .eql (.tmp 154) (.const (.c (.str [43])))), none⟩, ⟨(some 155), (.mov (.tmp 156)), none⟩])
 (.cond (.tmp 155) (.seq (.region [⟨(some 157), (.mov (.tmp 8)), none⟩, ⟨(some 158), (.mov (.tmp 9)), none⟩, ⟨(some 159), (.bin .add (.tmp 157) (.tmp 158)), none⟩, ⟨(some 160), (.call 54 [(.tmp 159)]), none⟩, ⟨(some 161), (.ext (.tmp 160) 0), none⟩, ⟨(some 162), (.ext (.tmp 160) 1), none⟩, ⟨none, (.store 3 (.tmp 6) (.tmp 161)), none⟩, ⟨(some 7), (.mov (.tmp 162)), none⟩])
 .ret) (.seq (.region [⟨(some 164), (.bin .eql (.tmp 154) (.const (.c (.str [45])))), none⟩, ⟨(some 163), (.mov (.tmp 164)), none⟩])
 (.cond (.tmp 163) (.seq (.region [⟨(some 165), (.mov (.tmp 8)), none⟩, ⟨(some 166), (.mov (.tmp 9)), none⟩, ⟨(some 167), (.bin .sub (.tmp 165) (.tmp 166)), none⟩, ⟨(some 168), (.call 54 [(.tmp 167)]), none⟩, ⟨(some 169), (.ext (.tmp 168) 0), none⟩, ⟨(some 170), (.ext (.tmp 168) 1), none⟩, ⟨none, (.store 3 (.tmp 6) (.tmp 169)), none⟩, ⟨(some 7), (.mov (.tmp 170)), none⟩])
 .ret) (.seq (.region [⟨(some 172), (.bin .eql (.tmp 154) (.const (.c (.str [42])))), none⟩, ⟨(some 171), (.mov (.tmp 172)), none⟩])
 (.cond (.tmp 171) (.seq (.region [⟨(some 173), (.mov (.tmp 8)), none⟩, ⟨(some 174), (.mov (.tmp 9)), none⟩, ⟨(some 175), (.call 56 [(.tmp 173), (.tmp 174)]), none⟩, ⟨(some 176), (.call 54 [(.tmp 175)]), none⟩, ⟨(some 177), (.ext (.tmp 176) 0), none⟩, ⟨(some 178), (.ext (.tmp 176) 1), none⟩, ⟨none, (.store 3 (.tmp 6) (.tmp 177)), none⟩, ⟨(some 7), (.mov (.tmp 178)), none⟩])
 .ret) .skip))))))))
 (.seq (.seq (.region [⟨(some 179), (.mov (.tmp 9)), none⟩, ⟨(some 180), (.bin .eql (.tmp 179) (.const (.c (.val (.int .i64 0))))), none⟩])
 (.cond (.tmp 180) (.seq (.region [⟨(some 181), (.build [(.val (.int .i64 0)), (.val (.int .i64 0)), (.str [])] []), none⟩, ⟨none, (.store 3 (.tmp 6) (.tmp 181)), none⟩, ⟨(some 7), (.mov (.const (.c (.str [122, 101, 114, 111])))), none⟩])
 .ret) .skip))
 (.seq (.seq (.region [⟨(some 182), (.mov (.tmp 0)), none⟩, ⟨(some 183), (.bin .eql (.tmp 182) (.const (.c (.str [47])))), none⟩])
 (.cond (.tmp 183) (.seq (.region [⟨(some 184), (.mov (.tmp 8)), none⟩, ⟨(some 185), (.mov (.tmp 9)), none⟩, ⟨(some 186), (.bin .quo (.tmp 184) (.tmp 185)), none⟩, ⟨(some 187), (.call 54 [(.tmp 186)]), none⟩, ⟨(some 188), (.ext (.tmp 187) 0), none⟩, ⟨(some 189), (.ext (.tmp 187) 1), none⟩, ⟨none, (.store 3 (.tmp 6) (.tmp 188)), none⟩, ⟨(some 7), (.mov (.tmp 189)), none⟩])
 .ret) .skip))
 (.seq (.region [⟨(some 190), (.mov (.tmp 8)), none⟩, ⟨(some 191), (.mov (.tmp 8)), none⟩, ⟨(some 192), (.mov (.tmp 9)), none⟩, ⟨(some 193), (.bin .quo (.tmp 191) (.tmp 192)), none⟩, ⟨(some 194), (.mov (.tmp 9)), none⟩, ⟨(some 195), (.bin .mul (.tmp 193) (.tmp 194)), none⟩, ⟨(some 196), (.bin .sub (.tmp 190) (.tmp 195)), none⟩, ⟨(some 197), (.call 54 [(.tmp 196)]), none⟩, ⟨(some 198), (.ext (.tmp 197) 0), none⟩, ⟨(some 199), (.ext (.tmp 197) 1), none⟩, ⟨none, (.store 3 (.tmp 6) (.tmp 198)), none⟩, ⟨(some 7), (.mov (.tmp 199)), none⟩])
 .ret))))))
def a17_c0 : ACode := (.seq (.region [⟨(some 50), (.faddr 0 (.tmp 4)), none⟩, ⟨(some 51), (.load false 1 (.tmp 50)), none⟩, ⟨(some 52), (.faddr 0 (.tmp 5)), none⟩, ⟨(some 53), (.load false 1 (.tmp 52)), none⟩, ⟨(some 54), (.bin .eql (.tmp 51) (.tmp 53)), none⟩, ⟨(some 55), (.mov (.tmp 54)), none⟩, ⟨(some 56), (.faddr 0 (.tmp 4)), (some (55, true))⟩, ⟨(some 57), (.load false 1 (.tmp 56)), (some (55, true))⟩, ⟨(some 58), (.bin .eql (.tmp 57) (.const (.c (.val (.int .i64 2))))), (some (55, true))⟩, ⟨(some 59), (.mov (.tmp 58)), (some (55, true))⟩, ⟨(some 60), (.faddr 0 (.tmp 4)), (some (59, false))⟩, ⟨(some 61), (.load false 1 (.tmp 60)), (some (59, false))⟩, ⟨(some 62), (.bin .eql (.tmp 61) (.const (.c (.val (.int .i64 3))))), (some (59, false))⟩, ⟨(some 63), (.pick (.tmp 59) (.const (.c (.val (.bool true)))) (.tmp 62)), (some (55, true))⟩, ⟨(some 64), (.pick (.tmp 55) (.tmp 63) (.const (.c (.val (.bool false))))), none⟩, ⟨(some 13), (.mov (.tmp 64)), none⟩])
 (.seq (.seq (.region [⟨(some 65), (.mov (.tmp 0)), none⟩])
 (.block 0 (.seq (.region [⟨(some 68), (.bin .eql (.tmp 65) (.const (.c (.str [61, 61])))), none⟩, ⟨(some 67), (.mov (.tmp 68)), none⟩])
 (.cond (.tmp 67) (.seq (.region [⟨(some 69), (.load true 3 (.tmp 4)), none⟩, ⟨(some 70), (.load true 3 (.tmp 5)), none⟩, ⟨(some 71), (.eqs false true [.i, .i, .s] (.tmp 69) (.tmp 70)), none⟩, ⟨(some 72), (.call 52 [(.tmp 71)]), none⟩, ⟨(some 73), (.ext (.tmp 72) 0), none⟩, ⟨(some 74), (.ext (.tmp 72) 1), none⟩, ⟨none, (.store 3 (.tmp 6) (.tmp 73)), none⟩, ⟨(some 7), (.mov (.tmp 74)), none⟩])
 .ret) (.seq (.region [⟨(some 76), (.bin .eql (.tmp 65) (.const (.c (.str [33, 61])))), none⟩, ⟨(some 75), (.mov (.tmp 76)), none⟩])
 (.cond (.tmp 75) (.seq (.region [⟨(some 77), (.load true 3 (.tmp 4)), none⟩, ⟨(some 78), (.load true 3 (.tmp 5)), none⟩, ⟨(some 79), (.eqs true true [.i, .i, .s] (.tmp 77) (.tmp 78)), none⟩, ⟨(some 80), (.call 52 [(.tmp 79)]), none⟩, ⟨(some 81), (.ext (.tmp 80) 0), none⟩, ⟨(some 82), (.ext (.tmp 80) 1), none⟩, ⟨none, (.store 3 (.tmp 6) (.tmp 81)), none⟩, ⟨(some 7), (.mov (.tmp 82)), none⟩])
 .ret) (.seq (.seq (.region [⟨(some 84), (.bin .eql (.tmp 65) (.const (.c (.str [60])))), none⟩, ⟨(some 83), (.mov (.tmp 84)), none⟩])
 (.cond (.tmp 83) .skip (.seq (.region [⟨(some 85), (.bin .eql (.tmp 65) (.const (.c (.str [60, 61])))), none⟩, ⟨(some 83), (.mov (.tmp 85)), none⟩])
 (.cond (.tmp 83) .skip (.seq (.region [⟨(some 86), (.bin .eql (.tmp 65) (.const (.c (.str [62])))), none⟩, ⟨(some 83), (.mov (.tmp 86)), none⟩])
 (.cond (.tmp 83) .skip (.region [⟨(some 87), (.bin .eql (.tmp 65) (.const (.c (.str [62, 61])))), none⟩, ⟨(some 83), (.mov (.tmp 87)), none⟩])))))))
 a17_c1)))))))
 a17_c3))
def a17 : AFunc := ⟨3, [(.cell true 3 6), (.tmp 7)], (.seq (.region [⟨(some 4), (.box (.tmp 1)), none⟩, ⟨(some 5), (.box (.tmp 2)), none⟩, ⟨(some 6), (.box (.const (.agg [(.val (.int .i64 0)), (.val (.int .i64 0)), (.str [])]))), none⟩, ⟨(some 7), (.mov (.const (.c (.str [])))), none⟩])
 (.seq (.drawn (.fin [(⟨(some 15), (.load true 3 (.tmp 4)), none⟩, (0, 0)), (⟨(some 17), (.load true 3 (.tmp 5)), none⟩, (0, 2)), (⟨(some 16), (.call 51 [(.tmp 15)]), none⟩, (1, 1)), (⟨(some 18), (.call 51 [(.tmp 17)]), none⟩, (2, 3)), (⟨none, (.store 3 (.tmp 4) (.tmp 16)), none⟩, (2, 4)), (⟨none, (.store 3 (.tmp 5) (.tmp 18)), none⟩, (2, 5))]))
 (.seq (.drawn (.fin [(⟨(some 19), (.faddr 1 (.tmp 4)), none⟩, (0, 0)), (⟨(some 20), (.load false 1 (.tmp 19)), none⟩, (0, 1)), (⟨(some 21), (.faddr 1 (.tmp 5)), none⟩, (0, 2)), (⟨(some 22), (.load false 1 (.tmp 21)), none⟩, (0, 3)), (⟨(some 8), (.mov (.tmp 20)), none⟩, (0, 4)), (⟨(some 9), (.mov (.tmp 22)), none⟩, (0, 5))]))
 (.seq (.region [⟨(some 23), (.faddr 0 (.tmp 4)), none⟩, ⟨(some 24), (.load false 1 (.tmp 23)), none⟩, ⟨(some 25), (.bin .eql (.tmp 24) (.const (.c (.val (.int .i64 2))))), none⟩, ⟨(some 26), (.mov (.tmp 25)), none⟩, ⟨(some 27), (.faddr 0 (.tmp 5)), (some (26, true))⟩, ⟨(some 28), (.load false 1 (.tmp 27)), (some (26, true))⟩, ⟨(some 29), (.bin .eql (.tmp 28) (.const (.c (.val (.int .i64 2))))), (some (26, true))⟩, ⟨(some 30), (.pick (.tmp 26) (.tmp 29) (.const (.c (.val (.bool false))))), none⟩, ⟨(some 10), (.mov (.tmp 30)), none⟩])
 (.seq (.region [⟨(some 31), (.mov (.tmp 8)), none⟩, ⟨(some 32), (.mov (.tmp 9)), none⟩, ⟨(some 33), (.bin .lss (.tmp 31) (.tmp 32)), none⟩, ⟨(some 34), (.mov (.tmp 8)), none⟩, ⟨(some 35), (.mov (.tmp 9)), none⟩, ⟨(some 36), (.bin .gtr (.tmp 34) (.tmp 35)), none⟩, ⟨(some 11), (.mov (.tmp 33)), none⟩, ⟨(some 12), (.mov (.tmp 36)), none⟩])
 (.seq (.seq (.region [⟨(some 37), (.faddr 0 (.tmp 4)), none⟩, ⟨(some 38), (.load false 1 (.tmp 37)), none⟩, ⟨(some 39), (.bin .eql (.tmp 38) (.const (.c (.val (.int .i64 3))))), none⟩])
 (.cond (.tmp 39) (.drawn (.fin [(⟨(some 40), (.faddr 2 (.tmp 4)), none⟩, (0, 0)), (⟨(some 41), (.load false 1 (.tmp 40)), none⟩, (0, 1)), (⟨(some 42), (.faddr 2 (.tmp 5)), none⟩, (0, 2)), (⟨(some 43), (.load false 1 (.tmp 42)), none⟩, (0, 3)), (⟨(some 44), (.bin .lss (.tmp 41) (.tmp 43)), none⟩, (0, 4)), (⟨(some 45), (.faddr 2 (.tmp 4)), none⟩, (0, 5)), (⟨(some 46), (.load false 1 (.tmp 45)), none⟩, (0, 6)), (⟨(some 47), (.faddr 2 (.tmp 5)), none⟩, (0, 7)), (⟨(some 48), (.load false 1 (.tmp 47)), none⟩, (0, 8)), (⟨(some 49), (.bin .gtr (.tmp 46) (.tmp 48)), none⟩, (0, 9)), (⟨(some 11), (.mov (.tmp 44)), none⟩, (0, 10)), (⟨(some 12), (.mov (.tmp 49)), none⟩, (0, 11))])) .skip))
 a17_c0))))))⟩
set_option maxRecDepth 100000 in
theorem c17 : compFunc Tryd.prog 17 = some a17 := by kernel_rfl
def clerestoryref4_TwoSides_post (r : (TJVal × (List UInt8))) : AV → Heap → Nat → Prop := fun v h' n' => v = (.tup [(.agg [cI r.1.Kind, cI r.1.N, .str r.1.S]), (S r.2)]) ∧ (h' = (fun _ => none)) ∧ n' = 0
abbrev clerestoryref4_TwoSides_q0 (o : (TJVal × (List UInt8))) : AExit → St → Prop := AThen (Sv Tryd.prog GG 0 a17_c3 (Ends a17.results 0 (clerestoryref4_TwoSides_post o))) (Ends a17.results 0 (clerestoryref4_TwoSides_post o))
abbrev clerestoryref4_TwoSides_q1 (o : (TJVal × (List UInt8))) : AExit → St → Prop := ABlock 0 (clerestoryref4_TwoSides_q0 o)
noncomputable def clerestoryref4_TwoSides_j3 (sign : (List UInt8)) (a_ : TJVal) (b_ : TJVal) (v122 : Bool) : Option (TJVal × (List UInt8)) :=
  if v122 then
    if ((decide (sign = [43])) && ((decide ((clerestoryref4_Taken a_).Kind = 3)) || (decide ((clerestoryref4_Taken b_).Kind = 3)))) then
      (clerestoryref4_Shown (clerestoryref4_Taken a_)).bind fun r_1 =>
      (clerestoryref4_Shown (clerestoryref4_Taken b_)).bind fun r_2 =>
      (cat? r_1 r_2).bind fun r_3 =>
      if decide (2000 < (r_3.length : Int)) then
        some ((⟨0, 0, []⟩ : TJVal), [108, 97, 114, 103, 101])
      else
        some ((⟨3, 0, r_3⟩ : TJVal), [])
    else
      letIn (!((decide ((clerestoryref4_Taken a_).Kind = 2)) && (decide ((clerestoryref4_Taken b_).Kind = 2)))) fun v152 : Bool =>
      if v152 then
        some ((⟨0, 0, []⟩ : TJVal), [107, 105, 110, 100])
      else
        if decide (sign = [43]) then
          letIn (clerestoryref4_numOf (wi ((clerestoryref4_Taken a_).N + (clerestoryref4_Taken b_).N))) fun r_4 : (TJVal × (List UInt8)) =>
          some (r_4.1, r_4.2)
        else
          if decide (sign = [45]) then
            letIn (clerestoryref4_numOf (wi ((clerestoryref4_Taken a_).N - (clerestoryref4_Taken b_).N))) fun r_5 : (TJVal × (List UInt8)) =>
            some (r_5.1, r_5.2)
          else
            if decide (sign = [42]) then
              (clerestoryref4_timesOf ((clerestoryref4_Taken a_).N) ((clerestoryref4_Taken b_).N)).bind fun r_6 =>
              some (((clerestoryref4_numOf r_6).1), (clerestoryref4_numOf r_6).2)
            else
              if decide ((clerestoryref4_Taken b_).N = 0) then
                some ((⟨0, 0, []⟩ : TJVal), [122, 101, 114, 111])
              else
                if decide (sign = [47]) then
                  (quo? .i64 ((clerestoryref4_Taken a_).N) ((clerestoryref4_Taken b_).N)).bind fun r_7 =>
                  some (((clerestoryref4_numOf r_7).1), (clerestoryref4_numOf r_7).2)
                else
                  (quo? .i64 ((clerestoryref4_Taken a_).N) ((clerestoryref4_Taken b_).N)).bind fun r_8 =>
                  letIn (wi ((clerestoryref4_Taken a_).N - (wi (r_8 * (clerestoryref4_Taken b_).N)))) fun v196 : Int =>
                  some (((clerestoryref4_numOf v196).1), (clerestoryref4_numOf v196).2)
  else
    some ((⟨0, 0, []⟩ : TJVal), [115, 105, 103, 110])
theorem clerestoryref4_TwoSides_j3_ok {sign : (List UInt8)} {a_ : TJVal} {b_ : TJVal} {v122 : Bool} {o : (TJVal × (List UInt8))} (h : clerestoryref4_TwoSides_j3 sign a_ b_ v122 = some o) :
    Sv Tryd.prog GG 0 a17_c2 (clerestoryref4_TwoSides_q1 o) ⟨(upd (upd (upd (upd (upd (upd (upd (upd (fun _ => none) 0 (some (S sign))) 4 (some (.c (.ref 0 3 0 0)))) 5 (some (.c (.ref 1 3 0 0)))) 6 (some (.c (.ref 2 3 0 0)))) 8 (some (I ((clerestoryref4_Taken a_).N)))) 9 (some (I ((clerestoryref4_Taken b_).N)))) 10 (some (B ((decide ((clerestoryref4_Taken a_).Kind = 2)) && (decide ((clerestoryref4_Taken b_).Kind = 2)))))) 122 (some (B v122))), (upd (upd (upd (fun _ => none) 0 (some (.cells 3 [[cI ((clerestoryref4_Taken a_).Kind), cI ((clerestoryref4_Taken a_).N), .str ((clerestoryref4_Taken a_).S)]]))) 1 (some (.cells 3 [[cI ((clerestoryref4_Taken b_).Kind), cI ((clerestoryref4_Taken b_).N), .str ((clerestoryref4_Taken b_).S)]]))) 2 (some (.cells 3 [[cI 0, cI 0, .str []]]))), 3⟩ := by
  unfold clerestoryref4_TwoSides_j3 at h
  refine Sv.cond (b := v122) rfl (fun hc15 => ?_) (fun hc15 => ?_)
  · replace h := ifT hc15 h
    refine Sv.skip ?_
    refine Sv.seq ?_
    refine Sv.seq ?_
    refine Sv.region ?_
    refine un (a1 rfl ?_)
    refine un (a1 (v := (B (decide (sign = [43])))) rfl ?_)
    refine un (a1 rfl ?_)
    refine gjoin 9 (d := 139) (v := (B ((decide (sign = [43])) && ((decide ((clerestoryref4_Taken a_).Kind = 3)) || (decide ((clerestoryref4_Taken b_).Kind = 3)))))) (fun X hX => ?_) ?_
    · refine split2 (fun hc17 => ?_) (fun hc17 => ?_)
      · refine gt rfl (a1 (v := (.c (.ref 0 3 0 0))) rfl ?_)
        refine gt rfl (a1 (v := (I ((clerestoryref4_Taken a_).Kind))) rfl ?_)
        refine gt rfl (a1 (v := (B (decide ((clerestoryref4_Taken a_).Kind = 3)))) rfl ?_)
        refine gt rfl (a1 rfl ?_)
        refine gjoin 4 (d := 138) (v := (B ((decide ((clerestoryref4_Taken a_).Kind = 3)) || (decide ((clerestoryref4_Taken b_).Kind = 3))))) (fun X hX => ?_) ?_
        · refine split2 (fun hc16 => ?_) (fun hc16 => ?_)
          · refine gs rfl rfl ?_
            refine gs rfl rfl ?_
            refine gs rfl rfl ?_
            refine gt rfl (a1 (v := (B true)) rfl ?_)
            refine dnil ?_
            exact hX _ (.putEq (by rw [hc16]; rfl) (.skip _ _ (.skip _ _ (.skip _ _ (.putEq (by rw [hc16]) (.refl _)) rfl) rfl) rfl))
          · refine gt rfl (a1 (v := (.c (.ref 1 3 0 0))) rfl ?_)
            refine gt rfl (a1 (v := (I ((clerestoryref4_Taken b_).Kind))) rfl ?_)
            refine gt rfl (a1 (v := (B (decide ((clerestoryref4_Taken b_).Kind = 3)))) rfl ?_)
            refine gt rfl (a1 (v := (B (decide ((clerestoryref4_Taken b_).Kind = 3)))) rfl ?_)
            refine dnil ?_
            exact hX _ (.putEq (by rw [hc16]; rfl) (.skip _ _ (.skip _ _ (.skip _ _ (.putEq (by rw [hc16]) (.refl _)) rfl) rfl) rfl))
        refine un (a1 (v := (B ((decide ((clerestoryref4_Taken a_).Kind = 3)) || (decide ((clerestoryref4_Taken b_).Kind = 3))))) rfl ?_)
        refine dnil ?_
        exact hX _ (.putEq (by rw [hc17]; rfl) (.skip _ _ (.skip _ _ (.skip _ _ (.skip _ _ (.skip _ _ (.putEq (by rw [hc17]) (.refl _)) rfl) rfl) rfl) rfl) rfl))
      · refine gs rfl rfl ?_
        refine gs rfl rfl ?_
        refine gs rfl rfl ?_
        refine gs rfl rfl ?_
        refine gu rfl ?_
        refine gu rfl ?_
        refine gu rfl ?_
        refine gs rfl rfl ?_
        refine un (a1 (v := (B false)) rfl ?_)
        refine dnil ?_
        exact hX _ (.putEq (by rw [hc17]; rfl) (.skip _ _ (.skip _ _ (.skip _ _ (.skip _ _ (.skip _ _ (.skip _ _ (.skip _ _ (.skip _ _ (.putEq (by rw [hc17]) (.refl _)) rfl) rfl) rfl) rfl) rfl) rfl) rfl) rfl))
    refine dnil ?_
    refine Sv.cond (b := ((decide (sign = [43])) && ((decide ((clerestoryref4_Taken a_).Kind = 3)) || (decide ((clerestoryref4_Taken b_).Kind = 3))))) rfl (fun hc18 => ?_) (fun hc18 => ?_)
    · replace h := ifT hc18 h
      refine Sv.seq ?_
      refine Sv.drawn ?_
      refine un (a1 (v := (.agg [cI ((clerestoryref4_Taken a_).Kind), cI ((clerestoryref4_Taken a_).N), .str ((clerestoryref4_Taken a_).S)])) rfl ?_)
      refine un (a1 (v := (.agg [cI ((clerestoryref4_Taken b_).Kind), cI ((clerestoryref4_Taken b_).N), .str ((clerestoryref4_Taken b_).S)])) rfl ?_)
      obtain ⟨r_1, hr1, h⟩ := bnd h
      refine un (ac_pure (clerestoryref4_Shown_ok hr1) rfl rfl rfl ?_)
      obtain ⟨r_2, hr2, h⟩ := bnd h
      refine un (ac_pure (clerestoryref4_Shown_ok hr2) rfl rfl rfl ?_)
      obtain ⟨r_3, hx1, h⟩ := bnd h
      refine un (a1 (v := (S r_3)) (s_cat rfl rfl hx1) ?_)
      refine un (a1 rfl ?_)
      refine dnil ?_
      refine Sv.seq ?_
      refine Sv.seq ?_
      refine Sv.region ?_
      refine un (a1 rfl ?_)
      refine un (a1 (v := (I (r_3.length : Int))) rfl ?_)
      refine un (a1 (v := (B (decide (2000 < (r_3.length : Int))))) rfl ?_)
      refine dnil ?_
      refine Sv.cond (b := decide (2000 < (r_3.length : Int))) rfl (fun hc19 => ?_) (fun hc19 => ?_)
      · replace h := ifT hc19 h
        refine Sv.seq ?_
        refine Sv.region ?_
        refine un (a1 (v := (.agg [cI 0, cI 0, .str []])) rfl ?_)
        refine un (a2n (h' := upd _ 2 (some (.cells 3 [[cI 0, cI 0, .str []]]))) (n' := 3) rfl rfl (fun h => by cases h) ?_)
        refine un (a1 rfl ?_)
        refine dnil ?_
        refine Sv.ret ?_
        replace h := Option.some.inj h
        subst h
        exact ⟨_, .refl _, _, rfl, ⟨upd (fun _ => none) 0 (some (.tup [(.agg [cI 0, cI 0, .str []]), (S [108, 97, 114, 103, 101])])), (fun _ => none), 0⟩, (.tup [(.agg [cI 0, cI 0, .str []]), (S [108, 97, 114, 103, 101])]), weak_canon [] rfl List.nodup_nil (Nat.le_refl _) (fun b h => absurd h (Nat.not_lt_zero _)) (.cons rfl (avAs_tup (.cons (avAs_free rfl) (.cons (avAs_free rfl) .nil))) .nil) .nil, rfl, rfl, rfl, rfl⟩
      · replace h := ifF hc19 h
        refine Sv.skip ?_
        refine Sv.seq ?_
        refine Sv.region ?_
        refine un (a1 rfl ?_)
        refine un (a1 (v := (.agg [cI 3, cI 0, .str r_3])) rfl ?_)
        refine un (a2n (h' := upd _ 2 (some (.cells 3 [[cI 3, cI 0, .str r_3]]))) (n' := 3) rfl rfl (fun h => by cases h) ?_)
        refine un (a1 rfl ?_)
        refine dnil ?_
        refine Sv.ret ?_
        replace h := Option.some.inj h
        subst h
        exact ⟨_, .refl _, _, rfl, ⟨upd (fun _ => none) 0 (some (.tup [(.agg [cI 3, cI 0, .str r_3]), (S [])])), (fun _ => none), 0⟩, (.tup [(.agg [cI 3, cI 0, .str r_3]), (S [])]), weak_canon [] rfl List.nodup_nil (Nat.le_refl _) (fun b h => absurd h (Nat.not_lt_zero _)) (.cons rfl (avAs_tup (.cons (avAs_free rfl) (.cons (avAs_free rfl) .nil))) .nil) .nil, rfl, rfl, rfl, rfl⟩
    · replace h := ifF hc18 h
      refine Sv.skip ?_
      refine Sv.seq ?_
      refine Sv.seq ?_
      refine Sv.region ?_
      refine un (a1 rfl ?_)
      obtain ⟨v152, hv152⟩ : ∃ v152 : Bool, v152 = (!((decide ((clerestoryref4_Taken a_).Kind = 2)) && (decide ((clerestoryref4_Taken b_).Kind = 2)))) := ⟨_, rfl⟩
      replace h := letAt hv152 h
      refine un (a1 (v := (B v152)) (by rw [hv152]; rfl) ?_)
      clear hv152
      refine dnil ?_
      refine Sv.cond (b := v152) rfl (fun hc20 => ?_) (fun hc20 => ?_)
      · replace h := ifT hc20 h
        refine Sv.seq ?_
        refine Sv.region ?_
        refine un (a1 (v := (.agg [cI 0, cI 0, .str []])) rfl ?_)
        refine un (a2n (h' := upd _ 2 (some (.cells 3 [[cI 0, cI 0, .str []]]))) (n' := 3) rfl rfl (fun h => by cases h) ?_)
        refine un (a1 rfl ?_)
        refine dnil ?_
        refine Sv.ret ?_
        replace h := Option.some.inj h
        subst h
        exact ⟨_, .refl _, _, rfl, ⟨upd (fun _ => none) 0 (some (.tup [(.agg [cI 0, cI 0, .str []]), (S [107, 105, 110, 100])])), (fun _ => none), 0⟩, (.tup [(.agg [cI 0, cI 0, .str []]), (S [107, 105, 110, 100])]), weak_canon [] rfl List.nodup_nil (Nat.le_refl _) (fun b h => absurd h (Nat.not_lt_zero _)) (.cons rfl (avAs_tup (.cons (avAs_free rfl) (.cons (avAs_free rfl) .nil))) .nil) .nil, rfl, rfl, rfl, rfl⟩
      · replace h := ifF hc20 h
        refine Sv.skip ?_
        refine Sv.seq ?_
        refine Sv.seq ?_
        refine Sv.region ?_
        refine un (a1 rfl ?_)
        refine dnil ?_
        refine Sv.block ?_
        refine Sv.seq ?_
        refine Sv.region ?_
        refine un (a1 (v := (B (decide (sign = [43])))) rfl ?_)
        refine un (a1 rfl ?_)
        refine dnil ?_
        refine Sv.cond (b := decide (sign = [43])) rfl (fun hc21 => ?_) (fun hc21 => ?_)
        · replace h := ifT hc21 h
          refine Sv.seq ?_
          refine Sv.region ?_
          refine un (a1 rfl ?_)
          refine un (a1 rfl ?_)
          refine un (a1 (v := (I (wi ((clerestoryref4_Taken a_).N + (clerestoryref4_Taken b_).N)))) rfl ?_)
          obtain ⟨r_4, hr_4⟩ : ∃ r_4 : (TJVal × (List UInt8)), r_4 = (clerestoryref4_numOf (wi ((clerestoryref4_Taken a_).N + (clerestoryref4_Taken b_).N))) := ⟨_, rfl⟩
          replace h := letAt hr_4 h
          have pr_4 := (clerestoryref4_numOf_ok (wi ((clerestoryref4_Taken a_).N + (clerestoryref4_Taken b_).N)))
          rw [← hr_4] at pr_4
          refine un (ac_pure pr_4 rfl rfl rfl ?_)
          refine un (a1 (v := (.agg [cI r_4.1.Kind, cI r_4.1.N, .str r_4.1.S])) rfl ?_)
          refine un (a1 (v := (S r_4.2)) rfl ?_)
          refine un (a2n (h' := upd _ 2 (some (.cells 3 [[cI r_4.1.Kind, cI r_4.1.N, .str r_4.1.S]]))) (n' := 3) rfl rfl (fun h => by cases h) ?_)
          refine un (a1 rfl ?_)
          refine dnil ?_
          refine Sv.ret ?_
          replace h := Option.some.inj h
          subst h
          exact ⟨_, .refl _, _, rfl, ⟨upd (fun _ => none) 0 (some (.tup [(.agg [cI r_4.1.Kind, cI r_4.1.N, .str r_4.1.S]), (S r_4.2)])), (fun _ => none), 0⟩, (.tup [(.agg [cI r_4.1.Kind, cI r_4.1.N, .str r_4.1.S]), (S r_4.2)]), weak_canon [] rfl List.nodup_nil (Nat.le_refl _) (fun b h => absurd h (Nat.not_lt_zero _)) (.cons rfl (avAs_tup (.cons (avAs_free rfl) (.cons (avAs_free rfl) .nil))) .nil) .nil, rfl, rfl, rfl, rfl⟩
        · replace h := ifF hc21 h
          refine Sv.seq ?_
          refine Sv.region ?_
          refine un (a1 (v := (B (decide (sign = [45])))) rfl ?_)
          refine un (a1 rfl ?_)
          refine dnil ?_
          refine Sv.cond (b := decide (sign = [45])) rfl (fun hc22 => ?_) (fun hc22 => ?_)
          · replace h := ifT hc22 h
            refine Sv.seq ?_
            refine Sv.region ?_
            refine un (a1 rfl ?_)
            refine un (a1 rfl ?_)
            refine un (a1 (v := (I (wi ((clerestoryref4_Taken a_).N - (clerestoryref4_Taken b_).N)))) rfl ?_)
            obtain ⟨r_5, hr_5⟩ : ∃ r_5 : (TJVal × (List UInt8)), r_5 = (clerestoryref4_numOf (wi ((clerestoryref4_Taken a_).N - (clerestoryref4_Taken b_).N))) := ⟨_, rfl⟩
            replace h := letAt hr_5 h
            have pr_5 := (clerestoryref4_numOf_ok (wi ((clerestoryref4_Taken a_).N - (clerestoryref4_Taken b_).N)))
            rw [← hr_5] at pr_5
            refine un (ac_pure pr_5 rfl rfl rfl ?_)
            refine un (a1 (v := (.agg [cI r_5.1.Kind, cI r_5.1.N, .str r_5.1.S])) rfl ?_)
            refine un (a1 (v := (S r_5.2)) rfl ?_)
            refine un (a2n (h' := upd _ 2 (some (.cells 3 [[cI r_5.1.Kind, cI r_5.1.N, .str r_5.1.S]]))) (n' := 3) rfl rfl (fun h => by cases h) ?_)
            refine un (a1 rfl ?_)
            refine dnil ?_
            refine Sv.ret ?_
            replace h := Option.some.inj h
            subst h
            exact ⟨_, .refl _, _, rfl, ⟨upd (fun _ => none) 0 (some (.tup [(.agg [cI r_5.1.Kind, cI r_5.1.N, .str r_5.1.S]), (S r_5.2)])), (fun _ => none), 0⟩, (.tup [(.agg [cI r_5.1.Kind, cI r_5.1.N, .str r_5.1.S]), (S r_5.2)]), weak_canon [] rfl List.nodup_nil (Nat.le_refl _) (fun b h => absurd h (Nat.not_lt_zero _)) (.cons rfl (avAs_tup (.cons (avAs_free rfl) (.cons (avAs_free rfl) .nil))) .nil) .nil, rfl, rfl, rfl, rfl⟩
          · replace h := ifF hc22 h
            refine Sv.seq ?_
            refine Sv.region ?_
            refine un (a1 (v := (B (decide (sign = [42])))) rfl ?_)
            refine un (a1 rfl ?_)
            refine dnil ?_
            refine Sv.cond (b := decide (sign = [42])) rfl (fun hc23 => ?_) (fun hc23 => ?_)
            · replace h := ifT hc23 h
              refine Sv.seq ?_
              refine Sv.region ?_
              refine un (a1 rfl ?_)
              refine un (a1 rfl ?_)
              obtain ⟨r_6, hr3, h⟩ := bnd h
              refine un (ac_pure (clerestoryref4_timesOf_ok hr3) rfl rfl rfl ?_)
              refine un (ac_pure (clerestoryref4_numOf_ok r_6) rfl rfl rfl ?_)
              refine un (a1 (v := (.agg [cI (((clerestoryref4_numOf r_6).1).Kind), cI (((clerestoryref4_numOf r_6).1).N), .str (((clerestoryref4_numOf r_6).1).S)])) rfl ?_)
              refine un (a1 (v := (S ((clerestoryref4_numOf r_6).2))) rfl ?_)
              refine un (a2n (h' := upd _ 2 (some (.cells 3 [[cI (((clerestoryref4_numOf r_6).1).Kind), cI (((clerestoryref4_numOf r_6).1).N), .str (((clerestoryref4_numOf r_6).1).S)]]))) (n' := 3) rfl rfl (fun h => by cases h) ?_)
              refine un (a1 rfl ?_)
              refine dnil ?_
              refine Sv.ret ?_
              replace h := Option.some.inj h
              subst h
              exact ⟨_, .refl _, _, rfl, ⟨upd (fun _ => none) 0 (some (.tup [(.agg [cI (((clerestoryref4_numOf r_6).1).Kind), cI (((clerestoryref4_numOf r_6).1).N), .str (((clerestoryref4_numOf r_6).1).S)]), (S ((clerestoryref4_numOf r_6).2))])), (fun _ => none), 0⟩, (.tup [(.agg [cI (((clerestoryref4_numOf r_6).1).Kind), cI (((clerestoryref4_numOf r_6).1).N), .str (((clerestoryref4_numOf r_6).1).S)]), (S ((clerestoryref4_numOf r_6).2))]), weak_canon [] rfl List.nodup_nil (Nat.le_refl _) (fun b h => absurd h (Nat.not_lt_zero _)) (.cons rfl (avAs_tup (.cons (avAs_free rfl) (.cons (avAs_free rfl) .nil))) .nil) .nil, rfl, rfl, rfl, rfl⟩
            · replace h := ifF hc23 h
              refine Sv.skip ?_
              refine Sv.seq ?_
              refine Sv.seq ?_
              refine Sv.region ?_
              refine un (a1 rfl ?_)
              refine un (a1 (v := (B (decide ((clerestoryref4_Taken b_).N = 0)))) rfl ?_)
              refine dnil ?_
              refine Sv.cond (b := decide ((clerestoryref4_Taken b_).N = 0)) rfl (fun hc24 => ?_) (fun hc24 => ?_)
              · replace h := ifT hc24 h
                refine Sv.seq ?_
                refine Sv.region ?_
                refine un (a1 (v := (.agg [cI 0, cI 0, .str []])) rfl ?_)
                refine un (a2n (h' := upd _ 2 (some (.cells 3 [[cI 0, cI 0, .str []]]))) (n' := 3) rfl rfl (fun h => by cases h) ?_)
                refine un (a1 rfl ?_)
                refine dnil ?_
                refine Sv.ret ?_
                replace h := Option.some.inj h
                subst h
                exact ⟨_, .refl _, _, rfl, ⟨upd (fun _ => none) 0 (some (.tup [(.agg [cI 0, cI 0, .str []]), (S [122, 101, 114, 111])])), (fun _ => none), 0⟩, (.tup [(.agg [cI 0, cI 0, .str []]), (S [122, 101, 114, 111])]), weak_canon [] rfl List.nodup_nil (Nat.le_refl _) (fun b h => absurd h (Nat.not_lt_zero _)) (.cons rfl (avAs_tup (.cons (avAs_free rfl) (.cons (avAs_free rfl) .nil))) .nil) .nil, rfl, rfl, rfl, rfl⟩
              · replace h := ifF hc24 h
                refine Sv.skip ?_
                refine Sv.seq ?_
                refine Sv.seq ?_
                refine Sv.region ?_
                refine un (a1 rfl ?_)
                refine un (a1 (v := (B (decide (sign = [47])))) rfl ?_)
                refine dnil ?_
                refine Sv.cond (b := decide (sign = [47])) rfl (fun hc25 => ?_) (fun hc25 => ?_)
                · replace h := ifT hc25 h
                  refine Sv.seq ?_
                  refine Sv.region ?_
                  refine un (a1 rfl ?_)
                  refine un (a1 rfl ?_)
                  obtain ⟨r_7, hx2, h⟩ := bnd h
                  refine un (a1 (v := (I r_7)) (s_quo rfl rfl hx2) ?_)
                  refine un (ac_pure (clerestoryref4_numOf_ok r_7) rfl rfl rfl ?_)
                  refine un (a1 (v := (.agg [cI (((clerestoryref4_numOf r_7).1).Kind), cI (((clerestoryref4_numOf r_7).1).N), .str (((clerestoryref4_numOf r_7).1).S)])) rfl ?_)
                  refine un (a1 (v := (S ((clerestoryref4_numOf r_7).2))) rfl ?_)
                  refine un (a2n (h' := upd _ 2 (some (.cells 3 [[cI (((clerestoryref4_numOf r_7).1).Kind), cI (((clerestoryref4_numOf r_7).1).N), .str (((clerestoryref4_numOf r_7).1).S)]]))) (n' := 3) rfl rfl (fun h => by cases h) ?_)
                  refine un (a1 rfl ?_)
                  refine dnil ?_
                  refine Sv.ret ?_
                  replace h := Option.some.inj h
                  subst h
                  exact ⟨_, .refl _, _, rfl, ⟨upd (fun _ => none) 0 (some (.tup [(.agg [cI (((clerestoryref4_numOf r_7).1).Kind), cI (((clerestoryref4_numOf r_7).1).N), .str (((clerestoryref4_numOf r_7).1).S)]), (S ((clerestoryref4_numOf r_7).2))])), (fun _ => none), 0⟩, (.tup [(.agg [cI (((clerestoryref4_numOf r_7).1).Kind), cI (((clerestoryref4_numOf r_7).1).N), .str (((clerestoryref4_numOf r_7).1).S)]), (S ((clerestoryref4_numOf r_7).2))]), weak_canon [] rfl List.nodup_nil (Nat.le_refl _) (fun b h => absurd h (Nat.not_lt_zero _)) (.cons rfl (avAs_tup (.cons (avAs_free rfl) (.cons (avAs_free rfl) .nil))) .nil) .nil, rfl, rfl, rfl, rfl⟩
                · replace h := ifF hc25 h
                  refine Sv.skip ?_
                  refine Sv.seq ?_
                  refine Sv.region ?_
                  refine un (a1 rfl ?_)
                  refine un (a1 rfl ?_)
                  refine un (a1 rfl ?_)
                  obtain ⟨r_8, hx3, h⟩ := bnd h
                  refine un (a1 (v := (I r_8)) (s_quo rfl rfl hx3) ?_)
                  refine un (a1 rfl ?_)
                  refine un (a1 (v := (I (wi (r_8 * (clerestoryref4_Taken b_).N)))) rfl ?_)
                  obtain ⟨v196, hv196⟩ : ∃ v196 : Int, v196 = (wi ((clerestoryref4_Taken a_).N - (wi (r_8 * (clerestoryref4_Taken b_).N)))) := ⟨_, rfl⟩
                  replace h := letAt hv196 h
                  refine un (a1 (v := (I v196)) (by rw [hv196]; rfl) ?_)
                  clear hv196
                  refine un (ac_pure (clerestoryref4_numOf_ok v196) rfl rfl rfl ?_)
                  refine un (a1 (v := (.agg [cI (((clerestoryref4_numOf v196).1).Kind), cI (((clerestoryref4_numOf v196).1).N), .str (((clerestoryref4_numOf v196).1).S)])) rfl ?_)
                  refine un (a1 (v := (S ((clerestoryref4_numOf v196).2))) rfl ?_)
                  refine un (a2n (h' := upd _ 2 (some (.cells 3 [[cI (((clerestoryref4_numOf v196).1).Kind), cI (((clerestoryref4_numOf v196).1).N), .str (((clerestoryref4_numOf v196).1).S)]]))) (n' := 3) rfl rfl (fun h => by cases h) ?_)
                  refine un (a1 rfl ?_)
                  refine dnil ?_
                  refine Sv.ret ?_
                  replace h := Option.some.inj h
                  subst h
                  exact ⟨_, .refl _, _, rfl, ⟨upd (fun _ => none) 0 (some (.tup [(.agg [cI (((clerestoryref4_numOf v196).1).Kind), cI (((clerestoryref4_numOf v196).1).N), .str (((clerestoryref4_numOf v196).1).S)]), (S ((clerestoryref4_numOf v196).2))])), (fun _ => none), 0⟩, (.tup [(.agg [cI (((clerestoryref4_numOf v196).1).Kind), cI (((clerestoryref4_numOf v196).1).N), .str (((clerestoryref4_numOf v196).1).S)]), (S ((clerestoryref4_numOf v196).2))]), weak_canon [] rfl List.nodup_nil (Nat.le_refl _) (fun b h => absurd h (Nat.not_lt_zero _)) (.cons rfl (avAs_tup (.cons (avAs_free rfl) (.cons (avAs_free rfl) .nil))) .nil) .nil, rfl, rfl, rfl, rfl⟩
  · replace h := ifF hc15 h
    refine Sv.seq ?_
    refine Sv.region ?_
    refine un (a1 (v := (.agg [cI 0, cI 0, .str []])) rfl ?_)
    refine un (a2n (h' := upd _ 2 (some (.cells 3 [[cI 0, cI 0, .str []]]))) (n' := 3) rfl rfl (fun h => by cases h) ?_)
    refine un (a1 rfl ?_)
    refine dnil ?_
    refine Sv.ret ?_
    replace h := Option.some.inj h
    subst h
    exact ⟨_, .refl _, _, rfl, ⟨upd (fun _ => none) 0 (some (.tup [(.agg [cI 0, cI 0, .str []]), (S [115, 105, 103, 110])])), (fun _ => none), 0⟩, (.tup [(.agg [cI 0, cI 0, .str []]), (S [115, 105, 103, 110])]), weak_canon [] rfl List.nodup_nil (Nat.le_refl _) (fun b h => absurd h (Nat.not_lt_zero _)) (.cons rfl (avAs_tup (.cons (avAs_free rfl) (.cons (avAs_free rfl) .nil))) .nil) .nil, rfl, rfl, rfl, rfl⟩
noncomputable def clerestoryref4_TwoSides_j2 (a_ : TJVal) (b_ : TJVal) (sign : (List UInt8)) (less : Bool) (more : Bool) (v83 : Bool) : Option (TJVal × (List UInt8)) :=
  if v83 then
    letIn (!((decide ((clerestoryref4_Taken a_).Kind = (clerestoryref4_Taken b_).Kind)) && ((decide ((clerestoryref4_Taken a_).Kind = 2)) || (decide ((clerestoryref4_Taken a_).Kind = 3))))) fun v89 : Bool =>
    if v89 then
      some ((⟨0, 0, []⟩ : TJVal), [107, 105, 110, 100])
    else
      letIn (clerestoryref4_boolOf (((((decide (sign = [60])) && less) || ((decide (sign = [62])) && more)) || ((decide (sign = [60, 61])) && (!more))) || ((decide (sign = [62, 61])) && (!less)))) fun r_ : (TJVal × (List UInt8)) =>
      some (r_.1, r_.2)
  else
    if decide (sign = [43]) then
      clerestoryref4_TwoSides_j3 sign a_ b_ (decide (sign = [43]))
    else
      if decide (sign = [45]) then
        clerestoryref4_TwoSides_j3 sign a_ b_ (decide (sign = [45]))
      else
        if decide (sign = [42]) then
          clerestoryref4_TwoSides_j3 sign a_ b_ (decide (sign = [42]))
        else
          if decide (sign = [47]) then
            clerestoryref4_TwoSides_j3 sign a_ b_ (decide (sign = [47]))
          else
            clerestoryref4_TwoSides_j3 sign a_ b_ (decide (sign = [37]))
theorem clerestoryref4_TwoSides_j2_ok {a_ : TJVal} {b_ : TJVal} {sign : (List UInt8)} {less : Bool} {more : Bool} {v83 : Bool} {o : (TJVal × (List UInt8))} (h : clerestoryref4_TwoSides_j2 a_ b_ sign less more v83 = some o) :
    Sv Tryd.prog GG 0 a17_c1 (clerestoryref4_TwoSides_q1 o) ⟨(upd (upd (upd (upd (upd (upd (upd (upd (upd (upd (upd (upd (fun _ => none) 0 (some (S sign))) 4 (some (.c (.ref 0 3 0 0)))) 5 (some (.c (.ref 1 3 0 0)))) 6 (some (.c (.ref 2 3 0 0)))) 8 (some (I ((clerestoryref4_Taken a_).N)))) 9 (some (I ((clerestoryref4_Taken b_).N)))) 10 (some (B ((decide ((clerestoryref4_Taken a_).Kind = 2)) && (decide ((clerestoryref4_Taken b_).Kind = 2)))))) 11 (some (B less))) 12 (some (B more))) 13 (some (B ((decide ((clerestoryref4_Taken a_).Kind = (clerestoryref4_Taken b_).Kind)) && ((decide ((clerestoryref4_Taken a_).Kind = 2)) || (decide ((clerestoryref4_Taken a_).Kind = 3))))))) 65 (some (S sign))) 83 (some (B v83))), (upd (upd (upd (fun _ => none) 0 (some (.cells 3 [[cI ((clerestoryref4_Taken a_).Kind), cI ((clerestoryref4_Taken a_).N), .str ((clerestoryref4_Taken a_).S)]]))) 1 (some (.cells 3 [[cI ((clerestoryref4_Taken b_).Kind), cI ((clerestoryref4_Taken b_).N), .str ((clerestoryref4_Taken b_).S)]]))) 2 (some (.cells 3 [[cI 0, cI 0, .str []]]))), 3⟩ := by
  unfold clerestoryref4_TwoSides_j2 at h
  refine Sv.cond (b := v83) rfl (fun hc6 => ?_) (fun hc6 => ?_)
  · replace h := ifT hc6 h
    refine Sv.seq ?_
    refine Sv.seq ?_
    refine Sv.region ?_
    refine un (a1 rfl ?_)
    obtain ⟨v89, hv89⟩ : ∃ v89 : Bool, v89 = (!((decide ((clerestoryref4_Taken a_).Kind = (clerestoryref4_Taken b_).Kind)) && ((decide ((clerestoryref4_Taken a_).Kind = 2)) || (decide ((clerestoryref4_Taken a_).Kind = 3))))) := ⟨_, rfl⟩
    replace h := letAt hv89 h
    refine un (a1 (v := (B v89)) (by rw [hv89]; rfl) ?_)
    clear hv89
    refine dnil ?_
    refine Sv.cond (b := v89) rfl (fun hc7 => ?_) (fun hc7 => ?_)
    · replace h := ifT hc7 h
      refine Sv.seq ?_
      refine Sv.region ?_
      refine un (a1 (v := (.agg [cI 0, cI 0, .str []])) rfl ?_)
      refine un (a2n (h' := upd _ 2 (some (.cells 3 [[cI 0, cI 0, .str []]]))) (n' := 3) rfl rfl (fun h => by cases h) ?_)
      refine un (a1 rfl ?_)
      refine dnil ?_
      refine Sv.ret ?_
      replace h := Option.some.inj h
      subst h
      exact ⟨_, .refl _, _, rfl, ⟨upd (fun _ => none) 0 (some (.tup [(.agg [cI 0, cI 0, .str []]), (S [107, 105, 110, 100])])), (fun _ => none), 0⟩, (.tup [(.agg [cI 0, cI 0, .str []]), (S [107, 105, 110, 100])]), weak_canon [] rfl List.nodup_nil (Nat.le_refl _) (fun b h => absurd h (Nat.not_lt_zero _)) (.cons rfl (avAs_tup (.cons (avAs_free rfl) (.cons (avAs_free rfl) .nil))) .nil) .nil, rfl, rfl, rfl, rfl⟩
    · replace h := ifF hc7 h
      refine Sv.skip ?_
      refine Sv.seq ?_
      refine Sv.region ?_
      refine un (a1 rfl ?_)
      refine un (a1 (v := (B (decide (sign = [60])))) rfl ?_)
      refine un (a1 rfl ?_)
      refine gjoin 2 (d := 95) (v := (B ((decide (sign = [60])) && less))) (fun X hX => ?_) ?_
      · refine split2 (fun hc8 => ?_) (fun hc8 => ?_)
        · refine gt rfl (a1 rfl ?_)
          refine un (a1 (v := (B less)) rfl ?_)
          refine dnil ?_
          exact hX _ (.putEq (by rw [hc8]; rfl) (.skip _ _ (.putEq (by rw [hc8]) (.refl _)) rfl))
        · refine gs rfl rfl ?_
          refine un (a1 (v := (B false)) rfl ?_)
          refine dnil ?_
          exact hX _ (.putEq (by rw [hc8]; rfl) (.skip _ _ (.putEq (by rw [hc8]) (.refl _)) rfl))
      refine un (a1 rfl ?_)
      refine gjoin 6 (d := 102) (v := (B (((decide (sign = [60])) && less) || ((decide (sign = [62])) && more)))) (fun X hX => ?_) ?_
      · refine split2 (fun hc10 => ?_) (fun hc10 => ?_)
        · refine gs rfl rfl ?_
          refine gs rfl rfl ?_
          refine gs rfl rfl ?_
          refine gu rfl ?_
          refine gs rfl rfl ?_
          refine un (a1 (v := (B true)) rfl ?_)
          refine dnil ?_
          exact hX _ (.putEq (by rw [hc10]; rfl) (.skip _ _ (.skip _ _ (.skip _ _ (.skip _ _ (.skip _ _ (.putEq (by rw [hc10]) (.refl _)) rfl) rfl) rfl) rfl) rfl))
        · refine gt rfl (a1 rfl ?_)
          refine gt rfl (a1 (v := (B (decide (sign = [62])))) rfl ?_)
          refine gt rfl (a1 rfl ?_)
          refine gjoin 2 (d := 101) (v := (B ((decide (sign = [62])) && more))) (fun X hX => ?_) ?_
          · refine split2 (fun hc9 => ?_) (fun hc9 => ?_)
            · refine gt rfl (a1 rfl ?_)
              refine gt rfl (a1 (v := (B more)) rfl ?_)
              refine dnil ?_
              exact hX _ (.putEq (by rw [hc9]; rfl) (.skip _ _ (.putEq (by rw [hc9]) (.refl _)) rfl))
            · refine gs rfl rfl ?_
              refine gt rfl (a1 (v := (B false)) rfl ?_)
              refine dnil ?_
              exact hX _ (.putEq (by rw [hc9]; rfl) (.skip _ _ (.putEq (by rw [hc9]) (.refl _)) rfl))
          refine un (a1 (v := (B ((decide (sign = [62])) && more))) rfl ?_)
          refine dnil ?_
          exact hX _ (.putEq (by rw [hc10]; rfl) (.skip _ _ (.skip _ _ (.skip _ _ (.skip _ _ (.putEq (by rw [hc10]) (.refl _)) rfl) rfl) rfl) rfl))
      refine un (a1 rfl ?_)
      refine gjoin 7 (d := 110) (v := (B ((((decide (sign = [60])) && less) || ((decide (sign = [62])) && more)) || ((decide (sign = [60, 61])) && (!more))))) (fun X hX => ?_) ?_
      · refine split2 (fun hc12 => ?_) (fun hc12 => ?_)
        · refine gs rfl rfl ?_
          refine gs rfl rfl ?_
          refine gs rfl rfl ?_
          refine gu rfl ?_
          refine gu rfl ?_
          refine gs rfl rfl ?_
          refine un (a1 (v := (B true)) rfl ?_)
          refine dnil ?_
          exact hX _ (.putEq (by rw [hc12]; rfl) (.skip _ _ (.skip _ _ (.skip _ _ (.skip _ _ (.skip _ _ (.skip _ _ (.putEq (by rw [hc12]) (.refl _)) rfl) rfl) rfl) rfl) rfl) rfl))
        · refine gt rfl (a1 rfl ?_)
          refine gt rfl (a1 (v := (B (decide (sign = [60, 61])))) rfl ?_)
          refine gt rfl (a1 rfl ?_)
          refine gjoin 3 (d := 109) (v := (B ((decide (sign = [60, 61])) && (!more)))) (fun X hX => ?_) ?_
          · refine split2 (fun hc11 => ?_) (fun hc11 => ?_)
            · refine gt rfl (a1 rfl ?_)
              refine gt rfl (a1 (v := (B (!more))) rfl ?_)
              refine gt rfl (a1 (v := (B (!more))) rfl ?_)
              refine dnil ?_
              exact hX _ (.putEq (by rw [hc11]; rfl) (.skip _ _ (.skip _ _ (.putEq (by rw [hc11]) (.refl _)) rfl) rfl))
            · refine gs rfl rfl ?_
              refine gs rfl rfl ?_
              refine gt rfl (a1 (v := (B false)) rfl ?_)
              refine dnil ?_
              exact hX _ (.putEq (by rw [hc11]; rfl) (.skip _ _ (.skip _ _ (.putEq (by rw [hc11]) (.refl _)) rfl) rfl))
          refine un (a1 (v := (B ((decide (sign = [60, 61])) && (!more)))) rfl ?_)
          refine dnil ?_
          exact hX _ (.putEq (by rw [hc12]; rfl) (.skip _ _ (.skip _ _ (.skip _ _ (.skip _ _ (.putEq (by rw [hc12]) (.refl _)) rfl) rfl) rfl) rfl))
      refine un (a1 rfl ?_)
      refine gjoin 7 (d := 118) (v := (B (((((decide (sign = [60])) && less) || ((decide (sign = [62])) && more)) || ((decide (sign = [60, 61])) && (!more))) || ((decide (sign = [62, 61])) && (!less))))) (fun X hX => ?_) ?_
      · refine split2 (fun hc14 => ?_) (fun hc14 => ?_)
        · refine gs rfl rfl ?_
          refine gs rfl rfl ?_
          refine gs rfl rfl ?_
          refine gu rfl ?_
          refine gu rfl ?_
          refine gs rfl rfl ?_
          refine un (a1 (v := (B true)) rfl ?_)
          refine dnil ?_
          exact hX _ (.putEq (by rw [hc14]; rfl) (.skip _ _ (.skip _ _ (.skip _ _ (.skip _ _ (.skip _ _ (.skip _ _ (.putEq (by rw [hc14]) (.refl _)) rfl) rfl) rfl) rfl) rfl) rfl))
        · refine gt rfl (a1 rfl ?_)
          refine gt rfl (a1 (v := (B (decide (sign = [62, 61])))) rfl ?_)
          refine gt rfl (a1 rfl ?_)
          refine gjoin 3 (d := 117) (v := (B ((decide (sign = [62, 61])) && (!less)))) (fun X hX => ?_) ?_
          · refine split2 (fun hc13 => ?_) (fun hc13 => ?_)
            · refine gt rfl (a1 rfl ?_)
              refine gt rfl (a1 (v := (B (!less))) rfl ?_)
              refine gt rfl (a1 (v := (B (!less))) rfl ?_)
              refine dnil ?_
              exact hX _ (.putEq (by rw [hc13]; rfl) (.skip _ _ (.skip _ _ (.putEq (by rw [hc13]) (.refl _)) rfl) rfl))
            · refine gs rfl rfl ?_
              refine gs rfl rfl ?_
              refine gt rfl (a1 (v := (B false)) rfl ?_)
              refine dnil ?_
              exact hX _ (.putEq (by rw [hc13]; rfl) (.skip _ _ (.skip _ _ (.putEq (by rw [hc13]) (.refl _)) rfl) rfl))
          refine un (a1 (v := (B ((decide (sign = [62, 61])) && (!less)))) rfl ?_)
          refine dnil ?_
          exact hX _ (.putEq (by rw [hc14]; rfl) (.skip _ _ (.skip _ _ (.skip _ _ (.skip _ _ (.putEq (by rw [hc14]) (.refl _)) rfl) rfl) rfl) rfl))
      obtain ⟨r_, hr_⟩ : ∃ r_ : (TJVal × (List UInt8)), r_ = (clerestoryref4_boolOf (((((decide (sign = [60])) && less) || ((decide (sign = [62])) && more)) || ((decide (sign = [60, 61])) && (!more))) || ((decide (sign = [62, 61])) && (!less)))) := ⟨_, rfl⟩
      replace h := letAt hr_ h
      have pr_ := (clerestoryref4_boolOf_ok (((((decide (sign = [60])) && less) || ((decide (sign = [62])) && more)) || ((decide (sign = [60, 61])) && (!more))) || ((decide (sign = [62, 61])) && (!less))))
      rw [← hr_] at pr_
      refine un (ac_pure pr_ rfl rfl rfl ?_)
      refine un (a1 (v := (.agg [cI r_.1.Kind, cI r_.1.N, .str r_.1.S])) rfl ?_)
      refine un (a1 (v := (S r_.2)) rfl ?_)
      refine un (a2n (h' := upd _ 2 (some (.cells 3 [[cI r_.1.Kind, cI r_.1.N, .str r_.1.S]]))) (n' := 3) rfl rfl (fun h => by cases h) ?_)
      refine un (a1 rfl ?_)
      refine dnil ?_
      refine Sv.ret ?_
      replace h := Option.some.inj h
      subst h
      exact ⟨_, .refl _, _, rfl, ⟨upd (fun _ => none) 0 (some (.tup [(.agg [cI r_.1.Kind, cI r_.1.N, .str r_.1.S]), (S r_.2)])), (fun _ => none), 0⟩, (.tup [(.agg [cI r_.1.Kind, cI r_.1.N, .str r_.1.S]), (S r_.2)]), weak_canon [] rfl List.nodup_nil (Nat.le_refl _) (fun b h => absurd h (Nat.not_lt_zero _)) (.cons rfl (avAs_tup (.cons (avAs_free rfl) (.cons (avAs_free rfl) .nil))) .nil) .nil, rfl, rfl, rfl, rfl⟩
  · replace h := ifF hc6 h
    refine Sv.seq ?_
    refine Sv.seq ?_
    refine Sv.region ?_
    refine un (a1 (v := (B (decide (sign = [43])))) rfl ?_)
    refine un (a1 rfl ?_)
    refine dnil ?_
    refine Sv.cond (b := decide (sign = [43])) rfl (fun hc26 => ?_) (fun hc26 => ?_)
    · replace h := ifT hc26 h
      refine Sv.skip ?_
      exact Sv.weak (weak_canon [0, 1, 2] rfl (by decide) (by decide) (fun b h => absurd h (Nat.not_lt_zero _)) (.cons rfl (avAs_free rfl) (.cons rfl (avAs_free rfl) (.cons rfl (avAs_free rfl) (.cons rfl (avAs_free rfl) (.cons rfl (.c (.ref rfl (by decide))) (.cons rfl (.c (.ref rfl (by decide))) (.cons rfl (.c (.ref rfl (by decide))) (.cons rfl (avAs_free rfl) .nil)))))))) (.box (by decide) rfl (blkAs_cells (.cons (.same rfl) (.cons (.same rfl) (.cons (.same rfl) .nil)))) (.box (by decide) rfl (blkAs_cells (.cons (.same rfl) (.cons (.same rfl) (.cons (.same rfl) .nil)))) (.box (by decide) rfl (blkAs_cells (.cons (.same rfl) (.cons (.same rfl) (.cons (.same rfl) .nil)))) .nil)))) (clerestoryref4_TwoSides_j3_ok h)
    · replace h := ifF hc26 h
      refine Sv.seq ?_
      refine Sv.region ?_
      refine un (a1 (v := (B (decide (sign = [45])))) rfl ?_)
      refine un (a1 rfl ?_)
      refine dnil ?_
      refine Sv.cond (b := decide (sign = [45])) rfl (fun hc27 => ?_) (fun hc27 => ?_)
      · replace h := ifT hc27 h
        refine Sv.skip ?_
        exact Sv.weak (weak_canon [0, 1, 2] rfl (by decide) (by decide) (fun b h => absurd h (Nat.not_lt_zero _)) (.cons rfl (avAs_free rfl) (.cons rfl (avAs_free rfl) (.cons rfl (avAs_free rfl) (.cons rfl (avAs_free rfl) (.cons rfl (.c (.ref rfl (by decide))) (.cons rfl (.c (.ref rfl (by decide))) (.cons rfl (.c (.ref rfl (by decide))) (.cons rfl (avAs_free rfl) .nil)))))))) (.box (by decide) rfl (blkAs_cells (.cons (.same rfl) (.cons (.same rfl) (.cons (.same rfl) .nil)))) (.box (by decide) rfl (blkAs_cells (.cons (.same rfl) (.cons (.same rfl) (.cons (.same rfl) .nil)))) (.box (by decide) rfl (blkAs_cells (.cons (.same rfl) (.cons (.same rfl) (.cons (.same rfl) .nil)))) .nil)))) (clerestoryref4_TwoSides_j3_ok h)
      · replace h := ifF hc27 h
        refine Sv.seq ?_
        refine Sv.region ?_
        refine un (a1 (v := (B (decide (sign = [42])))) rfl ?_)
        refine un (a1 rfl ?_)
        refine dnil ?_
        refine Sv.cond (b := decide (sign = [42])) rfl (fun hc28 => ?_) (fun hc28 => ?_)
        · replace h := ifT hc28 h
          refine Sv.skip ?_
          exact Sv.weak (weak_canon [0, 1, 2] rfl (by decide) (by decide) (fun b h => absurd h (Nat.not_lt_zero _)) (.cons rfl (avAs_free rfl) (.cons rfl (avAs_free rfl) (.cons rfl (avAs_free rfl) (.cons rfl (avAs_free rfl) (.cons rfl (.c (.ref rfl (by decide))) (.cons rfl (.c (.ref rfl (by decide))) (.cons rfl (.c (.ref rfl (by decide))) (.cons rfl (avAs_free rfl) .nil)))))))) (.box (by decide) rfl (blkAs_cells (.cons (.same rfl) (.cons (.same rfl) (.cons (.same rfl) .nil)))) (.box (by decide) rfl (blkAs_cells (.cons (.same rfl) (.cons (.same rfl) (.cons (.same rfl) .nil)))) (.box (by decide) rfl (blkAs_cells (.cons (.same rfl) (.cons (.same rfl) (.cons (.same rfl) .nil)))) .nil)))) (clerestoryref4_TwoSides_j3_ok h)
        · replace h := ifF hc28 h
          refine Sv.seq ?_
          refine Sv.region ?_
          refine un (a1 (v := (B (decide (sign = [47])))) rfl ?_)
          refine un (a1 rfl ?_)
          refine dnil ?_
          refine Sv.cond (b := decide (sign = [47])) rfl (fun hc29 => ?_) (fun hc29 => ?_)
          · replace h := ifT hc29 h
            refine Sv.skip ?_
            exact Sv.weak (weak_canon [0, 1, 2] rfl (by decide) (by decide) (fun b h => absurd h (Nat.not_lt_zero _)) (.cons rfl (avAs_free rfl) (.cons rfl (avAs_free rfl) (.cons rfl (avAs_free rfl) (.cons rfl (avAs_free rfl) (.cons rfl (.c (.ref rfl (by decide))) (.cons rfl (.c (.ref rfl (by decide))) (.cons rfl (.c (.ref rfl (by decide))) (.cons rfl (avAs_free rfl) .nil)))))))) (.box (by decide) rfl (blkAs_cells (.cons (.same rfl) (.cons (.same rfl) (.cons (.same rfl) .nil)))) (.box (by decide) rfl (blkAs_cells (.cons (.same rfl) (.cons (.same rfl) (.cons (.same rfl) .nil)))) (.box (by decide) rfl (blkAs_cells (.cons (.same rfl) (.cons (.same rfl) (.cons (.same rfl) .nil)))) .nil)))) (clerestoryref4_TwoSides_j3_ok h)
          · replace h := ifF hc29 h
            refine Sv.region ?_
            refine un (a1 (v := (B (decide (sign = [37])))) rfl ?_)
            refine un (a1 rfl ?_)
            refine dnil ?_
            exact Sv.weak (weak_canon [0, 1, 2] rfl (by decide) (by decide) (fun b h => absurd h (Nat.not_lt_zero _)) (.cons rfl (avAs_free rfl) (.cons rfl (avAs_free rfl) (.cons rfl (avAs_free rfl) (.cons rfl (avAs_free rfl) (.cons rfl (.c (.ref rfl (by decide))) (.cons rfl (.c (.ref rfl (by decide))) (.cons rfl (.c (.ref rfl (by decide))) (.cons rfl (avAs_free rfl) .nil)))))))) (.box (by decide) rfl (blkAs_cells (.cons (.same rfl) (.cons (.same rfl) (.cons (.same rfl) .nil)))) (.box (by decide) rfl (blkAs_cells (.cons (.same rfl) (.cons (.same rfl) (.cons (.same rfl) .nil)))) (.box (by decide) rfl (blkAs_cells (.cons (.same rfl) (.cons (.same rfl) (.cons (.same rfl) .nil)))) .nil)))) (clerestoryref4_TwoSides_j3_ok h)
noncomputable def clerestoryref4_TwoSides_j1 (sign : (List UInt8)) (a_ : TJVal) (b_ : TJVal) (less : Bool) (more : Bool) : Option (TJVal × (List UInt8)) :=
  if decide (sign = [61, 61]) then
    letIn (decide ((clerestoryref4_Taken a_).Kind = (clerestoryref4_Taken b_).Kind) && (decide ((clerestoryref4_Taken a_).N = (clerestoryref4_Taken b_).N) && (decide ((clerestoryref4_Taken a_).S = (clerestoryref4_Taken b_).S) && true))) fun v71 : Bool =>
    some (((clerestoryref4_boolOf v71).1), (clerestoryref4_boolOf v71).2)
  else
    if decide (sign = [33, 61]) then
      letIn (!(decide ((clerestoryref4_Taken a_).Kind = (clerestoryref4_Taken b_).Kind) && (decide ((clerestoryref4_Taken a_).N = (clerestoryref4_Taken b_).N) && (decide ((clerestoryref4_Taken a_).S = (clerestoryref4_Taken b_).S) && true)))) fun v79 : Bool =>
      some (((clerestoryref4_boolOf v79).1), (clerestoryref4_boolOf v79).2)
    else
      if decide (sign = [60]) then
        clerestoryref4_TwoSides_j2 a_ b_ sign less more (decide (sign = [60]))
      else
        if decide (sign = [60, 61]) then
          clerestoryref4_TwoSides_j2 a_ b_ sign less more (decide (sign = [60, 61]))
        else
          if decide (sign = [62]) then
            clerestoryref4_TwoSides_j2 a_ b_ sign less more (decide (sign = [62]))
          else
            clerestoryref4_TwoSides_j2 a_ b_ sign less more (decide (sign = [62, 61]))
theorem clerestoryref4_TwoSides_j1_ok {sign : (List UInt8)} {a_ : TJVal} {b_ : TJVal} {less : Bool} {more : Bool} {o : (TJVal × (List UInt8))} (h : clerestoryref4_TwoSides_j1 sign a_ b_ less more = some o) :
    Sv Tryd.prog GG 0 a17_c0 (Ends a17.results 0 (clerestoryref4_TwoSides_post o)) ⟨(upd (upd (upd (upd (upd (upd (upd (upd (upd (fun _ => none) 0 (some (S sign))) 4 (some (.c (.ref 0 3 0 0)))) 5 (some (.c (.ref 1 3 0 0)))) 6 (some (.c (.ref 2 3 0 0)))) 8 (some (I ((clerestoryref4_Taken a_).N)))) 9 (some (I ((clerestoryref4_Taken b_).N)))) 10 (some (B ((decide ((clerestoryref4_Taken a_).Kind = 2)) && (decide ((clerestoryref4_Taken b_).Kind = 2)))))) 11 (some (B less))) 12 (some (B more))), (upd (upd (upd (fun _ => none) 0 (some (.cells 3 [[cI ((clerestoryref4_Taken a_).Kind), cI ((clerestoryref4_Taken a_).N), .str ((clerestoryref4_Taken a_).S)]]))) 1 (some (.cells 3 [[cI ((clerestoryref4_Taken b_).Kind), cI ((clerestoryref4_Taken b_).N), .str ((clerestoryref4_Taken b_).S)]]))) 2 (some (.cells 3 [[cI 0, cI 0, .str []]]))), 3⟩ := by
  unfold clerestoryref4_TwoSides_j1 at h
  refine Sv.seq ?_
  refine Sv.region ?_
  refine un (a1 (v := (.c (.ref 0 3 0 0))) rfl ?_)
  refine un (a1 (v := (I ((clerestoryref4_Taken a_).Kind))) rfl ?_)
  refine un (a1 (v := (.c (.ref 1 3 0 0))) rfl ?_)
  refine un (a1 (v := (I ((clerestoryref4_Taken b_).Kind))) rfl ?_)
  refine un (a1 (v := (B (decide ((clerestoryref4_Taken a_).Kind = (clerestoryref4_Taken b_).Kind)))) rfl ?_)
  refine un (a1 rfl ?_)
  refine gjoin 9 (d := 64) (v := (B ((decide ((clerestoryref4_Taken a_).Kind = (clerestoryref4_Taken b_).Kind)) && ((decide ((clerestoryref4_Taken a_).Kind = 2)) || (decide ((clerestoryref4_Taken a_).Kind = 3)))))) (fun X hX => ?_) ?_
  · refine split2 (fun hc3 => ?_) (fun hc3 => ?_)
    · refine gt rfl (a1 (v := (.c (.ref 0 3 0 0))) rfl ?_)
      refine gt rfl (a1 (v := (I ((clerestoryref4_Taken a_).Kind))) rfl ?_)
      refine gt rfl (a1 (v := (B (decide ((clerestoryref4_Taken a_).Kind = 2)))) rfl ?_)
      refine gt rfl (a1 rfl ?_)
      refine gjoin 4 (d := 63) (v := (B ((decide ((clerestoryref4_Taken a_).Kind = 2)) || (decide ((clerestoryref4_Taken a_).Kind = 3))))) (fun X hX => ?_) ?_
      · refine split2 (fun hc2 => ?_) (fun hc2 => ?_)
        · refine gs rfl rfl ?_
          refine gs rfl rfl ?_
          refine gs rfl rfl ?_
          refine gt rfl (a1 (v := (B true)) rfl ?_)
          refine dnil ?_
          exact hX _ (.putEq (by rw [hc2]; rfl) (.skip _ _ (.skip _ _ (.skip _ _ (.putEq (by rw [hc2]) (.refl _)) rfl) rfl) rfl))
        · refine gt rfl (a1 (v := (.c (.ref 0 3 0 0))) rfl ?_)
          refine gt rfl (a1 (v := (I ((clerestoryref4_Taken a_).Kind))) rfl ?_)
          refine gt rfl (a1 (v := (B (decide ((clerestoryref4_Taken a_).Kind = 3)))) rfl ?_)
          refine gt rfl (a1 (v := (B (decide ((clerestoryref4_Taken a_).Kind = 3)))) rfl ?_)
          refine dnil ?_
          exact hX _ (.putEq (by rw [hc2]; rfl) (.skip _ _ (.skip _ _ (.skip _ _ (.putEq (by rw [hc2]) (.refl _)) rfl) rfl) rfl))
      refine un (a1 (v := (B ((decide ((clerestoryref4_Taken a_).Kind = 2)) || (decide ((clerestoryref4_Taken a_).Kind = 3))))) rfl ?_)
      refine dnil ?_
      exact hX _ (.putEq (by rw [hc3]; rfl) (.skip _ _ (.skip _ _ (.skip _ _ (.skip _ _ (.skip _ _ (.putEq (by rw [hc3]) (.refl _)) rfl) rfl) rfl) rfl) rfl))
    · refine gs rfl rfl ?_
      refine gs rfl rfl ?_
      refine gs rfl rfl ?_
      refine gs rfl rfl ?_
      refine gu rfl ?_
      refine gu rfl ?_
      refine gu rfl ?_
      refine gs rfl rfl ?_
      refine un (a1 (v := (B false)) rfl ?_)
      refine dnil ?_
      exact hX _ (.putEq (by rw [hc3]; rfl) (.skip _ _ (.skip _ _ (.skip _ _ (.skip _ _ (.skip _ _ (.skip _ _ (.skip _ _ (.skip _ _ (.putEq (by rw [hc3]) (.refl _)) rfl) rfl) rfl) rfl) rfl) rfl) rfl) rfl))
  refine un (a1 rfl ?_)
  refine dnil ?_
  refine Sv.seq ?_
  refine Sv.seq ?_
  refine Sv.region ?_
  refine un (a1 rfl ?_)
  refine dnil ?_
  refine Sv.block ?_
  refine Sv.seq ?_
  refine Sv.region ?_
  refine un (a1 (v := (B (decide (sign = [61, 61])))) rfl ?_)
  refine un (a1 rfl ?_)
  refine dnil ?_
  refine Sv.cond (b := decide (sign = [61, 61])) rfl (fun hc4 => ?_) (fun hc4 => ?_)
  · replace h := ifT hc4 h
    refine Sv.seq ?_
    refine Sv.region ?_
    refine un (a1 (v := (.agg [cI ((clerestoryref4_Taken a_).Kind), cI ((clerestoryref4_Taken a_).N), .str ((clerestoryref4_Taken a_).S)])) rfl ?_)
    refine un (a1 (v := (.agg [cI ((clerestoryref4_Taken b_).Kind), cI ((clerestoryref4_Taken b_).N), .str ((clerestoryref4_Taken b_).S)])) rfl ?_)
    obtain ⟨v71, hv71⟩ : ∃ v71 : Bool, v71 = (decide ((clerestoryref4_Taken a_).Kind = (clerestoryref4_Taken b_).Kind) && (decide ((clerestoryref4_Taken a_).N = (clerestoryref4_Taken b_).N) && (decide ((clerestoryref4_Taken a_).S = (clerestoryref4_Taken b_).S) && true))) := ⟨_, rfl⟩
    replace h := letAt hv71 h
    refine un (a1 (v := (B v71)) (by rw [hv71]; rfl) ?_)
    clear hv71
    refine un (ac_pure (clerestoryref4_boolOf_ok v71) rfl rfl rfl ?_)
    refine un (a1 (v := (.agg [cI (((clerestoryref4_boolOf v71).1).Kind), cI (((clerestoryref4_boolOf v71).1).N), .str (((clerestoryref4_boolOf v71).1).S)])) rfl ?_)
    refine un (a1 (v := (S ((clerestoryref4_boolOf v71).2))) rfl ?_)
    refine un (a2n (h' := upd _ 2 (some (.cells 3 [[cI (((clerestoryref4_boolOf v71).1).Kind), cI (((clerestoryref4_boolOf v71).1).N), .str (((clerestoryref4_boolOf v71).1).S)]]))) (n' := 3) rfl rfl (fun h => by cases h) ?_)
    refine un (a1 rfl ?_)
    refine dnil ?_
    refine Sv.ret ?_
    replace h := Option.some.inj h
    subst h
    exact ⟨_, .refl _, _, rfl, ⟨upd (fun _ => none) 0 (some (.tup [(.agg [cI (((clerestoryref4_boolOf v71).1).Kind), cI (((clerestoryref4_boolOf v71).1).N), .str (((clerestoryref4_boolOf v71).1).S)]), (S ((clerestoryref4_boolOf v71).2))])), (fun _ => none), 0⟩, (.tup [(.agg [cI (((clerestoryref4_boolOf v71).1).Kind), cI (((clerestoryref4_boolOf v71).1).N), .str (((clerestoryref4_boolOf v71).1).S)]), (S ((clerestoryref4_boolOf v71).2))]), weak_canon [] rfl List.nodup_nil (Nat.le_refl _) (fun b h => absurd h (Nat.not_lt_zero _)) (.cons rfl (avAs_tup (.cons (avAs_free rfl) (.cons (avAs_free rfl) .nil))) .nil) .nil, rfl, rfl, rfl, rfl⟩
  · replace h := ifF hc4 h
    refine Sv.seq ?_
    refine Sv.region ?_
    refine un (a1 (v := (B (decide (sign = [33, 61])))) rfl ?_)
    refine un (a1 rfl ?_)
    refine dnil ?_
    refine Sv.cond (b := decide (sign = [33, 61])) rfl (fun hc5 => ?_) (fun hc5 => ?_)
    · replace h := ifT hc5 h
      refine Sv.seq ?_
      refine Sv.region ?_
      refine un (a1 (v := (.agg [cI ((clerestoryref4_Taken a_).Kind), cI ((clerestoryref4_Taken a_).N), .str ((clerestoryref4_Taken a_).S)])) rfl ?_)
      refine un (a1 (v := (.agg [cI ((clerestoryref4_Taken b_).Kind), cI ((clerestoryref4_Taken b_).N), .str ((clerestoryref4_Taken b_).S)])) rfl ?_)
      obtain ⟨v79, hv79⟩ : ∃ v79 : Bool, v79 = (!(decide ((clerestoryref4_Taken a_).Kind = (clerestoryref4_Taken b_).Kind) && (decide ((clerestoryref4_Taken a_).N = (clerestoryref4_Taken b_).N) && (decide ((clerestoryref4_Taken a_).S = (clerestoryref4_Taken b_).S) && true)))) := ⟨_, rfl⟩
      replace h := letAt hv79 h
      refine un (a1 (v := (B v79)) (by rw [hv79]; rfl) ?_)
      clear hv79
      refine un (ac_pure (clerestoryref4_boolOf_ok v79) rfl rfl rfl ?_)
      refine un (a1 (v := (.agg [cI (((clerestoryref4_boolOf v79).1).Kind), cI (((clerestoryref4_boolOf v79).1).N), .str (((clerestoryref4_boolOf v79).1).S)])) rfl ?_)
      refine un (a1 (v := (S ((clerestoryref4_boolOf v79).2))) rfl ?_)
      refine un (a2n (h' := upd _ 2 (some (.cells 3 [[cI (((clerestoryref4_boolOf v79).1).Kind), cI (((clerestoryref4_boolOf v79).1).N), .str (((clerestoryref4_boolOf v79).1).S)]]))) (n' := 3) rfl rfl (fun h => by cases h) ?_)
      refine un (a1 rfl ?_)
      refine dnil ?_
      refine Sv.ret ?_
      replace h := Option.some.inj h
      subst h
      exact ⟨_, .refl _, _, rfl, ⟨upd (fun _ => none) 0 (some (.tup [(.agg [cI (((clerestoryref4_boolOf v79).1).Kind), cI (((clerestoryref4_boolOf v79).1).N), .str (((clerestoryref4_boolOf v79).1).S)]), (S ((clerestoryref4_boolOf v79).2))])), (fun _ => none), 0⟩, (.tup [(.agg [cI (((clerestoryref4_boolOf v79).1).Kind), cI (((clerestoryref4_boolOf v79).1).N), .str (((clerestoryref4_boolOf v79).1).S)]), (S ((clerestoryref4_boolOf v79).2))]), weak_canon [] rfl List.nodup_nil (Nat.le_refl _) (fun b h => absurd h (Nat.not_lt_zero _)) (.cons rfl (avAs_tup (.cons (avAs_free rfl) (.cons (avAs_free rfl) .nil))) .nil) .nil, rfl, rfl, rfl, rfl⟩
    · replace h := ifF hc5 h
      refine Sv.seq ?_
      refine Sv.seq ?_
      refine Sv.region ?_
      refine un (a1 (v := (B (decide (sign = [60])))) rfl ?_)
      refine un (a1 rfl ?_)
      refine dnil ?_
      refine Sv.cond (b := decide (sign = [60])) rfl (fun hc30 => ?_) (fun hc30 => ?_)
      · replace h := ifT hc30 h
        refine Sv.skip ?_
        exact Sv.weak (weak_canon [0, 1, 2] rfl (by decide) (by decide) (fun b h => absurd h (Nat.not_lt_zero _)) (.cons rfl (avAs_free rfl) (.cons rfl (avAs_free rfl) (.cons rfl (avAs_free rfl) (.cons rfl (avAs_free rfl) (.cons rfl (avAs_free rfl) (.cons rfl (avAs_free rfl) (.cons rfl (avAs_free rfl) (.cons rfl (avAs_free rfl) (.cons rfl (.c (.ref rfl (by decide))) (.cons rfl (.c (.ref rfl (by decide))) (.cons rfl (.c (.ref rfl (by decide))) (.cons rfl (avAs_free rfl) .nil)))))))))))) (.box (by decide) rfl (blkAs_cells (.cons (.same rfl) (.cons (.same rfl) (.cons (.same rfl) .nil)))) (.box (by decide) rfl (blkAs_cells (.cons (.same rfl) (.cons (.same rfl) (.cons (.same rfl) .nil)))) (.box (by decide) rfl (blkAs_cells (.cons (.same rfl) (.cons (.same rfl) (.cons (.same rfl) .nil)))) .nil)))) (clerestoryref4_TwoSides_j2_ok h)
      · replace h := ifF hc30 h
        refine Sv.seq ?_
        refine Sv.region ?_
        refine un (a1 (v := (B (decide (sign = [60, 61])))) rfl ?_)
        refine un (a1 rfl ?_)
        refine dnil ?_
        refine Sv.cond (b := decide (sign = [60, 61])) rfl (fun hc31 => ?_) (fun hc31 => ?_)
        · replace h := ifT hc31 h
          refine Sv.skip ?_
          exact Sv.weak (weak_canon [0, 1, 2] rfl (by decide) (by decide) (fun b h => absurd h (Nat.not_lt_zero _)) (.cons rfl (avAs_free rfl) (.cons rfl (avAs_free rfl) (.cons rfl (avAs_free rfl) (.cons rfl (avAs_free rfl) (.cons rfl (avAs_free rfl) (.cons rfl (avAs_free rfl) (.cons rfl (avAs_free rfl) (.cons rfl (avAs_free rfl) (.cons rfl (.c (.ref rfl (by decide))) (.cons rfl (.c (.ref rfl (by decide))) (.cons rfl (.c (.ref rfl (by decide))) (.cons rfl (avAs_free rfl) .nil)))))))))))) (.box (by decide) rfl (blkAs_cells (.cons (.same rfl) (.cons (.same rfl) (.cons (.same rfl) .nil)))) (.box (by decide) rfl (blkAs_cells (.cons (.same rfl) (.cons (.same rfl) (.cons (.same rfl) .nil)))) (.box (by decide) rfl (blkAs_cells (.cons (.same rfl) (.cons (.same rfl) (.cons (.same rfl) .nil)))) .nil)))) (clerestoryref4_TwoSides_j2_ok h)
        · replace h := ifF hc31 h
          refine Sv.seq ?_
          refine Sv.region ?_
          refine un (a1 (v := (B (decide (sign = [62])))) rfl ?_)
          refine un (a1 rfl ?_)
          refine dnil ?_
          refine Sv.cond (b := decide (sign = [62])) rfl (fun hc32 => ?_) (fun hc32 => ?_)
          · replace h := ifT hc32 h
            refine Sv.skip ?_
            exact Sv.weak (weak_canon [0, 1, 2] rfl (by decide) (by decide) (fun b h => absurd h (Nat.not_lt_zero _)) (.cons rfl (avAs_free rfl) (.cons rfl (avAs_free rfl) (.cons rfl (avAs_free rfl) (.cons rfl (avAs_free rfl) (.cons rfl (avAs_free rfl) (.cons rfl (avAs_free rfl) (.cons rfl (avAs_free rfl) (.cons rfl (avAs_free rfl) (.cons rfl (.c (.ref rfl (by decide))) (.cons rfl (.c (.ref rfl (by decide))) (.cons rfl (.c (.ref rfl (by decide))) (.cons rfl (avAs_free rfl) .nil)))))))))))) (.box (by decide) rfl (blkAs_cells (.cons (.same rfl) (.cons (.same rfl) (.cons (.same rfl) .nil)))) (.box (by decide) rfl (blkAs_cells (.cons (.same rfl) (.cons (.same rfl) (.cons (.same rfl) .nil)))) (.box (by decide) rfl (blkAs_cells (.cons (.same rfl) (.cons (.same rfl) (.cons (.same rfl) .nil)))) .nil)))) (clerestoryref4_TwoSides_j2_ok h)
          · replace h := ifF hc32 h
            refine Sv.region ?_
            refine un (a1 (v := (B (decide (sign = [62, 61])))) rfl ?_)
            refine un (a1 rfl ?_)
            refine dnil ?_
            exact Sv.weak (weak_canon [0, 1, 2] rfl (by decide) (by decide) (fun b h => absurd h (Nat.not_lt_zero _)) (.cons rfl (avAs_free rfl) (.cons rfl (avAs_free rfl) (.cons rfl (avAs_free rfl) (.cons rfl (avAs_free rfl) (.cons rfl (avAs_free rfl) (.cons rfl (avAs_free rfl) (.cons rfl (avAs_free rfl) (.cons rfl (avAs_free rfl) (.cons rfl (.c (.ref rfl (by decide))) (.cons rfl (.c (.ref rfl (by decide))) (.cons rfl (.c (.ref rfl (by decide))) (.cons rfl (avAs_free rfl) .nil)))))))))))) (.box (by decide) rfl (blkAs_cells (.cons (.same rfl) (.cons (.same rfl) (.cons (.same rfl) .nil)))) (.box (by decide) rfl (blkAs_cells (.cons (.same rfl) (.cons (.same rfl) (.cons (.same rfl) .nil)))) (.box (by decide) rfl (blkAs_cells (.cons (.same rfl) (.cons (.same rfl) (.cons (.same rfl) .nil)))) .nil)))) (clerestoryref4_TwoSides_j2_ok h)
/-- clerestory/clerestoryref4.TwoSides -/
noncomputable def clerestoryref4_TwoSides (sign : (List UInt8)) (a_ : TJVal) (b_ : TJVal) : Option (TJVal × (List UInt8)) :=
  if decide ((clerestoryref4_Taken a_).Kind = 3) then
    letIn (Go.Op.bytesLess ((clerestoryref4_Taken a_).S) ((clerestoryref4_Taken b_).S)) fun v44 : Bool =>
    letIn (!(Go.Op.bytesLess ((clerestoryref4_Taken a_).S) ((clerestoryref4_Taken b_).S) || decide ((clerestoryref4_Taken a_).S = (clerestoryref4_Taken b_).S))) fun v49 : Bool =>
    clerestoryref4_TwoSides_j1 sign a_ b_ v44 v49
  else
    clerestoryref4_TwoSides_j1 sign a_ b_ (decide ((clerestoryref4_Taken a_).N < (clerestoryref4_Taken b_).N)) (decide ((clerestoryref4_Taken b_).N < (clerestoryref4_Taken a_).N))
theorem clerestoryref4_TwoSides_ok {sign : (List UInt8)} {a_ : TJVal} {b_ : TJVal} {r : (TJVal × (List UInt8))} (h : clerestoryref4_TwoSides sign a_ b_ = some r) : CPure Tryd.prog GG 17 [(S sign), (.agg [cI a_.Kind, cI a_.N, .str a_.S]), (.agg [cI b_.Kind, cI b_.N, .str b_.S])] (.tup [(.agg [cI r.1.Kind, cI r.1.N, .str r.1.S]), (S r.2)]) := by
  refine acalls_of_sv hmix c17 (R := clerestoryref4_TwoSides_post r) ?_
  unfold clerestoryref4_TwoSides at h
  refine Sv.seq ?_
  refine Sv.region ?_
  refine un (a2v (v := (.c (.ref 0 3 0 0))) (h' := upd _ 0 (some (.cells 3 [[cI a_.Kind, cI a_.N, .str a_.S]]))) (n' := 1) rfl rfl (fun h => by cases h) ?_)
  refine un (a2v (v := (.c (.ref 1 3 0 0))) (h' := upd _ 1 (some (.cells 3 [[cI b_.Kind, cI b_.N, .str b_.S]]))) (n' := 2) rfl rfl (fun h => by cases h) ?_)
  refine un (a2v (v := (.c (.ref 2 3 0 0))) (h' := upd _ 2 (some (.cells 3 [[cI 0, cI 0, .str []]]))) (n' := 3) rfl rfl (fun h => by cases h) ?_)
  refine un (a1 rfl ?_)
  refine dnil ?_
  refine Sv.seq ?_
  refine Sv.drawn ?_
  refine un (a1 (v := (.agg [cI a_.Kind, cI a_.N, .str a_.S])) rfl ?_)
  refine un (a1 (v := (.agg [cI b_.Kind, cI b_.N, .str b_.S])) rfl ?_)
  refine un (ac_pure (clerestoryref4_Taken_ok a_) rfl rfl rfl ?_)
  refine un (ac_pure (clerestoryref4_Taken_ok b_) rfl rfl rfl ?_)
  refine un (a2n (h' := upd _ 0 (some (.cells 3 [[cI ((clerestoryref4_Taken a_).Kind), cI ((clerestoryref4_Taken a_).N), .str ((clerestoryref4_Taken a_).S)]]))) (n' := 3) rfl rfl (fun h => by cases h) ?_)
  refine un (a2n (h' := upd _ 1 (some (.cells 3 [[cI ((clerestoryref4_Taken b_).Kind), cI ((clerestoryref4_Taken b_).N), .str ((clerestoryref4_Taken b_).S)]]))) (n' := 3) rfl rfl (fun h => by cases h) ?_)
  refine dnil ?_
  refine Sv.seq ?_
  refine Sv.drawn ?_
  refine un (a1 (v := (.c (.ref 0 3 0 1))) rfl ?_)
  refine un (a1 (v := (I ((clerestoryref4_Taken a_).N))) rfl ?_)
  refine un (a1 (v := (.c (.ref 1 3 0 1))) rfl ?_)
  refine un (a1 (v := (I ((clerestoryref4_Taken b_).N))) rfl ?_)
  refine un (a1 rfl ?_)
  refine un (a1 rfl ?_)
  refine dnil ?_
  refine Sv.seq ?_
  refine Sv.region ?_
  refine un (a1 (v := (.c (.ref 0 3 0 0))) rfl ?_)
  refine un (a1 (v := (I ((clerestoryref4_Taken a_).Kind))) rfl ?_)
  refine un (a1 (v := (B (decide ((clerestoryref4_Taken a_).Kind = 2)))) rfl ?_)
  refine un (a1 rfl ?_)
  refine gjoin 4 (d := 30) (v := (B ((decide ((clerestoryref4_Taken a_).Kind = 2)) && (decide ((clerestoryref4_Taken b_).Kind = 2))))) (fun X hX => ?_) ?_
  · refine split2 (fun hc1 => ?_) (fun hc1 => ?_)
    · refine gt rfl (a1 (v := (.c (.ref 1 3 0 0))) rfl ?_)
      refine gt rfl (a1 (v := (I ((clerestoryref4_Taken b_).Kind))) rfl ?_)
      refine gt rfl (a1 (v := (B (decide ((clerestoryref4_Taken b_).Kind = 2)))) rfl ?_)
      refine un (a1 (v := (B (decide ((clerestoryref4_Taken b_).Kind = 2)))) rfl ?_)
      refine dnil ?_
      exact hX _ (.putEq (by rw [hc1]; rfl) (.skip _ _ (.skip _ _ (.skip _ _ (.putEq (by rw [hc1]) (.refl _)) rfl) rfl) rfl))
    · refine gs rfl rfl ?_
      refine gs rfl rfl ?_
      refine gs rfl rfl ?_
      refine un (a1 (v := (B false)) rfl ?_)
      refine dnil ?_
      exact hX _ (.putEq (by rw [hc1]; rfl) (.skip _ _ (.skip _ _ (.skip _ _ (.putEq (by rw [hc1]) (.refl _)) rfl) rfl) rfl))
  refine un (a1 rfl ?_)
  refine dnil ?_
  refine Sv.seq ?_
  refine Sv.region ?_
  refine un (a1 rfl ?_)
  refine un (a1 rfl ?_)
  refine un (a1 (v := (B (decide ((clerestoryref4_Taken a_).N < (clerestoryref4_Taken b_).N)))) rfl ?_)
  refine un (a1 rfl ?_)
  refine un (a1 rfl ?_)
  refine un (a1 (v := (B (decide ((clerestoryref4_Taken b_).N < (clerestoryref4_Taken a_).N)))) rfl ?_)
  refine un (a1 rfl ?_)
  refine un (a1 rfl ?_)
  refine dnil ?_
  refine Sv.seq ?_
  refine Sv.seq ?_
  refine Sv.region ?_
  refine un (a1 (v := (.c (.ref 0 3 0 0))) rfl ?_)
  refine un (a1 (v := (I ((clerestoryref4_Taken a_).Kind))) rfl ?_)
  refine un (a1 (v := (B (decide ((clerestoryref4_Taken a_).Kind = 3)))) rfl ?_)
  refine dnil ?_
  refine Sv.cond (b := decide ((clerestoryref4_Taken a_).Kind = 3)) rfl (fun hc33 => ?_) (fun hc33 => ?_)
  · replace h := ifT hc33 h
    refine Sv.drawn ?_
    refine un (a1 (v := (.c (.ref 0 3 0 2))) rfl ?_)
    refine un (a1 (v := (S ((clerestoryref4_Taken a_).S))) rfl ?_)
    refine un (a1 (v := (.c (.ref 1 3 0 2))) rfl ?_)
    refine un (a1 (v := (S ((clerestoryref4_Taken b_).S))) rfl ?_)
    obtain ⟨v44, hv44⟩ : ∃ v44 : Bool, v44 = (Go.Op.bytesLess ((clerestoryref4_Taken a_).S) ((clerestoryref4_Taken b_).S)) := ⟨_, rfl⟩
    replace h := letAt hv44 h
    refine un (a1 (v := (B v44)) (by rw [hv44]; rfl) ?_)
    clear hv44
    refine un (a1 (v := (.c (.ref 0 3 0 2))) rfl ?_)
    refine un (a1 (v := (S ((clerestoryref4_Taken a_).S))) rfl ?_)
    refine un (a1 (v := (.c (.ref 1 3 0 2))) rfl ?_)
    refine un (a1 (v := (S ((clerestoryref4_Taken b_).S))) rfl ?_)
    obtain ⟨v49, hv49⟩ : ∃ v49 : Bool, v49 = (!(Go.Op.bytesLess ((clerestoryref4_Taken a_).S) ((clerestoryref4_Taken b_).S) || decide ((clerestoryref4_Taken a_).S = (clerestoryref4_Taken b_).S))) := ⟨_, rfl⟩
    replace h := letAt hv49 h
    refine un (a1 (v := (B v49)) (by rw [hv49]; rfl) ?_)
    clear hv49
    refine un (a1 rfl ?_)
    refine un (a1 rfl ?_)
    refine dnil ?_
    exact Sv.weak (weak_canon [0, 1, 2] rfl (by decide) (by decide) (fun b h => absurd h (Nat.not_lt_zero _)) (.cons rfl (avAs_free rfl) (.cons rfl (avAs_free rfl) (.cons rfl (avAs_free rfl) (.cons rfl (avAs_free rfl) (.cons rfl (avAs_free rfl) (.cons rfl (.c (.ref rfl (by decide))) (.cons rfl (.c (.ref rfl (by decide))) (.cons rfl (.c (.ref rfl (by decide))) (.cons rfl (avAs_free rfl) .nil))))))))) (.box (by decide) rfl (blkAs_cells (.cons (.same rfl) (.cons (.same rfl) (.cons (.same rfl) .nil)))) (.box (by decide) rfl (blkAs_cells (.cons (.same rfl) (.cons (.same rfl) (.cons (.same rfl) .nil)))) (.box (by decide) rfl (blkAs_cells (.cons (.same rfl) (.cons (.same rfl) (.cons (.same rfl) .nil)))) .nil)))) (clerestoryref4_TwoSides_j1_ok h)
  · replace h := ifF hc33 h
    refine Sv.skip ?_
    exact Sv.weak (weak_canon [0, 1, 2] rfl (by decide) (by decide) (fun b h => absurd h (Nat.not_lt_zero _)) (.cons rfl (avAs_free rfl) (.cons rfl (avAs_free rfl) (.cons rfl (avAs_free rfl) (.cons rfl (avAs_free rfl) (.cons rfl (avAs_free rfl) (.cons rfl (.c (.ref rfl (by decide))) (.cons rfl (.c (.ref rfl (by decide))) (.cons rfl (.c (.ref rfl (by decide))) (.cons rfl (avAs_free rfl) .nil))))))))) (.box (by decide) rfl (blkAs_cells (.cons (.same rfl) (.cons (.same rfl) (.cons (.same rfl) .nil)))) (.box (by decide) rfl (blkAs_cells (.cons (.same rfl) (.cons (.same rfl) (.cons (.same rfl) .nil)))) (.box (by decide) rfl (blkAs_cells (.cons (.same rfl) (.cons (.same rfl) (.cons (.same rfl) .nil)))) .nil)))) (clerestoryref4_TwoSides_j1_ok h)
def a4 : AFunc := ⟨3, [(.tmp 6)], (.seq (.region [⟨(some 4), (.box (.tmp 1)), none⟩, ⟨(some 5), (.box (.tmp 2)), none⟩, ⟨(some 6), (.mov (.const (.c (.val (.bool false))))), none⟩])
 (.seq (.region [⟨(some 16), (.mov (.tmp 0)), none⟩, ⟨(some 17), (.load true 3 (.tmp 4)), none⟩, ⟨(some 18), (.call 14 [(.tmp 16), (.tmp 17)]), none⟩, ⟨(some 15), (.mov (.tmp 18)), none⟩, ⟨(some 19), (.ext (.tmp 15) 0), none⟩, ⟨(some 20), (.ext (.tmp 15) 1), none⟩, ⟨(some 7), (.box (.const (.agg [(.val (.int .i64 0)), (.val (.int .i64 0)), (.str [])]))), none⟩, ⟨none, (.store 3 (.tmp 7) (.tmp 19)), none⟩, ⟨(some 8), (.mov (.tmp 20)), none⟩])
 (.seq (.region [⟨(some 22), (.mov (.tmp 0)), none⟩, ⟨(some 23), (.load true 3 (.tmp 4)), none⟩, ⟨(some 24), (.load true 3 (.tmp 5)), none⟩, ⟨(some 25), (.call 15 [(.tmp 22), (.tmp 23), (.tmp 24)]), none⟩, ⟨(some 21), (.mov (.tmp 25)), none⟩, ⟨(some 26), (.ext (.tmp 21) 0), none⟩, ⟨(some 27), (.ext (.tmp 21) 1), none⟩, ⟨(some 9), (.box (.const (.agg [(.val (.int .i64 0)), (.val (.int .i64 0)), (.str [])]))), none⟩, ⟨none, (.store 3 (.tmp 9) (.tmp 26)), none⟩, ⟨(some 10), (.mov (.tmp 27)), none⟩])
 (.seq (.region [⟨(some 29), (.mov (.tmp 0)), none⟩, ⟨(some 30), (.load true 3 (.tmp 4)), none⟩, ⟨(some 31), (.call 16 [(.tmp 29), (.tmp 30)]), none⟩, ⟨(some 28), (.mov (.tmp 31)), none⟩, ⟨(some 32), (.ext (.tmp 28) 0), none⟩, ⟨(some 33), (.ext (.tmp 28) 1), none⟩, ⟨(some 11), (.box (.const (.agg [(.val (.int .i64 0)), (.val (.int .i64 0)), (.str [])]))), none⟩, ⟨none, (.store 3 (.tmp 11) (.tmp 32)), none⟩, ⟨(some 12), (.mov (.tmp 33)), none⟩])
 (.seq (.region [⟨(some 35), (.mov (.tmp 0)), none⟩, ⟨(some 36), (.load true 3 (.tmp 4)), none⟩, ⟨(some 37), (.load true 3 (.tmp 5)), none⟩, ⟨(some 38), (.call 17 [(.tmp 35), (.tmp 36), (.tmp 37)]), none⟩, ⟨(some 34), (.mov (.tmp 38)), none⟩, ⟨(some 39), (.ext (.tmp 34) 0), none⟩, ⟨(some 40), (.ext (.tmp 34) 1), none⟩, ⟨(some 13), (.box (.const (.agg [(.val (.int .i64 0)), (.val (.int .i64 0)), (.str [])]))), none⟩, ⟨none, (.store 3 (.tmp 13) (.tmp 39)), none⟩, ⟨(some 14), (.mov (.tmp 40)), none⟩])
 (.seq (.region [⟨(some 41), (.load true 3 (.tmp 7)), none⟩, ⟨(some 42), (.load true 3 (.tmp 11)), none⟩, ⟨(some 43), (.eqs false true [.i, .i, .s] (.tmp 41) (.tmp 42)), none⟩, ⟨(some 44), (.mov (.tmp 43)), none⟩, ⟨(some 45), (.mov (.tmp 8)), (some (44, true))⟩, ⟨(some 46), (.mov (.tmp 12)), (some (44, true))⟩, ⟨(some 47), (.bin .eql (.tmp 45) (.tmp 46)), (some (44, true))⟩, ⟨(some 48), (.pick (.tmp 44) (.tmp 47) (.const (.c (.val (.bool false))))), none⟩, ⟨(some 49), (.mov (.tmp 48)), none⟩, ⟨(some 50), (.load true 3 (.tmp 9)), (some (49, true))⟩, ⟨(some 51), (.load true 3 (.tmp 13)), (some (49, true))⟩, ⟨(some 52), (.eqs false true [.i, .i, .s] (.tmp 50) (.tmp 51)), (some (49, true))⟩, ⟨(some 53), (.pick (.tmp 49) (.tmp 52) (.const (.c (.val (.bool false))))), none⟩, ⟨(some 54), (.mov (.tmp 53)), none⟩, ⟨(some 55), (.mov (.tmp 10)), (some (54, true))⟩, ⟨(some 56), (.mov (.tmp 14)), (some (54, true))⟩, ⟨(some 57), (.bin .eql (.tmp 55) (.tmp 56)), (some (54, true))⟩, ⟨(some 58), (.pick (.tmp 54) (.tmp 57) (.const (.c (.val (.bool false))))), none⟩, ⟨(some 6), (.mov (.tmp 58)), none⟩])
 .ret))))))⟩
set_option maxRecDepth 100000 in
theorem c4 : compFunc Tryd.prog 4 = some a4 := by kernel_rfl
def clerestorylaw4_ValueSigns_post (r : Bool) : AV → Heap → Nat → Prop := fun v h' n' => v = (B r) ∧ (h' = (fun _ => none)) ∧ n' = 0
/-- clerestory/clerestorylaw4.ValueSigns -/
noncomputable def clerestorylaw4_ValueSigns (sign : (List UInt8)) (a_ : TJVal) (b_ : TJVal) : Option Bool :=
  (value_Binary sign a_ b_).bind fun r_ =>
  (clerestoryref4_TwoSides sign a_ b_).bind fun r_1 =>
  letIn (decide (((value_Unary sign a_).1).Kind = ((clerestoryref4_OneSide sign a_).1).Kind) && (decide (((value_Unary sign a_).1).N = ((clerestoryref4_OneSide sign a_).1).N) && (decide (((value_Unary sign a_).1).S = ((clerestoryref4_OneSide sign a_).1).S) && true))) fun v43 : Bool =>
  some (((v43 && (decide ((value_Unary sign a_).2 = (clerestoryref4_OneSide sign a_).2))) && (decide (r_.1.Kind = r_1.1.Kind) && (decide (r_.1.N = r_1.1.N) && (decide (r_.1.S = r_1.1.S) && true)))) && (decide (r_.2 = r_1.2)))
theorem clerestorylaw4_ValueSigns_ok {sign : (List UInt8)} {a_ : TJVal} {b_ : TJVal} {r : Bool} (h : clerestorylaw4_ValueSigns sign a_ b_ = some r) : CPure Tryd.prog GG 4 [(S sign), (.agg [cI a_.Kind, cI a_.N, .str a_.S]), (.agg [cI b_.Kind, cI b_.N, .str b_.S])] (B r) := by
  refine acalls_of_sv hmix c4 (R := clerestorylaw4_ValueSigns_post r) ?_
  unfold clerestorylaw4_ValueSigns at h
  refine Sv.seq ?_
  refine Sv.region ?_
  refine un (a2v (v := (.c (.ref 0 3 0 0))) (h' := upd _ 0 (some (.cells 3 [[cI a_.Kind, cI a_.N, .str a_.S]]))) (n' := 1) rfl rfl (fun h => by cases h) ?_)
  refine un (a2v (v := (.c (.ref 1 3 0 0))) (h' := upd _ 1 (some (.cells 3 [[cI b_.Kind, cI b_.N, .str b_.S]]))) (n' := 2) rfl rfl (fun h => by cases h) ?_)
  refine un (a1 rfl ?_)
  refine dnil ?_
  refine Sv.seq ?_
  refine Sv.region ?_
  refine un (a1 rfl ?_)
  refine un (a1 (v := (.agg [cI a_.Kind, cI a_.N, .str a_.S])) rfl ?_)
  refine un (ac_pure (value_Unary_ok sign a_) rfl rfl rfl ?_)
  refine un (a1 rfl ?_)
  refine un (a1 (v := (.agg [cI (((value_Unary sign a_).1).Kind), cI (((value_Unary sign a_).1).N), .str (((value_Unary sign a_).1).S)])) rfl ?_)
  refine un (a1 (v := (S ((value_Unary sign a_).2))) rfl ?_)
  refine un (a2v (v := (.c (.ref 2 3 0 0))) (h' := upd _ 2 (some (.cells 3 [[cI 0, cI 0, .str []]]))) (n' := 3) rfl rfl (fun h => by cases h) ?_)
  refine un (a2n (h' := upd _ 2 (some (.cells 3 [[cI (((value_Unary sign a_).1).Kind), cI (((value_Unary sign a_).1).N), .str (((value_Unary sign a_).1).S)]]))) (n' := 3) rfl rfl (fun h => by cases h) ?_)
  refine un (a1 rfl ?_)
  refine dnil ?_
  refine Sv.seq ?_
  refine Sv.region ?_
  refine un (a1 rfl ?_)
  refine un (a1 (v := (.agg [cI a_.Kind, cI a_.N, .str a_.S])) rfl ?_)
  refine un (a1 (v := (.agg [cI b_.Kind, cI b_.N, .str b_.S])) rfl ?_)
  obtain ⟨r_, hr1, h⟩ := bnd h
  refine un (ac_pure (value_Binary_ok hr1) rfl rfl rfl ?_)
  refine un (a1 rfl ?_)
  refine un (a1 (v := (.agg [cI r_.1.Kind, cI r_.1.N, .str r_.1.S])) rfl ?_)
  refine un (a1 (v := (S r_.2)) rfl ?_)
  refine un (a2v (v := (.c (.ref 3 3 0 0))) (h' := upd _ 3 (some (.cells 3 [[cI 0, cI 0, .str []]]))) (n' := 4) rfl rfl (fun h => by cases h) ?_)
  refine un (a2n (h' := upd _ 3 (some (.cells 3 [[cI r_.1.Kind, cI r_.1.N, .str r_.1.S]]))) (n' := 4) rfl rfl (fun h => by cases h) ?_)
  refine un (a1 rfl ?_)
  refine dnil ?_
  refine Sv.seq ?_
  refine Sv.region ?_
  refine un (a1 rfl ?_)
  refine un (a1 (v := (.agg [cI a_.Kind, cI a_.N, .str a_.S])) rfl ?_)
  refine un (ac_pure (clerestoryref4_OneSide_ok sign a_) rfl rfl rfl ?_)
  refine un (a1 rfl ?_)
  refine un (a1 (v := (.agg [cI (((clerestoryref4_OneSide sign a_).1).Kind), cI (((clerestoryref4_OneSide sign a_).1).N), .str (((clerestoryref4_OneSide sign a_).1).S)])) rfl ?_)
  refine un (a1 (v := (S ((clerestoryref4_OneSide sign a_).2))) rfl ?_)
  refine un (a2v (v := (.c (.ref 4 3 0 0))) (h' := upd _ 4 (some (.cells 3 [[cI 0, cI 0, .str []]]))) (n' := 5) rfl rfl (fun h => by cases h) ?_)
  refine un (a2n (h' := upd _ 4 (some (.cells 3 [[cI (((clerestoryref4_OneSide sign a_).1).Kind), cI (((clerestoryref4_OneSide sign a_).1).N), .str (((clerestoryref4_OneSide sign a_).1).S)]]))) (n' := 5) rfl rfl (fun h => by cases h) ?_)
  refine un (a1 rfl ?_)
  refine dnil ?_
  refine Sv.seq ?_
  refine Sv.region ?_
  refine un (a1 rfl ?_)
  refine un (a1 (v := (.agg [cI a_.Kind, cI a_.N, .str a_.S])) rfl ?_)
  refine un (a1 (v := (.agg [cI b_.Kind, cI b_.N, .str b_.S])) rfl ?_)
  obtain ⟨r_1, hr2, h⟩ := bnd h
  refine un (ac_pure (clerestoryref4_TwoSides_ok hr2) rfl rfl rfl ?_)
  refine un (a1 rfl ?_)
  refine un (a1 (v := (.agg [cI r_1.1.Kind, cI r_1.1.N, .str r_1.1.S])) rfl ?_)
  refine un (a1 (v := (S r_1.2)) rfl ?_)
  refine un (a2v (v := (.c (.ref 5 3 0 0))) (h' := upd _ 5 (some (.cells 3 [[cI 0, cI 0, .str []]]))) (n' := 6) rfl rfl (fun h => by cases h) ?_)
  refine un (a2n (h' := upd _ 5 (some (.cells 3 [[cI r_1.1.Kind, cI r_1.1.N, .str r_1.1.S]]))) (n' := 6) rfl rfl (fun h => by cases h) ?_)
  refine un (a1 rfl ?_)
  refine dnil ?_
  refine Sv.seq ?_
  refine Sv.region ?_
  refine un (a1 (v := (.agg [cI (((value_Unary sign a_).1).Kind), cI (((value_Unary sign a_).1).N), .str (((value_Unary sign a_).1).S)])) rfl ?_)
  refine un (a1 (v := (.agg [cI (((clerestoryref4_OneSide sign a_).1).Kind), cI (((clerestoryref4_OneSide sign a_).1).N), .str (((clerestoryref4_OneSide sign a_).1).S)])) rfl ?_)
  obtain ⟨v43, hv43⟩ : ∃ v43 : Bool, v43 = (decide (((value_Unary sign a_).1).Kind = ((clerestoryref4_OneSide sign a_).1).Kind) && (decide (((value_Unary sign a_).1).N = ((clerestoryref4_OneSide sign a_).1).N) && (decide (((value_Unary sign a_).1).S = ((clerestoryref4_OneSide sign a_).1).S) && true))) := ⟨_, rfl⟩
  replace h := letAt hv43 h
  refine un (a1 (v := (B v43)) (by rw [hv43]; rfl) ?_)
  clear hv43
  refine un (a1 rfl ?_)
  refine gjoin 4 (d := 48) (v := (B (v43 && (decide ((value_Unary sign a_).2 = (clerestoryref4_OneSide sign a_).2))))) (fun X hX => ?_) ?_
  · refine split2 (fun hc1 => ?_) (fun hc1 => ?_)
    · refine gt rfl (a1 rfl ?_)
      refine gt rfl (a1 rfl ?_)
      refine gt rfl (a1 (v := (B (decide ((value_Unary sign a_).2 = (clerestoryref4_OneSide sign a_).2)))) rfl ?_)
      refine un (a1 (v := (B (decide ((value_Unary sign a_).2 = (clerestoryref4_OneSide sign a_).2)))) rfl ?_)
      refine dnil ?_
      exact hX _ (.putEq (by rw [hc1]; rfl) (.skip _ _ (.skip _ _ (.skip _ _ (.putEq (by rw [hc1]) (.refl _)) rfl) rfl) rfl))
    · refine gs rfl rfl ?_
      refine gs rfl rfl ?_
      refine gs rfl rfl ?_
      refine un (a1 (v := (B false)) rfl ?_)
      refine dnil ?_
      exact hX _ (.putEq (by rw [hc1]; rfl) (.skip _ _ (.skip _ _ (.skip _ _ (.putEq (by rw [hc1]) (.refl _)) rfl) rfl) rfl))
  refine un (a1 rfl ?_)
  refine gjoin 4 (d := 53) (v := (B ((v43 && (decide ((value_Unary sign a_).2 = (clerestoryref4_OneSide sign a_).2))) && (decide (r_.1.Kind = r_1.1.Kind) && (decide (r_.1.N = r_1.1.N) && (decide (r_.1.S = r_1.1.S) && true)))))) (fun X hX => ?_) ?_
  · refine split2 (fun hc2 => ?_) (fun hc2 => ?_)
    · refine gt rfl (a1 (v := (.agg [cI r_.1.Kind, cI r_.1.N, .str r_.1.S])) rfl ?_)
      refine gt rfl (a1 (v := (.agg [cI r_1.1.Kind, cI r_1.1.N, .str r_1.1.S])) rfl ?_)
      refine gt rfl (a1 (v := (B (decide (r_.1.Kind = r_1.1.Kind) && (decide (r_.1.N = r_1.1.N) && (decide (r_.1.S = r_1.1.S) && true))))) rfl ?_)
      refine un (a1 (v := (B (decide (r_.1.Kind = r_1.1.Kind) && (decide (r_.1.N = r_1.1.N) && (decide (r_.1.S = r_1.1.S) && true))))) rfl ?_)
      refine dnil ?_
      exact hX _ (.putEq (by rw [hc2]; rfl) (.skip _ _ (.skip _ _ (.skip _ _ (.putEq (by rw [hc2]) (.refl _)) rfl) rfl) rfl))
    · refine gs rfl rfl ?_
      refine gs rfl rfl ?_
      refine gs rfl rfl ?_
      refine un (a1 (v := (B false)) rfl ?_)
      refine dnil ?_
      exact hX _ (.putEq (by rw [hc2]; rfl) (.skip _ _ (.skip _ _ (.skip _ _ (.putEq (by rw [hc2]) (.refl _)) rfl) rfl) rfl))
  refine un (a1 rfl ?_)
  refine gjoin 4 (d := 58) (v := (B (((v43 && (decide ((value_Unary sign a_).2 = (clerestoryref4_OneSide sign a_).2))) && (decide (r_.1.Kind = r_1.1.Kind) && (decide (r_.1.N = r_1.1.N) && (decide (r_.1.S = r_1.1.S) && true)))) && (decide (r_.2 = r_1.2))))) (fun X hX => ?_) ?_
  · refine split2 (fun hc3 => ?_) (fun hc3 => ?_)
    · refine gt rfl (a1 rfl ?_)
      refine gt rfl (a1 rfl ?_)
      refine gt rfl (a1 (v := (B (decide (r_.2 = r_1.2)))) rfl ?_)
      refine un (a1 (v := (B (decide (r_.2 = r_1.2)))) rfl ?_)
      refine dnil ?_
      exact hX _ (.putEq (by rw [hc3]; rfl) (.skip _ _ (.skip _ _ (.skip _ _ (.putEq (by rw [hc3]) (.refl _)) rfl) rfl) rfl))
    · refine gs rfl rfl ?_
      refine gs rfl rfl ?_
      refine gs rfl rfl ?_
      refine un (a1 (v := (B false)) rfl ?_)
      refine dnil ?_
      exact hX _ (.putEq (by rw [hc3]; rfl) (.skip _ _ (.skip _ _ (.skip _ _ (.putEq (by rw [hc3]) (.refl _)) rfl) rfl) rfl))
  refine un (a1 rfl ?_)
  refine dnil ?_
  refine Sv.ret ?_
  replace h := Option.some.inj h
  subst h
  exact ⟨_, .refl _, _, rfl, ⟨upd (fun _ => none) 0 (some (B (((v43 && (decide ((value_Unary sign a_).2 = (clerestoryref4_OneSide sign a_).2))) && (decide (r_.1.Kind = r_1.1.Kind) && (decide (r_.1.N = r_1.1.N) && (decide (r_.1.S = r_1.1.S) && true)))) && (decide (r_.2 = r_1.2))))), (fun _ => none), 0⟩, (B (((v43 && (decide ((value_Unary sign a_).2 = (clerestoryref4_OneSide sign a_).2))) && (decide (r_.1.Kind = r_1.1.Kind) && (decide (r_.1.N = r_1.1.N) && (decide (r_.1.S = r_1.1.S) && true)))) && (decide (r_.2 = r_1.2)))), weak_canon [] rfl List.nodup_nil (Nat.le_refl _) (fun b h => absurd h (Nat.not_lt_zero _)) (.cons rfl (avAs_free rfl) .nil) .nil, rfl, rfl, rfl, rfl⟩
end Go.Proofs.YtdmmjgjmfpalhaaDoorBv
