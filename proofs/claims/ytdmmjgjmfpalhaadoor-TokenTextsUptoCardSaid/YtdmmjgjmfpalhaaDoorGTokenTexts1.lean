/- Printed by a program of mine (bgen.py): plain functions, and the walks that show that the code comes to what they answer. -/
import Derived.Test.YtdmmjgjmfpalhaaDoorGTokenTexts0
namespace Go.Proofs.YtdmmjgjmfpalhaaDoorBv
open Go
set_option linter.unusedVariables false
set_option maxRecDepth 100000
def a9_c0 : ACode := (.seq (.seq (.region [⟨(some 7), (.mov (.tmp 5)), none⟩, ⟨(some 8), (.mov (.tmp 0)), none⟩, ⟨(some 9), (.len (.tmp 8)), none⟩, ⟨(some 10), (.bin .lss (.tmp 7) (.tmp 9)), none⟩])
 (.cond (.tmp 10) .skip (.exit 0)))
 (.seq (.block 1 (.region [⟨(some 13), (.mov (.tmp 4)), none⟩, ⟨(some 14), (.mov (.tmp 0)), none⟩, ⟨(some 15), (.mov (.tmp 5)), none⟩, ⟨(some 16), (.iaddr 4 (.tmp 14) (.tmp 15)), none⟩, ⟨(some 17), (.faddr 1 (.tmp 16)), none⟩, ⟨(some 18), (.load false 1 (.tmp 17)), none⟩, ⟨(some 19), (.bin .add (.tmp 13) (.tmp 18)), none⟩, ⟨(some 4), (.mov (.tmp 19)), none⟩]))
 (.region [⟨(some 11), (.mov (.tmp 5)), none⟩, ⟨(some 12), (.bin .add (.tmp 11) (.const (.c (.val (.int .i64 1))))), none⟩, ⟨(some 5), (.mov (.tmp 12)), none⟩])))
def a9_c1 : ACode := .ret
def a9 : AFunc := ⟨1, [(.tmp 2)], (.seq (.region [⟨(some 2), (.mov (.const (.c (.val (.bool false))))), none⟩])
 (.seq (.region [⟨(some 6), (.call 22 []), none⟩, ⟨(some 3), (.mov (.tmp 6)), none⟩])
 (.seq (.region [⟨(some 4), (.mov (.const (.c (.str [])))), none⟩])
 (.seq (.seq (.region [⟨(some 5), (.mov (.const (.c (.val (.int .i64 0))))), none⟩])
 (.block 0 (.loop a9_c0)))
 (.seq (.region [⟨(some 20), (.mov (.tmp 3)), none⟩, ⟨(some 21), (.mov (.tmp 20)), none⟩, ⟨(some 22), (.mov (.tmp 0)), (some (21, true))⟩, ⟨(some 23), (.call 34 [(.tmp 22)]), (some (21, true))⟩, ⟨(some 24), (.mov (.tmp 4)), (some (21, true))⟩, ⟨(some 25), (.bin .eql (.tmp 23) (.tmp 24)), (some (21, true))⟩, ⟨(some 26), (.pick (.tmp 21) (.tmp 25) (.const (.c (.val (.bool false))))), none⟩, ⟨(some 2), (.mov (.tmp 26)), none⟩])
 a9_c1)))))⟩
set_option maxRecDepth 100000 in
theorem c9 : compFunc Tryd.prog 9 = some a9 := by kernel_rfl
def clerestorylaw2_TokenTexts_post (r : Bool) : AV → Heap → Nat → Prop := fun v h' n' => v = (B r) ∧ (h' = (fun _ => none)) ∧ n' = 0
noncomputable def clerestorylaw2_TokenTexts_l0 (l_ : (List TSToken)) (r_ : Bool) (K0_ : (List UInt8) → Option Bool) : Nat → (List UInt8) → Int → Option Bool
  | 0, _, _ => none
  | k + 1, s_, i_ =>
    if decide (i_ < (l_.length : Int)) then
      (at? l_ i_).bind fun x_ =>
      (cat? s_ x_.Raw).bind fun r_1 =>
      (clerestorylaw2_TokenTexts_l0 l_ r_ K0_ k) r_1 (wi (i_ + 1))
    else
      K0_ s_
theorem clerestorylaw2_TokenTexts_l0_ok {mL : Int} {Q : AExit → St → Prop} {l_ : (List TSToken)} {r_ : Bool} {K0_ : (List UInt8) → Option Bool} {k : Nat} {s_ : (List UInt8)} {i_ : Int} {o : Bool} (h : clerestorylaw2_TokenTexts_l0 l_ r_ K0_ k s_ i_ = some o)
    (hK0 : ∀ (s_1 : (List UInt8)), K0_ s_1 = some o → ∀ s, Weak 0 s ⟨(upd (upd (upd (fun _ => none) 0 (some (.c (.ro false 4 (l_.map e_TSToken))))) 3 (some (B r_))) 4 (some (S s_1))), (fun _ => none), 0⟩ → Q (.exit 0) s)
    (hr : ∀ s, Ends a9.results 0 (clerestorylaw2_TokenTexts_post o) .ret s → Q .ret s) :
    Sv Tryd.prog (GG mL) 0 (.loop a9_c0) Q ⟨(upd (upd (upd (upd (fun _ => none) 0 (some (.c (.ro false 4 (l_.map e_TSToken))))) 3 (some (B r_))) 4 (some (S s_))) 5 (some (I i_))), (fun _ => none), 0⟩ := by
  refine Sv.loop (I := fun k s => ∃ (s_ : (List UInt8)), ∃ (i_ : Int), clerestorylaw2_TokenTexts_l0 l_ r_ K0_ k s_ i_ = some o ∧ s = ⟨(upd (upd (upd (upd (fun _ => none) 0 (some (.c (.ro false 4 (l_.map e_TSToken))))) 3 (some (B r_))) 4 (some (S s_))) 5 (some (I i_))), (fun _ => none), 0⟩) (fun k s hI => ?_) ⟨s_, i_, h, rfl⟩
  clear h
  clear i_ s_
  obtain ⟨s_, i_, h, rfl⟩ := hI
  cases k with
  | zero => cases h
  | succ k =>
  rw [clerestorylaw2_TokenTexts_l0] at h
  have hself : ∀ (s_ : (List UInt8)) (i_ : Int), (clerestorylaw2_TokenTexts_l0 l_ r_ K0_ k) s_ i_ = some o → ∀ s, Weak 0 s ⟨(upd (upd (upd (upd (fun _ => none) 0 (some (.c (.ro false 4 (l_.map e_TSToken))))) 3 (some (B r_))) 4 (some (S s_))) 5 (some (I i_))), (fun _ => none), 0⟩ → (AThen (fun s' => ∃ s'' k', Weak 0 s' s'' ∧ k' < k + 1 ∧ (fun k s => ∃ (s_ : (List UInt8)), ∃ (i_ : Int), clerestorylaw2_TokenTexts_l0 l_ r_ K0_ k s_ i_ = some o ∧ s = ⟨(upd (upd (upd (upd (fun _ => none) 0 (some (.c (.ro false 4 (l_.map e_TSToken))))) 3 (some (B r_))) 4 (some (S s_))) 5 (some (I i_))), (fun _ => none), 0⟩) k' s'') Q) .normal s := fun s_ i_ h s hw => ⟨_, k, hw, Nat.lt_succ_self k, s_, i_, h, rfl⟩
  refine Sv.seq ?_
  refine Sv.seq ?_
  refine Sv.region ?_
  refine un (a1 rfl ?_)
  refine un (a1 rfl ?_)
  refine un (a1 (v := (I (l_.length : Int))) (s_len (e := e_TSToken) (xs := l_) rfl) ?_)
  refine un (a1 (v := (B (decide (i_ < (l_.length : Int))))) rfl ?_)
  refine dnil ?_
  refine Sv.cond (b := decide (i_ < (l_.length : Int))) rfl (fun hc1 => ?_) (fun hc1 => ?_)
  · replace h := ifT hc1 h
    refine Sv.skip ?_
    refine Sv.seq ?_
    refine Sv.block ?_
    refine Sv.region ?_
    refine un (a1 rfl ?_)
    refine un (a1 rfl ?_)
    refine un (a1 rfl ?_)
    obtain ⟨x_, hx1, h⟩ := bnd h
    refine un (a1 (v := (.c (.rop [cI x_.Kind, .str x_.Raw, .str x_.Value, cI x_.Num]))) (s_iaddr (e := e_TSToken) (xs := l_) rfl rfl hx1) ?_)
    refine un (a1 (v := (.c (.rop [.str x_.Raw, .str x_.Value, cI x_.Num]))) rfl ?_)
    refine un (a1 (v := (S x_.Raw)) rfl ?_)
    obtain ⟨r_1, hx2, h⟩ := bnd h
    refine un (a1 (v := (S r_1)) (s_cat rfl rfl hx2) ?_)
    refine un (a1 rfl ?_)
    refine dnil ?_
    refine Sv.region ?_
    refine un (a1 rfl ?_)
    refine un (a1 (v := (I (wi (i_ + 1)))) rfl ?_)
    refine un (a1 rfl ?_)
    refine dnil ?_
    exact hself r_1 (wi (i_ + 1)) h _ (weak_canon [] rfl (by decide) (by decide) (fun b h => absurd h (Nat.not_lt_zero _)) (.cons rfl (avAs_free rfl) (.cons rfl (avAs_free rfl) (.cons rfl (avAs_free rfl) (.cons rfl (avAs_free rfl) .nil)))) .nil)
  · replace h := ifF hc1 h
    refine Sv.exit ?_
    exact hK0 s_ h _ (weak_canon [] rfl (by decide) (by decide) (fun b h => absurd h (Nat.not_lt_zero _)) (.cons rfl (avAs_free rfl) (.cons rfl (avAs_free rfl) (.cons rfl (avAs_free rfl) .nil))) .nil)
noncomputable def clerestorylaw2_TokenTexts_j1 (v2 : Bool) : Option Bool :=
  some v2
theorem clerestorylaw2_TokenTexts_j1_ok {mL : Int} {v2 : Bool} {o : Bool} (h : clerestorylaw2_TokenTexts_j1 v2 = some o) :
    Sv Tryd.prog (GG mL) 0 a9_c1 (Ends a9.results 0 (clerestorylaw2_TokenTexts_post o)) ⟨(upd (fun _ => none) 2 (some (B v2))), (fun _ => none), 0⟩ := by
  unfold clerestorylaw2_TokenTexts_j1 at h
  refine Sv.ret ?_
  replace h := Option.some.inj h
  subst h
  exact ⟨_, .refl _, _, rfl, ⟨upd (fun _ => none) 0 (some (B v2)), (fun _ => none), 0⟩, (B v2), weak_canon [] rfl List.nodup_nil (Nat.le_refl _) (fun b h => absurd h (Nat.not_lt_zero _)) (.cons rfl (avAs_free rfl) .nil) .nil, rfl, rfl, rfl, rfl⟩
/-- clerestory/clerestorylaw2.TokenTexts -/
noncomputable def clerestorylaw2_TokenTexts (l_ : (List TSToken)) : Option Bool :=
  (clerestorylaw2_cutFact).bind fun r_ =>
  lim fun kk => clerestorylaw2_TokenTexts_l0 l_ r_ (fun (s_1 : (List UInt8)) => 
      if r_ then
        (csstok_Text l_).bind fun r_2 =>
        clerestorylaw2_TokenTexts_j1 (decide (r_2 = s_1))
      else
        clerestorylaw2_TokenTexts_j1 false) kk [] 0
theorem clerestorylaw2_TokenTexts_ok {mL : Int} {l_ : (List TSToken)} {r : Bool} (h : clerestorylaw2_TokenTexts l_ = some r) : CPure Tryd.prog (GG mL) 9 [(.c (.ro false 4 (l_.map e_TSToken)))] (B r) := by
  refine acalls_of_sv hmix c9 (R := clerestorylaw2_TokenTexts_post r) ?_
  unfold clerestorylaw2_TokenTexts at h
  refine Sv.seq ?_
  refine Sv.region ?_
  refine un (a1 rfl ?_)
  refine dnil ?_
  refine Sv.seq ?_
  refine Sv.region ?_
  obtain ⟨r_, hr1, h⟩ := bnd h
  refine un (ac_pure (clerestorylaw2_cutFact_ok hr1) rfl rfl rfl ?_)
  refine un (a1 rfl ?_)
  refine dnil ?_
  refine Sv.seq ?_
  refine Sv.region ?_
  refine un (a1 rfl ?_)
  refine dnil ?_
  refine Sv.seq ?_
  refine Sv.seq ?_
  refine Sv.region ?_
  refine un (a1 rfl ?_)
  refine dnil ?_
  refine Sv.block ?_
  obtain ⟨kk, h⟩ := lim_some h
  refine Sv.weak (weak_canon [] rfl (by decide) (by decide) (fun b h => absurd h (Nat.not_lt_zero _)) (.cons rfl (avAs_free rfl) (.cons rfl (avAs_free rfl) (.cons rfl (avAs_free rfl) (.cons rfl (avAs_free rfl) .nil)))) .nil) (clerestorylaw2_TokenTexts_l0_ok h ?_ (fun s hs => hs))
  · intro s_1 h _ hw1
    refine Sv.weak hw1 ?_
    refine Sv.seq ?_
    refine Sv.region ?_
    refine un (a1 rfl ?_)
    refine un (a1 rfl ?_)
    refine split2 (fun hc2 => ?_) (fun hc2 => ?_)
    · replace h := ifT hc2 h
      refine gt rfl (a1 rfl ?_)
      obtain ⟨r_2, hr2, h⟩ := bnd h
      refine gt rfl (ac_pure (csstok_Text_ok hr2) rfl rfl rfl ?_)
      refine gt rfl (a1 rfl ?_)
      refine gt rfl (a1 (v := (B (decide (r_2 = s_1)))) rfl ?_)
      refine un (a1 (v := (B (decide (r_2 = s_1)))) rfl ?_)
      refine un (a1 rfl ?_)
      refine dnil ?_
      exact Sv.weak (weak_canon [] rfl (by decide) (by decide) (fun b h => absurd h (Nat.not_lt_zero _)) (.cons rfl (avAs_free rfl) .nil) .nil) (clerestorylaw2_TokenTexts_j1_ok h)
    · replace h := ifF hc2 h
      refine gs rfl rfl ?_
      refine gs rfl rfl ?_
      refine gs rfl rfl ?_
      refine gs rfl rfl ?_
      refine un (a1 (v := (B false)) rfl ?_)
      refine un (a1 rfl ?_)
      refine dnil ?_
      exact Sv.weak (weak_canon [] rfl (by decide) (by decide) (fun b h => absurd h (Nat.not_lt_zero _)) (.cons rfl (avAs_free rfl) .nil) .nil) (clerestorylaw2_TokenTexts_j1_ok h)
end Go.Proofs.YtdmmjgjmfpalhaaDoorBv
