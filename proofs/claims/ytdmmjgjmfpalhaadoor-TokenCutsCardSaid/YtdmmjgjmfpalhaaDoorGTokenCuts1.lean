/- Printed by a program of mine (bgen.py): plain functions, and the walks that show that the code comes to what they answer. -/
import Derived.Test.YtdmmjgjmfpalhaaDoorGTokenCuts0
namespace Go.Proofs.YtdmmjgjmfpalhaaDoorBv
open Go
set_option linter.unusedVariables false
set_option maxRecDepth 100000
def a118_c0 : ACode := (.cond (.tmp 21) (.seq (.region [⟨(some 22), (.mov (.tmp 0)), none⟩, ⟨(some 23), (.mov (.tmp 3)), none⟩, ⟨(some 24), (.bin .add (.tmp 23) (.const (.c (.val (.int .i64 2))))), none⟩, ⟨(some 25), (.slStr (.tmp 22) none (some (.tmp 24))), none⟩, ⟨(some 26), (.build [(.val (.int .i64 0)), (.str []), (.str []), (.val (.int .i64 0))] [(0, (1, (.const (.c (.val (.int .i64 9)))))), (1, (1, (.tmp 25)))]), none⟩, ⟨none, (.store 4 (.tmp 2) (.tmp 26)), none⟩])
 .ret) .skip)
def a118_c1 : ACode := (.region [⟨(some 9), (.mov (.tmp 3)), none⟩, ⟨(some 10), (.bin .add (.tmp 9) (.const (.c (.val (.int .i64 1))))), none⟩, ⟨(some 3), (.mov (.tmp 10)), none⟩])
def a118_c2 : ACode := (.seq (.seq (.region [⟨(some 4), (.mov (.tmp 3)), none⟩, ⟨(some 5), (.bin .add (.tmp 4) (.const (.c (.val (.int .i64 1))))), none⟩, ⟨(some 6), (.mov (.tmp 0)), none⟩, ⟨(some 7), (.lenS (.tmp 6)), none⟩, ⟨(some 8), (.bin .lss (.tmp 5) (.tmp 7)), none⟩])
 (.cond (.tmp 8) .skip (.exit 0)))
 (.seq (.block 1 (.seq (.region [⟨(some 11), (.mov (.tmp 0)), none⟩, ⟨(some 12), (.mov (.tmp 3)), none⟩, ⟨(some 13), (.idxS (.tmp 11) (.tmp 12)), none⟩, ⟨(some 14), (.bin .eql (.tmp 13) (.const (.c (.val (.int .u8 42))))), none⟩, ⟨(some 15), (.mov (.tmp 14)), none⟩, ⟨(some 16), (.mov (.tmp 0)), (some (15, true))⟩, ⟨(some 17), (.mov (.tmp 3)), (some (15, true))⟩, ⟨(some 18), (.bin .add (.tmp 17) (.const (.c (.val (.int .i64 1))))), (some (15, true))⟩, ⟨(some 19), (.idxS (.tmp 16) (.tmp 18)), (some (15, true))⟩, ⟨(some 20), (.bin .eql (.tmp 19) (.const (.c (.val (.int .u8 47))))), (some (15, true))⟩, ⟨(some 21), (.pick (.tmp 15) (.tmp 20) (.const (.c (.val (.bool false))))), none⟩])
 a118_c0))
 a118_c1))
def a118 : AFunc := ⟨1, [(.cell true 4 2)], (.seq (.region [⟨(some 2), (.box (.const (.agg [(.val (.int .i64 0)), (.str []), (.str []), (.val (.int .i64 0))]))), none⟩])
 (.seq (.seq (.region [⟨(some 3), (.mov (.const (.c (.val (.int .i64 2))))), none⟩])
 (.block 0 (.loop a118_c2)))
 (.seq (.region [⟨(some 27), (.mov (.tmp 0)), none⟩, ⟨(some 28), (.build [(.val (.int .i64 0)), (.str []), (.str []), (.val (.int .i64 0))] [(0, (1, (.const (.c (.val (.int .i64 9)))))), (1, (1, (.tmp 27)))]), none⟩, ⟨none, (.store 4 (.tmp 2) (.tmp 28)), none⟩])
 .ret)))⟩
set_option maxRecDepth 100000 in
theorem c118 : compFunc Tryd.prog 118 = some a118 := by kernel_rfl
def clerestoryref2_noteAt_post (r : TSToken) : AV → Heap → Nat → Prop := fun v h' n' => v = (.agg [cI r.Kind, .str r.Raw, .str r.Value, cI r.Num]) ∧ (h' = (fun _ => none)) ∧ n' = 0
abbrev clerestoryref2_noteAt_q0 (mL : Int) (Q : AExit → St → Prop) : AExit → St → Prop := AThen (Sv Tryd.prog (GG mL) 0 a118_c1 Q) Q
abbrev clerestoryref2_noteAt_q1 (mL : Int) (Q : AExit → St → Prop) : AExit → St → Prop := ABlock 1 (clerestoryref2_noteAt_q0 mL Q)
noncomputable def clerestoryref2_noteAt_j3 (s_ : (List UInt8)) (i_ : Int) (self : Int → Option TSToken) (K0_ : Unit → Option TSToken) (v21 : Bool) : Option TSToken :=
  if v21 then
    (sub? s_ 0 (wi (i_ + 2))).bind fun r_ =>
    some (⟨9, r_, [], 0⟩ : TSToken)
  else
    self (wi (i_ + 1))
theorem clerestoryref2_noteAt_j3_ok {mL : Int} {Q : AExit → St → Prop} {s_ : (List UInt8)} {i_ : Int} {self : Int → Option TSToken} {K0_ : Unit → Option TSToken} {v21 : Bool} {o : TSToken} (h : clerestoryref2_noteAt_j3 s_ i_ self K0_ v21 = some o)
    (hself : ∀ (i_ : Int), self i_ = some o → ∀ s, Weak 0 s ⟨(upd (upd (upd (fun _ => none) 0 (some (S s_))) 2 (some (.c (.ref 0 4 0 0)))) 3 (some (I i_))), (upd (fun _ => none) 0 (some (.cells 4 [[cI 0, .str [], .str [], cI 0]]))), 1⟩ → (Q) .normal s)
    (hK0 : ∀ (_ : Unit), K0_ () = some o → ∀ s, Weak 0 s ⟨(upd (upd (fun _ => none) 0 (some (S s_))) 2 (some (.c (.ref 0 4 0 0)))), (upd (fun _ => none) 0 (some (.cells 4 [[cI 0, .str [], .str [], cI 0]]))), 1⟩ → Q (.exit 0) s)
    (hr : ∀ s, Ends a118.results 0 (clerestoryref2_noteAt_post o) .ret s → Q .ret s) :
    Sv Tryd.prog (GG mL) 0 a118_c0 (clerestoryref2_noteAt_q1 mL Q) ⟨(upd (upd (upd (upd (fun _ => none) 0 (some (S s_))) 2 (some (.c (.ref 0 4 0 0)))) 3 (some (I i_))) 21 (some (B v21))), (upd (fun _ => none) 0 (some (.cells 4 [[cI 0, .str [], .str [], cI 0]]))), 1⟩ := by
  unfold clerestoryref2_noteAt_j3 at h
  refine Sv.cond (b := v21) rfl (fun hc2 => ?_) (fun hc2 => ?_)
  · replace h := ifT hc2 h
    refine Sv.seq ?_
    refine Sv.region ?_
    refine un (a1 rfl ?_)
    refine un (a1 rfl ?_)
    refine un (a1 (v := (I (wi (i_ + 2)))) rfl ?_)
    obtain ⟨r_, hx1, h⟩ := bnd h
    refine un (a1 (v := (S r_)) (s_slStr rfl rfl rfl hx1) ?_)
    refine un (a1 (v := (.agg [cI 9, .str r_, .str [], cI 0])) rfl ?_)
    refine un (a2n (h' := upd _ 0 (some (.cells 4 [[cI 9, .str r_, .str [], cI 0]]))) (n' := 1) rfl rfl (fun h => by cases h) ?_)
    refine dnil ?_
    refine Sv.ret ?_
    replace h := Option.some.inj h
    subst h
    exact hr _ ⟨_, .refl _, _, rfl, ⟨upd (fun _ => none) 0 (some (.agg [cI 9, .str r_, .str [], cI 0])), (fun _ => none), 0⟩, (.agg [cI 9, .str r_, .str [], cI 0]), weak_canon [] rfl List.nodup_nil (Nat.le_refl _) (fun b h => absurd h (Nat.not_lt_zero _)) (.cons rfl (avAs_free rfl) .nil) .nil, rfl, rfl, rfl, rfl⟩
  · replace h := ifF hc2 h
    refine Sv.skip ?_
    refine Sv.region ?_
    refine un (a1 rfl ?_)
    refine un (a1 (v := (I (wi (i_ + 1)))) rfl ?_)
    refine un (a1 rfl ?_)
    refine dnil ?_
    exact hself (wi (i_ + 1)) h _ (weak_canon [0] rfl (by decide) (by decide) (fun b h => absurd h (Nat.not_lt_zero _)) (.cons rfl (avAs_free rfl) (.cons rfl (.c (.ref rfl (by decide))) (.cons rfl (avAs_free rfl) .nil))) (.box (by decide) rfl (blkAs_cells (.cons (.same rfl) (.cons (.same rfl) (.cons (.same rfl) (.cons (.same rfl) .nil))))) .nil))
noncomputable def clerestoryref2_noteAt_l0 (s_ : (List UInt8)) (K0_ : Unit → Option TSToken) : Nat → Int → Option TSToken
  | 0, _ => none
  | k + 1, i_ =>
    if decide ((wi (i_ + 1)) < (s_.length : Int)) then
      (at? s_ i_).bind fun c_ =>
      if decide ((c_.toNat : Int) = 42) then
        (at? s_ (wi (i_ + 1))).bind fun c_1 =>
        clerestoryref2_noteAt_j3 s_ i_ (clerestoryref2_noteAt_l0 s_ K0_ k) K0_ (decide ((c_1.toNat : Int) = 47))
      else
        clerestoryref2_noteAt_j3 s_ i_ (clerestoryref2_noteAt_l0 s_ K0_ k) K0_ false
    else
      K0_ ()
theorem clerestoryref2_noteAt_l0_ok {mL : Int} {Q : AExit → St → Prop} {s_ : (List UInt8)} {K0_ : Unit → Option TSToken} {k : Nat} {i_ : Int} {o : TSToken} (h : clerestoryref2_noteAt_l0 s_ K0_ k i_ = some o)
    (hK0 : ∀ (_ : Unit), K0_ () = some o → ∀ s, Weak 0 s ⟨(upd (upd (fun _ => none) 0 (some (S s_))) 2 (some (.c (.ref 0 4 0 0)))), (upd (fun _ => none) 0 (some (.cells 4 [[cI 0, .str [], .str [], cI 0]]))), 1⟩ → Q (.exit 0) s)
    (hr : ∀ s, Ends a118.results 0 (clerestoryref2_noteAt_post o) .ret s → Q .ret s) :
    Sv Tryd.prog (GG mL) 0 (.loop a118_c2) Q ⟨(upd (upd (upd (fun _ => none) 0 (some (S s_))) 2 (some (.c (.ref 0 4 0 0)))) 3 (some (I i_))), (upd (fun _ => none) 0 (some (.cells 4 [[cI 0, .str [], .str [], cI 0]]))), 1⟩ := by
  refine Sv.loop (I := fun k s => ∃ (i_ : Int), clerestoryref2_noteAt_l0 s_ K0_ k i_ = some o ∧ s = ⟨(upd (upd (upd (fun _ => none) 0 (some (S s_))) 2 (some (.c (.ref 0 4 0 0)))) 3 (some (I i_))), (upd (fun _ => none) 0 (some (.cells 4 [[cI 0, .str [], .str [], cI 0]]))), 1⟩) (fun k s hI => ?_) ⟨i_, h, rfl⟩
  clear h
  clear i_
  obtain ⟨i_, h, rfl⟩ := hI
  cases k with
  | zero => cases h
  | succ k =>
  rw [clerestoryref2_noteAt_l0] at h
  have hself : ∀ (i_ : Int), (clerestoryref2_noteAt_l0 s_ K0_ k) i_ = some o → ∀ s, Weak 0 s ⟨(upd (upd (upd (fun _ => none) 0 (some (S s_))) 2 (some (.c (.ref 0 4 0 0)))) 3 (some (I i_))), (upd (fun _ => none) 0 (some (.cells 4 [[cI 0, .str [], .str [], cI 0]]))), 1⟩ → (AThen (fun s' => ∃ s'' k', Weak 0 s' s'' ∧ k' < k + 1 ∧ (fun k s => ∃ (i_ : Int), clerestoryref2_noteAt_l0 s_ K0_ k i_ = some o ∧ s = ⟨(upd (upd (upd (fun _ => none) 0 (some (S s_))) 2 (some (.c (.ref 0 4 0 0)))) 3 (some (I i_))), (upd (fun _ => none) 0 (some (.cells 4 [[cI 0, .str [], .str [], cI 0]]))), 1⟩) k' s'') Q) .normal s := fun i_ h s hw => ⟨_, k, hw, Nat.lt_succ_self k, i_, h, rfl⟩
  refine Sv.seq ?_
  refine Sv.seq ?_
  refine Sv.region ?_
  refine un (a1 rfl ?_)
  refine un (a1 (v := (I (wi (i_ + 1)))) rfl ?_)
  refine un (a1 rfl ?_)
  refine un (a1 (v := (I (s_.length : Int))) rfl ?_)
  refine un (a1 (v := (B (decide ((wi (i_ + 1)) < (s_.length : Int))))) rfl ?_)
  refine dnil ?_
  refine Sv.cond (b := decide ((wi (i_ + 1)) < (s_.length : Int))) rfl (fun hc1 => ?_) (fun hc1 => ?_)
  · replace h := ifT hc1 h
    refine Sv.skip ?_
    refine Sv.seq ?_
    refine Sv.block ?_
    refine Sv.seq ?_
    refine Sv.region ?_
    refine un (a1 rfl ?_)
    refine un (a1 rfl ?_)
    obtain ⟨c_, hx2, h⟩ := bnd h
    refine un (a1 (v := (.c (.val (.int .u8 (c_.toNat : Int))))) (s_idxS rfl rfl hx2) ?_)
    refine un (a1 (v := (B (decide ((c_.toNat : Int) = 42)))) rfl ?_)
    refine un (a1 rfl ?_)
    refine split2 (fun hc3 => ?_) (fun hc3 => ?_)
    · replace h := ifT hc3 h
      refine gt rfl (a1 rfl ?_)
      refine gt rfl (a1 rfl ?_)
      refine gt rfl (a1 (v := (I (wi (i_ + 1)))) rfl ?_)
      obtain ⟨c_1, hx3, h⟩ := bnd h
      refine gt rfl (a1 (v := (.c (.val (.int .u8 (c_1.toNat : Int))))) (s_idxS rfl rfl hx3) ?_)
      refine gt rfl (a1 (v := (B (decide ((c_1.toNat : Int) = 47)))) rfl ?_)
      refine un (a1 (v := (B (decide ((c_1.toNat : Int) = 47)))) rfl ?_)
      refine dnil ?_
      exact Sv.weak (weak_canon [0] rfl (by decide) (by decide) (fun b h => absurd h (Nat.not_lt_zero _)) (.cons rfl (avAs_free rfl) (.cons rfl (avAs_free rfl) (.cons rfl (.c (.ref rfl (by decide))) (.cons rfl (avAs_free rfl) .nil)))) (.box (by decide) rfl (blkAs_cells (.cons (.same rfl) (.cons (.same rfl) (.cons (.same rfl) (.cons (.same rfl) .nil))))) .nil)) (clerestoryref2_noteAt_j3_ok h hself hK0 hr)
    · replace h := ifF hc3 h
      refine gs rfl rfl ?_
      refine gs rfl rfl ?_
      refine gs rfl rfl ?_
      refine gs rfl rfl ?_
      refine gs rfl rfl ?_
      refine un (a1 (v := (B false)) rfl ?_)
      refine dnil ?_
      exact Sv.weak (weak_canon [0] rfl (by decide) (by decide) (fun b h => absurd h (Nat.not_lt_zero _)) (.cons rfl (avAs_free rfl) (.cons rfl (avAs_free rfl) (.cons rfl (.c (.ref rfl (by decide))) (.cons rfl (avAs_free rfl) .nil)))) (.box (by decide) rfl (blkAs_cells (.cons (.same rfl) (.cons (.same rfl) (.cons (.same rfl) (.cons (.same rfl) .nil))))) .nil)) (clerestoryref2_noteAt_j3_ok h hself hK0 hr)
  · replace h := ifF hc1 h
    refine Sv.exit ?_
    exact hK0 () h _ (weak_canon [0] rfl (by decide) (by decide) (fun b h => absurd h (Nat.not_lt_zero _)) (.cons rfl (.c (.ref rfl (by decide))) (.cons rfl (avAs_free rfl) .nil)) (.box (by decide) rfl (blkAs_cells (.cons (.same rfl) (.cons (.same rfl) (.cons (.same rfl) (.cons (.same rfl) .nil))))) .nil))
/-- clerestory/clerestoryref2.noteAt -/
noncomputable def clerestoryref2_noteAt (s_ : (List UInt8)) : Option TSToken :=
  lim fun kk => clerestoryref2_noteAt_l0 s_ (fun (_ : Unit) => 
      some (⟨9, s_, [], 0⟩ : TSToken)) kk 2
theorem clerestoryref2_noteAt_ok {mL : Int} {s_ : (List UInt8)} {r : TSToken} (h : clerestoryref2_noteAt s_ = some r) : CPure Tryd.prog (GG mL) 118 [(S s_)] (.agg [cI r.Kind, .str r.Raw, .str r.Value, cI r.Num]) := by
  refine acalls_of_sv hmix c118 (R := clerestoryref2_noteAt_post r) ?_
  unfold clerestoryref2_noteAt at h
  refine Sv.seq ?_
  refine Sv.region ?_
  refine un (a2v (v := (.c (.ref 0 4 0 0))) (h' := upd _ 0 (some (.cells 4 [[cI 0, .str [], .str [], cI 0]]))) (n' := 1) rfl rfl (fun h => by cases h) ?_)
  refine dnil ?_
  refine Sv.seq ?_
  refine Sv.seq ?_
  refine Sv.region ?_
  refine un (a1 rfl ?_)
  refine dnil ?_
  refine Sv.block ?_
  obtain ⟨kk, h⟩ := lim_some h
  refine Sv.weak (weak_canon [0] rfl (by decide) (by decide) (fun b h => absurd h (Nat.not_lt_zero _)) (.cons rfl (avAs_free rfl) (.cons rfl (.c (.ref rfl (by decide))) (.cons rfl (avAs_free rfl) .nil))) (.box (by decide) rfl (blkAs_cells (.cons (.same rfl) (.cons (.same rfl) (.cons (.same rfl) (.cons (.same rfl) .nil))))) .nil)) (clerestoryref2_noteAt_l0_ok h ?_ (fun s hs => hs))
  · intro _ h _ hw1
    refine Sv.weak hw1 ?_
    refine Sv.seq ?_
    refine Sv.region ?_
    refine un (a1 rfl ?_)
    refine un (a1 (v := (.agg [cI 9, .str s_, .str [], cI 0])) rfl ?_)
    refine un (a2n (h' := upd _ 0 (some (.cells 4 [[cI 9, .str s_, .str [], cI 0]]))) (n' := 1) rfl rfl (fun h => by cases h) ?_)
    refine dnil ?_
    refine Sv.ret ?_
    replace h := Option.some.inj h
    subst h
    exact ⟨_, .refl _, _, rfl, ⟨upd (fun _ => none) 0 (some (.agg [cI 9, .str s_, .str [], cI 0])), (fun _ => none), 0⟩, (.agg [cI 9, .str s_, .str [], cI 0]), weak_canon [] rfl List.nodup_nil (Nat.le_refl _) (fun b h => absurd h (Nat.not_lt_zero _)) (.cons rfl (avAs_free rfl) .nil) .nil, rfl, rfl, rfl, rfl⟩
def a119_c0 : ACode := (.cond (.tmp 22) .skip (.exit 0))
def a119_c1 : ACode := (.seq (.region [⟨(some 36), (.mov (.tmp 3)), none⟩, ⟨(some 37), (.mov (.tmp 0)), none⟩, ⟨(some 38), (.mov (.tmp 4)), none⟩, ⟨(some 39), (.mov (.tmp 4)), none⟩, ⟨(some 40), (.bin .add (.tmp 39) (.const (.c (.val (.int .i64 1))))), none⟩, ⟨(some 41), (.slStr (.tmp 37) (some (.tmp 38)) (some (.tmp 40))), none⟩, ⟨(some 42), (.bin .add (.tmp 36) (.tmp 41)), none⟩, ⟨(some 3), (.mov (.tmp 42)), none⟩])
 (.region [⟨(some 43), (.mov (.tmp 4)), none⟩, ⟨(some 44), (.bin .add (.tmp 43) (.const (.c (.val (.int .i64 1))))), none⟩, ⟨(some 4), (.mov (.tmp 44)), none⟩]))
def a119_c2 : ACode := (.block 1 (.seq (.seq (.region [⟨(some 23), (.mov (.tmp 0)), none⟩, ⟨(some 24), (.mov (.tmp 4)), none⟩, ⟨(some 25), (.idxS (.tmp 23) (.tmp 24)), none⟩, ⟨(some 26), (.bin .eql (.tmp 25) (.const (.c (.val (.int .u8 92))))), none⟩, ⟨(some 27), (.mov (.tmp 26)), none⟩, ⟨(some 28), (.mov (.tmp 4)), (some (27, true))⟩, ⟨(some 29), (.bin .add (.tmp 28) (.const (.c (.val (.int .i64 1))))), (some (27, true))⟩, ⟨(some 30), (.mov (.tmp 0)), (some (27, true))⟩, ⟨(some 31), (.lenS (.tmp 30)), (some (27, true))⟩, ⟨(some 32), (.bin .lss (.tmp 29) (.tmp 31)), (some (27, true))⟩, ⟨(some 33), (.pick (.tmp 27) (.tmp 32) (.const (.c (.val (.bool false))))), none⟩])
 (.cond (.tmp 33) (.region [⟨(some 34), (.mov (.tmp 4)), none⟩, ⟨(some 35), (.bin .add (.tmp 34) (.const (.c (.val (.int .i64 1))))), none⟩, ⟨(some 4), (.mov (.tmp 35)), none⟩]) .skip))
 a119_c1))
def a119_c3 : ACode := (.seq (.seq (.drawn (.fin [(⟨(some 5), (.mov (.tmp 4)), none⟩, (0, 0)), (⟨(some 6), (.mov (.tmp 0)), none⟩, (0, 1)), (⟨(some 7), (.lenS (.tmp 6)), none⟩, (0, 2)), (⟨(some 8), (.bin .lss (.tmp 5) (.tmp 7)), none⟩, (0, 3)), (⟨(some 9), (.mov (.tmp 8)), none⟩, (0, 4)), (⟨(some 10), (.mov (.tmp 0)), (some (9, true))⟩, (0, 5)), (⟨(some 11), (.mov (.tmp 4)), (some (9, true))⟩, (0, 6)), (⟨(some 12), (.idxS (.tmp 10) (.tmp 11)), (some (9, true))⟩, (0, 7)), (⟨(some 13), (.bin .neq (.tmp 12) (.const (.c (.val (.int .u8 10))))), (some (9, true))⟩, (0, 8)), (⟨(some 14), (.pick (.tmp 9) (.tmp 13) (.const (.c (.val (.bool false))))), none⟩, (0, 9)), (⟨(some 15), (.mov (.tmp 14)), none⟩, (0, 10)), (⟨(some 16), (.mov (.tmp 0)), (some (15, true))⟩, (0, 11)), (⟨(some 17), (.mov (.tmp 4)), (some (15, true))⟩, (0, 12)), (⟨(some 18), (.idxS (.tmp 16) (.tmp 17)), (some (15, true))⟩, (0, 13)), (⟨(some 19), (.mov (.tmp 0)), (some (15, true))⟩, (0, 14)), (⟨(some 20), (.idxS (.tmp 19) (.const (.c (.val (.int .i64 0))))), (some (15, true))⟩, (0, 15)), (⟨(some 21), (.bin .neq (.tmp 18) (.tmp 20)), (some (15, true))⟩, (0, 16)), (⟨(some 22), (.pick (.tmp 15) (.tmp 21) (.const (.c (.val (.bool false))))), none⟩, (0, 17))]))
 a119_c0)
 a119_c2)
def a119_c4 : ACode := (.cond (.tmp 56) (.seq (.region [⟨(some 57), (.mov (.tmp 0)), none⟩, ⟨(some 58), (.mov (.tmp 4)), none⟩, ⟨(some 59), (.bin .add (.tmp 58) (.const (.c (.val (.int .i64 1))))), none⟩, ⟨(some 60), (.slStr (.tmp 57) none (some (.tmp 59))), none⟩, ⟨(some 61), (.mov (.tmp 3)), none⟩, ⟨(some 62), (.build [(.val (.int .i64 0)), (.str []), (.str []), (.val (.int .i64 0))] [(0, (1, (.const (.c (.val (.int .i64 5)))))), (1, (1, (.tmp 60))), (2, (1, (.tmp 61)))]), none⟩, ⟨none, (.store 4 (.tmp 2) (.tmp 62)), none⟩])
 .ret) .skip)
def a119_c5 : ACode := (.seq (.region [⟨(some 63), (.mov (.tmp 0)), none⟩, ⟨(some 64), (.mov (.tmp 4)), none⟩, ⟨(some 65), (.slStr (.tmp 63) none (some (.tmp 64))), none⟩, ⟨(some 66), (.build [(.val (.int .i64 0)), (.str []), (.str []), (.val (.int .i64 0))] [(0, (1, (.const (.c (.val (.int .i64 6)))))), (1, (1, (.tmp 65)))]), none⟩, ⟨none, (.store 4 (.tmp 2) (.tmp 66)), none⟩])
 .ret)
def a119 : AFunc := ⟨1, [(.cell true 4 2)], (.seq (.region [⟨(some 2), (.box (.const (.agg [(.val (.int .i64 0)), (.str []), (.str []), (.val (.int .i64 0))]))), none⟩])
 (.seq (.region [⟨(some 3), (.mov (.const (.c (.str [])))), none⟩])
 (.seq (.region [⟨(some 4), (.mov (.const (.c (.val (.int .i64 1))))), none⟩])
 (.seq (.block 0 (.loop a119_c3))
 (.seq (.seq (.drawn (.fin [(⟨(some 45), (.mov (.tmp 4)), none⟩, (0, 0)), (⟨(some 46), (.mov (.tmp 0)), none⟩, (0, 1)), (⟨(some 47), (.lenS (.tmp 46)), none⟩, (0, 2)), (⟨(some 48), (.bin .lss (.tmp 45) (.tmp 47)), none⟩, (0, 3)), (⟨(some 49), (.mov (.tmp 48)), none⟩, (0, 4)), (⟨(some 50), (.mov (.tmp 0)), (some (49, true))⟩, (0, 5)), (⟨(some 51), (.mov (.tmp 4)), (some (49, true))⟩, (0, 6)), (⟨(some 52), (.idxS (.tmp 50) (.tmp 51)), (some (49, true))⟩, (0, 7)), (⟨(some 53), (.mov (.tmp 0)), (some (49, true))⟩, (0, 8)), (⟨(some 54), (.idxS (.tmp 53) (.const (.c (.val (.int .i64 0))))), (some (49, true))⟩, (0, 9)), (⟨(some 55), (.bin .eql (.tmp 52) (.tmp 54)), (some (49, true))⟩, (0, 10)), (⟨(some 56), (.pick (.tmp 49) (.tmp 55) (.const (.c (.val (.bool false))))), none⟩, (0, 11))]))
 a119_c4)
 a119_c5)))))⟩
set_option maxRecDepth 100000 in
theorem c119 : compFunc Tryd.prog 119 = some a119 := by kernel_rfl
def clerestoryref2_textAt_post (r : TSToken) : AV → Heap → Nat → Prop := fun v h' n' => v = (.agg [cI r.Kind, .str r.Raw, .str r.Value, cI r.Num]) ∧ (h' = (fun _ => none)) ∧ n' = 0
abbrev clerestoryref2_textAt_q0 (mL : Int) (Q : AExit → St → Prop) : AExit → St → Prop := ABlock 1 Q
noncomputable def clerestoryref2_textAt_j6 (s_ : (List UInt8)) (value : (List UInt8)) (self : (List UInt8) → Int → Option TSToken) (K0_ : (List UInt8) → Int → Option TSToken) (i_2 : Int) : Option TSToken :=
  (sub? s_ i_2 (wi (i_2 + 1))).bind fun r_ =>
  (cat? value r_).bind fun r_1 =>
  self r_1 (wi (i_2 + 1))
theorem clerestoryref2_textAt_j6_ok {mL : Int} {Q : AExit → St → Prop} {s_ : (List UInt8)} {value : (List UInt8)} {self : (List UInt8) → Int → Option TSToken} {K0_ : (List UInt8) → Int → Option TSToken} {i_2 : Int} {o : TSToken} (h : clerestoryref2_textAt_j6 s_ value self K0_ i_2 = some o)
    (hself : ∀ (value : (List UInt8)) (i_ : Int), self value i_ = some o → ∀ s, Weak 0 s ⟨(upd (upd (upd (upd (fun _ => none) 0 (some (S s_))) 2 (some (.c (.ref 0 4 0 0)))) 3 (some (S value))) 4 (some (I i_))), (upd (fun _ => none) 0 (some (.cells 4 [[cI 0, .str [], .str [], cI 0]]))), 1⟩ → (Q) .normal s)
    (hK0 : ∀ (value1 : (List UInt8)) (i_1 : Int), K0_ value1 i_1 = some o → ∀ s, Weak 0 s ⟨(upd (upd (upd (upd (fun _ => none) 0 (some (S s_))) 2 (some (.c (.ref 0 4 0 0)))) 3 (some (S value1))) 4 (some (I i_1))), (upd (fun _ => none) 0 (some (.cells 4 [[cI 0, .str [], .str [], cI 0]]))), 1⟩ → Q (.exit 0) s)
    (hr : ∀ s, Ends a119.results 0 (clerestoryref2_textAt_post o) .ret s → Q .ret s) :
    Sv Tryd.prog (GG mL) 0 a119_c1 (clerestoryref2_textAt_q0 mL Q) ⟨(upd (upd (upd (upd (fun _ => none) 0 (some (S s_))) 2 (some (.c (.ref 0 4 0 0)))) 3 (some (S value))) 4 (some (I i_2))), (upd (fun _ => none) 0 (some (.cells 4 [[cI 0, .str [], .str [], cI 0]]))), 1⟩ := by
  unfold clerestoryref2_textAt_j6 at h
  refine Sv.seq ?_
  refine Sv.region ?_
  refine un (a1 rfl ?_)
  refine un (a1 rfl ?_)
  refine un (a1 rfl ?_)
  refine un (a1 rfl ?_)
  refine un (a1 (v := (I (wi (i_2 + 1)))) rfl ?_)
  obtain ⟨r_, hx1, h⟩ := bnd h
  refine un (a1 (v := (S r_)) (s_slStr rfl rfl rfl hx1) ?_)
  obtain ⟨r_1, hx2, h⟩ := bnd h
  refine un (a1 (v := (S r_1)) (s_cat rfl rfl hx2) ?_)
  refine un (a1 rfl ?_)
  refine dnil ?_
  refine Sv.region ?_
  refine un (a1 rfl ?_)
  refine un (a1 (v := (I (wi (i_2 + 1)))) rfl ?_)
  refine un (a1 rfl ?_)
  refine dnil ?_
  exact hself r_1 (wi (i_2 + 1)) h _ (weak_canon [0] rfl (by decide) (by decide) (fun b h => absurd h (Nat.not_lt_zero _)) (.cons rfl (avAs_free rfl) (.cons rfl (avAs_free rfl) (.cons rfl (.c (.ref rfl (by decide))) (.cons rfl (avAs_free rfl) .nil)))) (.box (by decide) rfl (blkAs_cells (.cons (.same rfl) (.cons (.same rfl) (.cons (.same rfl) (.cons (.same rfl) .nil))))) .nil))
abbrev clerestoryref2_textAt_q1 (mL : Int) (Q : AExit → St → Prop) : AExit → St → Prop := AThen (Sv Tryd.prog (GG mL) 0 a119_c2 Q) Q
noncomputable def clerestoryref2_textAt_j5 (s_ : (List UInt8)) (i_ : Int) (value : (List UInt8)) (self : (List UInt8) → Int → Option TSToken) (K0_ : (List UInt8) → Int → Option TSToken) (v22 : Bool) : Option TSToken :=
  if v22 then
    (at? s_ i_).bind fun c_ =>
    if ((decide ((c_.toNat : Int) = 92)) && (decide ((wi (i_ + 1)) < (s_.length : Int)))) then
      clerestoryref2_textAt_j6 s_ value self K0_ (wi (i_ + 1))
    else
      clerestoryref2_textAt_j6 s_ value self K0_ i_
  else
    K0_ value i_
theorem clerestoryref2_textAt_j5_ok {mL : Int} {Q : AExit → St → Prop} {s_ : (List UInt8)} {i_ : Int} {value : (List UInt8)} {self : (List UInt8) → Int → Option TSToken} {K0_ : (List UInt8) → Int → Option TSToken} {v22 : Bool} {o : TSToken} (h : clerestoryref2_textAt_j5 s_ i_ value self K0_ v22 = some o)
    (hself : ∀ (value : (List UInt8)) (i_ : Int), self value i_ = some o → ∀ s, Weak 0 s ⟨(upd (upd (upd (upd (fun _ => none) 0 (some (S s_))) 2 (some (.c (.ref 0 4 0 0)))) 3 (some (S value))) 4 (some (I i_))), (upd (fun _ => none) 0 (some (.cells 4 [[cI 0, .str [], .str [], cI 0]]))), 1⟩ → (Q) .normal s)
    (hK0 : ∀ (value1 : (List UInt8)) (i_1 : Int), K0_ value1 i_1 = some o → ∀ s, Weak 0 s ⟨(upd (upd (upd (upd (fun _ => none) 0 (some (S s_))) 2 (some (.c (.ref 0 4 0 0)))) 3 (some (S value1))) 4 (some (I i_1))), (upd (fun _ => none) 0 (some (.cells 4 [[cI 0, .str [], .str [], cI 0]]))), 1⟩ → Q (.exit 0) s)
    (hr : ∀ s, Ends a119.results 0 (clerestoryref2_textAt_post o) .ret s → Q .ret s) :
    Sv Tryd.prog (GG mL) 0 a119_c0 (clerestoryref2_textAt_q1 mL Q) ⟨(upd (upd (upd (upd (upd (fun _ => none) 0 (some (S s_))) 2 (some (.c (.ref 0 4 0 0)))) 3 (some (S value))) 4 (some (I i_))) 22 (some (B v22))), (upd (fun _ => none) 0 (some (.cells 4 [[cI 0, .str [], .str [], cI 0]]))), 1⟩ := by
  unfold clerestoryref2_textAt_j5 at h
  refine Sv.cond (b := v22) rfl (fun hc1 => ?_) (fun hc1 => ?_)
  · replace h := ifT hc1 h
    refine Sv.skip ?_
    refine Sv.block ?_
    refine Sv.seq ?_
    refine Sv.seq ?_
    refine Sv.region ?_
    refine un (a1 rfl ?_)
    refine un (a1 rfl ?_)
    obtain ⟨c_, hx3, h⟩ := bnd h
    refine un (a1 (v := (.c (.val (.int .u8 (c_.toNat : Int))))) (s_idxS rfl rfl hx3) ?_)
    refine un (a1 (v := (B (decide ((c_.toNat : Int) = 92)))) rfl ?_)
    refine un (a1 rfl ?_)
    refine gjoin 6 (d := 33) (v := (B ((decide ((c_.toNat : Int) = 92)) && (decide ((wi (i_ + 1)) < (s_.length : Int)))))) (fun X hX => ?_) ?_
    · refine split2 (fun hc2 => ?_) (fun hc2 => ?_)
      · refine gt rfl (a1 rfl ?_)
        refine gt rfl (a1 (v := (I (wi (i_ + 1)))) rfl ?_)
        refine gt rfl (a1 rfl ?_)
        refine gt rfl (a1 (v := (I (s_.length : Int))) rfl ?_)
        refine gt rfl (a1 (v := (B (decide ((wi (i_ + 1)) < (s_.length : Int))))) rfl ?_)
        refine un (a1 (v := (B (decide ((wi (i_ + 1)) < (s_.length : Int))))) rfl ?_)
        refine dnil ?_
        exact hX _ (.putEq (by rw [hc2]; rfl) (.skip _ _ (.skip _ _ (.skip _ _ (.skip _ _ (.skip _ _ (.putEq (by rw [hc2]) (.refl _)) rfl) rfl) rfl) rfl) rfl))
      · refine gs rfl rfl ?_
        refine gs rfl rfl ?_
        refine gs rfl rfl ?_
        refine gs rfl rfl ?_
        refine gs rfl rfl ?_
        refine un (a1 (v := (B false)) rfl ?_)
        refine dnil ?_
        exact hX _ (.putEq (by rw [hc2]; rfl) (.skip _ _ (.skip _ _ (.skip _ _ (.skip _ _ (.skip _ _ (.putEq (by rw [hc2]) (.refl _)) rfl) rfl) rfl) rfl) rfl))
    refine dnil ?_
    refine Sv.cond (b := ((decide ((c_.toNat : Int) = 92)) && (decide ((wi (i_ + 1)) < (s_.length : Int))))) rfl (fun hc3 => ?_) (fun hc3 => ?_)
    · replace h := ifT hc3 h
      refine Sv.region ?_
      refine un (a1 rfl ?_)
      refine un (a1 (v := (I (wi (i_ + 1)))) rfl ?_)
      refine un (a1 rfl ?_)
      refine dnil ?_
      exact Sv.weak (weak_canon [0] rfl (by decide) (by decide) (fun b h => absurd h (Nat.not_lt_zero _)) (.cons rfl (avAs_free rfl) (.cons rfl (avAs_free rfl) (.cons rfl (.c (.ref rfl (by decide))) (.cons rfl (avAs_free rfl) .nil)))) (.box (by decide) rfl (blkAs_cells (.cons (.same rfl) (.cons (.same rfl) (.cons (.same rfl) (.cons (.same rfl) .nil))))) .nil)) (clerestoryref2_textAt_j6_ok h hself hK0 hr)
    · replace h := ifF hc3 h
      refine Sv.skip ?_
      exact Sv.weak (weak_canon [0] rfl (by decide) (by decide) (fun b h => absurd h (Nat.not_lt_zero _)) (.cons rfl (avAs_free rfl) (.cons rfl (avAs_free rfl) (.cons rfl (.c (.ref rfl (by decide))) (.cons rfl (avAs_free rfl) .nil)))) (.box (by decide) rfl (blkAs_cells (.cons (.same rfl) (.cons (.same rfl) (.cons (.same rfl) (.cons (.same rfl) .nil))))) .nil)) (clerestoryref2_textAt_j6_ok h hself hK0 hr)
  · replace h := ifF hc1 h
    refine Sv.exit ?_
    exact hK0 value i_ h _ (weak_canon [0] rfl (by decide) (by decide) (fun b h => absurd h (Nat.not_lt_zero _)) (.cons rfl (avAs_free rfl) (.cons rfl (avAs_free rfl) (.cons rfl (.c (.ref rfl (by decide))) (.cons rfl (avAs_free rfl) .nil)))) (.box (by decide) rfl (blkAs_cells (.cons (.same rfl) (.cons (.same rfl) (.cons (.same rfl) (.cons (.same rfl) .nil))))) .nil))
noncomputable def clerestoryref2_textAt_l0 (s_ : (List UInt8)) (K0_ : (List UInt8) → Int → Option TSToken) : Nat → (List UInt8) → Int → Option TSToken
  | 0, _, _ => none
  | k + 1, value, i_ =>
    if decide (i_ < (s_.length : Int)) then
      (at? s_ i_).bind fun c_1 =>
      if (!decide ((c_1.toNat : Int) = 10)) then
        (at? s_ i_).bind fun c_2 =>
        (at? s_ 0).bind fun c_3 =>
        clerestoryref2_textAt_j5 s_ i_ value (clerestoryref2_textAt_l0 s_ K0_ k) K0_ (!decide ((c_2.toNat : Int) = (c_3.toNat : Int)))
      else
        clerestoryref2_textAt_j5 s_ i_ value (clerestoryref2_textAt_l0 s_ K0_ k) K0_ false
    else
      clerestoryref2_textAt_j5 s_ i_ value (clerestoryref2_textAt_l0 s_ K0_ k) K0_ false
theorem clerestoryref2_textAt_l0_ok {mL : Int} {Q : AExit → St → Prop} {s_ : (List UInt8)} {K0_ : (List UInt8) → Int → Option TSToken} {k : Nat} {value : (List UInt8)} {i_ : Int} {o : TSToken} (h : clerestoryref2_textAt_l0 s_ K0_ k value i_ = some o)
    (hK0 : ∀ (value1 : (List UInt8)) (i_1 : Int), K0_ value1 i_1 = some o → ∀ s, Weak 0 s ⟨(upd (upd (upd (upd (fun _ => none) 0 (some (S s_))) 2 (some (.c (.ref 0 4 0 0)))) 3 (some (S value1))) 4 (some (I i_1))), (upd (fun _ => none) 0 (some (.cells 4 [[cI 0, .str [], .str [], cI 0]]))), 1⟩ → Q (.exit 0) s)
    (hr : ∀ s, Ends a119.results 0 (clerestoryref2_textAt_post o) .ret s → Q .ret s) :
    Sv Tryd.prog (GG mL) 0 (.loop a119_c3) Q ⟨(upd (upd (upd (upd (fun _ => none) 0 (some (S s_))) 2 (some (.c (.ref 0 4 0 0)))) 3 (some (S value))) 4 (some (I i_))), (upd (fun _ => none) 0 (some (.cells 4 [[cI 0, .str [], .str [], cI 0]]))), 1⟩ := by
  refine Sv.loop (I := fun k s => ∃ (value : (List UInt8)), ∃ (i_ : Int), clerestoryref2_textAt_l0 s_ K0_ k value i_ = some o ∧ s = ⟨(upd (upd (upd (upd (fun _ => none) 0 (some (S s_))) 2 (some (.c (.ref 0 4 0 0)))) 3 (some (S value))) 4 (some (I i_))), (upd (fun _ => none) 0 (some (.cells 4 [[cI 0, .str [], .str [], cI 0]]))), 1⟩) (fun k s hI => ?_) ⟨value, i_, h, rfl⟩
  clear h
  clear i_ value
  obtain ⟨value, i_, h, rfl⟩ := hI
  cases k with
  | zero => cases h
  | succ k =>
  rw [clerestoryref2_textAt_l0] at h
  have hself : ∀ (value : (List UInt8)) (i_ : Int), (clerestoryref2_textAt_l0 s_ K0_ k) value i_ = some o → ∀ s, Weak 0 s ⟨(upd (upd (upd (upd (fun _ => none) 0 (some (S s_))) 2 (some (.c (.ref 0 4 0 0)))) 3 (some (S value))) 4 (some (I i_))), (upd (fun _ => none) 0 (some (.cells 4 [[cI 0, .str [], .str [], cI 0]]))), 1⟩ → (AThen (fun s' => ∃ s'' k', Weak 0 s' s'' ∧ k' < k + 1 ∧ (fun k s => ∃ (value : (List UInt8)), ∃ (i_ : Int), clerestoryref2_textAt_l0 s_ K0_ k value i_ = some o ∧ s = ⟨(upd (upd (upd (upd (fun _ => none) 0 (some (S s_))) 2 (some (.c (.ref 0 4 0 0)))) 3 (some (S value))) 4 (some (I i_))), (upd (fun _ => none) 0 (some (.cells 4 [[cI 0, .str [], .str [], cI 0]]))), 1⟩) k' s'') Q) .normal s := fun value i_ h s hw => ⟨_, k, hw, Nat.lt_succ_self k, value, i_, h, rfl⟩
  refine Sv.seq ?_
  refine Sv.seq ?_
  refine Sv.drawn ?_
  refine un (a1 rfl ?_)
  refine un (a1 rfl ?_)
  refine un (a1 (v := (I (s_.length : Int))) rfl ?_)
  refine un (a1 (v := (B (decide (i_ < (s_.length : Int))))) rfl ?_)
  refine un (a1 rfl ?_)
  refine split2 (fun hc4 => ?_) (fun hc4 => ?_)
  · replace h := ifT hc4 h
    refine gt rfl (a1 rfl ?_)
    refine gt rfl (a1 rfl ?_)
    obtain ⟨c_1, hx4, h⟩ := bnd h
    refine gt rfl (a1 (v := (.c (.val (.int .u8 (c_1.toNat : Int))))) (s_idxS rfl rfl hx4) ?_)
    refine gt rfl (a1 (v := (B (!decide ((c_1.toNat : Int) = 10)))) rfl ?_)
    refine un (a1 (v := (B (!decide ((c_1.toNat : Int) = 10)))) rfl ?_)
    refine un (a1 rfl ?_)
    refine split2 (fun hc5 => ?_) (fun hc5 => ?_)
    · replace h := ifT hc5 h
      refine gt rfl (a1 rfl ?_)
      refine gt rfl (a1 rfl ?_)
      obtain ⟨c_2, hx5, h⟩ := bnd h
      refine gt rfl (a1 (v := (.c (.val (.int .u8 (c_2.toNat : Int))))) (s_idxS rfl rfl hx5) ?_)
      refine gt rfl (a1 rfl ?_)
      obtain ⟨c_3, hx6, h⟩ := bnd h
      refine gt rfl (a1 (v := (.c (.val (.int .u8 (c_3.toNat : Int))))) (s_idxS rfl rfl hx6) ?_)
      refine gt rfl (a1 (v := (B (!decide ((c_2.toNat : Int) = (c_3.toNat : Int))))) rfl ?_)
      refine un (a1 (v := (B (!decide ((c_2.toNat : Int) = (c_3.toNat : Int))))) rfl ?_)
      refine dnil ?_
      exact Sv.weak (weak_canon [0] rfl (by decide) (by decide) (fun b h => absurd h (Nat.not_lt_zero _)) (.cons rfl (avAs_free rfl) (.cons rfl (avAs_free rfl) (.cons rfl (avAs_free rfl) (.cons rfl (.c (.ref rfl (by decide))) (.cons rfl (avAs_free rfl) .nil))))) (.box (by decide) rfl (blkAs_cells (.cons (.same rfl) (.cons (.same rfl) (.cons (.same rfl) (.cons (.same rfl) .nil))))) .nil)) (clerestoryref2_textAt_j5_ok h hself hK0 hr)
    · replace h := ifF hc5 h
      refine gs rfl rfl ?_
      refine gs rfl rfl ?_
      refine gs rfl rfl ?_
      refine gs rfl rfl ?_
      refine gs rfl rfl ?_
      refine gs rfl rfl ?_
      refine un (a1 (v := (B false)) rfl ?_)
      refine dnil ?_
      exact Sv.weak (weak_canon [0] rfl (by decide) (by decide) (fun b h => absurd h (Nat.not_lt_zero _)) (.cons rfl (avAs_free rfl) (.cons rfl (avAs_free rfl) (.cons rfl (avAs_free rfl) (.cons rfl (.c (.ref rfl (by decide))) (.cons rfl (avAs_free rfl) .nil))))) (.box (by decide) rfl (blkAs_cells (.cons (.same rfl) (.cons (.same rfl) (.cons (.same rfl) (.cons (.same rfl) .nil))))) .nil)) (clerestoryref2_textAt_j5_ok h hself hK0 hr)
  · replace h := ifF hc4 h
    refine gs rfl rfl ?_
    refine gs rfl rfl ?_
    refine gs rfl rfl ?_
    refine gs rfl rfl ?_
    refine un (a1 (v := (B false)) rfl ?_)
    refine un (a1 rfl ?_)
    refine gs rfl rfl ?_
    refine gs rfl rfl ?_
    refine gs rfl rfl ?_
    refine gs rfl rfl ?_
    refine gs rfl rfl ?_
    refine gs rfl rfl ?_
    refine un (a1 (v := (B false)) rfl ?_)
    refine dnil ?_
    exact Sv.weak (weak_canon [0] rfl (by decide) (by decide) (fun b h => absurd h (Nat.not_lt_zero _)) (.cons rfl (avAs_free rfl) (.cons rfl (avAs_free rfl) (.cons rfl (avAs_free rfl) (.cons rfl (.c (.ref rfl (by decide))) (.cons rfl (avAs_free rfl) .nil))))) (.box (by decide) rfl (blkAs_cells (.cons (.same rfl) (.cons (.same rfl) (.cons (.same rfl) (.cons (.same rfl) .nil))))) .nil)) (clerestoryref2_textAt_j5_ok h hself hK0 hr)
abbrev clerestoryref2_textAt_q2 (mL : Int) (o : TSToken) : AExit → St → Prop := AThen (Sv Tryd.prog (GG mL) 0 a119_c5 (Ends a119.results 0 (clerestoryref2_textAt_post o))) (Ends a119.results 0 (clerestoryref2_textAt_post o))
noncomputable def clerestoryref2_textAt_j7 (s_ : (List UInt8)) (i_1 : Int) (value1 : (List UInt8)) (v56 : Bool) : Option TSToken :=
  if v56 then
    (sub? s_ 0 (wi (i_1 + 1))).bind fun r_2 =>
    some (⟨5, r_2, value1, 0⟩ : TSToken)
  else
    (sub? s_ 0 i_1).bind fun r_3 =>
    some (⟨6, r_3, [], 0⟩ : TSToken)
theorem clerestoryref2_textAt_j7_ok {mL : Int} {s_ : (List UInt8)} {i_1 : Int} {value1 : (List UInt8)} {v56 : Bool} {o : TSToken} (h : clerestoryref2_textAt_j7 s_ i_1 value1 v56 = some o) :
    Sv Tryd.prog (GG mL) 0 a119_c4 (clerestoryref2_textAt_q2 mL o) ⟨(upd (upd (upd (upd (upd (fun _ => none) 0 (some (S s_))) 2 (some (.c (.ref 0 4 0 0)))) 3 (some (S value1))) 4 (some (I i_1))) 56 (some (B v56))), (upd (fun _ => none) 0 (some (.cells 4 [[cI 0, .str [], .str [], cI 0]]))), 1⟩ := by
  unfold clerestoryref2_textAt_j7 at h
  refine Sv.cond (b := v56) rfl (fun hc6 => ?_) (fun hc6 => ?_)
  · replace h := ifT hc6 h
    refine Sv.seq ?_
    refine Sv.region ?_
    refine un (a1 rfl ?_)
    refine un (a1 rfl ?_)
    refine un (a1 (v := (I (wi (i_1 + 1)))) rfl ?_)
    obtain ⟨r_2, hx7, h⟩ := bnd h
    refine un (a1 (v := (S r_2)) (s_slStr rfl rfl rfl hx7) ?_)
    refine un (a1 rfl ?_)
    refine un (a1 (v := (.agg [cI 5, .str r_2, .str value1, cI 0])) rfl ?_)
    refine un (a2n (h' := upd _ 0 (some (.cells 4 [[cI 5, .str r_2, .str value1, cI 0]]))) (n' := 1) rfl rfl (fun h => by cases h) ?_)
    refine dnil ?_
    refine Sv.ret ?_
    replace h := Option.some.inj h
    subst h
    exact ⟨_, .refl _, _, rfl, ⟨upd (fun _ => none) 0 (some (.agg [cI 5, .str r_2, .str value1, cI 0])), (fun _ => none), 0⟩, (.agg [cI 5, .str r_2, .str value1, cI 0]), weak_canon [] rfl List.nodup_nil (Nat.le_refl _) (fun b h => absurd h (Nat.not_lt_zero _)) (.cons rfl (avAs_free rfl) .nil) .nil, rfl, rfl, rfl, rfl⟩
  · replace h := ifF hc6 h
    refine Sv.skip ?_
    refine Sv.seq ?_
    refine Sv.region ?_
    refine un (a1 rfl ?_)
    refine un (a1 rfl ?_)
    obtain ⟨r_3, hx8, h⟩ := bnd h
    refine un (a1 (v := (S r_3)) (s_slStr rfl rfl rfl hx8) ?_)
    refine un (a1 (v := (.agg [cI 6, .str r_3, .str [], cI 0])) rfl ?_)
    refine un (a2n (h' := upd _ 0 (some (.cells 4 [[cI 6, .str r_3, .str [], cI 0]]))) (n' := 1) rfl rfl (fun h => by cases h) ?_)
    refine dnil ?_
    refine Sv.ret ?_
    replace h := Option.some.inj h
    subst h
    exact ⟨_, .refl _, _, rfl, ⟨upd (fun _ => none) 0 (some (.agg [cI 6, .str r_3, .str [], cI 0])), (fun _ => none), 0⟩, (.agg [cI 6, .str r_3, .str [], cI 0]), weak_canon [] rfl List.nodup_nil (Nat.le_refl _) (fun b h => absurd h (Nat.not_lt_zero _)) (.cons rfl (avAs_free rfl) .nil) .nil, rfl, rfl, rfl, rfl⟩
/-- clerestory/clerestoryref2.textAt -/
noncomputable def clerestoryref2_textAt (s_ : (List UInt8)) : Option TSToken :=
  lim fun kk => clerestoryref2_textAt_l0 s_ (fun (value1 : (List UInt8)) (i_1 : Int) => 
      if decide (i_1 < (s_.length : Int)) then
        (at? s_ i_1).bind fun c_4 =>
        (at? s_ 0).bind fun c_5 =>
        clerestoryref2_textAt_j7 s_ i_1 value1 (decide ((c_4.toNat : Int) = (c_5.toNat : Int)))
      else
        clerestoryref2_textAt_j7 s_ i_1 value1 false) kk [] 1
theorem clerestoryref2_textAt_ok {mL : Int} {s_ : (List UInt8)} {r : TSToken} (h : clerestoryref2_textAt s_ = some r) : CPure Tryd.prog (GG mL) 119 [(S s_)] (.agg [cI r.Kind, .str r.Raw, .str r.Value, cI r.Num]) := by
  refine acalls_of_sv hmix c119 (R := clerestoryref2_textAt_post r) ?_
  unfold clerestoryref2_textAt at h
  refine Sv.seq ?_
  refine Sv.region ?_
  refine un (a2v (v := (.c (.ref 0 4 0 0))) (h' := upd _ 0 (some (.cells 4 [[cI 0, .str [], .str [], cI 0]]))) (n' := 1) rfl rfl (fun h => by cases h) ?_)
  refine dnil ?_
  refine Sv.seq ?_
  refine Sv.region ?_
  refine un (a1 rfl ?_)
  refine dnil ?_
  refine Sv.seq ?_
  refine Sv.region ?_
  refine un (a1 rfl ?_)
  refine dnil ?_
  refine Sv.seq ?_
  refine Sv.block ?_
  obtain ⟨kk, h⟩ := lim_some h
  refine Sv.weak (weak_canon [0] rfl (by decide) (by decide) (fun b h => absurd h (Nat.not_lt_zero _)) (.cons rfl (avAs_free rfl) (.cons rfl (avAs_free rfl) (.cons rfl (.c (.ref rfl (by decide))) (.cons rfl (avAs_free rfl) .nil)))) (.box (by decide) rfl (blkAs_cells (.cons (.same rfl) (.cons (.same rfl) (.cons (.same rfl) (.cons (.same rfl) .nil))))) .nil)) (clerestoryref2_textAt_l0_ok h ?_ (fun s hs => hs))
  · intro value1 i_1 h _ hw1
    refine Sv.weak hw1 ?_
    refine Sv.seq ?_
    refine Sv.seq ?_
    refine Sv.drawn ?_
    refine un (a1 rfl ?_)
    refine un (a1 rfl ?_)
    refine un (a1 (v := (I (s_.length : Int))) rfl ?_)
    refine un (a1 (v := (B (decide (i_1 < (s_.length : Int))))) rfl ?_)
    refine un (a1 rfl ?_)
    refine split2 (fun hc7 => ?_) (fun hc7 => ?_)
    · replace h := ifT hc7 h
      refine gt rfl (a1 rfl ?_)
      refine gt rfl (a1 rfl ?_)
      obtain ⟨c_4, hx9, h⟩ := bnd h
      refine gt rfl (a1 (v := (.c (.val (.int .u8 (c_4.toNat : Int))))) (s_idxS rfl rfl hx9) ?_)
      refine gt rfl (a1 rfl ?_)
      obtain ⟨c_5, hx10, h⟩ := bnd h
      refine gt rfl (a1 (v := (.c (.val (.int .u8 (c_5.toNat : Int))))) (s_idxS rfl rfl hx10) ?_)
      refine gt rfl (a1 (v := (B (decide ((c_4.toNat : Int) = (c_5.toNat : Int))))) rfl ?_)
      refine un (a1 (v := (B (decide ((c_4.toNat : Int) = (c_5.toNat : Int))))) rfl ?_)
      refine dnil ?_
      exact Sv.weak (weak_canon [0] rfl (by decide) (by decide) (fun b h => absurd h (Nat.not_lt_zero _)) (.cons rfl (avAs_free rfl) (.cons rfl (avAs_free rfl) (.cons rfl (avAs_free rfl) (.cons rfl (.c (.ref rfl (by decide))) (.cons rfl (avAs_free rfl) .nil))))) (.box (by decide) rfl (blkAs_cells (.cons (.same rfl) (.cons (.same rfl) (.cons (.same rfl) (.cons (.same rfl) .nil))))) .nil)) (clerestoryref2_textAt_j7_ok h)
    · replace h := ifF hc7 h
      refine gs rfl rfl ?_
      refine gs rfl rfl ?_
      refine gs rfl rfl ?_
      refine gs rfl rfl ?_
      refine gs rfl rfl ?_
      refine gs rfl rfl ?_
      refine un (a1 (v := (B false)) rfl ?_)
      refine dnil ?_
      exact Sv.weak (weak_canon [0] rfl (by decide) (by decide) (fun b h => absurd h (Nat.not_lt_zero _)) (.cons rfl (avAs_free rfl) (.cons rfl (avAs_free rfl) (.cons rfl (avAs_free rfl) (.cons rfl (.c (.ref rfl (by decide))) (.cons rfl (avAs_free rfl) .nil))))) (.box (by decide) rfl (blkAs_cells (.cons (.same rfl) (.cons (.same rfl) (.cons (.same rfl) (.cons (.same rfl) .nil))))) .nil)) (clerestoryref2_textAt_j7_ok h)
def a69 : AFunc := ⟨1, [(.tmp 2)], (.seq (.region [⟨(some 2), (.mov (.const (.c (.val (.bool false))))), none⟩])
 (.seq (.region [⟨(some 3), (.mov (.tmp 0)), none⟩, ⟨(some 4), (.bin .geq (.tmp 3) (.const (.c (.val (.int .u8 48))))), none⟩, ⟨(some 5), (.mov (.tmp 4)), none⟩, ⟨(some 6), (.mov (.tmp 0)), (some (5, true))⟩, ⟨(some 7), (.bin .leq (.tmp 6) (.const (.c (.val (.int .u8 57))))), (some (5, true))⟩, ⟨(some 8), (.pick (.tmp 5) (.tmp 7) (.const (.c (.val (.bool false))))), none⟩, ⟨(some 2), (.mov (.tmp 8)), none⟩])
 .ret))⟩
set_option maxRecDepth 100000 in
theorem c69 : compFunc Tryd.prog 69 = some a69 := by kernel_rfl
def clerestoryref2_digit_post (r : Bool) : AV → Heap → Nat → Prop := fun v h' n' => v = (B r) ∧ (h' = (fun _ => none)) ∧ n' = 0
/-- clerestory/clerestoryref2.digit -/
def clerestoryref2_digit (c_ : Int) : Bool :=
  ((decide (48 ≤ c_)) && (decide (c_ ≤ 57)))
theorem clerestoryref2_digit_ok {mL : Int} (c_ : Int) : CPure Tryd.prog (GG mL) 69 [(.c (.val (.int .u8 c_)))] (B (clerestoryref2_digit c_)) := by
  generalize h : clerestoryref2_digit c_ = o
  refine acalls_of_sv hmix c69 (R := clerestoryref2_digit_post o) ?_
  unfold clerestoryref2_digit at h
  refine Sv.seq ?_
  refine Sv.region ?_
  refine un (a1 rfl ?_)
  refine dnil ?_
  refine Sv.seq ?_
  refine Sv.region ?_
  refine un (a1 rfl ?_)
  refine un (a1 (v := (B (decide (48 ≤ c_)))) rfl ?_)
  refine un (a1 rfl ?_)
  refine gjoin 3 (d := 8) (v := (B ((decide (48 ≤ c_)) && (decide (c_ ≤ 57))))) (fun X hX => ?_) ?_
  · refine split2 (fun hc1 => ?_) (fun hc1 => ?_)
    · refine gt rfl (a1 rfl ?_)
      refine gt rfl (a1 (v := (B (decide (c_ ≤ 57)))) rfl ?_)
      refine un (a1 (v := (B (decide (c_ ≤ 57)))) rfl ?_)
      refine dnil ?_
      exact hX _ (.putEq (by rw [hc1]; rfl) (.skip _ _ (.skip _ _ (.putEq (by rw [hc1]) (.refl _)) rfl) rfl))
    · refine gs rfl rfl ?_
      refine gs rfl rfl ?_
      refine un (a1 (v := (B false)) rfl ?_)
      refine dnil ?_
      exact hX _ (.putEq (by rw [hc1]; rfl) (.skip _ _ (.skip _ _ (.putEq (by rw [hc1]) (.refl _)) rfl) rfl))
  refine un (a1 rfl ?_)
  refine dnil ?_
  refine Sv.ret ?_
  subst h
  exact ⟨_, .refl _, _, rfl, ⟨upd (fun _ => none) 0 (some (B ((decide (48 ≤ c_)) && (decide (c_ ≤ 57))))), (fun _ => none), 0⟩, (B ((decide (48 ≤ c_)) && (decide (c_ ≤ 57)))), weak_canon [] rfl List.nodup_nil (Nat.le_refl _) (fun b h => absurd h (Nat.not_lt_zero _)) (.cons rfl (avAs_free rfl) .nil) .nil, rfl, rfl, rfl, rfl⟩
def a24_c0 : ACode := (.cond (.tmp 16) (.region [⟨(some 4), (.mov (.const (.c (.val (.int .i64 1))))), none⟩]) .skip)
def a24_c2 : ACode := (.cond (.tmp 27) .skip (.exit 0))
def a24_c3 : ACode := (.block 1 (.seq (.region [⟨(some 28), (.mov (.tmp 6)), none⟩, ⟨(some 29), (.bin .mul (.const (.c (.val (.int .i64 10)))) (.tmp 28)), none⟩, ⟨(some 30), (.mov (.tmp 0)), none⟩, ⟨(some 31), (.mov (.tmp 4)), none⟩, ⟨(some 32), (.idxS (.tmp 30) (.tmp 31)), none⟩, ⟨(some 33), (.bin .sub (.tmp 32) (.const (.c (.val (.int .u8 48))))), none⟩, ⟨(some 34), (.conv .i64 (.tmp 33)), none⟩, ⟨(some 35), (.bin .add (.tmp 29) (.tmp 34)), none⟩, ⟨(some 36), (.mm false [(.tmp 35), (.const (.c (.val (.int .i64 1000000000))))]), none⟩, ⟨(some 6), (.mov (.tmp 36)), none⟩])
 (.region [⟨(some 37), (.mov (.tmp 4)), none⟩, ⟨(some 38), (.bin .add (.tmp 37) (.const (.c (.val (.int .i64 1))))), none⟩, ⟨(some 4), (.mov (.tmp 38)), none⟩])))
def a24_c4 : ACode := (.seq (.seq (.region [⟨(some 18), (.mov (.tmp 4)), none⟩, ⟨(some 19), (.mov (.tmp 0)), none⟩, ⟨(some 20), (.lenS (.tmp 19)), none⟩, ⟨(some 21), (.bin .lss (.tmp 18) (.tmp 20)), none⟩, ⟨(some 22), (.mov (.tmp 21)), none⟩, ⟨(some 23), (.mov (.tmp 0)), (some (22, true))⟩, ⟨(some 24), (.mov (.tmp 4)), (some (22, true))⟩, ⟨(some 25), (.idxS (.tmp 23) (.tmp 24)), (some (22, true))⟩, ⟨(some 26), (.call 69 [(.tmp 25)]), (some (22, true))⟩, ⟨(some 27), (.pick (.tmp 22) (.tmp 26) (.const (.c (.val (.bool false))))), none⟩])
 a24_c2)
 a24_c3)
def a24_c6 : ACode := (.cond (.tmp 74) .skip (.exit 2))
def a24_c7 : ACode := (.block 3 (.seq (.region [⟨(some 75), (.mov (.tmp 6)), none⟩, ⟨(some 76), (.mov (.tmp 8)), none⟩, ⟨(some 77), (.mov (.tmp 0)), none⟩, ⟨(some 78), (.mov (.tmp 4)), none⟩, ⟨(some 79), (.idxS (.tmp 77) (.tmp 78)), none⟩, ⟨(some 80), (.bin .sub (.tmp 79) (.const (.c (.val (.int .u8 48))))), none⟩, ⟨(some 81), (.conv .i64 (.tmp 80)), none⟩, ⟨(some 82), (.bin .mul (.tmp 76) (.tmp 81)), none⟩, ⟨(some 83), (.bin .add (.tmp 75) (.tmp 82)), none⟩, ⟨(some 84), (.mm false [(.tmp 83), (.const (.c (.val (.int .i64 1000000000))))]), none⟩, ⟨(some 6), (.mov (.tmp 84)), none⟩])
 (.seq (.region [⟨(some 85), (.mov (.tmp 8)), none⟩, ⟨(some 86), (.bin .quo (.tmp 85) (.const (.c (.val (.int .i64 10))))), none⟩, ⟨(some 8), (.mov (.tmp 86)), none⟩])
 (.seq (.region [⟨(some 87), (.mov (.tmp 7)), none⟩, ⟨(some 88), (.bin .add (.tmp 87) (.const (.c (.val (.int .i64 1))))), none⟩, ⟨(some 7), (.mov (.tmp 88)), none⟩])
 (.region [⟨(some 89), (.mov (.tmp 4)), none⟩, ⟨(some 90), (.bin .add (.tmp 89) (.const (.c (.val (.int .i64 1))))), none⟩, ⟨(some 4), (.mov (.tmp 90)), none⟩])))))
def a24_c8 : ACode := (.seq (.seq (.region [⟨(some 65), (.mov (.tmp 4)), none⟩, ⟨(some 66), (.mov (.tmp 0)), none⟩, ⟨(some 67), (.lenS (.tmp 66)), none⟩, ⟨(some 68), (.bin .lss (.tmp 65) (.tmp 67)), none⟩, ⟨(some 69), (.mov (.tmp 68)), none⟩, ⟨(some 70), (.mov (.tmp 0)), (some (69, true))⟩, ⟨(some 71), (.mov (.tmp 4)), (some (69, true))⟩, ⟨(some 72), (.idxS (.tmp 70) (.tmp 71)), (some (69, true))⟩, ⟨(some 73), (.call 69 [(.tmp 72)]), (some (69, true))⟩, ⟨(some 74), (.pick (.tmp 69) (.tmp 73) (.const (.c (.val (.bool false))))), none⟩])
 a24_c6)
 a24_c7)
def a24_c5 : ACode := (.cond (.tmp 62) (.seq (.region [⟨(some 63), (.mov (.tmp 4)), none⟩, ⟨(some 64), (.bin .add (.tmp 63) (.const (.c (.val (.int .i64 1))))), none⟩, ⟨(some 4), (.mov (.tmp 64)), none⟩])
 (.seq (.region [⟨(some 8), (.mov (.const (.c (.val (.int .i64 100))))), none⟩])
 (.block 2 (.loop a24_c8)))) .skip)
def a24_c10 : ACode := (.seq (.region [⟨(some 98), (.mov (.tmp 6)), none⟩, ⟨(some 99), (.mov (.tmp 4)), none⟩, ⟨(some 2), (.mov (.tmp 98)), none⟩, ⟨(some 3), (.mov (.tmp 99)), none⟩])
 .ret)
def a24_c9 : ACode := (.seq (.seq (.region [⟨(some 91), (.mov (.tmp 7)), none⟩, ⟨(some 92), (.bin .eql (.tmp 91) (.const (.c (.val (.int .i64 0))))), none⟩])
 (.cond (.tmp 92) (.seq (.region [⟨(some 2), (.mov (.const (.c (.val (.int .i64 0))))), none⟩, ⟨(some 3), (.mov (.const (.c (.val (.int .i64 0))))), none⟩])
 .ret) .skip))
 (.seq (.seq (.region [⟨(some 93), (.mov (.tmp 0)), none⟩, ⟨(some 94), (.idxS (.tmp 93) (.const (.c (.val (.int .i64 0))))), none⟩, ⟨(some 95), (.bin .eql (.tmp 94) (.const (.c (.val (.int .u8 45))))), none⟩])
 (.cond (.tmp 95) (.region [⟨(some 96), (.mov (.tmp 6)), none⟩, ⟨(some 97), (.bin .sub (.const (.c (.val (.int .i64 0)))) (.tmp 96)), none⟩, ⟨(some 6), (.mov (.tmp 97)), none⟩]) .skip))
 a24_c10))
def a24_c1 : ACode := (.seq (.region [⟨(some 17), (.mov (.tmp 4)), none⟩, ⟨(some 5), (.mov (.tmp 17)), none⟩])
 (.seq (.region [⟨(some 6), (.mov (.const (.c (.val (.int .i64 0))))), none⟩])
 (.seq (.block 0 (.loop a24_c4))
 (.seq (.region [⟨(some 39), (.mov (.tmp 4)), none⟩, ⟨(some 40), (.mov (.tmp 5)), none⟩, ⟨(some 41), (.bin .sub (.tmp 39) (.tmp 40)), none⟩, ⟨(some 7), (.mov (.tmp 41)), none⟩])
 (.seq (.region [⟨(some 42), (.mov (.tmp 6)), none⟩, ⟨(some 43), (.bin .mul (.const (.c (.val (.int .i64 1000)))) (.tmp 42)), none⟩, ⟨(some 44), (.mm false [(.tmp 43), (.const (.c (.val (.int .i64 1000000000))))]), none⟩, ⟨(some 6), (.mov (.tmp 44)), none⟩])
 (.seq (.seq (.region [⟨(some 45), (.mov (.tmp 0)), none⟩, ⟨(some 46), (.mov (.tmp 4)), none⟩, ⟨(some 47), (.call 68 [(.tmp 45), (.tmp 46)]), none⟩, ⟨(some 48), (.bin .eql (.tmp 47) (.const (.c (.val (.int .u8 46))))), none⟩, ⟨(some 49), (.mov (.tmp 48)), none⟩, ⟨(some 50), (.mov (.tmp 4)), (some (49, true))⟩, ⟨(some 51), (.bin .add (.tmp 50) (.const (.c (.val (.int .i64 1))))), (some (49, true))⟩, ⟨(some 52), (.mov (.tmp 0)), (some (49, true))⟩, ⟨(some 53), (.lenS (.tmp 52)), (some (49, true))⟩, ⟨(some 54), (.bin .lss (.tmp 51) (.tmp 53)), (some (49, true))⟩, ⟨(some 55), (.pick (.tmp 49) (.tmp 54) (.const (.c (.val (.bool false))))), none⟩, ⟨(some 56), (.mov (.tmp 55)), none⟩, ⟨(some 57), (.mov (.tmp 0)), (some (56, true))⟩, ⟨(some 58), (.mov (.tmp 4)), (some (56, true))⟩, ⟨(some 59), (.bin .add (.tmp 58) (.const (.c (.val (.int .i64 1))))), (some (56, true))⟩, ⟨(some 60), (.idxS (.tmp 57) (.tmp 59)), (some (56, true))⟩, ⟨(some 61), (.call 69 [(.tmp 60)]), (some (56, true))⟩, ⟨(some 62), (.pick (.tmp 56) (.tmp 61) (.const (.c (.val (.bool false))))), none⟩])
 a24_c5)
 a24_c9))))))
def a24 : AFunc := ⟨1, [(.tmp 2), (.tmp 3)], (.seq (.region [⟨(some 2), (.mov (.const (.c (.val (.int .i64 0))))), none⟩, ⟨(some 3), (.mov (.const (.c (.val (.int .i64 0))))), none⟩])
 (.seq (.region [⟨(some 4), (.mov (.const (.c (.val (.int .i64 0))))), none⟩])
 (.seq (.seq (.region [⟨(some 9), (.mov (.tmp 0)), none⟩, ⟨(some 10), (.call 68 [(.tmp 9), (.const (.c (.val (.int .i64 0))))]), none⟩, ⟨(some 11), (.bin .eql (.tmp 10) (.const (.c (.val (.int .u8 43))))), none⟩, ⟨(some 12), (.mov (.tmp 11)), none⟩, ⟨(some 13), (.mov (.tmp 0)), (some (12, false))⟩, ⟨(some 14), (.call 68 [(.tmp 13), (.const (.c (.val (.int .i64 0))))]), (some (12, false))⟩, ⟨(some 15), (.bin .eql (.tmp 14) (.const (.c (.val (.int .u8 45))))), (some (12, false))⟩, ⟨(some 16), (.pick (.tmp 12) (.const (.c (.val (.bool true)))) (.tmp 15)), none⟩])
 a24_c0)
 a24_c1)))⟩
set_option maxRecDepth 100000 in
theorem c24 : compFunc Tryd.prog 24 = some a24 := by kernel_rfl
def clerestoryref2_NumberAt_post (r : (Int × Int)) : AV → Heap → Nat → Prop := fun v h' n' => v = (.tup [(I r.1), (I r.2)]) ∧ (h' = (fun _ => none)) ∧ n' = 0
abbrev clerestoryref2_NumberAt_q0 (mL : Int) (Q : AExit → St → Prop) : AExit → St → Prop := AThen (Sv Tryd.prog (GG mL) 0 a24_c3 Q) Q
noncomputable def clerestoryref2_NumberAt_j6 (s_ : (List UInt8)) (i_1 : Int) (n_ : Int) (i_ : Int) (self : Int → Int → Option (Int × Int)) (K0_ : Int → Int → Option (Int × Int)) (v27 : Bool) : Option (Int × Int) :=
  if v27 then
    (at? s_ i_1).bind fun c_ =>
    self (wi (i_1 + 1)) (mn (wi ((wi (10 * n_)) + (wr .i64 (wr .u8 ((c_.toNat : Int) - 48))))) 1000000000)
  else
    K0_ i_1 n_
theorem clerestoryref2_NumberAt_j6_ok {mL : Int} {Q : AExit → St → Prop} {s_ : (List UInt8)} {i_1 : Int} {n_ : Int} {i_ : Int} {self : Int → Int → Option (Int × Int)} {K0_ : Int → Int → Option (Int × Int)} {v27 : Bool} {o : (Int × Int)} (h : clerestoryref2_NumberAt_j6 s_ i_1 n_ i_ self K0_ v27 = some o)
    (hself : ∀ (i_1 : Int) (n_ : Int), self i_1 n_ = some o → ∀ s, Weak 0 s ⟨(upd (upd (upd (upd (fun _ => none) 0 (some (S s_))) 4 (some (I i_1))) 5 (some (I i_))) 6 (some (I n_))), (fun _ => none), 0⟩ → (Q) .normal s)
    (hK0 : ∀ (i_2 : Int) (n_1 : Int), K0_ i_2 n_1 = some o → ∀ s, Weak 0 s ⟨(upd (upd (upd (upd (fun _ => none) 0 (some (S s_))) 4 (some (I i_2))) 5 (some (I i_))) 6 (some (I n_1))), (fun _ => none), 0⟩ → Q (.exit 0) s)
    (hr : ∀ s, Ends a24.results 0 (clerestoryref2_NumberAt_post o) .ret s → Q .ret s) :
    Sv Tryd.prog (GG mL) 0 a24_c2 (clerestoryref2_NumberAt_q0 mL Q) ⟨(upd (upd (upd (upd (upd (fun _ => none) 0 (some (S s_))) 4 (some (I i_1))) 5 (some (I i_))) 6 (some (I n_))) 27 (some (B v27))), (fun _ => none), 0⟩ := by
  unfold clerestoryref2_NumberAt_j6 at h
  refine Sv.cond (b := v27) rfl (fun hc1 => ?_) (fun hc1 => ?_)
  · replace h := ifT hc1 h
    refine Sv.skip ?_
    refine Sv.block ?_
    refine Sv.seq ?_
    refine Sv.region ?_
    refine un (a1 rfl ?_)
    refine un (a1 (v := (I (wi (10 * n_)))) rfl ?_)
    refine un (a1 rfl ?_)
    refine un (a1 rfl ?_)
    obtain ⟨c_, hx1, h⟩ := bnd h
    refine un (a1 (v := (.c (.val (.int .u8 (c_.toNat : Int))))) (s_idxS rfl rfl hx1) ?_)
    refine un (a1 (v := (.c (.val (.int .u8 (wr .u8 ((c_.toNat : Int) - 48)))))) rfl ?_)
    refine un (a1 (v := (I (wr .i64 (wr .u8 ((c_.toNat : Int) - 48))))) rfl ?_)
    refine un (a1 (v := (I (wi ((wi (10 * n_)) + (wr .i64 (wr .u8 ((c_.toNat : Int) - 48))))))) rfl ?_)
    refine un (a1 (v := (I (mn (wi ((wi (10 * n_)) + (wr .i64 (wr .u8 ((c_.toNat : Int) - 48))))) 1000000000))) (s_mn rfl rfl) ?_)
    refine un (a1 rfl ?_)
    refine dnil ?_
    refine Sv.region ?_
    refine un (a1 rfl ?_)
    refine un (a1 (v := (I (wi (i_1 + 1)))) rfl ?_)
    refine un (a1 rfl ?_)
    refine dnil ?_
    exact hself (wi (i_1 + 1)) (mn (wi ((wi (10 * n_)) + (wr .i64 (wr .u8 ((c_.toNat : Int) - 48))))) 1000000000) h _ (weak_canon [] rfl (by decide) (by decide) (fun b h => absurd h (Nat.not_lt_zero _)) (.cons rfl (avAs_free rfl) (.cons rfl (avAs_free rfl) (.cons rfl (avAs_free rfl) (.cons rfl (avAs_free rfl) .nil)))) .nil)
  · replace h := ifF hc1 h
    refine Sv.exit ?_
    exact hK0 i_1 n_ h _ (weak_canon [] rfl (by decide) (by decide) (fun b h => absurd h (Nat.not_lt_zero _)) (.cons rfl (avAs_free rfl) (.cons rfl (avAs_free rfl) (.cons rfl (avAs_free rfl) (.cons rfl (avAs_free rfl) .nil)))) .nil)
noncomputable def clerestoryref2_NumberAt_l0 (s_ : (List UInt8)) (i_ : Int) (K0_ : Int → Int → Option (Int × Int)) : Nat → Int → Int → Option (Int × Int)
  | 0, _, _ => none
  | k + 1, i_1, n_ =>
    if decide (i_1 < (s_.length : Int)) then
      (at? s_ i_1).bind fun c_1 =>
      clerestoryref2_NumberAt_j6 s_ i_1 n_ i_ (clerestoryref2_NumberAt_l0 s_ i_ K0_ k) K0_ (clerestoryref2_digit (c_1.toNat : Int))
    else
      clerestoryref2_NumberAt_j6 s_ i_1 n_ i_ (clerestoryref2_NumberAt_l0 s_ i_ K0_ k) K0_ false
theorem clerestoryref2_NumberAt_l0_ok {mL : Int} {Q : AExit → St → Prop} {s_ : (List UInt8)} {i_ : Int} {K0_ : Int → Int → Option (Int × Int)} {k : Nat} {i_1 : Int} {n_ : Int} {o : (Int × Int)} (h : clerestoryref2_NumberAt_l0 s_ i_ K0_ k i_1 n_ = some o)
    (hK0 : ∀ (i_2 : Int) (n_1 : Int), K0_ i_2 n_1 = some o → ∀ s, Weak 0 s ⟨(upd (upd (upd (upd (fun _ => none) 0 (some (S s_))) 4 (some (I i_2))) 5 (some (I i_))) 6 (some (I n_1))), (fun _ => none), 0⟩ → Q (.exit 0) s)
    (hr : ∀ s, Ends a24.results 0 (clerestoryref2_NumberAt_post o) .ret s → Q .ret s) :
    Sv Tryd.prog (GG mL) 0 (.loop a24_c4) Q ⟨(upd (upd (upd (upd (fun _ => none) 0 (some (S s_))) 4 (some (I i_1))) 5 (some (I i_))) 6 (some (I n_))), (fun _ => none), 0⟩ := by
  refine Sv.loop (I := fun k s => ∃ (i_1 : Int), ∃ (n_ : Int), clerestoryref2_NumberAt_l0 s_ i_ K0_ k i_1 n_ = some o ∧ s = ⟨(upd (upd (upd (upd (fun _ => none) 0 (some (S s_))) 4 (some (I i_1))) 5 (some (I i_))) 6 (some (I n_))), (fun _ => none), 0⟩) (fun k s hI => ?_) ⟨i_1, n_, h, rfl⟩
  clear h
  clear n_ i_1
  obtain ⟨i_1, n_, h, rfl⟩ := hI
  cases k with
  | zero => cases h
  | succ k =>
  rw [clerestoryref2_NumberAt_l0] at h
  have hself : ∀ (i_1 : Int) (n_ : Int), (clerestoryref2_NumberAt_l0 s_ i_ K0_ k) i_1 n_ = some o → ∀ s, Weak 0 s ⟨(upd (upd (upd (upd (fun _ => none) 0 (some (S s_))) 4 (some (I i_1))) 5 (some (I i_))) 6 (some (I n_))), (fun _ => none), 0⟩ → (AThen (fun s' => ∃ s'' k', Weak 0 s' s'' ∧ k' < k + 1 ∧ (fun k s => ∃ (i_1 : Int), ∃ (n_ : Int), clerestoryref2_NumberAt_l0 s_ i_ K0_ k i_1 n_ = some o ∧ s = ⟨(upd (upd (upd (upd (fun _ => none) 0 (some (S s_))) 4 (some (I i_1))) 5 (some (I i_))) 6 (some (I n_))), (fun _ => none), 0⟩) k' s'') Q) .normal s := fun i_1 n_ h s hw => ⟨_, k, hw, Nat.lt_succ_self k, i_1, n_, h, rfl⟩
  refine Sv.seq ?_
  refine Sv.seq ?_
  refine Sv.region ?_
  refine un (a1 rfl ?_)
  refine un (a1 rfl ?_)
  refine un (a1 (v := (I (s_.length : Int))) rfl ?_)
  refine un (a1 (v := (B (decide (i_1 < (s_.length : Int))))) rfl ?_)
  refine un (a1 rfl ?_)
  refine split2 (fun hc2 => ?_) (fun hc2 => ?_)
  · replace h := ifT hc2 h
    refine gt rfl (a1 rfl ?_)
    refine gt rfl (a1 rfl ?_)
    obtain ⟨c_1, hx2, h⟩ := bnd h
    refine gt rfl (a1 (v := (.c (.val (.int .u8 (c_1.toNat : Int))))) (s_idxS rfl rfl hx2) ?_)
    refine gt rfl (ac_pure (clerestoryref2_digit_ok (mL := mL) (c_1.toNat : Int)) rfl rfl rfl ?_)
    refine un (a1 (v := (B (clerestoryref2_digit (c_1.toNat : Int)))) rfl ?_)
    refine dnil ?_
    exact Sv.weak (weak_canon [] rfl (by decide) (by decide) (fun b h => absurd h (Nat.not_lt_zero _)) (.cons rfl (avAs_free rfl) (.cons rfl (avAs_free rfl) (.cons rfl (avAs_free rfl) (.cons rfl (avAs_free rfl) (.cons rfl (avAs_free rfl) .nil))))) .nil) (clerestoryref2_NumberAt_j6_ok h hself hK0 hr)
  · replace h := ifF hc2 h
    refine gs rfl rfl ?_
    refine gs rfl rfl ?_
    refine gs rfl rfl ?_
    refine gs rfl rfl ?_
    refine un (a1 (v := (B false)) rfl ?_)
    refine dnil ?_
    exact Sv.weak (weak_canon [] rfl (by decide) (by decide) (fun b h => absurd h (Nat.not_lt_zero _)) (.cons rfl (avAs_free rfl) (.cons rfl (avAs_free rfl) (.cons rfl (avAs_free rfl) (.cons rfl (avAs_free rfl) (.cons rfl (avAs_free rfl) .nil))))) .nil) (clerestoryref2_NumberAt_j6_ok h hself hK0 hr)
noncomputable def clerestoryref2_NumberAt_j16 (i_3 : Int) (n_3 : Int) : Option (Int × Int) :=
  some (n_3, i_3)
theorem clerestoryref2_NumberAt_j16_ok {mL : Int} {i_3 : Int} {n_3 : Int} {o : (Int × Int)} (h : clerestoryref2_NumberAt_j16 i_3 n_3 = some o) :
    Sv Tryd.prog (GG mL) 0 a24_c10 (Ends a24.results 0 (clerestoryref2_NumberAt_post o)) ⟨(upd (upd (fun _ => none) 4 (some (I i_3))) 6 (some (I n_3))), (fun _ => none), 0⟩ := by
  unfold clerestoryref2_NumberAt_j16 at h
  refine Sv.seq ?_
  refine Sv.region ?_
  refine un (a1 rfl ?_)
  refine un (a1 rfl ?_)
  refine un (a1 rfl ?_)
  refine un (a1 rfl ?_)
  refine dnil ?_
  refine Sv.ret ?_
  replace h := Option.some.inj h
  subst h
  exact ⟨_, .refl _, _, rfl, ⟨upd (fun _ => none) 0 (some (.tup [(I n_3), (I i_3)])), (fun _ => none), 0⟩, (.tup [(I n_3), (I i_3)]), weak_canon [] rfl List.nodup_nil (Nat.le_refl _) (fun b h => absurd h (Nat.not_lt_zero _)) (.cons rfl (avAs_tup (.cons (avAs_free rfl) (.cons (avAs_free rfl) .nil))) .nil) .nil, rfl, rfl, rfl, rfl⟩
noncomputable def clerestoryref2_NumberAt_j15 (s_ : (List UInt8)) (i_3 : Int) (n_2 : Int) (many : Int) : Option (Int × Int) :=
  if decide (many = 0) then
    some (0, 0)
  else
    (at? s_ 0).bind fun c_2 =>
    if decide ((c_2.toNat : Int) = 45) then
      clerestoryref2_NumberAt_j16 i_3 (wi (0 - n_2))
    else
      clerestoryref2_NumberAt_j16 i_3 n_2
theorem clerestoryref2_NumberAt_j15_ok {mL : Int} {s_ : (List UInt8)} {i_3 : Int} {n_2 : Int} {many : Int} {o : (Int × Int)} (h : clerestoryref2_NumberAt_j15 s_ i_3 n_2 many = some o) :
    Sv Tryd.prog (GG mL) 0 a24_c9 (Ends a24.results 0 (clerestoryref2_NumberAt_post o)) ⟨(upd (upd (upd (upd (fun _ => none) 0 (some (S s_))) 4 (some (I i_3))) 6 (some (I n_2))) 7 (some (I many))), (fun _ => none), 0⟩ := by
  unfold clerestoryref2_NumberAt_j15 at h
  refine Sv.seq ?_
  refine Sv.seq ?_
  refine Sv.region ?_
  refine un (a1 rfl ?_)
  refine un (a1 (v := (B (decide (many = 0)))) rfl ?_)
  refine dnil ?_
  refine Sv.cond (b := decide (many = 0)) rfl (fun hc3 => ?_) (fun hc3 => ?_)
  · replace h := ifT hc3 h
    refine Sv.seq ?_
    refine Sv.region ?_
    refine un (a1 rfl ?_)
    refine un (a1 rfl ?_)
    refine dnil ?_
    refine Sv.ret ?_
    replace h := Option.some.inj h
    subst h
    exact ⟨_, .refl _, _, rfl, ⟨upd (fun _ => none) 0 (some (.tup [(I 0), (I 0)])), (fun _ => none), 0⟩, (.tup [(I 0), (I 0)]), weak_canon [] rfl List.nodup_nil (Nat.le_refl _) (fun b h => absurd h (Nat.not_lt_zero _)) (.cons rfl (avAs_tup (.cons (avAs_free rfl) (.cons (avAs_free rfl) .nil))) .nil) .nil, rfl, rfl, rfl, rfl⟩
  · replace h := ifF hc3 h
    refine Sv.skip ?_
    refine Sv.seq ?_
    refine Sv.seq ?_
    refine Sv.region ?_
    refine un (a1 rfl ?_)
    obtain ⟨c_2, hx3, h⟩ := bnd h
    refine un (a1 (v := (.c (.val (.int .u8 (c_2.toNat : Int))))) (s_idxS rfl rfl hx3) ?_)
    refine un (a1 (v := (B (decide ((c_2.toNat : Int) = 45)))) rfl ?_)
    refine dnil ?_
    refine Sv.cond (b := decide ((c_2.toNat : Int) = 45)) rfl (fun hc4 => ?_) (fun hc4 => ?_)
    · replace h := ifT hc4 h
      refine Sv.region ?_
      refine un (a1 rfl ?_)
      refine un (a1 (v := (I (wi (0 - n_2)))) rfl ?_)
      refine un (a1 rfl ?_)
      refine dnil ?_
      exact Sv.weak (weak_canon [] rfl (by decide) (by decide) (fun b h => absurd h (Nat.not_lt_zero _)) (.cons rfl (avAs_free rfl) (.cons rfl (avAs_free rfl) .nil)) .nil) (clerestoryref2_NumberAt_j16_ok h)
    · replace h := ifF hc4 h
      refine Sv.skip ?_
      exact Sv.weak (weak_canon [] rfl (by decide) (by decide) (fun b h => absurd h (Nat.not_lt_zero _)) (.cons rfl (avAs_free rfl) (.cons rfl (avAs_free rfl) .nil)) .nil) (clerestoryref2_NumberAt_j16_ok h)
abbrev clerestoryref2_NumberAt_q1 (mL : Int) (Q : AExit → St → Prop) : AExit → St → Prop := AThen (Sv Tryd.prog (GG mL) 0 a24_c7 Q) Q
noncomputable def clerestoryref2_NumberAt_j20 (s_ : (List UInt8)) (i_4 : Int) (n_4 : Int) (unit : Int) (many1 : Int) (self : Int → Int → Int → Int → Option (Int × Int)) (K2_ : Int → Int → Int → Option (Int × Int)) (v74 : Bool) : Option (Int × Int) :=
  if v74 then
    (at? s_ i_4).bind fun c_3 =>
    self (wi (i_4 + 1)) (mn (wi (n_4 + (wi (unit * (wr .i64 (wr .u8 ((c_3.toNat : Int) - 48))))))) 1000000000) (wi (many1 + 1)) (wi (unit.tdiv 10))
  else
    K2_ i_4 n_4 many1
theorem clerestoryref2_NumberAt_j20_ok {mL : Int} {Q : AExit → St → Prop} {s_ : (List UInt8)} {i_4 : Int} {n_4 : Int} {unit : Int} {many1 : Int} {self : Int → Int → Int → Int → Option (Int × Int)} {K2_ : Int → Int → Int → Option (Int × Int)} {v74 : Bool} {o : (Int × Int)} (h : clerestoryref2_NumberAt_j20 s_ i_4 n_4 unit many1 self K2_ v74 = some o)
    (hself : ∀ (i_4 : Int) (n_4 : Int) (many1 : Int) (unit : Int), self i_4 n_4 many1 unit = some o → ∀ s, Weak 0 s ⟨(upd (upd (upd (upd (upd (fun _ => none) 0 (some (S s_))) 4 (some (I i_4))) 6 (some (I n_4))) 7 (some (I many1))) 8 (some (I unit))), (fun _ => none), 0⟩ → (Q) .normal s)
    (hK2 : ∀ (i_5 : Int) (n_5 : Int) (many2 : Int), K2_ i_5 n_5 many2 = some o → ∀ s, Weak 0 s ⟨(upd (upd (upd (upd (fun _ => none) 0 (some (S s_))) 4 (some (I i_5))) 6 (some (I n_5))) 7 (some (I many2))), (fun _ => none), 0⟩ → Q (.exit 2) s)
    (hr : ∀ s, Ends a24.results 0 (clerestoryref2_NumberAt_post o) .ret s → Q .ret s) :
    Sv Tryd.prog (GG mL) 0 a24_c6 (clerestoryref2_NumberAt_q1 mL Q) ⟨(upd (upd (upd (upd (upd (upd (fun _ => none) 0 (some (S s_))) 4 (some (I i_4))) 6 (some (I n_4))) 7 (some (I many1))) 8 (some (I unit))) 74 (some (B v74))), (fun _ => none), 0⟩ := by
  unfold clerestoryref2_NumberAt_j20 at h
  refine Sv.cond (b := v74) rfl (fun hc6 => ?_) (fun hc6 => ?_)
  · replace h := ifT hc6 h
    refine Sv.skip ?_
    refine Sv.block ?_
    refine Sv.seq ?_
    refine Sv.region ?_
    refine un (a1 rfl ?_)
    refine un (a1 rfl ?_)
    refine un (a1 rfl ?_)
    refine un (a1 rfl ?_)
    obtain ⟨c_3, hx4, h⟩ := bnd h
    refine un (a1 (v := (.c (.val (.int .u8 (c_3.toNat : Int))))) (s_idxS rfl rfl hx4) ?_)
    refine un (a1 (v := (.c (.val (.int .u8 (wr .u8 ((c_3.toNat : Int) - 48)))))) rfl ?_)
    refine un (a1 (v := (I (wr .i64 (wr .u8 ((c_3.toNat : Int) - 48))))) rfl ?_)
    refine un (a1 (v := (I (wi (unit * (wr .i64 (wr .u8 ((c_3.toNat : Int) - 48))))))) rfl ?_)
    refine un (a1 (v := (I (wi (n_4 + (wi (unit * (wr .i64 (wr .u8 ((c_3.toNat : Int) - 48))))))))) rfl ?_)
    refine un (a1 (v := (I (mn (wi (n_4 + (wi (unit * (wr .i64 (wr .u8 ((c_3.toNat : Int) - 48))))))) 1000000000))) (s_mn rfl rfl) ?_)
    refine un (a1 rfl ?_)
    refine dnil ?_
    refine Sv.seq ?_
    refine Sv.region ?_
    refine un (a1 rfl ?_)
    refine un (a1 (v := (I (wi (unit.tdiv 10)))) rfl ?_)
    refine un (a1 rfl ?_)
    refine dnil ?_
    refine Sv.seq ?_
    refine Sv.region ?_
    refine un (a1 rfl ?_)
    refine un (a1 (v := (I (wi (many1 + 1)))) rfl ?_)
    refine un (a1 rfl ?_)
    refine dnil ?_
    refine Sv.region ?_
    refine un (a1 rfl ?_)
    refine un (a1 (v := (I (wi (i_4 + 1)))) rfl ?_)
    refine un (a1 rfl ?_)
    refine dnil ?_
    exact hself (wi (i_4 + 1)) (mn (wi (n_4 + (wi (unit * (wr .i64 (wr .u8 ((c_3.toNat : Int) - 48))))))) 1000000000) (wi (many1 + 1)) (wi (unit.tdiv 10)) h _ (weak_canon [] rfl (by decide) (by decide) (fun b h => absurd h (Nat.not_lt_zero _)) (.cons rfl (avAs_free rfl) (.cons rfl (avAs_free rfl) (.cons rfl (avAs_free rfl) (.cons rfl (avAs_free rfl) (.cons rfl (avAs_free rfl) .nil))))) .nil)
  · replace h := ifF hc6 h
    refine Sv.exit ?_
    exact hK2 i_4 n_4 many1 h _ (weak_canon [] rfl (by decide) (by decide) (fun b h => absurd h (Nat.not_lt_zero _)) (.cons rfl (avAs_free rfl) (.cons rfl (avAs_free rfl) (.cons rfl (avAs_free rfl) (.cons rfl (avAs_free rfl) .nil)))) .nil)
noncomputable def clerestoryref2_NumberAt_l3 (s_ : (List UInt8)) (K2_ : Int → Int → Int → Option (Int × Int)) : Nat → Int → Int → Int → Int → Option (Int × Int)
  | 0, _, _, _, _ => none
  | k + 1, i_4, n_4, many1, unit =>
    if decide (i_4 < (s_.length : Int)) then
      (at? s_ i_4).bind fun c_4 =>
      clerestoryref2_NumberAt_j20 s_ i_4 n_4 unit many1 (clerestoryref2_NumberAt_l3 s_ K2_ k) K2_ (clerestoryref2_digit (c_4.toNat : Int))
    else
      clerestoryref2_NumberAt_j20 s_ i_4 n_4 unit many1 (clerestoryref2_NumberAt_l3 s_ K2_ k) K2_ false
theorem clerestoryref2_NumberAt_l3_ok {mL : Int} {Q : AExit → St → Prop} {s_ : (List UInt8)} {K2_ : Int → Int → Int → Option (Int × Int)} {k : Nat} {i_4 : Int} {n_4 : Int} {many1 : Int} {unit : Int} {o : (Int × Int)} (h : clerestoryref2_NumberAt_l3 s_ K2_ k i_4 n_4 many1 unit = some o)
    (hK2 : ∀ (i_5 : Int) (n_5 : Int) (many2 : Int), K2_ i_5 n_5 many2 = some o → ∀ s, Weak 0 s ⟨(upd (upd (upd (upd (fun _ => none) 0 (some (S s_))) 4 (some (I i_5))) 6 (some (I n_5))) 7 (some (I many2))), (fun _ => none), 0⟩ → Q (.exit 2) s)
    (hr : ∀ s, Ends a24.results 0 (clerestoryref2_NumberAt_post o) .ret s → Q .ret s) :
    Sv Tryd.prog (GG mL) 0 (.loop a24_c8) Q ⟨(upd (upd (upd (upd (upd (fun _ => none) 0 (some (S s_))) 4 (some (I i_4))) 6 (some (I n_4))) 7 (some (I many1))) 8 (some (I unit))), (fun _ => none), 0⟩ := by
  refine Sv.loop (I := fun k s => ∃ (i_4 : Int), ∃ (n_4 : Int), ∃ (many1 : Int), ∃ (unit : Int), clerestoryref2_NumberAt_l3 s_ K2_ k i_4 n_4 many1 unit = some o ∧ s = ⟨(upd (upd (upd (upd (upd (fun _ => none) 0 (some (S s_))) 4 (some (I i_4))) 6 (some (I n_4))) 7 (some (I many1))) 8 (some (I unit))), (fun _ => none), 0⟩) (fun k s hI => ?_) ⟨i_4, n_4, many1, unit, h, rfl⟩
  clear h
  clear unit many1 n_4 i_4
  obtain ⟨i_4, n_4, many1, unit, h, rfl⟩ := hI
  cases k with
  | zero => cases h
  | succ k =>
  rw [clerestoryref2_NumberAt_l3] at h
  have hself : ∀ (i_4 : Int) (n_4 : Int) (many1 : Int) (unit : Int), (clerestoryref2_NumberAt_l3 s_ K2_ k) i_4 n_4 many1 unit = some o → ∀ s, Weak 0 s ⟨(upd (upd (upd (upd (upd (fun _ => none) 0 (some (S s_))) 4 (some (I i_4))) 6 (some (I n_4))) 7 (some (I many1))) 8 (some (I unit))), (fun _ => none), 0⟩ → (AThen (fun s' => ∃ s'' k', Weak 0 s' s'' ∧ k' < k + 1 ∧ (fun k s => ∃ (i_4 : Int), ∃ (n_4 : Int), ∃ (many1 : Int), ∃ (unit : Int), clerestoryref2_NumberAt_l3 s_ K2_ k i_4 n_4 many1 unit = some o ∧ s = ⟨(upd (upd (upd (upd (upd (fun _ => none) 0 (some (S s_))) 4 (some (I i_4))) 6 (some (I n_4))) 7 (some (I many1))) 8 (some (I unit))), (fun _ => none), 0⟩) k' s'') Q) .normal s := fun i_4 n_4 many1 unit h s hw => ⟨_, k, hw, Nat.lt_succ_self k, i_4, n_4, many1, unit, h, rfl⟩
  refine Sv.seq ?_
  refine Sv.seq ?_
  refine Sv.region ?_
  refine un (a1 rfl ?_)
  refine un (a1 rfl ?_)
  refine un (a1 (v := (I (s_.length : Int))) rfl ?_)
  refine un (a1 (v := (B (decide (i_4 < (s_.length : Int))))) rfl ?_)
  refine un (a1 rfl ?_)
  refine split2 (fun hc7 => ?_) (fun hc7 => ?_)
  · replace h := ifT hc7 h
    refine gt rfl (a1 rfl ?_)
    refine gt rfl (a1 rfl ?_)
    obtain ⟨c_4, hx5, h⟩ := bnd h
    refine gt rfl (a1 (v := (.c (.val (.int .u8 (c_4.toNat : Int))))) (s_idxS rfl rfl hx5) ?_)
    refine gt rfl (ac_pure (clerestoryref2_digit_ok (mL := mL) (c_4.toNat : Int)) rfl rfl rfl ?_)
    refine un (a1 (v := (B (clerestoryref2_digit (c_4.toNat : Int)))) rfl ?_)
    refine dnil ?_
    exact Sv.weak (weak_canon [] rfl (by decide) (by decide) (fun b h => absurd h (Nat.not_lt_zero _)) (.cons rfl (avAs_free rfl) (.cons rfl (avAs_free rfl) (.cons rfl (avAs_free rfl) (.cons rfl (avAs_free rfl) (.cons rfl (avAs_free rfl) (.cons rfl (avAs_free rfl) .nil)))))) .nil) (clerestoryref2_NumberAt_j20_ok h hself hK2 hr)
  · replace h := ifF hc7 h
    refine gs rfl rfl ?_
    refine gs rfl rfl ?_
    refine gs rfl rfl ?_
    refine gs rfl rfl ?_
    refine un (a1 (v := (B false)) rfl ?_)
    refine dnil ?_
    exact Sv.weak (weak_canon [] rfl (by decide) (by decide) (fun b h => absurd h (Nat.not_lt_zero _)) (.cons rfl (avAs_free rfl) (.cons rfl (avAs_free rfl) (.cons rfl (avAs_free rfl) (.cons rfl (avAs_free rfl) (.cons rfl (avAs_free rfl) (.cons rfl (avAs_free rfl) .nil)))))) .nil) (clerestoryref2_NumberAt_j20_ok h hself hK2 hr)
abbrev clerestoryref2_NumberAt_q2 (mL : Int) (o : (Int × Int)) : AExit → St → Prop := AThen (Sv Tryd.prog (GG mL) 0 a24_c9 (Ends a24.results 0 (clerestoryref2_NumberAt_post o))) (Ends a24.results 0 (clerestoryref2_NumberAt_post o))
noncomputable def clerestoryref2_NumberAt_j17 (s_ : (List UInt8)) (i_2 : Int) (n_1 : Int) (i_ : Int) (v62 : Bool) : Option (Int × Int) :=
  if v62 then
    lim fun kk => clerestoryref2_NumberAt_l3 s_ (fun (i_5 : Int) (n_5 : Int) (many2 : Int) => 
        clerestoryref2_NumberAt_j15 s_ i_5 n_5 many2) kk (wi (i_2 + 1)) (mn (wi (1000 * n_1)) 1000000000) (wi (i_2 - i_)) 100
  else
    clerestoryref2_NumberAt_j15 s_ i_2 (mn (wi (1000 * n_1)) 1000000000) (wi (i_2 - i_))
theorem clerestoryref2_NumberAt_j17_ok {mL : Int} {s_ : (List UInt8)} {i_2 : Int} {n_1 : Int} {i_ : Int} {v62 : Bool} {o : (Int × Int)} (h : clerestoryref2_NumberAt_j17 s_ i_2 n_1 i_ v62 = some o) :
    Sv Tryd.prog (GG mL) 0 a24_c5 (clerestoryref2_NumberAt_q2 mL o) ⟨(upd (upd (upd (upd (upd (fun _ => none) 0 (some (S s_))) 4 (some (I i_2))) 6 (some (I (mn (wi (1000 * n_1)) 1000000000)))) 7 (some (I (wi (i_2 - i_))))) 62 (some (B v62))), (fun _ => none), 0⟩ := by
  unfold clerestoryref2_NumberAt_j17 at h
  refine Sv.cond (b := v62) rfl (fun hc5 => ?_) (fun hc5 => ?_)
  · replace h := ifT hc5 h
    refine Sv.seq ?_
    refine Sv.region ?_
    refine un (a1 rfl ?_)
    refine un (a1 (v := (I (wi (i_2 + 1)))) rfl ?_)
    refine un (a1 rfl ?_)
    refine dnil ?_
    refine Sv.seq ?_
    refine Sv.region ?_
    refine un (a1 rfl ?_)
    refine dnil ?_
    refine Sv.block ?_
    obtain ⟨kk, h⟩ := lim_some h
    refine Sv.weak (weak_canon [] rfl (by decide) (by decide) (fun b h => absurd h (Nat.not_lt_zero _)) (.cons rfl (avAs_free rfl) (.cons rfl (avAs_free rfl) (.cons rfl (avAs_free rfl) (.cons rfl (avAs_free rfl) (.cons rfl (avAs_free rfl) .nil))))) .nil) (clerestoryref2_NumberAt_l3_ok h ?_ (fun s hs => hs))
    · intro i_5 n_5 many2 h _ hw2
      exact Sv.weak (hw2.trans (weak_canon [] rfl (by decide) (by decide) (fun b h => absurd h (Nat.not_lt_zero _)) (.cons rfl (avAs_free rfl) (.cons rfl (avAs_free rfl) (.cons rfl (avAs_free rfl) (.cons rfl (avAs_free rfl) .nil)))) .nil)) (clerestoryref2_NumberAt_j15_ok h)
  · replace h := ifF hc5 h
    refine Sv.skip ?_
    exact Sv.weak (weak_canon [] rfl (by decide) (by decide) (fun b h => absurd h (Nat.not_lt_zero _)) (.cons rfl (avAs_free rfl) (.cons rfl (avAs_free rfl) (.cons rfl (avAs_free rfl) (.cons rfl (avAs_free rfl) .nil)))) .nil) (clerestoryref2_NumberAt_j15_ok h)
noncomputable def clerestoryref2_NumberAt_j3 (s_ : (List UInt8)) (i_ : Int) : Option (Int × Int) :=
  lim fun kk1 => clerestoryref2_NumberAt_l0 s_ i_ (fun (i_2 : Int) (n_1 : Int) => 
      (clerestoryref2_at s_ i_2).bind fun r_ =>
      if ((decide (r_ = 46)) && (decide ((wi (i_2 + 1)) < (s_.length : Int)))) then
        (at? s_ (wi (i_2 + 1))).bind fun c_5 =>
        clerestoryref2_NumberAt_j17 s_ i_2 n_1 i_ (clerestoryref2_digit (c_5.toNat : Int))
      else
        clerestoryref2_NumberAt_j17 s_ i_2 n_1 i_ false) kk1 i_ 0
theorem clerestoryref2_NumberAt_j3_ok {mL : Int} {s_ : (List UInt8)} {i_ : Int} {o : (Int × Int)} (h : clerestoryref2_NumberAt_j3 s_ i_ = some o) :
    Sv Tryd.prog (GG mL) 0 a24_c1 (Ends a24.results 0 (clerestoryref2_NumberAt_post o)) ⟨(upd (upd (fun _ => none) 0 (some (S s_))) 4 (some (I i_))), (fun _ => none), 0⟩ := by
  unfold clerestoryref2_NumberAt_j3 at h
  refine Sv.seq ?_
  refine Sv.region ?_
  refine un (a1 rfl ?_)
  refine un (a1 rfl ?_)
  refine dnil ?_
  refine Sv.seq ?_
  refine Sv.region ?_
  refine un (a1 rfl ?_)
  refine dnil ?_
  refine Sv.seq ?_
  refine Sv.block ?_
  obtain ⟨kk1, h⟩ := lim_some h
  refine Sv.weak (weak_canon [] rfl (by decide) (by decide) (fun b h => absurd h (Nat.not_lt_zero _)) (.cons rfl (avAs_free rfl) (.cons rfl (avAs_free rfl) (.cons rfl (avAs_free rfl) (.cons rfl (avAs_free rfl) .nil)))) .nil) (clerestoryref2_NumberAt_l0_ok h ?_ (fun s hs => hs))
  · intro i_2 n_1 h _ hw1
    refine Sv.weak hw1 ?_
    refine Sv.seq ?_
    refine Sv.region ?_
    refine un (a1 rfl ?_)
    refine un (a1 rfl ?_)
    refine un (a1 (v := (I (wi (i_2 - i_)))) rfl ?_)
    refine un (a1 rfl ?_)
    refine dnil ?_
    refine Sv.seq ?_
    refine Sv.region ?_
    refine un (a1 rfl ?_)
    refine un (a1 (v := (I (wi (1000 * n_1)))) rfl ?_)
    refine un (a1 (v := (I (mn (wi (1000 * n_1)) 1000000000))) (s_mn rfl rfl) ?_)
    refine un (a1 rfl ?_)
    refine dnil ?_
    refine Sv.seq ?_
    refine Sv.seq ?_
    refine Sv.region ?_
    refine un (a1 rfl ?_)
    refine un (a1 rfl ?_)
    obtain ⟨r_, hr1, h⟩ := bnd h
    refine un (ac_pure (clerestoryref2_at_ok hr1) rfl rfl rfl ?_)
    refine un (a1 (v := (B (decide (r_ = 46)))) rfl ?_)
    refine un (a1 rfl ?_)
    refine gjoin 6 (d := 55) (v := (B ((decide (r_ = 46)) && (decide ((wi (i_2 + 1)) < (s_.length : Int)))))) (fun X hX => ?_) ?_
    · refine split2 (fun hc8 => ?_) (fun hc8 => ?_)
      · refine gt rfl (a1 rfl ?_)
        refine gt rfl (a1 (v := (I (wi (i_2 + 1)))) rfl ?_)
        refine gt rfl (a1 rfl ?_)
        refine gt rfl (a1 (v := (I (s_.length : Int))) rfl ?_)
        refine gt rfl (a1 (v := (B (decide ((wi (i_2 + 1)) < (s_.length : Int))))) rfl ?_)
        refine un (a1 (v := (B (decide ((wi (i_2 + 1)) < (s_.length : Int))))) rfl ?_)
        refine dnil ?_
        exact hX _ (.putEq (by rw [hc8]; rfl) (.skip _ _ (.skip _ _ (.skip _ _ (.skip _ _ (.skip _ _ (.putEq (by rw [hc8]) (.refl _)) rfl) rfl) rfl) rfl) rfl))
      · refine gs rfl rfl ?_
        refine gs rfl rfl ?_
        refine gs rfl rfl ?_
        refine gs rfl rfl ?_
        refine gs rfl rfl ?_
        refine un (a1 (v := (B false)) rfl ?_)
        refine dnil ?_
        exact hX _ (.putEq (by rw [hc8]; rfl) (.skip _ _ (.skip _ _ (.skip _ _ (.skip _ _ (.skip _ _ (.putEq (by rw [hc8]) (.refl _)) rfl) rfl) rfl) rfl) rfl))
    refine un (a1 rfl ?_)
    refine split2 (fun hc9 => ?_) (fun hc9 => ?_)
    · replace h := ifT hc9 h
      refine gt rfl (a1 rfl ?_)
      refine gt rfl (a1 rfl ?_)
      refine gt rfl (a1 (v := (I (wi (i_2 + 1)))) rfl ?_)
      obtain ⟨c_5, hx6, h⟩ := bnd h
      refine gt rfl (a1 (v := (.c (.val (.int .u8 (c_5.toNat : Int))))) (s_idxS rfl rfl hx6) ?_)
      refine gt rfl (ac_pure (clerestoryref2_digit_ok (mL := mL) (c_5.toNat : Int)) rfl rfl rfl ?_)
      refine un (a1 (v := (B (clerestoryref2_digit (c_5.toNat : Int)))) rfl ?_)
      refine dnil ?_
      exact Sv.weak (weak_canon [] rfl (by decide) (by decide) (fun b h => absurd h (Nat.not_lt_zero _)) (.cons rfl (avAs_free rfl) (.cons rfl (avAs_free rfl) (.cons rfl (avAs_free rfl) (.cons rfl (avAs_free rfl) (.cons rfl (avAs_free rfl) .nil))))) .nil) (clerestoryref2_NumberAt_j17_ok h)
    · replace h := ifF hc9 h
      refine gs rfl rfl ?_
      refine gs rfl rfl ?_
      refine gs rfl rfl ?_
      refine gs rfl rfl ?_
      refine gs rfl rfl ?_
      refine un (a1 (v := (B false)) rfl ?_)
      refine dnil ?_
      exact Sv.weak (weak_canon [] rfl (by decide) (by decide) (fun b h => absurd h (Nat.not_lt_zero _)) (.cons rfl (avAs_free rfl) (.cons rfl (avAs_free rfl) (.cons rfl (avAs_free rfl) (.cons rfl (avAs_free rfl) (.cons rfl (avAs_free rfl) .nil))))) .nil) (clerestoryref2_NumberAt_j17_ok h)
abbrev clerestoryref2_NumberAt_q3 (mL : Int) (o : (Int × Int)) : AExit → St → Prop := AThen (Sv Tryd.prog (GG mL) 0 a24_c1 (Ends a24.results 0 (clerestoryref2_NumberAt_post o))) (Ends a24.results 0 (clerestoryref2_NumberAt_post o))
noncomputable def clerestoryref2_NumberAt_j21 (s_ : (List UInt8)) (v16 : Bool) : Option (Int × Int) :=
  if v16 then
    clerestoryref2_NumberAt_j3 s_ 1
  else
    clerestoryref2_NumberAt_j3 s_ 0
theorem clerestoryref2_NumberAt_j21_ok {mL : Int} {s_ : (List UInt8)} {v16 : Bool} {o : (Int × Int)} (h : clerestoryref2_NumberAt_j21 s_ v16 = some o) :
    Sv Tryd.prog (GG mL) 0 a24_c0 (clerestoryref2_NumberAt_q3 mL o) ⟨(upd (upd (upd (fun _ => none) 0 (some (S s_))) 4 (some (I 0))) 16 (some (B v16))), (fun _ => none), 0⟩ := by
  unfold clerestoryref2_NumberAt_j21 at h
  refine Sv.cond (b := v16) rfl (fun hc10 => ?_) (fun hc10 => ?_)
  · replace h := ifT hc10 h
    refine Sv.region ?_
    refine un (a1 rfl ?_)
    refine dnil ?_
    exact Sv.weak (weak_canon [] rfl (by decide) (by decide) (fun b h => absurd h (Nat.not_lt_zero _)) (.cons rfl (avAs_free rfl) (.cons rfl (avAs_free rfl) .nil)) .nil) (clerestoryref2_NumberAt_j3_ok h)
  · replace h := ifF hc10 h
    refine Sv.skip ?_
    exact Sv.weak (weak_canon [] rfl (by decide) (by decide) (fun b h => absurd h (Nat.not_lt_zero _)) (.cons rfl (avAs_free rfl) (.cons rfl (avAs_free rfl) .nil)) .nil) (clerestoryref2_NumberAt_j3_ok h)
/-- clerestory/clerestoryref2.NumberAt -/
noncomputable def clerestoryref2_NumberAt (s_ : (List UInt8)) : Option (Int × Int) :=
  (clerestoryref2_at s_ 0).bind fun r_1 =>
  if decide (r_1 = 43) then
    clerestoryref2_NumberAt_j21 s_ true
  else
    (clerestoryref2_at s_ 0).bind fun r_2 =>
    clerestoryref2_NumberAt_j21 s_ (decide (r_2 = 45))
theorem clerestoryref2_NumberAt_ok {mL : Int} {s_ : (List UInt8)} {r : (Int × Int)} (h : clerestoryref2_NumberAt s_ = some r) : CPure Tryd.prog (GG mL) 24 [(S s_)] (.tup [(I r.1), (I r.2)]) := by
  refine acalls_of_sv hmix c24 (R := clerestoryref2_NumberAt_post r) ?_
  unfold clerestoryref2_NumberAt at h
  refine Sv.seq ?_
  refine Sv.region ?_
  refine un (a1 rfl ?_)
  refine un (a1 rfl ?_)
  refine dnil ?_
  refine Sv.seq ?_
  refine Sv.region ?_
  refine un (a1 rfl ?_)
  refine dnil ?_
  refine Sv.seq ?_
  refine Sv.seq ?_
  refine Sv.region ?_
  refine un (a1 rfl ?_)
  obtain ⟨r_1, hr2, h⟩ := bnd h
  refine un (ac_pure (clerestoryref2_at_ok hr2) rfl rfl rfl ?_)
  refine un (a1 (v := (B (decide (r_1 = 43)))) rfl ?_)
  refine un (a1 rfl ?_)
  refine split2 (fun hc11 => ?_) (fun hc11 => ?_)
  · replace h := ifT hc11 h
    refine gs rfl rfl ?_
    refine gs rfl rfl ?_
    refine gs rfl rfl ?_
    refine un (a1 (v := (B true)) rfl ?_)
    refine dnil ?_
    exact Sv.weak (weak_canon [] rfl (by decide) (by decide) (fun b h => absurd h (Nat.not_lt_zero _)) (.cons rfl (avAs_free rfl) (.cons rfl (avAs_free rfl) (.cons rfl (avAs_free rfl) .nil))) .nil) (clerestoryref2_NumberAt_j21_ok h)
  · replace h := ifF hc11 h
    refine gt rfl (a1 rfl ?_)
    obtain ⟨r_2, hr3, h⟩ := bnd h
    refine gt rfl (ac_pure (clerestoryref2_at_ok hr3) rfl rfl rfl ?_)
    refine gt rfl (a1 (v := (B (decide (r_2 = 45)))) rfl ?_)
    refine un (a1 (v := (B (decide (r_2 = 45)))) rfl ?_)
    refine dnil ?_
    exact Sv.weak (weak_canon [] rfl (by decide) (by decide) (fun b h => absurd h (Nat.not_lt_zero _)) (.cons rfl (avAs_free rfl) (.cons rfl (avAs_free rfl) (.cons rfl (avAs_free rfl) .nil))) .nil) (clerestoryref2_NumberAt_j21_ok h)
def a158 : AFunc := ⟨1, [(.tmp 2)], (.seq (.region [⟨(some 2), (.mov (.const (.c (.val (.bool false))))), none⟩])
 (.seq (.region [⟨(some 3), (.mov (.tmp 0)), none⟩, ⟨(some 4), (.bin .geq (.tmp 3) (.const (.c (.val (.int .u8 97))))), none⟩, ⟨(some 5), (.mov (.tmp 4)), none⟩, ⟨(some 6), (.mov (.tmp 0)), (some (5, true))⟩, ⟨(some 7), (.bin .leq (.tmp 6) (.const (.c (.val (.int .u8 122))))), (some (5, true))⟩, ⟨(some 8), (.pick (.tmp 5) (.tmp 7) (.const (.c (.val (.bool false))))), none⟩, ⟨(some 9), (.mov (.tmp 8)), none⟩, ⟨(some 10), (.mov (.tmp 0)), (some (9, false))⟩, ⟨(some 11), (.bin .geq (.tmp 10) (.const (.c (.val (.int .u8 65))))), (some (9, false))⟩, ⟨(some 12), (.mov (.tmp 11)), (some (9, false))⟩, ⟨(some 13), (.mov (.tmp 0)), (some (12, true))⟩, ⟨(some 14), (.bin .leq (.tmp 13) (.const (.c (.val (.int .u8 90))))), (some (12, true))⟩, ⟨(some 15), (.pick (.tmp 12) (.tmp 14) (.const (.c (.val (.bool false))))), (some (9, false))⟩, ⟨(some 16), (.pick (.tmp 9) (.const (.c (.val (.bool true)))) (.tmp 15)), none⟩, ⟨(some 17), (.mov (.tmp 16)), none⟩, ⟨(some 18), (.mov (.tmp 0)), (some (17, false))⟩, ⟨(some 19), (.bin .eql (.tmp 18) (.const (.c (.val (.int .u8 95))))), (some (17, false))⟩, ⟨(some 20), (.pick (.tmp 17) (.const (.c (.val (.bool true)))) (.tmp 19)), none⟩, ⟨(some 21), (.mov (.tmp 20)), none⟩, ⟨(some 22), (.mov (.tmp 0)), (some (21, false))⟩, ⟨(some 23), (.bin .geq (.tmp 22) (.const (.c (.val (.int .u8 128))))), (some (21, false))⟩, ⟨(some 24), (.pick (.tmp 21) (.const (.c (.val (.bool true)))) (.tmp 23)), none⟩, ⟨(some 2), (.mov (.tmp 24)), none⟩])
 .ret))⟩
set_option maxRecDepth 100000 in
theorem c158 : compFunc Tryd.prog 158 = some a158 := by kernel_rfl
def clerestoryref2_letter_post (r : Bool) : AV → Heap → Nat → Prop := fun v h' n' => v = (B r) ∧ (h' = (fun _ => none)) ∧ n' = 0
/-- clerestory/clerestoryref2.letter -/
def clerestoryref2_letter (c_ : Int) : Bool :=
  (((((decide (97 ≤ c_)) && (decide (c_ ≤ 122))) || ((decide (65 ≤ c_)) && (decide (c_ ≤ 90)))) || (decide (c_ = 95))) || (decide (128 ≤ c_)))
theorem clerestoryref2_letter_ok {mL : Int} (c_ : Int) : CPure Tryd.prog (GG mL) 158 [(.c (.val (.int .u8 c_)))] (B (clerestoryref2_letter c_)) := by
  generalize h : clerestoryref2_letter c_ = o
  refine acalls_of_sv hmix c158 (R := clerestoryref2_letter_post o) ?_
  unfold clerestoryref2_letter at h
  refine Sv.seq ?_
  refine Sv.region ?_
  refine un (a1 rfl ?_)
  refine dnil ?_
  refine Sv.seq ?_
  refine Sv.region ?_
  refine un (a1 rfl ?_)
  refine un (a1 (v := (B (decide (97 ≤ c_)))) rfl ?_)
  refine un (a1 rfl ?_)
  refine gjoin 3 (d := 8) (v := (B ((decide (97 ≤ c_)) && (decide (c_ ≤ 122))))) (fun X hX => ?_) ?_
  · refine split2 (fun hc1 => ?_) (fun hc1 => ?_)
    · refine gt rfl (a1 rfl ?_)
      refine gt rfl (a1 (v := (B (decide (c_ ≤ 122)))) rfl ?_)
      refine un (a1 (v := (B (decide (c_ ≤ 122)))) rfl ?_)
      refine dnil ?_
      exact hX _ (.putEq (by rw [hc1]; rfl) (.skip _ _ (.skip _ _ (.putEq (by rw [hc1]) (.refl _)) rfl) rfl))
    · refine gs rfl rfl ?_
      refine gs rfl rfl ?_
      refine un (a1 (v := (B false)) rfl ?_)
      refine dnil ?_
      exact hX _ (.putEq (by rw [hc1]; rfl) (.skip _ _ (.skip _ _ (.putEq (by rw [hc1]) (.refl _)) rfl) rfl))
  refine un (a1 rfl ?_)
  refine gjoin 7 (d := 16) (v := (B (((decide (97 ≤ c_)) && (decide (c_ ≤ 122))) || ((decide (65 ≤ c_)) && (decide (c_ ≤ 90)))))) (fun X hX => ?_) ?_
  · refine split2 (fun hc3 => ?_) (fun hc3 => ?_)
    · refine gs rfl rfl ?_
      refine gs rfl rfl ?_
      refine gs rfl rfl ?_
      refine gu rfl ?_
      refine gu rfl ?_
      refine gs rfl rfl ?_
      refine un (a1 (v := (B true)) rfl ?_)
      refine dnil ?_
      exact hX _ (.putEq (by rw [hc3]; rfl) (.skip _ _ (.skip _ _ (.skip _ _ (.skip _ _ (.skip _ _ (.skip _ _ (.putEq (by rw [hc3]) (.refl _)) rfl) rfl) rfl) rfl) rfl) rfl))
    · refine gt rfl (a1 rfl ?_)
      refine gt rfl (a1 (v := (B (decide (65 ≤ c_)))) rfl ?_)
      refine gt rfl (a1 rfl ?_)
      refine gjoin 3 (d := 15) (v := (B ((decide (65 ≤ c_)) && (decide (c_ ≤ 90))))) (fun X hX => ?_) ?_
      · refine split2 (fun hc2 => ?_) (fun hc2 => ?_)
        · refine gt rfl (a1 rfl ?_)
          refine gt rfl (a1 (v := (B (decide (c_ ≤ 90)))) rfl ?_)
          refine gt rfl (a1 (v := (B (decide (c_ ≤ 90)))) rfl ?_)
          refine dnil ?_
          exact hX _ (.putEq (by rw [hc2]; rfl) (.skip _ _ (.skip _ _ (.putEq (by rw [hc2]) (.refl _)) rfl) rfl))
        · refine gs rfl rfl ?_
          refine gs rfl rfl ?_
          refine gt rfl (a1 (v := (B false)) rfl ?_)
          refine dnil ?_
          exact hX _ (.putEq (by rw [hc2]; rfl) (.skip _ _ (.skip _ _ (.putEq (by rw [hc2]) (.refl _)) rfl) rfl))
      refine un (a1 (v := (B ((decide (65 ≤ c_)) && (decide (c_ ≤ 90))))) rfl ?_)
      refine dnil ?_
      exact hX _ (.putEq (by rw [hc3]; rfl) (.skip _ _ (.skip _ _ (.skip _ _ (.skip _ _ (.putEq (by rw [hc3]) (.refl _)) rfl) rfl) rfl) rfl))
  refine un (a1 rfl ?_)
  refine gjoin 3 (d := 20) (v := (B ((((decide (97 ≤ c_)) && (decide (c_ ≤ 122))) || ((decide (65 ≤ c_)) && (decide (c_ ≤ 90)))) || (decide (c_ = 95))))) (fun X hX => ?_) ?_
  · refine split2 (fun hc4 => ?_) (fun hc4 => ?_)
    · refine gs rfl rfl ?_
      refine gs rfl rfl ?_
      refine un (a1 (v := (B true)) rfl ?_)
      refine dnil ?_
      exact hX _ (.putEq (by rw [hc4]; rfl) (.skip _ _ (.skip _ _ (.putEq (by rw [hc4]) (.refl _)) rfl) rfl))
    · refine gt rfl (a1 rfl ?_)
      refine gt rfl (a1 (v := (B (decide (c_ = 95)))) rfl ?_)
      refine un (a1 (v := (B (decide (c_ = 95)))) rfl ?_)
      refine dnil ?_
      exact hX _ (.putEq (by rw [hc4]; rfl) (.skip _ _ (.skip _ _ (.putEq (by rw [hc4]) (.refl _)) rfl) rfl))
  refine un (a1 rfl ?_)
  refine gjoin 3 (d := 24) (v := (B (((((decide (97 ≤ c_)) && (decide (c_ ≤ 122))) || ((decide (65 ≤ c_)) && (decide (c_ ≤ 90)))) || (decide (c_ = 95))) || (decide (128 ≤ c_))))) (fun X hX => ?_) ?_
  · refine split2 (fun hc5 => ?_) (fun hc5 => ?_)
    · refine gs rfl rfl ?_
      refine gs rfl rfl ?_
      refine un (a1 (v := (B true)) rfl ?_)
      refine dnil ?_
      exact hX _ (.putEq (by rw [hc5]; rfl) (.skip _ _ (.skip _ _ (.putEq (by rw [hc5]) (.refl _)) rfl) rfl))
    · refine gt rfl (a1 rfl ?_)
      refine gt rfl (a1 (v := (B (decide (128 ≤ c_)))) rfl ?_)
      refine un (a1 (v := (B (decide (128 ≤ c_)))) rfl ?_)
      refine dnil ?_
      exact hX _ (.putEq (by rw [hc5]; rfl) (.skip _ _ (.skip _ _ (.putEq (by rw [hc5]) (.refl _)) rfl) rfl))
  refine un (a1 rfl ?_)
  refine dnil ?_
  refine Sv.ret ?_
  subst h
  exact ⟨_, .refl _, _, rfl, ⟨upd (fun _ => none) 0 (some (B (((((decide (97 ≤ c_)) && (decide (c_ ≤ 122))) || ((decide (65 ≤ c_)) && (decide (c_ ≤ 90)))) || (decide (c_ = 95))) || (decide (128 ≤ c_))))), (fun _ => none), 0⟩, (B (((((decide (97 ≤ c_)) && (decide (c_ ≤ 122))) || ((decide (65 ≤ c_)) && (decide (c_ ≤ 90)))) || (decide (c_ = 95))) || (decide (128 ≤ c_)))), weak_canon [] rfl List.nodup_nil (Nat.le_refl _) (fun b h => absurd h (Nat.not_lt_zero _)) (.cons rfl (avAs_free rfl) .nil) .nil, rfl, rfl, rfl, rfl⟩
def a122_c0 : ACode := .ret
def a122 : AFunc := ⟨2, [(.tmp 4)], (.seq (.region [⟨(some 4), (.mov (.const (.c (.val (.bool false))))), none⟩])
 (.seq (.region [⟨(some 5), (.mov (.tmp 0)), none⟩, ⟨(some 6), (.mov (.tmp 1)), none⟩, ⟨(some 7), (.call 68 [(.tmp 5), (.tmp 6)]), none⟩, ⟨(some 8), (.bin .eql (.tmp 7) (.const (.c (.val (.int .u8 92))))), none⟩, ⟨(some 9), (.mov (.tmp 8)), none⟩, ⟨(some 10), (.mov (.tmp 1)), (some (9, true))⟩, ⟨(some 11), (.bin .add (.tmp 10) (.const (.c (.val (.int .i64 1))))), (some (9, true))⟩, ⟨(some 12), (.mov (.tmp 0)), (some (9, true))⟩, ⟨(some 13), (.lenS (.tmp 12)), (some (9, true))⟩, ⟨(some 14), (.bin .lss (.tmp 11) (.tmp 13)), (some (9, true))⟩, ⟨(some 15), (.pick (.tmp 9) (.tmp 14) (.const (.c (.val (.bool false))))), none⟩, ⟨(some 16), (.mov (.tmp 15)), none⟩, ⟨(some 17), (.mov (.tmp 0)), (some (16, true))⟩, ⟨(some 18), (.mov (.tmp 1)), (some (16, true))⟩, ⟨(some 19), (.bin .add (.tmp 18) (.const (.c (.val (.int .i64 1))))), (some (16, true))⟩, ⟨(some 20), (.idxS (.tmp 17) (.tmp 19)), (some (16, true))⟩, ⟨(some 21), (.bin .neq (.tmp 20) (.const (.c (.val (.int .u8 10))))), (some (16, true))⟩, ⟨(some 22), (.pick (.tmp 16) (.tmp 21) (.const (.c (.val (.bool false))))), none⟩, ⟨(some 4), (.mov (.tmp 22)), none⟩])
 a122_c0))⟩
set_option maxRecDepth 100000 in
theorem c122 : compFunc Tryd.prog 122 = some a122 := by kernel_rfl
def clerestoryref2_escape_post (r : Bool) : AV → Heap → Nat → Prop := fun v h' n' => v = (B r) ∧ (h' = (fun _ => none)) ∧ n' = 0
noncomputable def clerestoryref2_escape_j1 (v4 : Bool) : Option Bool :=
  some v4
theorem clerestoryref2_escape_j1_ok {mL : Int} {v4 : Bool} {o : Bool} (h : clerestoryref2_escape_j1 v4 = some o) :
    Sv Tryd.prog (GG mL) 0 a122_c0 (Ends a122.results 0 (clerestoryref2_escape_post o)) ⟨(upd (fun _ => none) 4 (some (B v4))), (fun _ => none), 0⟩ := by
  unfold clerestoryref2_escape_j1 at h
  refine Sv.ret ?_
  replace h := Option.some.inj h
  subst h
  exact ⟨_, .refl _, _, rfl, ⟨upd (fun _ => none) 0 (some (B v4)), (fun _ => none), 0⟩, (B v4), weak_canon [] rfl List.nodup_nil (Nat.le_refl _) (fun b h => absurd h (Nat.not_lt_zero _)) (.cons rfl (avAs_free rfl) .nil) .nil, rfl, rfl, rfl, rfl⟩
/-- clerestory/clerestoryref2.escape -/
noncomputable def clerestoryref2_escape (s_ : (List UInt8)) (i_ : Int) : Option Bool :=
  (clerestoryref2_at s_ i_).bind fun r_ =>
  if ((decide (r_ = 92)) && (decide ((wi (i_ + 1)) < (s_.length : Int)))) then
    (at? s_ (wi (i_ + 1))).bind fun c_ =>
    clerestoryref2_escape_j1 (!decide ((c_.toNat : Int) = 10))
  else
    clerestoryref2_escape_j1 false
theorem clerestoryref2_escape_ok {mL : Int} {s_ : (List UInt8)} {i_ : Int} {r : Bool} (h : clerestoryref2_escape s_ i_ = some r) : CPure Tryd.prog (GG mL) 122 [(S s_), (I i_)] (B r) := by
  refine acalls_of_sv hmix c122 (R := clerestoryref2_escape_post r) ?_
  unfold clerestoryref2_escape at h
  refine Sv.seq ?_
  refine Sv.region ?_
  refine un (a1 rfl ?_)
  refine dnil ?_
  refine Sv.seq ?_
  refine Sv.region ?_
  refine un (a1 rfl ?_)
  refine un (a1 rfl ?_)
  obtain ⟨r_, hr1, h⟩ := bnd h
  refine un (ac_pure (clerestoryref2_at_ok hr1) rfl rfl rfl ?_)
  refine un (a1 (v := (B (decide (r_ = 92)))) rfl ?_)
  refine un (a1 rfl ?_)
  refine gjoin 6 (d := 15) (v := (B ((decide (r_ = 92)) && (decide ((wi (i_ + 1)) < (s_.length : Int)))))) (fun X hX => ?_) ?_
  · refine split2 (fun hc1 => ?_) (fun hc1 => ?_)
    · refine gt rfl (a1 rfl ?_)
      refine gt rfl (a1 (v := (I (wi (i_ + 1)))) rfl ?_)
      refine gt rfl (a1 rfl ?_)
      refine gt rfl (a1 (v := (I (s_.length : Int))) rfl ?_)
      refine gt rfl (a1 (v := (B (decide ((wi (i_ + 1)) < (s_.length : Int))))) rfl ?_)
      refine un (a1 (v := (B (decide ((wi (i_ + 1)) < (s_.length : Int))))) rfl ?_)
      refine dnil ?_
      exact hX _ (.putEq (by rw [hc1]; rfl) (.skip _ _ (.skip _ _ (.skip _ _ (.skip _ _ (.skip _ _ (.putEq (by rw [hc1]) (.refl _)) rfl) rfl) rfl) rfl) rfl))
    · refine gs rfl rfl ?_
      refine gs rfl rfl ?_
      refine gs rfl rfl ?_
      refine gs rfl rfl ?_
      refine gs rfl rfl ?_
      refine un (a1 (v := (B false)) rfl ?_)
      refine dnil ?_
      exact hX _ (.putEq (by rw [hc1]; rfl) (.skip _ _ (.skip _ _ (.skip _ _ (.skip _ _ (.skip _ _ (.putEq (by rw [hc1]) (.refl _)) rfl) rfl) rfl) rfl) rfl))
  refine un (a1 rfl ?_)
  refine split2 (fun hc2 => ?_) (fun hc2 => ?_)
  · replace h := ifT hc2 h
    refine gt rfl (a1 rfl ?_)
    refine gt rfl (a1 rfl ?_)
    refine gt rfl (a1 (v := (I (wi (i_ + 1)))) rfl ?_)
    obtain ⟨c_, hx1, h⟩ := bnd h
    refine gt rfl (a1 (v := (.c (.val (.int .u8 (c_.toNat : Int))))) (s_idxS rfl rfl hx1) ?_)
    refine gt rfl (a1 (v := (B (!decide ((c_.toNat : Int) = 10)))) rfl ?_)
    refine un (a1 (v := (B (!decide ((c_.toNat : Int) = 10)))) rfl ?_)
    refine un (a1 rfl ?_)
    refine dnil ?_
    exact Sv.weak (weak_canon [] rfl (by decide) (by decide) (fun b h => absurd h (Nat.not_lt_zero _)) (.cons rfl (avAs_free rfl) .nil) .nil) (clerestoryref2_escape_j1_ok h)
  · replace h := ifF hc2 h
    refine gs rfl rfl ?_
    refine gs rfl rfl ?_
    refine gs rfl rfl ?_
    refine gs rfl rfl ?_
    refine gs rfl rfl ?_
    refine un (a1 (v := (B false)) rfl ?_)
    refine un (a1 rfl ?_)
    refine dnil ?_
    exact Sv.weak (weak_canon [] rfl (by decide) (by decide) (fun b h => absurd h (Nat.not_lt_zero _)) (.cons rfl (avAs_free rfl) .nil) .nil) (clerestoryref2_escape_j1_ok h)
def a124_c0 : ACode := .ret
def a124_c2 : ACode := .ret
def a124_c1 : ACode := (.seq (.region [⟨(some 34), (.mov (.tmp 1)), none⟩, ⟨(some 35), (.mov (.tmp 0)), none⟩, ⟨(some 36), (.lenS (.tmp 35)), none⟩, ⟨(some 37), (.bin .lss (.tmp 34) (.tmp 36)), none⟩, ⟨(some 38), (.mov (.tmp 37)), none⟩, ⟨(some 39), (.mov (.tmp 0)), (some (38, true))⟩, ⟨(some 40), (.mov (.tmp 1)), (some (38, true))⟩, ⟨(some 41), (.idxS (.tmp 39) (.tmp 40)), (some (38, true))⟩, ⟨(some 42), (.call 158 [(.tmp 41)]), (some (38, true))⟩, ⟨(some 43), (.pick (.tmp 38) (.tmp 42) (.const (.c (.val (.bool false))))), none⟩, ⟨(some 44), (.mov (.tmp 43)), none⟩, ⟨(some 45), (.mov (.tmp 0)), (some (44, false))⟩, ⟨(some 46), (.mov (.tmp 1)), (some (44, false))⟩, ⟨(some 47), (.call 122 [(.tmp 45), (.tmp 46)]), (some (44, false))⟩, ⟨(some 48), (.pick (.tmp 44) (.const (.c (.val (.bool true)))) (.tmp 47)), none⟩, ⟨(some 4), (.mov (.tmp 48)), none⟩])
 a124_c2)
def a124 : AFunc := ⟨2, [(.tmp 4)], (.seq (.region [⟨(some 4), (.mov (.const (.c (.val (.bool false))))), none⟩])
 (.seq (.seq (.region [⟨(some 5), (.mov (.tmp 0)), none⟩, ⟨(some 6), (.mov (.tmp 1)), none⟩, ⟨(some 7), (.call 68 [(.tmp 5), (.tmp 6)]), none⟩, ⟨(some 8), (.bin .eql (.tmp 7) (.const (.c (.val (.int .u8 45))))), none⟩])
 (.cond (.tmp 8) (.seq (.region [⟨(some 9), (.mov (.tmp 1)), none⟩, ⟨(some 10), (.bin .add (.tmp 9) (.const (.c (.val (.int .i64 1))))), none⟩, ⟨(some 11), (.mov (.tmp 0)), none⟩, ⟨(some 12), (.lenS (.tmp 11)), none⟩, ⟨(some 13), (.bin .lss (.tmp 10) (.tmp 12)), none⟩, ⟨(some 14), (.mov (.tmp 13)), none⟩, ⟨(some 15), (.mov (.tmp 0)), (some (14, true))⟩, ⟨(some 16), (.mov (.tmp 1)), (some (14, true))⟩, ⟨(some 17), (.bin .add (.tmp 16) (.const (.c (.val (.int .i64 1))))), (some (14, true))⟩, ⟨(some 18), (.idxS (.tmp 15) (.tmp 17)), (some (14, true))⟩, ⟨(some 19), (.bin .eql (.tmp 18) (.const (.c (.val (.int .u8 45))))), (some (14, true))⟩, ⟨(some 20), (.mov (.tmp 19)), (some (14, true))⟩, ⟨(some 21), (.mov (.tmp 0)), (some (20, false))⟩, ⟨(some 22), (.mov (.tmp 1)), (some (20, false))⟩, ⟨(some 23), (.bin .add (.tmp 22) (.const (.c (.val (.int .i64 1))))), (some (20, false))⟩, ⟨(some 24), (.idxS (.tmp 21) (.tmp 23)), (some (20, false))⟩, ⟨(some 25), (.call 158 [(.tmp 24)]), (some (20, false))⟩, ⟨(some 26), (.pick (.tmp 20) (.const (.c (.val (.bool true)))) (.tmp 25)), (some (14, true))⟩, ⟨(some 27), (.mov (.tmp 26)), (some (14, true))⟩, ⟨(some 28), (.mov (.tmp 0)), (some (27, false))⟩, ⟨(some 29), (.mov (.tmp 1)), (some (27, false))⟩, ⟨(some 30), (.bin .add (.tmp 29) (.const (.c (.val (.int .i64 1))))), (some (27, false))⟩, ⟨(some 31), (.call 122 [(.tmp 28), (.tmp 30)]), (some (27, false))⟩, ⟨(some 32), (.pick (.tmp 27) (.const (.c (.val (.bool true)))) (.tmp 31)), (some (14, true))⟩, ⟨(some 33), (.pick (.tmp 14) (.tmp 32) (.const (.c (.val (.bool false))))), none⟩, ⟨(some 4), (.mov (.tmp 33)), none⟩])
 a124_c0) .skip))
 a124_c1))⟩
set_option maxRecDepth 100000 in
theorem c124 : compFunc Tryd.prog 124 = some a124 := by kernel_rfl
def clerestoryref2_begins_post (r : Bool) : AV → Heap → Nat → Prop := fun v h' n' => v = (B r) ∧ (h' = (fun _ => none)) ∧ n' = 0
abbrev clerestoryref2_begins_q0 (mL : Int) (o : Bool) : AExit → St → Prop := AThen (Sv Tryd.prog (GG mL) 0 a124_c1 (Ends a124.results 0 (clerestoryref2_begins_post o))) (Ends a124.results 0 (clerestoryref2_begins_post o))
noncomputable def clerestoryref2_begins_j1 (v4 : Bool) : Option Bool :=
  some v4
theorem clerestoryref2_begins_j1_ok {mL : Int} {v4 : Bool} {o : Bool} (h : clerestoryref2_begins_j1 v4 = some o) :
    Sv Tryd.prog (GG mL) 0 a124_c0 (clerestoryref2_begins_q0 mL o) ⟨(upd (fun _ => none) 4 (some (B v4))), (fun _ => none), 0⟩ := by
  unfold clerestoryref2_begins_j1 at h
  refine Sv.ret ?_
  replace h := Option.some.inj h
  subst h
  exact ⟨_, .refl _, _, rfl, ⟨upd (fun _ => none) 0 (some (B v4)), (fun _ => none), 0⟩, (B v4), weak_canon [] rfl List.nodup_nil (Nat.le_refl _) (fun b h => absurd h (Nat.not_lt_zero _)) (.cons rfl (avAs_free rfl) .nil) .nil, rfl, rfl, rfl, rfl⟩
noncomputable def clerestoryref2_begins_j2 (v41 : Bool) : Option Bool :=
  some v41
theorem clerestoryref2_begins_j2_ok {mL : Int} {v41 : Bool} {o : Bool} (h : clerestoryref2_begins_j2 v41 = some o) :
    Sv Tryd.prog (GG mL) 0 a124_c2 (Ends a124.results 0 (clerestoryref2_begins_post o)) ⟨(upd (fun _ => none) 4 (some (B v41))), (fun _ => none), 0⟩ := by
  unfold clerestoryref2_begins_j2 at h
  refine Sv.ret ?_
  replace h := Option.some.inj h
  subst h
  exact ⟨_, .refl _, _, rfl, ⟨upd (fun _ => none) 0 (some (B v41)), (fun _ => none), 0⟩, (B v41), weak_canon [] rfl List.nodup_nil (Nat.le_refl _) (fun b h => absurd h (Nat.not_lt_zero _)) (.cons rfl (avAs_free rfl) .nil) .nil, rfl, rfl, rfl, rfl⟩
/-- clerestory/clerestoryref2.begins -/
noncomputable def clerestoryref2_begins (s_ : (List UInt8)) (i_ : Int) : Option Bool :=
  (clerestoryref2_at s_ i_).bind fun r_ =>
  if decide (r_ = 45) then
    if decide ((wi (i_ + 1)) < (s_.length : Int)) then
      (at? s_ (wi (i_ + 1))).bind fun c_ =>
      if decide ((c_.toNat : Int) = 45) then
        clerestoryref2_begins_j1 true
      else
        (at? s_ (wi (i_ + 1))).bind fun c_1 =>
        if (clerestoryref2_letter (c_1.toNat : Int)) then
          clerestoryref2_begins_j1 true
        else
          (clerestoryref2_escape s_ (wi (i_ + 1))).bind fun r_1 =>
          clerestoryref2_begins_j1 r_1
    else
      clerestoryref2_begins_j1 false
  else
    if decide (i_ < (s_.length : Int)) then
      (at? s_ i_).bind fun c_2 =>
      if (clerestoryref2_letter (c_2.toNat : Int)) then
        clerestoryref2_begins_j2 true
      else
        (clerestoryref2_escape s_ i_).bind fun r_2 =>
        clerestoryref2_begins_j2 r_2
    else
      (clerestoryref2_escape s_ i_).bind fun r_3 =>
      clerestoryref2_begins_j2 r_3
theorem clerestoryref2_begins_ok {mL : Int} {s_ : (List UInt8)} {i_ : Int} {r : Bool} (h : clerestoryref2_begins s_ i_ = some r) : CPure Tryd.prog (GG mL) 124 [(S s_), (I i_)] (B r) := by
  refine acalls_of_sv hmix c124 (R := clerestoryref2_begins_post r) ?_
  unfold clerestoryref2_begins at h
  refine Sv.seq ?_
  refine Sv.region ?_
  refine un (a1 rfl ?_)
  refine dnil ?_
  refine Sv.seq ?_
  refine Sv.seq ?_
  refine Sv.region ?_
  refine un (a1 rfl ?_)
  refine un (a1 rfl ?_)
  obtain ⟨r_, hr1, h⟩ := bnd h
  refine un (ac_pure (clerestoryref2_at_ok hr1) rfl rfl rfl ?_)
  refine un (a1 (v := (B (decide (r_ = 45)))) rfl ?_)
  refine dnil ?_
  refine Sv.cond (b := decide (r_ = 45)) rfl (fun hc1 => ?_) (fun hc1 => ?_)
  · replace h := ifT hc1 h
    refine Sv.seq ?_
    refine Sv.region ?_
    refine un (a1 rfl ?_)
    refine un (a1 (v := (I (wi (i_ + 1)))) rfl ?_)
    refine un (a1 rfl ?_)
    refine un (a1 (v := (I (s_.length : Int))) rfl ?_)
    refine un (a1 (v := (B (decide ((wi (i_ + 1)) < (s_.length : Int))))) rfl ?_)
    refine un (a1 rfl ?_)
    refine split2 (fun hc2 => ?_) (fun hc2 => ?_)
    · replace h := ifT hc2 h
      refine gt rfl (a1 rfl ?_)
      refine gt rfl (a1 rfl ?_)
      refine gt rfl (a1 (v := (I (wi (i_ + 1)))) rfl ?_)
      obtain ⟨c_, hx1, h⟩ := bnd h
      refine gt rfl (a1 (v := (.c (.val (.int .u8 (c_.toNat : Int))))) (s_idxS rfl rfl hx1) ?_)
      refine gt rfl (a1 (v := (B (decide ((c_.toNat : Int) = 45)))) rfl ?_)
      refine gt rfl (a1 rfl ?_)
      refine split2 (fun hc3 => ?_) (fun hc3 => ?_)
      · replace h := ifT hc3 h
        refine gs rfl rfl ?_
        refine gs rfl rfl ?_
        refine gs rfl rfl ?_
        refine gs rfl rfl ?_
        refine gs rfl rfl ?_
        refine gt rfl (a1 (v := (B true)) rfl ?_)
        refine gt rfl (a1 rfl ?_)
        refine gs rfl rfl ?_
        refine gs rfl rfl ?_
        refine gs rfl rfl ?_
        refine gs rfl rfl ?_
        refine gt rfl (a1 (v := (B true)) rfl ?_)
        refine un (a1 (v := (B true)) rfl ?_)
        refine un (a1 rfl ?_)
        refine dnil ?_
        exact Sv.weak (weak_canon [] rfl (by decide) (by decide) (fun b h => absurd h (Nat.not_lt_zero _)) (.cons rfl (avAs_free rfl) .nil) .nil) (clerestoryref2_begins_j1_ok h)
      · replace h := ifF hc3 h
        refine gt rfl (a1 rfl ?_)
        refine gt rfl (a1 rfl ?_)
        refine gt rfl (a1 (v := (I (wi (i_ + 1)))) rfl ?_)
        obtain ⟨c_1, hx2, h⟩ := bnd h
        refine gt rfl (a1 (v := (.c (.val (.int .u8 (c_1.toNat : Int))))) (s_idxS rfl rfl hx2) ?_)
        refine gt rfl (ac_pure (clerestoryref2_letter_ok (mL := mL) (c_1.toNat : Int)) rfl rfl rfl ?_)
        refine gt rfl (a1 (v := (B (clerestoryref2_letter (c_1.toNat : Int)))) rfl ?_)
        refine gt rfl (a1 rfl ?_)
        refine split2 (fun hc4 => ?_) (fun hc4 => ?_)
        · replace h := ifT hc4 h
          refine gs rfl rfl ?_
          refine gs rfl rfl ?_
          refine gs rfl rfl ?_
          refine gs rfl rfl ?_
          refine gt rfl (a1 (v := (B true)) rfl ?_)
          refine un (a1 (v := (B true)) rfl ?_)
          refine un (a1 rfl ?_)
          refine dnil ?_
          exact Sv.weak (weak_canon [] rfl (by decide) (by decide) (fun b h => absurd h (Nat.not_lt_zero _)) (.cons rfl (avAs_free rfl) .nil) .nil) (clerestoryref2_begins_j1_ok h)
        · replace h := ifF hc4 h
          refine gt rfl (a1 rfl ?_)
          refine gt rfl (a1 rfl ?_)
          refine gt rfl (a1 (v := (I (wi (i_ + 1)))) rfl ?_)
          obtain ⟨r_1, hr2, h⟩ := bnd h
          refine gt rfl (ac_pure (clerestoryref2_escape_ok hr2) rfl rfl rfl ?_)
          refine gt rfl (a1 (v := (B r_1)) rfl ?_)
          refine un (a1 (v := (B r_1)) rfl ?_)
          refine un (a1 rfl ?_)
          refine dnil ?_
          exact Sv.weak (weak_canon [] rfl (by decide) (by decide) (fun b h => absurd h (Nat.not_lt_zero _)) (.cons rfl (avAs_free rfl) .nil) .nil) (clerestoryref2_begins_j1_ok h)
    · replace h := ifF hc2 h
      refine gs rfl rfl ?_
      refine gs rfl rfl ?_
      refine gs rfl rfl ?_
      refine gs rfl rfl ?_
      refine gs rfl rfl ?_
      refine gs rfl rfl ?_
      refine gu rfl ?_
      refine gu rfl ?_
      refine gu rfl ?_
      refine gu rfl ?_
      refine gu rfl ?_
      refine gs rfl rfl ?_
      refine gs rfl rfl ?_
      refine gu rfl ?_
      refine gu rfl ?_
      refine gu rfl ?_
      refine gu rfl ?_
      refine gs rfl rfl ?_
      refine un (a1 (v := (B false)) rfl ?_)
      refine un (a1 rfl ?_)
      refine dnil ?_
      exact Sv.weak (weak_canon [] rfl (by decide) (by decide) (fun b h => absurd h (Nat.not_lt_zero _)) (.cons rfl (avAs_free rfl) .nil) .nil) (clerestoryref2_begins_j1_ok h)
  · replace h := ifF hc1 h
    refine Sv.skip ?_
    refine Sv.seq ?_
    refine Sv.region ?_
    refine un (a1 rfl ?_)
    refine un (a1 rfl ?_)
    refine un (a1 (v := (I (s_.length : Int))) rfl ?_)
    refine un (a1 (v := (B (decide (i_ < (s_.length : Int))))) rfl ?_)
    refine un (a1 rfl ?_)
    refine split2 (fun hc5 => ?_) (fun hc5 => ?_)
    · replace h := ifT hc5 h
      refine gt rfl (a1 rfl ?_)
      refine gt rfl (a1 rfl ?_)
      obtain ⟨c_2, hx3, h⟩ := bnd h
      refine gt rfl (a1 (v := (.c (.val (.int .u8 (c_2.toNat : Int))))) (s_idxS rfl rfl hx3) ?_)
      refine gt rfl (ac_pure (clerestoryref2_letter_ok (mL := mL) (c_2.toNat : Int)) rfl rfl rfl ?_)
      refine un (a1 (v := (B (clerestoryref2_letter (c_2.toNat : Int)))) rfl ?_)
      refine un (a1 rfl ?_)
      refine split2 (fun hc6 => ?_) (fun hc6 => ?_)
      · replace h := ifT hc6 h
        refine gs rfl rfl ?_
        refine gs rfl rfl ?_
        refine gs rfl rfl ?_
        refine un (a1 (v := (B true)) rfl ?_)
        refine un (a1 rfl ?_)
        refine dnil ?_
        exact Sv.weak (weak_canon [] rfl (by decide) (by decide) (fun b h => absurd h (Nat.not_lt_zero _)) (.cons rfl (avAs_free rfl) .nil) .nil) (clerestoryref2_begins_j2_ok h)
      · replace h := ifF hc6 h
        refine gt rfl (a1 rfl ?_)
        refine gt rfl (a1 rfl ?_)
        obtain ⟨r_2, hr3, h⟩ := bnd h
        refine gt rfl (ac_pure (clerestoryref2_escape_ok hr3) rfl rfl rfl ?_)
        refine un (a1 (v := (B r_2)) rfl ?_)
        refine un (a1 rfl ?_)
        refine dnil ?_
        exact Sv.weak (weak_canon [] rfl (by decide) (by decide) (fun b h => absurd h (Nat.not_lt_zero _)) (.cons rfl (avAs_free rfl) .nil) .nil) (clerestoryref2_begins_j2_ok h)
    · replace h := ifF hc5 h
      refine gs rfl rfl ?_
      refine gs rfl rfl ?_
      refine gs rfl rfl ?_
      refine gs rfl rfl ?_
      refine un (a1 (v := (B false)) rfl ?_)
      refine un (a1 rfl ?_)
      refine gt rfl (a1 rfl ?_)
      refine gt rfl (a1 rfl ?_)
      obtain ⟨r_3, hr4, h⟩ := bnd h
      refine gt rfl (ac_pure (clerestoryref2_escape_ok hr4) rfl rfl rfl ?_)
      refine un (a1 (v := (B r_3)) rfl ?_)
      refine un (a1 rfl ?_)
      refine dnil ?_
      exact Sv.weak (weak_canon [] rfl (by decide) (by decide) (fun b h => absurd h (Nat.not_lt_zero _)) (.cons rfl (avAs_free rfl) .nil) .nil) (clerestoryref2_begins_j2_ok h)
def a121 : AFunc := ⟨1, [(.tmp 2)], (.seq (.region [⟨(some 2), (.mov (.const (.c (.val (.bool false))))), none⟩])
 (.seq (.region [⟨(some 3), (.mov (.tmp 0)), none⟩, ⟨(some 4), (.call 158 [(.tmp 3)]), none⟩, ⟨(some 5), (.mov (.tmp 4)), none⟩, ⟨(some 6), (.mov (.tmp 0)), (some (5, false))⟩, ⟨(some 7), (.call 69 [(.tmp 6)]), (some (5, false))⟩, ⟨(some 8), (.pick (.tmp 5) (.const (.c (.val (.bool true)))) (.tmp 7)), none⟩, ⟨(some 9), (.mov (.tmp 8)), none⟩, ⟨(some 10), (.mov (.tmp 0)), (some (9, false))⟩, ⟨(some 11), (.bin .eql (.tmp 10) (.const (.c (.val (.int .u8 45))))), (some (9, false))⟩, ⟨(some 12), (.pick (.tmp 9) (.const (.c (.val (.bool true)))) (.tmp 11)), none⟩, ⟨(some 2), (.mov (.tmp 12)), none⟩])
 .ret))⟩
set_option maxRecDepth 100000 in
theorem c121 : compFunc Tryd.prog 121 = some a121 := by kernel_rfl
def clerestoryref2_named_post (r : Bool) : AV → Heap → Nat → Prop := fun v h' n' => v = (B r) ∧ (h' = (fun _ => none)) ∧ n' = 0
/-- clerestory/clerestoryref2.named -/
def clerestoryref2_named (c_ : Int) : Bool :=
  (((clerestoryref2_letter c_) || (clerestoryref2_digit c_)) || (decide (c_ = 45)))
theorem clerestoryref2_named_ok {mL : Int} (c_ : Int) : CPure Tryd.prog (GG mL) 121 [(.c (.val (.int .u8 c_)))] (B (clerestoryref2_named c_)) := by
  generalize h : clerestoryref2_named c_ = o
  refine acalls_of_sv hmix c121 (R := clerestoryref2_named_post o) ?_
  unfold clerestoryref2_named at h
  refine Sv.seq ?_
  refine Sv.region ?_
  refine un (a1 rfl ?_)
  refine dnil ?_
  refine Sv.seq ?_
  refine Sv.region ?_
  refine un (a1 rfl ?_)
  refine un (ac_pure (clerestoryref2_letter_ok (mL := mL) c_) rfl rfl rfl ?_)
  refine un (a1 rfl ?_)
  refine gjoin 3 (d := 8) (v := (B ((clerestoryref2_letter c_) || (clerestoryref2_digit c_)))) (fun X hX => ?_) ?_
  · refine split2 (fun hc1 => ?_) (fun hc1 => ?_)
    · refine gs rfl rfl ?_
      refine gs rfl rfl ?_
      refine un (a1 (v := (B true)) rfl ?_)
      refine dnil ?_
      exact hX _ (.putEq (by rw [hc1]; rfl) (.skip _ _ (.skip _ _ (.putEq (by rw [hc1]) (.refl _)) rfl) rfl))
    · refine gt rfl (a1 rfl ?_)
      refine gt rfl (ac_pure (clerestoryref2_digit_ok (mL := mL) c_) rfl rfl rfl ?_)
      refine un (a1 (v := (B (clerestoryref2_digit c_))) rfl ?_)
      refine dnil ?_
      exact hX _ (.putEq (by rw [hc1]; rfl) (.skip _ _ (.skip _ _ (.putEq (by rw [hc1]) (.refl _)) rfl) rfl))
  refine un (a1 rfl ?_)
  refine gjoin 3 (d := 12) (v := (B (((clerestoryref2_letter c_) || (clerestoryref2_digit c_)) || (decide (c_ = 45))))) (fun X hX => ?_) ?_
  · refine split2 (fun hc2 => ?_) (fun hc2 => ?_)
    · refine gs rfl rfl ?_
      refine gs rfl rfl ?_
      refine un (a1 (v := (B true)) rfl ?_)
      refine dnil ?_
      exact hX _ (.putEq (by rw [hc2]; rfl) (.skip _ _ (.skip _ _ (.putEq (by rw [hc2]) (.refl _)) rfl) rfl))
    · refine gt rfl (a1 rfl ?_)
      refine gt rfl (a1 (v := (B (decide (c_ = 45)))) rfl ?_)
      refine un (a1 (v := (B (decide (c_ = 45)))) rfl ?_)
      refine dnil ?_
      exact hX _ (.putEq (by rw [hc2]; rfl) (.skip _ _ (.skip _ _ (.putEq (by rw [hc2]) (.refl _)) rfl) rfl))
  refine un (a1 rfl ?_)
  refine dnil ?_
  refine Sv.ret ?_
  subst h
  exact ⟨_, .refl _, _, rfl, ⟨upd (fun _ => none) 0 (some (B (((clerestoryref2_letter c_) || (clerestoryref2_digit c_)) || (decide (c_ = 45))))), (fun _ => none), 0⟩, (B (((clerestoryref2_letter c_) || (clerestoryref2_digit c_)) || (decide (c_ = 45)))), weak_canon [] rfl List.nodup_nil (Nat.le_refl _) (fun b h => absurd h (Nat.not_lt_zero _)) (.cons rfl (avAs_free rfl) .nil) .nil, rfl, rfl, rfl, rfl⟩
def a123_c0 : ACode := (.cond (.tmp 21) .skip (.exit 0))
def a123_c1 : ACode := (.seq (.region [⟨(some 28), (.mov (.tmp 6)), none⟩, ⟨(some 29), (.mov (.tmp 0)), none⟩, ⟨(some 30), (.mov (.tmp 1)), none⟩, ⟨(some 31), (.mov (.tmp 1)), none⟩, ⟨(some 32), (.bin .add (.tmp 31) (.const (.c (.val (.int .i64 1))))), none⟩, ⟨(some 33), (.slStr (.tmp 29) (some (.tmp 30)) (some (.tmp 32))), none⟩, ⟨(some 34), (.bin .add (.tmp 28) (.tmp 33)), none⟩, ⟨(some 6), (.mov (.tmp 34)), none⟩])
 (.region [⟨(some 35), (.mov (.tmp 1)), none⟩, ⟨(some 36), (.bin .add (.tmp 35) (.const (.c (.val (.int .i64 1))))), none⟩, ⟨(some 1), (.mov (.tmp 36)), none⟩]))
def a123_c2 : ACode := (.block 1 (.seq (.seq (.region [⟨(some 22), (.mov (.tmp 0)), none⟩, ⟨(some 23), (.mov (.tmp 1)), none⟩, ⟨(some 24), (.idxS (.tmp 22) (.tmp 23)), none⟩, ⟨(some 25), (.bin .eql (.tmp 24) (.const (.c (.val (.int .u8 92))))), none⟩])
 (.cond (.tmp 25) (.region [⟨(some 26), (.mov (.tmp 1)), none⟩, ⟨(some 27), (.bin .add (.tmp 26) (.const (.c (.val (.int .i64 1))))), none⟩, ⟨(some 1), (.mov (.tmp 27)), none⟩]) .skip))
 a123_c1))
def a123_c3 : ACode := (.seq (.seq (.region [⟨(some 7), (.mov (.tmp 1)), none⟩, ⟨(some 8), (.mov (.tmp 0)), none⟩, ⟨(some 9), (.lenS (.tmp 8)), none⟩, ⟨(some 10), (.bin .lss (.tmp 7) (.tmp 9)), none⟩, ⟨(some 11), (.mov (.tmp 10)), none⟩, ⟨(some 12), (.mov (.tmp 0)), (some (11, true))⟩, ⟨(some 13), (.mov (.tmp 1)), (some (11, true))⟩, ⟨(some 14), (.idxS (.tmp 12) (.tmp 13)), (some (11, true))⟩, ⟨(some 15), (.call 121 [(.tmp 14)]), (some (11, true))⟩, ⟨(some 16), (.mov (.tmp 15)), (some (11, true))⟩, ⟨(some 17), (.mov (.tmp 0)), (some (16, false))⟩, ⟨(some 18), (.mov (.tmp 1)), (some (16, false))⟩, ⟨(some 19), (.call 122 [(.tmp 17), (.tmp 18)]), (some (16, false))⟩, ⟨(some 20), (.pick (.tmp 16) (.const (.c (.val (.bool true)))) (.tmp 19)), (some (11, true))⟩, ⟨(some 21), (.pick (.tmp 11) (.tmp 20) (.const (.c (.val (.bool false))))), none⟩])
 a123_c0)
 a123_c2)
def a123 : AFunc := ⟨2, [(.tmp 4), (.tmp 5)], (.seq (.region [⟨(some 4), (.mov (.const (.c (.str [])))), none⟩, ⟨(some 5), (.mov (.const (.c (.val (.int .i64 0))))), none⟩])
 (.seq (.region [⟨(some 6), (.mov (.const (.c (.str [])))), none⟩])
 (.seq (.block 0 (.loop a123_c3))
 (.seq (.region [⟨(some 37), (.mov (.tmp 6)), none⟩, ⟨(some 38), (.mov (.tmp 1)), none⟩, ⟨(some 4), (.mov (.tmp 37)), none⟩, ⟨(some 5), (.mov (.tmp 38)), none⟩])
 .ret))))⟩
set_option maxRecDepth 100000 in
theorem c123 : compFunc Tryd.prog 123 = some a123 := by kernel_rfl
def clerestoryref2_said_post (r : ((List UInt8) × Int)) : AV → Heap → Nat → Prop := fun v h' n' => v = (.tup [(S r.1), (I r.2)]) ∧ (h' = (fun _ => none)) ∧ n' = 0
abbrev clerestoryref2_said_q0 (mL : Int) (Q : AExit → St → Prop) : AExit → St → Prop := ABlock 1 Q
noncomputable def clerestoryref2_said_j6 (s_ : (List UInt8)) (out : (List UInt8)) (self : Int → (List UInt8) → Option ((List UInt8) × Int)) (K0_ : Int → (List UInt8) → Option ((List UInt8) × Int)) (i_3 : Int) : Option ((List UInt8) × Int) :=
  (sub? s_ i_3 (wi (i_3 + 1))).bind fun r_ =>
  (cat? out r_).bind fun r_1 =>
  self (wi (i_3 + 1)) r_1
theorem clerestoryref2_said_j6_ok {mL : Int} {Q : AExit → St → Prop} {s_ : (List UInt8)} {out : (List UInt8)} {self : Int → (List UInt8) → Option ((List UInt8) × Int)} {K0_ : Int → (List UInt8) → Option ((List UInt8) × Int)} {i_3 : Int} {o : ((List UInt8) × Int)} (h : clerestoryref2_said_j6 s_ out self K0_ i_3 = some o)
    (hself : ∀ (i_1 : Int) (out : (List UInt8)), self i_1 out = some o → ∀ s, Weak 0 s ⟨(upd (upd (upd (fun _ => none) 0 (some (S s_))) 1 (some (I i_1))) 6 (some (S out))), (fun _ => none), 0⟩ → (Q) .normal s)
    (hK0 : ∀ (i_2 : Int) (out1 : (List UInt8)), K0_ i_2 out1 = some o → ∀ s, Weak 0 s ⟨(upd (upd (fun _ => none) 1 (some (I i_2))) 6 (some (S out1))), (fun _ => none), 0⟩ → Q (.exit 0) s)
    (hr : ∀ s, Ends a123.results 0 (clerestoryref2_said_post o) .ret s → Q .ret s) :
    Sv Tryd.prog (GG mL) 0 a123_c1 (clerestoryref2_said_q0 mL Q) ⟨(upd (upd (upd (fun _ => none) 0 (some (S s_))) 1 (some (I i_3))) 6 (some (S out))), (fun _ => none), 0⟩ := by
  unfold clerestoryref2_said_j6 at h
  refine Sv.seq ?_
  refine Sv.region ?_
  refine un (a1 rfl ?_)
  refine un (a1 rfl ?_)
  refine un (a1 rfl ?_)
  refine un (a1 rfl ?_)
  refine un (a1 (v := (I (wi (i_3 + 1)))) rfl ?_)
  obtain ⟨r_, hx1, h⟩ := bnd h
  refine un (a1 (v := (S r_)) (s_slStr rfl rfl rfl hx1) ?_)
  obtain ⟨r_1, hx2, h⟩ := bnd h
  refine un (a1 (v := (S r_1)) (s_cat rfl rfl hx2) ?_)
  refine un (a1 rfl ?_)
  refine dnil ?_
  refine Sv.region ?_
  refine un (a1 rfl ?_)
  refine un (a1 (v := (I (wi (i_3 + 1)))) rfl ?_)
  refine un (a1 rfl ?_)
  refine dnil ?_
  exact hself (wi (i_3 + 1)) r_1 h _ (weak_canon [] rfl (by decide) (by decide) (fun b h => absurd h (Nat.not_lt_zero _)) (.cons rfl (avAs_free rfl) (.cons rfl (avAs_free rfl) (.cons rfl (avAs_free rfl) .nil))) .nil)
abbrev clerestoryref2_said_q1 (mL : Int) (Q : AExit → St → Prop) : AExit → St → Prop := AThen (Sv Tryd.prog (GG mL) 0 a123_c2 Q) Q
noncomputable def clerestoryref2_said_j5 (s_ : (List UInt8)) (i_1 : Int) (out : (List UInt8)) (self : Int → (List UInt8) → Option ((List UInt8) × Int)) (K0_ : Int → (List UInt8) → Option ((List UInt8) × Int)) (v21 : Bool) : Option ((List UInt8) × Int) :=
  if v21 then
    (at? s_ i_1).bind fun c_ =>
    if decide ((c_.toNat : Int) = 92) then
      clerestoryref2_said_j6 s_ out self K0_ (wi (i_1 + 1))
    else
      clerestoryref2_said_j6 s_ out self K0_ i_1
  else
    K0_ i_1 out
theorem clerestoryref2_said_j5_ok {mL : Int} {Q : AExit → St → Prop} {s_ : (List UInt8)} {i_1 : Int} {out : (List UInt8)} {self : Int → (List UInt8) → Option ((List UInt8) × Int)} {K0_ : Int → (List UInt8) → Option ((List UInt8) × Int)} {v21 : Bool} {o : ((List UInt8) × Int)} (h : clerestoryref2_said_j5 s_ i_1 out self K0_ v21 = some o)
    (hself : ∀ (i_1 : Int) (out : (List UInt8)), self i_1 out = some o → ∀ s, Weak 0 s ⟨(upd (upd (upd (fun _ => none) 0 (some (S s_))) 1 (some (I i_1))) 6 (some (S out))), (fun _ => none), 0⟩ → (Q) .normal s)
    (hK0 : ∀ (i_2 : Int) (out1 : (List UInt8)), K0_ i_2 out1 = some o → ∀ s, Weak 0 s ⟨(upd (upd (fun _ => none) 1 (some (I i_2))) 6 (some (S out1))), (fun _ => none), 0⟩ → Q (.exit 0) s)
    (hr : ∀ s, Ends a123.results 0 (clerestoryref2_said_post o) .ret s → Q .ret s) :
    Sv Tryd.prog (GG mL) 0 a123_c0 (clerestoryref2_said_q1 mL Q) ⟨(upd (upd (upd (upd (fun _ => none) 0 (some (S s_))) 1 (some (I i_1))) 6 (some (S out))) 21 (some (B v21))), (fun _ => none), 0⟩ := by
  unfold clerestoryref2_said_j5 at h
  refine Sv.cond (b := v21) rfl (fun hc1 => ?_) (fun hc1 => ?_)
  · replace h := ifT hc1 h
    refine Sv.skip ?_
    refine Sv.block ?_
    refine Sv.seq ?_
    refine Sv.seq ?_
    refine Sv.region ?_
    refine un (a1 rfl ?_)
    refine un (a1 rfl ?_)
    obtain ⟨c_, hx3, h⟩ := bnd h
    refine un (a1 (v := (.c (.val (.int .u8 (c_.toNat : Int))))) (s_idxS rfl rfl hx3) ?_)
    refine un (a1 (v := (B (decide ((c_.toNat : Int) = 92)))) rfl ?_)
    refine dnil ?_
    refine Sv.cond (b := decide ((c_.toNat : Int) = 92)) rfl (fun hc2 => ?_) (fun hc2 => ?_)
    · replace h := ifT hc2 h
      refine Sv.region ?_
      refine un (a1 rfl ?_)
      refine un (a1 (v := (I (wi (i_1 + 1)))) rfl ?_)
      refine un (a1 rfl ?_)
      refine dnil ?_
      exact Sv.weak (weak_canon [] rfl (by decide) (by decide) (fun b h => absurd h (Nat.not_lt_zero _)) (.cons rfl (avAs_free rfl) (.cons rfl (avAs_free rfl) (.cons rfl (avAs_free rfl) .nil))) .nil) (clerestoryref2_said_j6_ok h hself hK0 hr)
    · replace h := ifF hc2 h
      refine Sv.skip ?_
      exact Sv.weak (weak_canon [] rfl (by decide) (by decide) (fun b h => absurd h (Nat.not_lt_zero _)) (.cons rfl (avAs_free rfl) (.cons rfl (avAs_free rfl) (.cons rfl (avAs_free rfl) .nil))) .nil) (clerestoryref2_said_j6_ok h hself hK0 hr)
  · replace h := ifF hc1 h
    refine Sv.exit ?_
    exact hK0 i_1 out h _ (weak_canon [] rfl (by decide) (by decide) (fun b h => absurd h (Nat.not_lt_zero _)) (.cons rfl (avAs_free rfl) (.cons rfl (avAs_free rfl) .nil)) .nil)
noncomputable def clerestoryref2_said_l0 (s_ : (List UInt8)) (K0_ : Int → (List UInt8) → Option ((List UInt8) × Int)) : Nat → Int → (List UInt8) → Option ((List UInt8) × Int)
  | 0, _, _ => none
  | k + 1, i_1, out =>
    if decide (i_1 < (s_.length : Int)) then
      (at? s_ i_1).bind fun c_1 =>
      if (clerestoryref2_named (c_1.toNat : Int)) then
        clerestoryref2_said_j5 s_ i_1 out (clerestoryref2_said_l0 s_ K0_ k) K0_ true
      else
        (clerestoryref2_escape s_ i_1).bind fun r_2 =>
        clerestoryref2_said_j5 s_ i_1 out (clerestoryref2_said_l0 s_ K0_ k) K0_ r_2
    else
      clerestoryref2_said_j5 s_ i_1 out (clerestoryref2_said_l0 s_ K0_ k) K0_ false
theorem clerestoryref2_said_l0_ok {mL : Int} {Q : AExit → St → Prop} {s_ : (List UInt8)} {K0_ : Int → (List UInt8) → Option ((List UInt8) × Int)} {k : Nat} {i_1 : Int} {out : (List UInt8)} {o : ((List UInt8) × Int)} (h : clerestoryref2_said_l0 s_ K0_ k i_1 out = some o)
    (hK0 : ∀ (i_2 : Int) (out1 : (List UInt8)), K0_ i_2 out1 = some o → ∀ s, Weak 0 s ⟨(upd (upd (fun _ => none) 1 (some (I i_2))) 6 (some (S out1))), (fun _ => none), 0⟩ → Q (.exit 0) s)
    (hr : ∀ s, Ends a123.results 0 (clerestoryref2_said_post o) .ret s → Q .ret s) :
    Sv Tryd.prog (GG mL) 0 (.loop a123_c3) Q ⟨(upd (upd (upd (fun _ => none) 0 (some (S s_))) 1 (some (I i_1))) 6 (some (S out))), (fun _ => none), 0⟩ := by
  refine Sv.loop (I := fun k s => ∃ (i_1 : Int), ∃ (out : (List UInt8)), clerestoryref2_said_l0 s_ K0_ k i_1 out = some o ∧ s = ⟨(upd (upd (upd (fun _ => none) 0 (some (S s_))) 1 (some (I i_1))) 6 (some (S out))), (fun _ => none), 0⟩) (fun k s hI => ?_) ⟨i_1, out, h, rfl⟩
  clear h
  clear out i_1
  obtain ⟨i_1, out, h, rfl⟩ := hI
  cases k with
  | zero => cases h
  | succ k =>
  rw [clerestoryref2_said_l0] at h
  have hself : ∀ (i_1 : Int) (out : (List UInt8)), (clerestoryref2_said_l0 s_ K0_ k) i_1 out = some o → ∀ s, Weak 0 s ⟨(upd (upd (upd (fun _ => none) 0 (some (S s_))) 1 (some (I i_1))) 6 (some (S out))), (fun _ => none), 0⟩ → (AThen (fun s' => ∃ s'' k', Weak 0 s' s'' ∧ k' < k + 1 ∧ (fun k s => ∃ (i_1 : Int), ∃ (out : (List UInt8)), clerestoryref2_said_l0 s_ K0_ k i_1 out = some o ∧ s = ⟨(upd (upd (upd (fun _ => none) 0 (some (S s_))) 1 (some (I i_1))) 6 (some (S out))), (fun _ => none), 0⟩) k' s'') Q) .normal s := fun i_1 out h s hw => ⟨_, k, hw, Nat.lt_succ_self k, i_1, out, h, rfl⟩
  refine Sv.seq ?_
  refine Sv.seq ?_
  refine Sv.region ?_
  refine un (a1 rfl ?_)
  refine un (a1 rfl ?_)
  refine un (a1 (v := (I (s_.length : Int))) rfl ?_)
  refine un (a1 (v := (B (decide (i_1 < (s_.length : Int))))) rfl ?_)
  refine un (a1 rfl ?_)
  refine split2 (fun hc3 => ?_) (fun hc3 => ?_)
  · replace h := ifT hc3 h
    refine gt rfl (a1 rfl ?_)
    refine gt rfl (a1 rfl ?_)
    obtain ⟨c_1, hx4, h⟩ := bnd h
    refine gt rfl (a1 (v := (.c (.val (.int .u8 (c_1.toNat : Int))))) (s_idxS rfl rfl hx4) ?_)
    refine gt rfl (ac_pure (clerestoryref2_named_ok (mL := mL) (c_1.toNat : Int)) rfl rfl rfl ?_)
    refine gt rfl (a1 rfl ?_)
    refine split2 (fun hc4 => ?_) (fun hc4 => ?_)
    · replace h := ifT hc4 h
      refine gs rfl rfl ?_
      refine gs rfl rfl ?_
      refine gs rfl rfl ?_
      refine gt rfl (a1 (v := (B true)) rfl ?_)
      refine un (a1 (v := (B true)) rfl ?_)
      refine dnil ?_
      exact Sv.weak (weak_canon [] rfl (by decide) (by decide) (fun b h => absurd h (Nat.not_lt_zero _)) (.cons rfl (avAs_free rfl) (.cons rfl (avAs_free rfl) (.cons rfl (avAs_free rfl) (.cons rfl (avAs_free rfl) .nil)))) .nil) (clerestoryref2_said_j5_ok h hself hK0 hr)
    · replace h := ifF hc4 h
      refine gt rfl (a1 rfl ?_)
      refine gt rfl (a1 rfl ?_)
      obtain ⟨r_2, hr1, h⟩ := bnd h
      refine gt rfl (ac_pure (clerestoryref2_escape_ok hr1) rfl rfl rfl ?_)
      refine gt rfl (a1 (v := (B r_2)) rfl ?_)
      refine un (a1 (v := (B r_2)) rfl ?_)
      refine dnil ?_
      exact Sv.weak (weak_canon [] rfl (by decide) (by decide) (fun b h => absurd h (Nat.not_lt_zero _)) (.cons rfl (avAs_free rfl) (.cons rfl (avAs_free rfl) (.cons rfl (avAs_free rfl) (.cons rfl (avAs_free rfl) .nil)))) .nil) (clerestoryref2_said_j5_ok h hself hK0 hr)
  · replace h := ifF hc3 h
    refine gs rfl rfl ?_
    refine gs rfl rfl ?_
    refine gs rfl rfl ?_
    refine gs rfl rfl ?_
    refine gs rfl rfl ?_
    refine gu rfl ?_
    refine gu rfl ?_
    refine gu rfl ?_
    refine gs rfl rfl ?_
    refine un (a1 (v := (B false)) rfl ?_)
    refine dnil ?_
    exact Sv.weak (weak_canon [] rfl (by decide) (by decide) (fun b h => absurd h (Nat.not_lt_zero _)) (.cons rfl (avAs_free rfl) (.cons rfl (avAs_free rfl) (.cons rfl (avAs_free rfl) (.cons rfl (avAs_free rfl) .nil)))) .nil) (clerestoryref2_said_j5_ok h hself hK0 hr)
/-- clerestory/clerestoryref2.said -/
noncomputable def clerestoryref2_said (s_ : (List UInt8)) (i_ : Int) : Option ((List UInt8) × Int) :=
  lim fun kk => clerestoryref2_said_l0 s_ (fun (i_2 : Int) (out1 : (List UInt8)) => 
      some (out1, i_2)) kk i_ []
theorem clerestoryref2_said_ok {mL : Int} {s_ : (List UInt8)} {i_ : Int} {r : ((List UInt8) × Int)} (h : clerestoryref2_said s_ i_ = some r) : CPure Tryd.prog (GG mL) 123 [(S s_), (I i_)] (.tup [(S r.1), (I r.2)]) := by
  refine acalls_of_sv hmix c123 (R := clerestoryref2_said_post r) ?_
  unfold clerestoryref2_said at h
  refine Sv.seq ?_
  refine Sv.region ?_
  refine un (a1 rfl ?_)
  refine un (a1 rfl ?_)
  refine dnil ?_
  refine Sv.seq ?_
  refine Sv.region ?_
  refine un (a1 rfl ?_)
  refine dnil ?_
  refine Sv.seq ?_
  refine Sv.block ?_
  obtain ⟨kk, h⟩ := lim_some h
  refine Sv.weak (weak_canon [] rfl (by decide) (by decide) (fun b h => absurd h (Nat.not_lt_zero _)) (.cons rfl (avAs_free rfl) (.cons rfl (avAs_free rfl) (.cons rfl (avAs_free rfl) .nil))) .nil) (clerestoryref2_said_l0_ok h ?_ (fun s hs => hs))
  · intro i_2 out1 h _ hw1
    refine Sv.weak hw1 ?_
    refine Sv.seq ?_
    refine Sv.region ?_
    refine un (a1 rfl ?_)
    refine un (a1 rfl ?_)
    refine un (a1 rfl ?_)
    refine un (a1 rfl ?_)
    refine dnil ?_
    refine Sv.ret ?_
    replace h := Option.some.inj h
    subst h
    exact ⟨_, .refl _, _, rfl, ⟨upd (fun _ => none) 0 (some (.tup [(S out1), (I i_2)])), (fun _ => none), 0⟩, (.tup [(S out1), (I i_2)]), weak_canon [] rfl List.nodup_nil (Nat.le_refl _) (fun b h => absurd h (Nat.not_lt_zero _)) (.cons rfl (avAs_tup (.cons (avAs_free rfl) (.cons (avAs_free rfl) .nil))) .nil) .nil, rfl, rfl, rfl, rfl⟩
def a157_c0 : ACode := (.cond (.tmp 24) (.region [⟨(some 25), (.mov (.tmp 3)), none⟩, ⟨(some 26), (.mov (.tmp 4)), none⟩, ⟨(some 27), (.mov (.tmp 3)), none⟩, ⟨(some 28), (.mov (.tmp 4)), none⟩, ⟨(some 29), (.iaddr 1 (.tmp 27) (.tmp 28)), none⟩, ⟨(some 30), (.load false 1 (.tmp 29)), none⟩, ⟨(some 31), (.bin .add (.tmp 30) (.const (.c (.val (.int .u8 32))))), none⟩, ⟨(some 32), (.iaddr 1 (.tmp 25) (.tmp 26)), none⟩, ⟨none, (.store 1 (.tmp 32) (.tmp 31)), none⟩]) .skip)
def a157_c1 : ACode := (.region [⟨(some 11), (.mov (.tmp 4)), none⟩, ⟨(some 12), (.bin .add (.tmp 11) (.const (.c (.val (.int .i64 1))))), none⟩, ⟨(some 4), (.mov (.tmp 12)), none⟩])
def a157_c2 : ACode := (.seq (.seq (.region [⟨(some 7), (.mov (.tmp 4)), none⟩, ⟨(some 8), (.mov (.tmp 3)), none⟩, ⟨(some 9), (.len (.tmp 8)), none⟩, ⟨(some 10), (.bin .lss (.tmp 7) (.tmp 9)), none⟩])
 (.cond (.tmp 10) .skip (.exit 0)))
 (.seq (.block 1 (.seq (.region [⟨(some 13), (.mov (.tmp 3)), none⟩, ⟨(some 14), (.mov (.tmp 4)), none⟩, ⟨(some 15), (.iaddr 1 (.tmp 13) (.tmp 14)), none⟩, ⟨(some 16), (.load false 1 (.tmp 15)), none⟩, ⟨(some 17), (.bin .geq (.tmp 16) (.const (.c (.val (.int .u8 65))))), none⟩, ⟨(some 18), (.mov (.tmp 17)), none⟩, ⟨(some 19), (.mov (.tmp 3)), (some (18, true))⟩, ⟨(some 20), (.mov (.tmp 4)), (some (18, true))⟩, ⟨(some 21), (.iaddr 1 (.tmp 19) (.tmp 20)), (some (18, true))⟩, ⟨(some 22), (.load false 1 (.tmp 21)), (some (18, true))⟩, ⟨(some 23), (.bin .leq (.tmp 22) (.const (.c (.val (.int .u8 90))))), (some (18, true))⟩, ⟨(some 24), (.pick (.tmp 18) (.tmp 23) (.const (.c (.val (.bool false))))), none⟩])
 a157_c0))
 a157_c1))
def a157 : AFunc := ⟨1, [(.tmp 2)], (.seq (.region [⟨(some 2), (.mov (.const (.c (.str [])))), none⟩])
 (.seq (.region [⟨(some 5), (.mov (.tmp 0)), none⟩, ⟨(some 6), (.toBytes (.tmp 5)), none⟩, ⟨(some 3), (.mov (.tmp 6)), none⟩])
 (.seq (.seq (.region [⟨(some 4), (.mov (.const (.c (.val (.int .i64 0))))), none⟩])
 (.block 0 (.loop a157_c2)))
 (.seq (.region [⟨(some 33), (.mov (.tmp 3)), none⟩, ⟨(some 34), (.ofBytes (.tmp 33)), none⟩, ⟨(some 2), (.mov (.tmp 34)), none⟩])
 .ret))))⟩
set_option maxRecDepth 100000 in
theorem c157 : compFunc Tryd.prog 157 = some a157 := by kernel_rfl
def clerestoryref2_Lower_post (r : (List UInt8)) : AV → Heap → Nat → Prop := fun v h' n' => v = (S r) ∧ (h' = (fun _ => none)) ∧ n' = 0
noncomputable def clerestoryref2_Lower_j11 (i_ : Int) (self : (List Int) → Int → Option (List UInt8)) (K0_ : (List Int) → Option (List UInt8)) (b_2 : (List Int)) : Option (List UInt8) :=
  self b_2 (wi (i_ + 1))
theorem clerestoryref2_Lower_j11_ok {mL : Int} {Q : AExit → St → Prop} {i_ : Int} {self : (List Int) → Int → Option (List UInt8)} {K0_ : (List Int) → Option (List UInt8)} {b_2 : (List Int)} {zb_2 : Bool} (hzb_2 : zb_2 = true → b_2 = []) {o : (List UInt8)} (h : clerestoryref2_Lower_j11 i_ self K0_ b_2 = some o)
    (hself : ∀ (b_ : (List Int)) (i_ : Int) (zb : Bool) (_ : zb = true → b_ = []), self b_ i_ = some o → ∀ s, Weak 0 s ⟨(upd (upd (fun _ => none) 3 (some (lstV zb 0 1 b_.length))) 4 (some (I i_))), (upd (fun _ => none) 0 (lstB zb 1 (b_.map (eK .u8)))), 1⟩ → (Q) .normal s)
    (hK0 : ∀ (b_1 : (List Int)) (zb_1 : Bool) (_ : zb_1 = true → b_1 = []), K0_ b_1 = some o → ∀ s, Weak 0 s ⟨(upd (fun _ => none) 3 (some (lstV zb_1 0 1 b_1.length))), (upd (fun _ => none) 0 (lstB zb_1 1 (b_1.map (eK .u8)))), 1⟩ → Q (.exit 0) s)
    (hr : ∀ s, Ends a157.results 0 (clerestoryref2_Lower_post o) .ret s → Q .ret s) :
    Sv Tryd.prog (GG mL) 0 a157_c1 Q ⟨(upd (upd (fun _ => none) 3 (some (lstV zb_2 0 1 b_2.length))) 4 (some (I i_))), (upd (fun _ => none) 0 (lstB zb_2 1 (b_2.map (eK .u8)))), 1⟩ := by
  unfold clerestoryref2_Lower_j11 at h
  refine Sv.region ?_
  refine un (a1 rfl ?_)
  refine un (a1 (v := (I (wi (i_ + 1)))) rfl ?_)
  refine un (a1 rfl ?_)
  refine dnil ?_
  exact hself b_2 (wi (i_ + 1)) zb_2 hzb_2 h _ (weak_canon [0] rfl (by decide) (by decide) (fun b h => absurd h (Nat.not_lt_zero _)) (.cons rfl (avAs_free rfl) (.cons rfl (.c (lstC_ren rfl (by decide))) .nil)) (.row (by decide) rfl (fr_map fun _ => rfl) .nil))
abbrev clerestoryref2_Lower_q0 (mL : Int) (Q : AExit → St → Prop) : AExit → St → Prop := AThen (Sv Tryd.prog (GG mL) 0 a157_c1 Q) Q
abbrev clerestoryref2_Lower_q1 (mL : Int) (Q : AExit → St → Prop) : AExit → St → Prop := ABlock 1 (clerestoryref2_Lower_q0 mL Q)
noncomputable def clerestoryref2_Lower_j12 (i_ : Int) (self : (List Int) → Int → Option (List UInt8)) (K0_ : (List Int) → Option (List UInt8)) (b_3 : (List Int)) (v24 : Bool) : Option (List UInt8) :=
  if v24 then
    (at? b_3 i_).bind fun x_ =>
    (at? b_3 i_).bind fun x_1 =>
    clerestoryref2_Lower_j11 i_ self K0_ (b_3.set i_.toNat (wr .u8 (x_ + 32)))
  else
    clerestoryref2_Lower_j11 i_ self K0_ b_3
theorem clerestoryref2_Lower_j12_ok {mL : Int} {Q : AExit → St → Prop} {i_ : Int} {self : (List Int) → Int → Option (List UInt8)} {K0_ : (List Int) → Option (List UInt8)} {b_3 : (List Int)} {v24 : Bool} {zb_3 : Bool} (hzb_3 : zb_3 = true → b_3 = []) {o : (List UInt8)} (h : clerestoryref2_Lower_j12 i_ self K0_ b_3 v24 = some o)
    (hself : ∀ (b_ : (List Int)) (i_ : Int) (zb : Bool) (_ : zb = true → b_ = []), self b_ i_ = some o → ∀ s, Weak 0 s ⟨(upd (upd (fun _ => none) 3 (some (lstV zb 0 1 b_.length))) 4 (some (I i_))), (upd (fun _ => none) 0 (lstB zb 1 (b_.map (eK .u8)))), 1⟩ → (Q) .normal s)
    (hK0 : ∀ (b_1 : (List Int)) (zb_1 : Bool) (_ : zb_1 = true → b_1 = []), K0_ b_1 = some o → ∀ s, Weak 0 s ⟨(upd (fun _ => none) 3 (some (lstV zb_1 0 1 b_1.length))), (upd (fun _ => none) 0 (lstB zb_1 1 (b_1.map (eK .u8)))), 1⟩ → Q (.exit 0) s)
    (hr : ∀ s, Ends a157.results 0 (clerestoryref2_Lower_post o) .ret s → Q .ret s) :
    Sv Tryd.prog (GG mL) 0 a157_c0 (clerestoryref2_Lower_q1 mL Q) ⟨(upd (upd (upd (fun _ => none) 3 (some (lstV zb_3 0 1 b_3.length))) 4 (some (I i_))) 24 (some (B v24))), (upd (fun _ => none) 0 (lstB zb_3 1 (b_3.map (eK .u8)))), 1⟩ := by
  unfold clerestoryref2_Lower_j12 at h
  refine Sv.cond (b := v24) rfl (fun hc2 => ?_) (fun hc2 => ?_)
  · replace h := ifT hc2 h
    refine Sv.region ?_
    refine un (a1 rfl ?_)
    refine un (a1 rfl ?_)
    refine un (a1 rfl ?_)
    refine un (a1 rfl ?_)
    obtain ⟨x_, hx1, h⟩ := bnd h
    refine un (a1 (v := (.c (.ref 0 1 i_.toNat 0))) (s_iaddrL rfl rfl hzb_3 hx1) ?_)
    refine un (a1 (v := (.c (.val (.int .u8 x_)))) (s_loadL (z := zb_3) (e := (eK .u8)) rfl rfl hzb_3 hx1 rfl rfl) ?_)
    refine un (a1 (v := (.c (.val (.int .u8 (wr .u8 (x_ + 32)))))) rfl ?_)
    obtain ⟨x_1, hx2, h⟩ := bnd h
    refine un (a1 (v := (.c (.ref 0 1 i_.toNat 0))) (s_iaddrL rfl rfl hzb_3 hx2) ?_)
    refine un (a2n (h' := upd _ 0 (lstB zb_3 1 ((b_3.set i_.toNat (wr .u8 (x_ + 32))).map (eK .u8)))) (n' := 1) rfl (s_storeL (e := (eK .u8)) (q' := (wr .u8 (x_ + 32))) rfl rfl hzb_3 hx2 rfl rfl rfl (Nat.le_of_ble_eq_true rfl) rfl) (fun h => by cases h) ?_)
    try rw [len_set b_3 i_.toNat (wr .u8 (x_ + 32))]
    refine dnil ?_
    exact Sv.weak (weak_canon [0] rfl (by decide) (by decide) (fun b h => absurd h (Nat.not_lt_zero _)) (.cons rfl (avAs_free rfl) (.cons rfl (.c (lstC_ren rfl (by decide))) .nil)) (.row (by decide) rfl (fr_map fun _ => rfl) .nil)) (clerestoryref2_Lower_j11_ok (hz_len hzb_3 (len_set b_3 i_.toNat (wr .u8 (x_ + 32)))) h hself hK0 hr)
  · replace h := ifF hc2 h
    refine Sv.skip ?_
    exact Sv.weak (weak_canon [0] rfl (by decide) (by decide) (fun b h => absurd h (Nat.not_lt_zero _)) (.cons rfl (avAs_free rfl) (.cons rfl (.c (lstC_ren rfl (by decide))) .nil)) (.row (by decide) rfl (fr_map fun _ => rfl) .nil)) (clerestoryref2_Lower_j11_ok hzb_3 h hself hK0 hr)
noncomputable def clerestoryref2_Lower_l0 (K0_ : (List Int) → Option (List UInt8)) : Nat → (List Int) → Int → Option (List UInt8)
  | 0, _, _ => none
  | k + 1, b_, i_ =>
    if decide (i_ < (b_.length : Int)) then
      (at? b_ i_).bind fun x_2 =>
      if decide (65 ≤ x_2) then
        (at? b_ i_).bind fun x_3 =>
        clerestoryref2_Lower_j12 i_ (clerestoryref2_Lower_l0 K0_ k) K0_ b_ (decide (x_3 ≤ 90))
      else
        clerestoryref2_Lower_j12 i_ (clerestoryref2_Lower_l0 K0_ k) K0_ b_ false
    else
      K0_ b_
theorem clerestoryref2_Lower_l0_ok {mL : Int} {Q : AExit → St → Prop} {K0_ : (List Int) → Option (List UInt8)} {k : Nat} {b_ : (List Int)} {i_ : Int} {zb : Bool} (hzb : zb = true → b_ = []) {o : (List UInt8)} (h : clerestoryref2_Lower_l0 K0_ k b_ i_ = some o)
    (hK0 : ∀ (b_1 : (List Int)) (zb_1 : Bool) (_ : zb_1 = true → b_1 = []), K0_ b_1 = some o → ∀ s, Weak 0 s ⟨(upd (fun _ => none) 3 (some (lstV zb_1 0 1 b_1.length))), (upd (fun _ => none) 0 (lstB zb_1 1 (b_1.map (eK .u8)))), 1⟩ → Q (.exit 0) s)
    (hr : ∀ s, Ends a157.results 0 (clerestoryref2_Lower_post o) .ret s → Q .ret s) :
    Sv Tryd.prog (GG mL) 0 (.loop a157_c2) Q ⟨(upd (upd (fun _ => none) 3 (some (lstV zb 0 1 b_.length))) 4 (some (I i_))), (upd (fun _ => none) 0 (lstB zb 1 (b_.map (eK .u8)))), 1⟩ := by
  refine Sv.loop (I := fun k s => ∃ (b_ : (List Int)), ∃ (i_ : Int), ∃ (zb : Bool), (zb = true → b_ = []) ∧ clerestoryref2_Lower_l0 K0_ k b_ i_ = some o ∧ s = ⟨(upd (upd (fun _ => none) 3 (some (lstV zb 0 1 b_.length))) 4 (some (I i_))), (upd (fun _ => none) 0 (lstB zb 1 (b_.map (eK .u8)))), 1⟩) (fun k s hI => ?_) ⟨b_, i_, zb, hzb, h, rfl⟩
  clear h
  clear hzb zb i_ b_
  obtain ⟨b_, i_, zb, hzb, h, rfl⟩ := hI
  cases k with
  | zero => cases h
  | succ k =>
  rw [clerestoryref2_Lower_l0] at h
  have hself : ∀ (b_ : (List Int)) (i_ : Int) (zb : Bool) (_ : zb = true → b_ = []), (clerestoryref2_Lower_l0 K0_ k) b_ i_ = some o → ∀ s, Weak 0 s ⟨(upd (upd (fun _ => none) 3 (some (lstV zb 0 1 b_.length))) 4 (some (I i_))), (upd (fun _ => none) 0 (lstB zb 1 (b_.map (eK .u8)))), 1⟩ → (AThen (fun s' => ∃ s'' k', Weak 0 s' s'' ∧ k' < k + 1 ∧ (fun k s => ∃ (b_ : (List Int)), ∃ (i_ : Int), ∃ (zb : Bool), (zb = true → b_ = []) ∧ clerestoryref2_Lower_l0 K0_ k b_ i_ = some o ∧ s = ⟨(upd (upd (fun _ => none) 3 (some (lstV zb 0 1 b_.length))) 4 (some (I i_))), (upd (fun _ => none) 0 (lstB zb 1 (b_.map (eK .u8)))), 1⟩) k' s'') Q) .normal s := fun b_ i_ zb hzb h s hw => ⟨_, k, hw, Nat.lt_succ_self k, b_, i_, zb, hzb, h, rfl⟩
  refine Sv.seq ?_
  refine Sv.seq ?_
  refine Sv.region ?_
  refine un (a1 rfl ?_)
  refine un (a1 rfl ?_)
  refine un (a1 (v := (I (b_.length : Int))) (s_lenL rfl (len_nil_of hzb)) ?_)
  refine un (a1 (v := (B (decide (i_ < (b_.length : Int))))) rfl ?_)
  refine dnil ?_
  refine Sv.cond (b := decide (i_ < (b_.length : Int))) rfl (fun hc1 => ?_) (fun hc1 => ?_)
  · replace h := ifT hc1 h
    refine Sv.skip ?_
    refine Sv.seq ?_
    refine Sv.block ?_
    refine Sv.seq ?_
    refine Sv.region ?_
    refine un (a1 rfl ?_)
    refine un (a1 rfl ?_)
    obtain ⟨x_2, hx3, h⟩ := bnd h
    refine un (a1 (v := (.c (.ref 0 1 i_.toNat 0))) (s_iaddrL rfl rfl hzb hx3) ?_)
    refine un (a1 (v := (.c (.val (.int .u8 x_2)))) (s_loadL (z := zb) (e := (eK .u8)) rfl rfl hzb hx3 rfl rfl) ?_)
    refine un (a1 (v := (B (decide (65 ≤ x_2)))) rfl ?_)
    refine un (a1 rfl ?_)
    refine split2 (fun hc3 => ?_) (fun hc3 => ?_)
    · replace h := ifT hc3 h
      refine gt rfl (a1 rfl ?_)
      refine gt rfl (a1 rfl ?_)
      obtain ⟨x_3, hx4, h⟩ := bnd h
      refine gt rfl (a1 (v := (.c (.ref 0 1 i_.toNat 0))) (s_iaddrL rfl rfl hzb hx4) ?_)
      refine gt rfl (a1 (v := (.c (.val (.int .u8 x_3)))) (s_loadL (z := zb) (e := (eK .u8)) rfl rfl hzb hx4 rfl rfl) ?_)
      refine gt rfl (a1 (v := (B (decide (x_3 ≤ 90)))) rfl ?_)
      refine un (a1 (v := (B (decide (x_3 ≤ 90)))) rfl ?_)
      refine dnil ?_
      exact Sv.weak (weak_canon [0] rfl (by decide) (by decide) (fun b h => absurd h (Nat.not_lt_zero _)) (.cons rfl (avAs_free rfl) (.cons rfl (avAs_free rfl) (.cons rfl (.c (lstC_ren rfl (by decide))) .nil))) (.row (by decide) rfl (fr_map fun _ => rfl) .nil)) (clerestoryref2_Lower_j12_ok hzb h hself hK0 hr)
    · replace h := ifF hc3 h
      refine gs rfl rfl ?_
      refine gs rfl rfl ?_
      refine gs rfl rfl ?_
      refine gs rfl rfl ?_
      refine gs rfl rfl ?_
      refine un (a1 (v := (B false)) rfl ?_)
      refine dnil ?_
      exact Sv.weak (weak_canon [0] rfl (by decide) (by decide) (fun b h => absurd h (Nat.not_lt_zero _)) (.cons rfl (avAs_free rfl) (.cons rfl (avAs_free rfl) (.cons rfl (.c (lstC_ren rfl (by decide))) .nil))) (.row (by decide) rfl (fr_map fun _ => rfl) .nil)) (clerestoryref2_Lower_j12_ok hzb h hself hK0 hr)
  · replace h := ifF hc1 h
    refine Sv.exit ?_
    exact hK0 b_ zb hzb h _ (weak_canon [0] rfl (by decide) (by decide) (fun b h => absurd h (Nat.not_lt_zero _)) (.cons rfl (.c (lstC_ren rfl (by decide))) .nil) (.row (by decide) rfl (fr_map fun _ => rfl) .nil))
/-- clerestory/clerestoryref2.Lower -/
noncomputable def clerestoryref2_Lower (s_ : (List UInt8)) : Option (List UInt8) :=
  lim fun kk => clerestoryref2_Lower_l0 (fun (b_1 : (List Int)) => 
      some (byts b_1)) kk (ints s_) 0
theorem clerestoryref2_Lower_ok {mL : Int} {s_ : (List UInt8)} {r : (List UInt8)} (h : clerestoryref2_Lower s_ = some r) : CPure Tryd.prog (GG mL) 157 [(S s_)] (S r) := by
  refine acalls_of_sv hmix c157 (R := clerestoryref2_Lower_post r) ?_
  unfold clerestoryref2_Lower at h
  refine Sv.seq ?_
  refine Sv.region ?_
  refine un (a1 rfl ?_)
  refine dnil ?_
  refine Sv.seq ?_
  refine Sv.region ?_
  refine un (a1 rfl ?_)
  refine un (a2v (v := (lstV false 0 1 (ints s_).length)) (h' := upd _ 0 (lstB false 1 ((ints s_).map (eK .u8)))) (n' := 1) rfl (s_toBytes rfl) (fun h => by cases h) ?_)
  refine un (a1 rfl ?_)
  refine dnil ?_
  refine Sv.seq ?_
  refine Sv.seq ?_
  refine Sv.region ?_
  refine un (a1 rfl ?_)
  refine dnil ?_
  refine Sv.block ?_
  obtain ⟨kk, h⟩ := lim_some h
  refine Sv.weak (weak_canon [0] rfl (by decide) (by decide) (fun b h => absurd h (Nat.not_lt_zero _)) (.cons rfl (avAs_free rfl) (.cons rfl (.c (lstC_ren rfl (by decide))) .nil)) (.row (by decide) rfl (fr_map fun _ => rfl) .nil)) (clerestoryref2_Lower_l0_ok (fun h => by cases h) h ?_ (fun s hs => hs))
  · intro b_1 zb_1 hzb_1 h _ hw1
    refine Sv.weak hw1 ?_
    refine Sv.seq ?_
    refine Sv.region ?_
    refine un (a1 rfl ?_)
    refine un (a1 (v := (S (byts b_1))) (s_ofBytes (xs := b_1) rfl (slc_lst rfl (List.length_map _).symm (map_nil_of hzb_1))) ?_)
    refine un (a1 rfl ?_)
    refine dnil ?_
    refine Sv.ret ?_
    replace h := Option.some.inj h
    subst h
    exact ⟨_, .refl _, _, rfl, ⟨upd (fun _ => none) 0 (some (S (byts b_1))), (fun _ => none), 0⟩, (S (byts b_1)), weak_canon [] rfl List.nodup_nil (Nat.le_refl _) (fun b h => absurd h (Nat.not_lt_zero _)) (.cons rfl (avAs_free rfl) .nil) .nil, rfl, rfl, rfl, rfl⟩
def a120_c0 : ACode := (.seq (.region [⟨(some 41), (.load true 4 (.tmp 7)), none⟩, ⟨none, (.store 4 (.tmp 6) (.tmp 41)), none⟩])
 .ret)
def a120 : AFunc := ⟨3, [(.cell true 4 6)], (.seq (.region [⟨(some 6), (.box (.const (.agg [(.val (.int .i64 0)), (.str []), (.str []), (.val (.int .i64 0))]))), none⟩])
 (.seq (.region [⟨(some 10), (.mov (.tmp 0)), none⟩, ⟨(some 11), (.mov (.tmp 2)), none⟩, ⟨(some 12), (.slStr (.tmp 10) none (some (.tmp 11))), none⟩, ⟨(some 13), (.mov (.tmp 1)), none⟩, ⟨(some 14), (.build [(.val (.int .i64 0)), (.str []), (.str []), (.val (.int .i64 0))] [(0, (1, (.const (.c (.val (.int .i64 7)))))), (1, (1, (.tmp 12))), (3, (1, (.tmp 13)))]), none⟩, ⟨(some 7), (.box (.const (.agg [(.val (.int .i64 0)), (.str []), (.str []), (.val (.int .i64 0))]))), none⟩, ⟨none, (.store 4 (.tmp 7) (.tmp 14)), none⟩])
 (.seq (.seq (.region [⟨(some 15), (.mov (.tmp 0)), none⟩, ⟨(some 16), (.mov (.tmp 2)), none⟩, ⟨(some 17), (.call 68 [(.tmp 15), (.tmp 16)]), none⟩, ⟨(some 18), (.bin .eql (.tmp 17) (.const (.c (.val (.int .u8 37))))), none⟩])
 (.cond (.tmp 18) (.seq (.region [⟨(some 19), (.mov (.tmp 0)), none⟩, ⟨(some 20), (.mov (.tmp 2)), none⟩, ⟨(some 21), (.bin .add (.tmp 20) (.const (.c (.val (.int .i64 1))))), none⟩, ⟨(some 22), (.slStr (.tmp 19) none (some (.tmp 21))), none⟩, ⟨(some 23), (.faddr 1 (.tmp 7)), none⟩, ⟨none, (.store 1 (.tmp 23) (.tmp 22)), none⟩])
 (.region [⟨(some 24), (.faddr 2 (.tmp 7)), none⟩, ⟨none, (.store 1 (.tmp 24) (.const (.c (.str [37])))), none⟩])) (.seq (.region [⟨(some 25), (.mov (.tmp 0)), none⟩, ⟨(some 26), (.mov (.tmp 2)), none⟩, ⟨(some 27), (.call 124 [(.tmp 25), (.tmp 26)]), none⟩])
 (.cond (.tmp 27) (.seq (.region [⟨(some 29), (.mov (.tmp 0)), none⟩, ⟨(some 30), (.mov (.tmp 2)), none⟩, ⟨(some 31), (.call 123 [(.tmp 29), (.tmp 30)]), none⟩, ⟨(some 28), (.mov (.tmp 31)), none⟩, ⟨(some 32), (.ext (.tmp 28) 0), none⟩, ⟨(some 33), (.ext (.tmp 28) 1), none⟩, ⟨(some 8), (.mov (.tmp 32)), none⟩, ⟨(some 9), (.mov (.tmp 33)), none⟩])
 (.seq (.region [⟨(some 34), (.mov (.tmp 0)), none⟩, ⟨(some 35), (.mov (.tmp 9)), none⟩, ⟨(some 36), (.slStr (.tmp 34) none (some (.tmp 35))), none⟩, ⟨(some 37), (.faddr 1 (.tmp 7)), none⟩, ⟨none, (.store 1 (.tmp 37) (.tmp 36)), none⟩])
 (.region [⟨(some 38), (.mov (.tmp 8)), none⟩, ⟨(some 39), (.call 157 [(.tmp 38)]), none⟩, ⟨(some 40), (.faddr 2 (.tmp 7)), none⟩, ⟨none, (.store 1 (.tmp 40) (.tmp 39)), none⟩]))) .skip))))
 a120_c0)))⟩
set_option maxRecDepth 100000 in
theorem c120 : compFunc Tryd.prog 120 = some a120 := by kernel_rfl
def clerestoryref2_numAt_post (r : TSToken) : AV → Heap → Nat → Prop := fun v h' n' => v = (.agg [cI r.Kind, .str r.Raw, .str r.Value, cI r.Num]) ∧ (h' = (fun _ => none)) ∧ n' = 0
noncomputable def clerestoryref2_numAt_j1 (n_ : Int) (t1 : (List UInt8)) (t2 : (List UInt8)) : Option TSToken :=
  some (⟨7, t1, t2, n_⟩ : TSToken)
theorem clerestoryref2_numAt_j1_ok {mL : Int} {n_ : Int} {t1 : (List UInt8)} {t2 : (List UInt8)} {o : TSToken} (h : clerestoryref2_numAt_j1 n_ t1 t2 = some o) :
    Sv Tryd.prog (GG mL) 0 a120_c0 (Ends a120.results 0 (clerestoryref2_numAt_post o)) ⟨(upd (upd (fun _ => none) 6 (some (.c (.ref 0 4 0 0)))) 7 (some (.c (.ref 1 4 0 0)))), (upd (upd (fun _ => none) 0 (some (.cells 4 [[cI 0, .str [], .str [], cI 0]]))) 1 (some (.cells 4 [[cI 7, .str t1, .str t2, cI n_]]))), 2⟩ := by
  unfold clerestoryref2_numAt_j1 at h
  refine Sv.seq ?_
  refine Sv.region ?_
  refine un (a1 (v := (.agg [cI 7, .str t1, .str t2, cI n_])) rfl ?_)
  refine un (a2n (h' := upd _ 0 (some (.cells 4 [[cI 7, .str t1, .str t2, cI n_]]))) (n' := 2) rfl rfl (fun h => by cases h) ?_)
  refine dnil ?_
  refine Sv.ret ?_
  replace h := Option.some.inj h
  subst h
  exact ⟨_, .refl _, _, rfl, ⟨upd (fun _ => none) 0 (some (.agg [cI 7, .str t1, .str t2, cI n_])), (fun _ => none), 0⟩, (.agg [cI 7, .str t1, .str t2, cI n_]), weak_canon [] rfl List.nodup_nil (Nat.le_refl _) (fun b h => absurd h (Nat.not_lt_zero _)) (.cons rfl (avAs_free rfl) .nil) .nil, rfl, rfl, rfl, rfl⟩
/-- clerestory/clerestoryref2.numAt -/
noncomputable def clerestoryref2_numAt (s_ : (List UInt8)) (n_ : Int) (end_ : Int) : Option TSToken :=
  (sub? s_ 0 end_).bind fun r_ =>
  (clerestoryref2_at s_ end_).bind fun r_1 =>
  if decide (r_1 = 37) then
    (sub? s_ 0 (wi (end_ + 1))).bind fun r_2 =>
    clerestoryref2_numAt_j1 n_ r_2 [37]
  else
    (clerestoryref2_begins s_ end_).bind fun r_3 =>
    if r_3 then
      (clerestoryref2_said s_ end_).bind fun r_4 =>
      (sub? s_ 0 r_4.2).bind fun r_5 =>
      (clerestoryref2_Lower r_4.1).bind fun r_6 =>
      clerestoryref2_numAt_j1 n_ r_5 r_6
    else
      clerestoryref2_numAt_j1 n_ r_ []
theorem clerestoryref2_numAt_ok {mL : Int} {s_ : (List UInt8)} {n_ : Int} {end_ : Int} {r : TSToken} (h : clerestoryref2_numAt s_ n_ end_ = some r) : CPure Tryd.prog (GG mL) 120 [(S s_), (I n_), (I end_)] (.agg [cI r.Kind, .str r.Raw, .str r.Value, cI r.Num]) := by
  refine acalls_of_sv hmix c120 (R := clerestoryref2_numAt_post r) ?_
  unfold clerestoryref2_numAt at h
  refine Sv.seq ?_
  refine Sv.region ?_
  refine un (a2v (v := (.c (.ref 0 4 0 0))) (h' := upd _ 0 (some (.cells 4 [[cI 0, .str [], .str [], cI 0]]))) (n' := 1) rfl rfl (fun h => by cases h) ?_)
  refine dnil ?_
  refine Sv.seq ?_
  refine Sv.region ?_
  refine un (a1 rfl ?_)
  refine un (a1 rfl ?_)
  obtain ⟨r_, hx1, h⟩ := bnd h
  refine un (a1 (v := (S r_)) (s_slStr rfl rfl rfl hx1) ?_)
  refine un (a1 rfl ?_)
  refine un (a1 (v := (.agg [cI 7, .str r_, .str [], cI n_])) rfl ?_)
  refine un (a2v (v := (.c (.ref 1 4 0 0))) (h' := upd _ 1 (some (.cells 4 [[cI 0, .str [], .str [], cI 0]]))) (n' := 2) rfl rfl (fun h => by cases h) ?_)
  refine un (a2n (h' := upd _ 1 (some (.cells 4 [[cI 7, .str r_, .str [], cI n_]]))) (n' := 2) rfl rfl (fun h => by cases h) ?_)
  refine dnil ?_
  refine Sv.seq ?_
  refine Sv.seq ?_
  refine Sv.region ?_
  refine un (a1 rfl ?_)
  refine un (a1 rfl ?_)
  obtain ⟨r_1, hr1, h⟩ := bnd h
  refine un (ac_pure (clerestoryref2_at_ok hr1) rfl rfl rfl ?_)
  refine un (a1 (v := (B (decide (r_1 = 37)))) rfl ?_)
  refine dnil ?_
  refine Sv.cond (b := decide (r_1 = 37)) rfl (fun hc1 => ?_) (fun hc1 => ?_)
  · replace h := ifT hc1 h
    refine Sv.seq ?_
    refine Sv.region ?_
    refine un (a1 rfl ?_)
    refine un (a1 rfl ?_)
    refine un (a1 (v := (I (wi (end_ + 1)))) rfl ?_)
    obtain ⟨r_2, hx2, h⟩ := bnd h
    refine un (a1 (v := (S r_2)) (s_slStr rfl rfl rfl hx2) ?_)
    refine un (a1 (v := (.c (.ref 1 4 0 1))) rfl ?_)
    refine un (a2n (h' := upd _ 1 (some (.cells 4 [[cI 7, .str r_2, .str [], cI n_]]))) (n' := 2) rfl rfl (fun h => by cases h) ?_)
    refine dnil ?_
    refine Sv.region ?_
    refine un (a1 (v := (.c (.ref 1 4 0 2))) rfl ?_)
    refine un (a2n (h' := upd _ 1 (some (.cells 4 [[cI 7, .str r_2, .str [37], cI n_]]))) (n' := 2) rfl rfl (fun h => by cases h) ?_)
    refine dnil ?_
    exact Sv.weak (weak_canon [0, 1] rfl (by decide) (by decide) (fun b h => absurd h (Nat.not_lt_zero _)) (.cons rfl (.c (.ref rfl (by decide))) (.cons rfl (.c (.ref rfl (by decide))) .nil)) (.box (by decide) rfl (blkAs_cells (.cons (.same rfl) (.cons (.same rfl) (.cons (.same rfl) (.cons (.same rfl) .nil))))) (.box (by decide) rfl (blkAs_cells (.cons (.same rfl) (.cons (.same rfl) (.cons (.same rfl) (.cons (.same rfl) .nil))))) .nil))) (clerestoryref2_numAt_j1_ok h)
  · replace h := ifF hc1 h
    refine Sv.seq ?_
    refine Sv.region ?_
    refine un (a1 rfl ?_)
    refine un (a1 rfl ?_)
    obtain ⟨r_3, hr2, h⟩ := bnd h
    refine un (ac_pure (clerestoryref2_begins_ok hr2) rfl rfl rfl ?_)
    refine dnil ?_
    refine Sv.cond (b := r_3) rfl (fun hc2 => ?_) (fun hc2 => ?_)
    · replace h := ifT hc2 h
      refine Sv.seq ?_
      refine Sv.region ?_
      refine un (a1 rfl ?_)
      refine un (a1 rfl ?_)
      obtain ⟨r_4, hr3, h⟩ := bnd h
      refine un (ac_pure (clerestoryref2_said_ok hr3) rfl rfl rfl ?_)
      refine un (a1 rfl ?_)
      refine un (a1 (v := (S r_4.1)) rfl ?_)
      refine un (a1 (v := (I r_4.2)) rfl ?_)
      refine un (a1 rfl ?_)
      refine un (a1 rfl ?_)
      refine dnil ?_
      refine Sv.seq ?_
      refine Sv.region ?_
      refine un (a1 rfl ?_)
      refine un (a1 rfl ?_)
      obtain ⟨r_5, hx3, h⟩ := bnd h
      refine un (a1 (v := (S r_5)) (s_slStr rfl rfl rfl hx3) ?_)
      refine un (a1 (v := (.c (.ref 1 4 0 1))) rfl ?_)
      refine un (a2n (h' := upd _ 1 (some (.cells 4 [[cI 7, .str r_5, .str [], cI n_]]))) (n' := 2) rfl rfl (fun h => by cases h) ?_)
      refine dnil ?_
      refine Sv.region ?_
      refine un (a1 rfl ?_)
      obtain ⟨r_6, hr4, h⟩ := bnd h
      refine un (ac_pure (clerestoryref2_Lower_ok hr4) rfl rfl rfl ?_)
      refine un (a1 (v := (.c (.ref 1 4 0 2))) rfl ?_)
      refine un (a2n (h' := upd _ 1 (some (.cells 4 [[cI 7, .str r_5, .str r_6, cI n_]]))) (n' := 2) rfl rfl (fun h => by cases h) ?_)
      refine dnil ?_
      exact Sv.weak (weak_canon [0, 1] rfl (by decide) (by decide) (fun b h => absurd h (Nat.not_lt_zero _)) (.cons rfl (.c (.ref rfl (by decide))) (.cons rfl (.c (.ref rfl (by decide))) .nil)) (.box (by decide) rfl (blkAs_cells (.cons (.same rfl) (.cons (.same rfl) (.cons (.same rfl) (.cons (.same rfl) .nil))))) (.box (by decide) rfl (blkAs_cells (.cons (.same rfl) (.cons (.same rfl) (.cons (.same rfl) (.cons (.same rfl) .nil))))) .nil))) (clerestoryref2_numAt_j1_ok h)
    · replace h := ifF hc2 h
      refine Sv.skip ?_
      exact Sv.weak (weak_canon [0, 1] rfl (by decide) (by decide) (fun b h => absurd h (Nat.not_lt_zero _)) (.cons rfl (.c (.ref rfl (by decide))) (.cons rfl (.c (.ref rfl (by decide))) .nil)) (.box (by decide) rfl (blkAs_cells (.cons (.same rfl) (.cons (.same rfl) (.cons (.same rfl) (.cons (.same rfl) .nil))))) (.box (by decide) rfl (blkAs_cells (.cons (.same rfl) (.cons (.same rfl) (.cons (.same rfl) (.cons (.same rfl) .nil))))) .nil))) (clerestoryref2_numAt_j1_ok h)
def a71_c0 : ACode := (.cond (.tmp 27) .skip (.exit 0))
def a71_c1 : ACode := (.block 1 (.region [⟨(some 28), (.mov (.tmp 4)), none⟩, ⟨(some 29), (.bin .add (.tmp 28) (.const (.c (.val (.int .i64 1))))), none⟩, ⟨(some 4), (.mov (.tmp 29)), none⟩]))
def a71_c2 : ACode := (.seq (.seq (.region [⟨(some 18), (.mov (.tmp 4)), none⟩, ⟨(some 19), (.mov (.tmp 0)), none⟩, ⟨(some 20), (.lenS (.tmp 19)), none⟩, ⟨(some 21), (.bin .lss (.tmp 18) (.tmp 20)), none⟩, ⟨(some 22), (.mov (.tmp 21)), none⟩, ⟨(some 23), (.mov (.tmp 0)), (some (22, true))⟩, ⟨(some 24), (.mov (.tmp 4)), (some (22, true))⟩, ⟨(some 25), (.idxS (.tmp 23) (.tmp 24)), (some (22, true))⟩, ⟨(some 26), (.call 117 [(.tmp 25)]), (some (22, true))⟩, ⟨(some 27), (.pick (.tmp 22) (.tmp 26) (.const (.c (.val (.bool false))))), none⟩])
 a71_c0)
 a71_c1)
def a71_c3 : ACode := (.cond (.tmp 40) (.seq (.region [⟨(some 41), (.mov (.tmp 0)), none⟩, ⟨(some 42), (.call 118 [(.tmp 41)]), none⟩, ⟨none, (.store 4 (.tmp 2) (.tmp 42)), none⟩])
 .ret) .skip)
def a71_c4 : ACode := (.cond (.tmp 77) (.seq (.region [⟨(some 79), (.mov (.tmp 0)), none⟩, ⟨(some 80), (.call 123 [(.tmp 79), (.const (.c (.val (.int .i64 1))))]), none⟩, ⟨(some 78), (.mov (.tmp 80)), none⟩, ⟨(some 81), (.ext (.tmp 78) 0), none⟩, ⟨(some 82), (.ext (.tmp 78) 1), none⟩, ⟨(some 7), (.mov (.tmp 81)), none⟩, ⟨(some 8), (.mov (.tmp 82)), none⟩])
 (.seq (.region [⟨(some 83), (.mov (.tmp 0)), none⟩, ⟨(some 84), (.mov (.tmp 8)), none⟩, ⟨(some 85), (.slStr (.tmp 83) none (some (.tmp 84))), none⟩, ⟨(some 86), (.mov (.tmp 7)), none⟩, ⟨(some 87), (.build [(.val (.int .i64 0)), (.str []), (.str []), (.val (.int .i64 0))] [(0, (1, (.const (.c (.val (.int .i64 4)))))), (1, (1, (.tmp 85))), (2, (1, (.tmp 86)))]), none⟩, ⟨none, (.store 4 (.tmp 2) (.tmp 87)), none⟩])
 .ret)) .skip)
def a71_c5 : ACode := (.cond (.tmp 93) (.seq (.region [⟨(some 95), (.mov (.tmp 0)), none⟩, ⟨(some 96), (.call 123 [(.tmp 95), (.const (.c (.val (.int .i64 1))))]), none⟩, ⟨(some 94), (.mov (.tmp 96)), none⟩, ⟨(some 97), (.ext (.tmp 94) 0), none⟩, ⟨(some 98), (.ext (.tmp 94) 1), none⟩, ⟨(some 9), (.mov (.tmp 97)), none⟩, ⟨(some 10), (.mov (.tmp 98)), none⟩])
 (.seq (.region [⟨(some 99), (.mov (.tmp 0)), none⟩, ⟨(some 100), (.mov (.tmp 10)), none⟩, ⟨(some 101), (.slStr (.tmp 99) none (some (.tmp 100))), none⟩, ⟨(some 102), (.mov (.tmp 9)), none⟩, ⟨(some 103), (.build [(.val (.int .i64 0)), (.str []), (.str []), (.val (.int .i64 0))] [(0, (1, (.const (.c (.val (.int .i64 3)))))), (1, (1, (.tmp 101))), (2, (1, (.tmp 102)))]), none⟩, ⟨none, (.store 4 (.tmp 2) (.tmp 103)), none⟩])
 .ret)) .skip)
def a71_c8 : ACode := (.seq (.region [⟨(some 148), (.mov (.tmp 13)), none⟩, ⟨(some 149), (.mov (.tmp 0)), none⟩, ⟨(some 150), (.slStr (.tmp 149) none (some (.const (.c (.val (.int .i64 1)))))), none⟩, ⟨(some 151), (.build [(.val (.int .i64 0)), (.str []), (.str []), (.val (.int .i64 0))] [(0, (1, (.tmp 148))), (1, (1, (.tmp 150)))]), none⟩, ⟨none, (.store 4 (.tmp 2) (.tmp 151)), none⟩])
 .ret)
def a71_c7 : ACode := (.seq (.seq (.region [⟨(some 146), (.mov (.tmp 3)), none⟩, ⟨(some 147), (.bin .eql (.tmp 146) (.const (.c (.val (.int .u8 92))))), none⟩])
 (.cond (.tmp 147) (.region [⟨(some 13), (.mov (.const (.c (.val (.int .i64 6))))), none⟩]) .skip))
 a71_c8)
def a71_c6 : ACode := (.seq (.seq (.region [⟨(some 136), (.mov (.tmp 3)), none⟩, ⟨(some 137), (.bin .eql (.tmp 136) (.const (.c (.val (.int .u8 41))))), none⟩, ⟨(some 138), (.mov (.tmp 137)), none⟩, ⟨(some 139), (.mov (.tmp 3)), (some (138, false))⟩, ⟨(some 140), (.bin .eql (.tmp 139) (.const (.c (.val (.int .u8 93))))), (some (138, false))⟩, ⟨(some 141), (.pick (.tmp 138) (.const (.c (.val (.bool true)))) (.tmp 140)), none⟩, ⟨(some 142), (.mov (.tmp 141)), none⟩, ⟨(some 143), (.mov (.tmp 3)), (some (142, false))⟩, ⟨(some 144), (.bin .eql (.tmp 143) (.const (.c (.val (.int .u8 125))))), (some (142, false))⟩, ⟨(some 145), (.pick (.tmp 142) (.const (.c (.val (.bool true)))) (.tmp 144)), none⟩])
 (.cond (.tmp 145) (.region [⟨(some 13), (.mov (.const (.c (.val (.int .i64 11))))), none⟩]) .skip))
 a71_c7)
def a71_c9 : ACode := (.seq (.seq (.region [⟨(some 104), (.mov (.tmp 0)), none⟩, ⟨(some 105), (.call 124 [(.tmp 104), (.const (.c (.val (.int .i64 0))))]), none⟩])
 (.cond (.tmp 105) (.seq (.region [⟨(some 107), (.mov (.tmp 0)), none⟩, ⟨(some 108), (.call 123 [(.tmp 107), (.const (.c (.val (.int .i64 0))))]), none⟩, ⟨(some 106), (.mov (.tmp 108)), none⟩, ⟨(some 109), (.ext (.tmp 106) 0), none⟩, ⟨(some 110), (.ext (.tmp 106) 1), none⟩, ⟨(some 11), (.mov (.tmp 109)), none⟩, ⟨(some 12), (.mov (.tmp 110)), none⟩])
 (.seq (.seq (.region [⟨(some 111), (.mov (.tmp 0)), none⟩, ⟨(some 112), (.mov (.tmp 12)), none⟩, ⟨(some 113), (.call 68 [(.tmp 111), (.tmp 112)]), none⟩, ⟨(some 114), (.bin .eql (.tmp 113) (.const (.c (.val (.int .u8 40))))), none⟩])
 (.cond (.tmp 114) (.seq (.region [⟨(some 115), (.mov (.tmp 0)), none⟩, ⟨(some 116), (.mov (.tmp 12)), none⟩, ⟨(some 117), (.bin .add (.tmp 116) (.const (.c (.val (.int .i64 1))))), none⟩, ⟨(some 118), (.slStr (.tmp 115) none (some (.tmp 117))), none⟩, ⟨(some 119), (.mov (.tmp 11)), none⟩, ⟨(some 120), (.build [(.val (.int .i64 0)), (.str []), (.str []), (.val (.int .i64 0))] [(0, (1, (.const (.c (.val (.int .i64 2)))))), (1, (1, (.tmp 118))), (2, (1, (.tmp 119)))]), none⟩, ⟨none, (.store 4 (.tmp 2) (.tmp 120)), none⟩])
 .ret) .skip))
 (.seq (.region [⟨(some 121), (.mov (.tmp 0)), none⟩, ⟨(some 122), (.mov (.tmp 12)), none⟩, ⟨(some 123), (.slStr (.tmp 121) none (some (.tmp 122))), none⟩, ⟨(some 124), (.mov (.tmp 11)), none⟩, ⟨(some 125), (.build [(.val (.int .i64 0)), (.str []), (.str []), (.val (.int .i64 0))] [(0, (1, (.const (.c (.val (.int .i64 1)))))), (1, (1, (.tmp 123))), (2, (1, (.tmp 124)))]), none⟩, ⟨none, (.store 4 (.tmp 2) (.tmp 125)), none⟩])
 .ret))) .skip))
 (.seq (.region [⟨(some 13), (.mov (.const (.c (.val (.int .i64 12))))), none⟩])
 (.seq (.seq (.region [⟨(some 126), (.mov (.tmp 3)), none⟩, ⟨(some 127), (.bin .eql (.tmp 126) (.const (.c (.val (.int .u8 40))))), none⟩, ⟨(some 128), (.mov (.tmp 127)), none⟩, ⟨(some 129), (.mov (.tmp 3)), (some (128, false))⟩, ⟨(some 130), (.bin .eql (.tmp 129) (.const (.c (.val (.int .u8 91))))), (some (128, false))⟩, ⟨(some 131), (.pick (.tmp 128) (.const (.c (.val (.bool true)))) (.tmp 130)), none⟩, ⟨(some 132), (.mov (.tmp 131)), none⟩, ⟨(some 133), (.mov (.tmp 3)), (some (132, false))⟩, ⟨(some 134), (.bin .eql (.tmp 133) (.const (.c (.val (.int .u8 123))))), (some (132, false))⟩, ⟨(some 135), (.pick (.tmp 132) (.const (.c (.val (.bool true)))) (.tmp 134)), none⟩])
 (.cond (.tmp 135) (.region [⟨(some 13), (.mov (.const (.c (.val (.int .i64 10))))), none⟩]) .skip))
 a71_c6)))
def a71_c10 : ACode := (.seq (.seq (.region [⟨(some 88), (.mov (.tmp 3)), none⟩, ⟨(some 89), (.bin .eql (.tmp 88) (.const (.c (.val (.int .u8 64))))), none⟩, ⟨(some 90), (.mov (.tmp 89)), none⟩, ⟨(some 91), (.mov (.tmp 0)), (some (90, true))⟩, ⟨(some 92), (.call 124 [(.tmp 91), (.const (.c (.val (.int .i64 1))))]), (some (90, true))⟩, ⟨(some 93), (.pick (.tmp 90) (.tmp 92) (.const (.c (.val (.bool false))))), none⟩])
 a71_c5)
 a71_c9)
def a71_c11 : ACode := (.seq (.seq (.region [⟨(some 43), (.mov (.tmp 3)), none⟩, ⟨(some 44), (.bin .eql (.tmp 43) (.const (.c (.val (.int .u8 39))))), none⟩, ⟨(some 45), (.mov (.tmp 44)), none⟩, ⟨(some 46), (.mov (.tmp 3)), (some (45, false))⟩, ⟨(some 47), (.bin .eql (.tmp 46) (.const (.c (.val (.int .u8 34))))), (some (45, false))⟩, ⟨(some 48), (.pick (.tmp 45) (.const (.c (.val (.bool true)))) (.tmp 47)), none⟩])
 (.cond (.tmp 48) (.seq (.region [⟨(some 49), (.mov (.tmp 0)), none⟩, ⟨(some 50), (.call 119 [(.tmp 49)]), none⟩, ⟨none, (.store 4 (.tmp 2) (.tmp 50)), none⟩])
 .ret) .skip))
 (.seq (.region [⟨(some 52), (.mov (.tmp 0)), none⟩, ⟨(some 53), (.call 24 [(.tmp 52)]), none⟩, ⟨(some 51), (.mov (.tmp 53)), none⟩, ⟨(some 54), (.ext (.tmp 51) 0), none⟩, ⟨(some 55), (.ext (.tmp 51) 1), none⟩, ⟨(some 5), (.mov (.tmp 54)), none⟩, ⟨(some 6), (.mov (.tmp 55)), none⟩])
 (.seq (.seq (.region [⟨(some 56), (.mov (.tmp 6)), none⟩, ⟨(some 57), (.bin .gtr (.tmp 56) (.const (.c (.val (.int .i64 0))))), none⟩])
 (.cond (.tmp 57) (.seq (.region [⟨(some 58), (.mov (.tmp 0)), none⟩, ⟨(some 59), (.mov (.tmp 5)), none⟩, ⟨(some 60), (.mov (.tmp 6)), none⟩, ⟨(some 61), (.call 120 [(.tmp 58), (.tmp 59), (.tmp 60)]), none⟩, ⟨none, (.store 4 (.tmp 2) (.tmp 61)), none⟩])
 .ret) .skip))
 (.seq (.seq (.region [⟨(some 62), (.mov (.tmp 3)), none⟩, ⟨(some 63), (.bin .eql (.tmp 62) (.const (.c (.val (.int .u8 35))))), none⟩, ⟨(some 64), (.mov (.tmp 63)), none⟩, ⟨(some 65), (.mov (.tmp 0)), (some (64, true))⟩, ⟨(some 66), (.call 68 [(.tmp 65), (.const (.c (.val (.int .i64 1))))]), (some (64, true))⟩, ⟨(some 67), (.call 121 [(.tmp 66)]), (some (64, true))⟩, ⟨(some 68), (.mov (.tmp 67)), (some (64, true))⟩, ⟨(some 69), (.mov (.tmp 0)), (some (68, true))⟩, ⟨(some 70), (.lenS (.tmp 69)), (some (68, true))⟩, ⟨(some 71), (.bin .gtr (.tmp 70) (.const (.c (.val (.int .i64 1))))), (some (68, true))⟩, ⟨(some 72), (.pick (.tmp 68) (.tmp 71) (.const (.c (.val (.bool false))))), (some (64, true))⟩, ⟨(some 73), (.mov (.tmp 72)), (some (64, true))⟩, ⟨(some 74), (.mov (.tmp 0)), (some (73, false))⟩, ⟨(some 75), (.call 122 [(.tmp 74), (.const (.c (.val (.int .i64 1))))]), (some (73, false))⟩, ⟨(some 76), (.pick (.tmp 73) (.const (.c (.val (.bool true)))) (.tmp 75)), (some (64, true))⟩, ⟨(some 77), (.pick (.tmp 64) (.tmp 76) (.const (.c (.val (.bool false))))), none⟩])
 a71_c4)
 a71_c10))))
def a71 : AFunc := ⟨1, [(.cell true 4 2)], (.seq (.region [⟨(some 2), (.box (.const (.agg [(.val (.int .i64 0)), (.str []), (.str []), (.val (.int .i64 0))]))), none⟩])
 (.seq (.region [⟨(some 14), (.mov (.tmp 0)), none⟩, ⟨(some 15), (.idxS (.tmp 14) (.const (.c (.val (.int .i64 0))))), none⟩, ⟨(some 3), (.mov (.tmp 15)), none⟩])
 (.seq (.seq (.region [⟨(some 16), (.mov (.tmp 3)), none⟩, ⟨(some 17), (.call 117 [(.tmp 16)]), none⟩])
 (.cond (.tmp 17) (.seq (.region [⟨(some 4), (.mov (.const (.c (.val (.int .i64 0))))), none⟩])
 (.seq (.block 0 (.loop a71_c2))
 (.seq (.region [⟨(some 30), (.mov (.tmp 0)), none⟩, ⟨(some 31), (.mov (.tmp 4)), none⟩, ⟨(some 32), (.slStr (.tmp 30) none (some (.tmp 31))), none⟩, ⟨(some 33), (.build [(.val (.int .i64 0)), (.str []), (.str []), (.val (.int .i64 0))] [(0, (1, (.const (.c (.val (.int .i64 8)))))), (1, (1, (.tmp 32)))]), none⟩, ⟨none, (.store 4 (.tmp 2) (.tmp 33)), none⟩])
 .ret))) .skip))
 (.seq (.seq (.region [⟨(some 34), (.mov (.tmp 3)), none⟩, ⟨(some 35), (.bin .eql (.tmp 34) (.const (.c (.val (.int .u8 47))))), none⟩, ⟨(some 36), (.mov (.tmp 35)), none⟩, ⟨(some 37), (.mov (.tmp 0)), (some (36, true))⟩, ⟨(some 38), (.call 68 [(.tmp 37), (.const (.c (.val (.int .i64 1))))]), (some (36, true))⟩, ⟨(some 39), (.bin .eql (.tmp 38) (.const (.c (.val (.int .u8 42))))), (some (36, true))⟩, ⟨(some 40), (.pick (.tmp 36) (.tmp 39) (.const (.c (.val (.bool false))))), none⟩])
 a71_c3)
 a71_c11))))⟩
set_option maxRecDepth 100000 in
theorem c71 : compFunc Tryd.prog 71 = some a71 := by kernel_rfl
def clerestoryref2_TokenAt_post (r : TSToken) : AV → Heap → Nat → Prop := fun v h' n' => v = (.agg [cI r.Kind, .str r.Raw, .str r.Value, cI r.Num]) ∧ (h' = (fun _ => none)) ∧ n' = 0
abbrev clerestoryref2_TokenAt_q0 (mL : Int) (Q : AExit → St → Prop) : AExit → St → Prop := AThen (Sv Tryd.prog (GG mL) 0 a71_c1 Q) Q
noncomputable def clerestoryref2_TokenAt_j3 (i_ : Int) (s_ : (List UInt8)) (self : Int → Option TSToken) (K0_ : Int → Option TSToken) (v27 : Bool) : Option TSToken :=
  if v27 then
    self (wi (i_ + 1))
  else
    K0_ i_
theorem clerestoryref2_TokenAt_j3_ok {mL : Int} {Q : AExit → St → Prop} {i_ : Int} {s_ : (List UInt8)} {self : Int → Option TSToken} {K0_ : Int → Option TSToken} {v27 : Bool} {o : TSToken} (h : clerestoryref2_TokenAt_j3 i_ s_ self K0_ v27 = some o)
    (hself : ∀ (i_ : Int), self i_ = some o → ∀ s, Weak 0 s ⟨(upd (upd (upd (fun _ => none) 0 (some (S s_))) 2 (some (.c (.ref 0 4 0 0)))) 4 (some (I i_))), (upd (fun _ => none) 0 (some (.cells 4 [[cI 0, .str [], .str [], cI 0]]))), 1⟩ → (Q) .normal s)
    (hK0 : ∀ (i_1 : Int), K0_ i_1 = some o → ∀ s, Weak 0 s ⟨(upd (upd (upd (fun _ => none) 0 (some (S s_))) 2 (some (.c (.ref 0 4 0 0)))) 4 (some (I i_1))), (upd (fun _ => none) 0 (some (.cells 4 [[cI 0, .str [], .str [], cI 0]]))), 1⟩ → Q (.exit 0) s)
    (hr : ∀ s, Ends a71.results 0 (clerestoryref2_TokenAt_post o) .ret s → Q .ret s) :
    Sv Tryd.prog (GG mL) 0 a71_c0 (clerestoryref2_TokenAt_q0 mL Q) ⟨(upd (upd (upd (upd (fun _ => none) 0 (some (S s_))) 2 (some (.c (.ref 0 4 0 0)))) 4 (some (I i_))) 27 (some (B v27))), (upd (fun _ => none) 0 (some (.cells 4 [[cI 0, .str [], .str [], cI 0]]))), 1⟩ := by
  unfold clerestoryref2_TokenAt_j3 at h
  refine Sv.cond (b := v27) rfl (fun hc2 => ?_) (fun hc2 => ?_)
  · replace h := ifT hc2 h
    refine Sv.skip ?_
    refine Sv.block ?_
    refine Sv.region ?_
    refine un (a1 rfl ?_)
    refine un (a1 (v := (I (wi (i_ + 1)))) rfl ?_)
    refine un (a1 rfl ?_)
    refine dnil ?_
    exact hself (wi (i_ + 1)) h _ (weak_canon [0] rfl (by decide) (by decide) (fun b h => absurd h (Nat.not_lt_zero _)) (.cons rfl (avAs_free rfl) (.cons rfl (.c (.ref rfl (by decide))) (.cons rfl (avAs_free rfl) .nil))) (.box (by decide) rfl (blkAs_cells (.cons (.same rfl) (.cons (.same rfl) (.cons (.same rfl) (.cons (.same rfl) .nil))))) .nil))
  · replace h := ifF hc2 h
    refine Sv.exit ?_
    exact hK0 i_ h _ (weak_canon [0] rfl (by decide) (by decide) (fun b h => absurd h (Nat.not_lt_zero _)) (.cons rfl (avAs_free rfl) (.cons rfl (.c (.ref rfl (by decide))) (.cons rfl (avAs_free rfl) .nil))) (.box (by decide) rfl (blkAs_cells (.cons (.same rfl) (.cons (.same rfl) (.cons (.same rfl) (.cons (.same rfl) .nil))))) .nil))
noncomputable def clerestoryref2_TokenAt_l0 (s_ : (List UInt8)) (K0_ : Int → Option TSToken) : Nat → Int → Option TSToken
  | 0, _ => none
  | k + 1, i_ =>
    if decide (i_ < (s_.length : Int)) then
      (at? s_ i_).bind fun c_1 =>
      clerestoryref2_TokenAt_j3 i_ s_ (clerestoryref2_TokenAt_l0 s_ K0_ k) K0_ (clerestoryref2_Blank (c_1.toNat : Int))
    else
      clerestoryref2_TokenAt_j3 i_ s_ (clerestoryref2_TokenAt_l0 s_ K0_ k) K0_ false
theorem clerestoryref2_TokenAt_l0_ok {mL : Int} {Q : AExit → St → Prop} {s_ : (List UInt8)} {K0_ : Int → Option TSToken} {k : Nat} {i_ : Int} {o : TSToken} (h : clerestoryref2_TokenAt_l0 s_ K0_ k i_ = some o)
    (hK0 : ∀ (i_1 : Int), K0_ i_1 = some o → ∀ s, Weak 0 s ⟨(upd (upd (upd (fun _ => none) 0 (some (S s_))) 2 (some (.c (.ref 0 4 0 0)))) 4 (some (I i_1))), (upd (fun _ => none) 0 (some (.cells 4 [[cI 0, .str [], .str [], cI 0]]))), 1⟩ → Q (.exit 0) s)
    (hr : ∀ s, Ends a71.results 0 (clerestoryref2_TokenAt_post o) .ret s → Q .ret s) :
    Sv Tryd.prog (GG mL) 0 (.loop a71_c2) Q ⟨(upd (upd (upd (fun _ => none) 0 (some (S s_))) 2 (some (.c (.ref 0 4 0 0)))) 4 (some (I i_))), (upd (fun _ => none) 0 (some (.cells 4 [[cI 0, .str [], .str [], cI 0]]))), 1⟩ := by
  refine Sv.loop (I := fun k s => ∃ (i_ : Int), clerestoryref2_TokenAt_l0 s_ K0_ k i_ = some o ∧ s = ⟨(upd (upd (upd (fun _ => none) 0 (some (S s_))) 2 (some (.c (.ref 0 4 0 0)))) 4 (some (I i_))), (upd (fun _ => none) 0 (some (.cells 4 [[cI 0, .str [], .str [], cI 0]]))), 1⟩) (fun k s hI => ?_) ⟨i_, h, rfl⟩
  clear h
  clear i_
  obtain ⟨i_, h, rfl⟩ := hI
  cases k with
  | zero => cases h
  | succ k =>
  rw [clerestoryref2_TokenAt_l0] at h
  have hself : ∀ (i_ : Int), (clerestoryref2_TokenAt_l0 s_ K0_ k) i_ = some o → ∀ s, Weak 0 s ⟨(upd (upd (upd (fun _ => none) 0 (some (S s_))) 2 (some (.c (.ref 0 4 0 0)))) 4 (some (I i_))), (upd (fun _ => none) 0 (some (.cells 4 [[cI 0, .str [], .str [], cI 0]]))), 1⟩ → (AThen (fun s' => ∃ s'' k', Weak 0 s' s'' ∧ k' < k + 1 ∧ (fun k s => ∃ (i_ : Int), clerestoryref2_TokenAt_l0 s_ K0_ k i_ = some o ∧ s = ⟨(upd (upd (upd (fun _ => none) 0 (some (S s_))) 2 (some (.c (.ref 0 4 0 0)))) 4 (some (I i_))), (upd (fun _ => none) 0 (some (.cells 4 [[cI 0, .str [], .str [], cI 0]]))), 1⟩) k' s'') Q) .normal s := fun i_ h s hw => ⟨_, k, hw, Nat.lt_succ_self k, i_, h, rfl⟩
  refine Sv.seq ?_
  refine Sv.seq ?_
  refine Sv.region ?_
  refine un (a1 rfl ?_)
  refine un (a1 rfl ?_)
  refine un (a1 (v := (I (s_.length : Int))) rfl ?_)
  refine un (a1 (v := (B (decide (i_ < (s_.length : Int))))) rfl ?_)
  refine un (a1 rfl ?_)
  refine split2 (fun hc3 => ?_) (fun hc3 => ?_)
  · replace h := ifT hc3 h
    refine gt rfl (a1 rfl ?_)
    refine gt rfl (a1 rfl ?_)
    obtain ⟨c_1, hx2, h⟩ := bnd h
    refine gt rfl (a1 (v := (.c (.val (.int .u8 (c_1.toNat : Int))))) (s_idxS rfl rfl hx2) ?_)
    refine gt rfl (ac_pure (clerestoryref2_Blank_ok (mL := mL) (c_1.toNat : Int)) rfl rfl rfl ?_)
    refine un (a1 (v := (B (clerestoryref2_Blank (c_1.toNat : Int)))) rfl ?_)
    refine dnil ?_
    exact Sv.weak (weak_canon [0] rfl (by decide) (by decide) (fun b h => absurd h (Nat.not_lt_zero _)) (.cons rfl (avAs_free rfl) (.cons rfl (avAs_free rfl) (.cons rfl (.c (.ref rfl (by decide))) (.cons rfl (avAs_free rfl) .nil)))) (.box (by decide) rfl (blkAs_cells (.cons (.same rfl) (.cons (.same rfl) (.cons (.same rfl) (.cons (.same rfl) .nil))))) .nil)) (clerestoryref2_TokenAt_j3_ok h hself hK0 hr)
  · replace h := ifF hc3 h
    refine gs rfl rfl ?_
    refine gs rfl rfl ?_
    refine gs rfl rfl ?_
    refine gs rfl rfl ?_
    refine un (a1 (v := (B false)) rfl ?_)
    refine dnil ?_
    exact Sv.weak (weak_canon [0] rfl (by decide) (by decide) (fun b h => absurd h (Nat.not_lt_zero _)) (.cons rfl (avAs_free rfl) (.cons rfl (avAs_free rfl) (.cons rfl (.c (.ref rfl (by decide))) (.cons rfl (avAs_free rfl) .nil)))) (.box (by decide) rfl (blkAs_cells (.cons (.same rfl) (.cons (.same rfl) (.cons (.same rfl) (.cons (.same rfl) .nil))))) .nil)) (clerestoryref2_TokenAt_j3_ok h hself hK0 hr)
noncomputable def clerestoryref2_TokenAt_j9 (s_ : (List UInt8)) (kind2 : Int) : Option TSToken :=
  (sub? s_ 0 1).bind fun r_14 =>
  some (⟨kind2, r_14, [], 0⟩ : TSToken)
theorem clerestoryref2_TokenAt_j9_ok {mL : Int} {s_ : (List UInt8)} {kind2 : Int} {o : TSToken} (h : clerestoryref2_TokenAt_j9 s_ kind2 = some o) :
    Sv Tryd.prog (GG mL) 0 a71_c8 (Ends a71.results 0 (clerestoryref2_TokenAt_post o)) ⟨(upd (upd (upd (fun _ => none) 0 (some (S s_))) 2 (some (.c (.ref 0 4 0 0)))) 13 (some (I kind2))), (upd (fun _ => none) 0 (some (.cells 4 [[cI 0, .str [], .str [], cI 0]]))), 1⟩ := by
  unfold clerestoryref2_TokenAt_j9 at h
  refine Sv.seq ?_
  refine Sv.region ?_
  refine un (a1 rfl ?_)
  refine un (a1 rfl ?_)
  obtain ⟨r_14, hx8, h⟩ := bnd h
  refine un (a1 (v := (S r_14)) (s_slStr rfl rfl rfl hx8) ?_)
  refine un (a1 (v := (.agg [cI kind2, .str r_14, .str [], cI 0])) rfl ?_)
  refine un (a2n (h' := upd _ 0 (some (.cells 4 [[cI kind2, .str r_14, .str [], cI 0]]))) (n' := 1) rfl rfl (fun h => by cases h) ?_)
  refine dnil ?_
  refine Sv.ret ?_
  replace h := Option.some.inj h
  subst h
  exact ⟨_, .refl _, _, rfl, ⟨upd (fun _ => none) 0 (some (.agg [cI kind2, .str r_14, .str [], cI 0])), (fun _ => none), 0⟩, (.agg [cI kind2, .str r_14, .str [], cI 0]), weak_canon [] rfl List.nodup_nil (Nat.le_refl _) (fun b h => absurd h (Nat.not_lt_zero _)) (.cons rfl (avAs_free rfl) .nil) .nil, rfl, rfl, rfl, rfl⟩
noncomputable def clerestoryref2_TokenAt_j8 (c_ : UInt8) (s_ : (List UInt8)) (kind1 : Int) : Option TSToken :=
  if decide ((c_.toNat : Int) = 92) then
    clerestoryref2_TokenAt_j9 s_ 6
  else
    clerestoryref2_TokenAt_j9 s_ kind1
theorem clerestoryref2_TokenAt_j8_ok {mL : Int} {c_ : UInt8} {s_ : (List UInt8)} {kind1 : Int} {o : TSToken} (h : clerestoryref2_TokenAt_j8 c_ s_ kind1 = some o) :
    Sv Tryd.prog (GG mL) 0 a71_c7 (Ends a71.results 0 (clerestoryref2_TokenAt_post o)) ⟨(upd (upd (upd (upd (fun _ => none) 0 (some (S s_))) 2 (some (.c (.ref 0 4 0 0)))) 3 (some (.c (.val (.int .u8 (c_.toNat : Int)))))) 13 (some (I kind1))), (upd (fun _ => none) 0 (some (.cells 4 [[cI 0, .str [], .str [], cI 0]]))), 1⟩ := by
  unfold clerestoryref2_TokenAt_j8 at h
  refine Sv.seq ?_
  refine Sv.seq ?_
  refine Sv.region ?_
  refine un (a1 rfl ?_)
  refine un (a1 (v := (B (decide ((c_.toNat : Int) = 92)))) rfl ?_)
  refine dnil ?_
  refine Sv.cond (b := decide ((c_.toNat : Int) = 92)) rfl (fun hc12 => ?_) (fun hc12 => ?_)
  · replace h := ifT hc12 h
    refine Sv.region ?_
    refine un (a1 rfl ?_)
    refine dnil ?_
    exact Sv.weak (weak_canon [0] rfl (by decide) (by decide) (fun b h => absurd h (Nat.not_lt_zero _)) (.cons rfl (avAs_free rfl) (.cons rfl (.c (.ref rfl (by decide))) (.cons rfl (avAs_free rfl) .nil))) (.box (by decide) rfl (blkAs_cells (.cons (.same rfl) (.cons (.same rfl) (.cons (.same rfl) (.cons (.same rfl) .nil))))) .nil)) (clerestoryref2_TokenAt_j9_ok h)
  · replace h := ifF hc12 h
    refine Sv.skip ?_
    exact Sv.weak (weak_canon [0] rfl (by decide) (by decide) (fun b h => absurd h (Nat.not_lt_zero _)) (.cons rfl (avAs_free rfl) (.cons rfl (.c (.ref rfl (by decide))) (.cons rfl (avAs_free rfl) .nil))) (.box (by decide) rfl (blkAs_cells (.cons (.same rfl) (.cons (.same rfl) (.cons (.same rfl) (.cons (.same rfl) .nil))))) .nil)) (clerestoryref2_TokenAt_j9_ok h)
noncomputable def clerestoryref2_TokenAt_j7 (c_ : UInt8) (s_ : (List UInt8)) (kind : Int) : Option TSToken :=
  if (((decide ((c_.toNat : Int) = 41)) || (decide ((c_.toNat : Int) = 93))) || (decide ((c_.toNat : Int) = 125))) then
    clerestoryref2_TokenAt_j8 c_ s_ 11
  else
    clerestoryref2_TokenAt_j8 c_ s_ kind
theorem clerestoryref2_TokenAt_j7_ok {mL : Int} {c_ : UInt8} {s_ : (List UInt8)} {kind : Int} {o : TSToken} (h : clerestoryref2_TokenAt_j7 c_ s_ kind = some o) :
    Sv Tryd.prog (GG mL) 0 a71_c6 (Ends a71.results 0 (clerestoryref2_TokenAt_post o)) ⟨(upd (upd (upd (upd (fun _ => none) 0 (some (S s_))) 2 (some (.c (.ref 0 4 0 0)))) 3 (some (.c (.val (.int .u8 (c_.toNat : Int)))))) 13 (some (I kind))), (upd (fun _ => none) 0 (some (.cells 4 [[cI 0, .str [], .str [], cI 0]]))), 1⟩ := by
  unfold clerestoryref2_TokenAt_j7 at h
  refine Sv.seq ?_
  refine Sv.seq ?_
  refine Sv.region ?_
  refine un (a1 rfl ?_)
  refine un (a1 (v := (B (decide ((c_.toNat : Int) = 41)))) rfl ?_)
  refine un (a1 rfl ?_)
  refine gjoin 3 (d := 141) (v := (B ((decide ((c_.toNat : Int) = 41)) || (decide ((c_.toNat : Int) = 93))))) (fun X hX => ?_) ?_
  · refine split2 (fun hc13 => ?_) (fun hc13 => ?_)
    · refine gs rfl rfl ?_
      refine gs rfl rfl ?_
      refine un (a1 (v := (B true)) rfl ?_)
      refine dnil ?_
      exact hX _ (.putEq (by rw [hc13]; rfl) (.skip _ _ (.skip _ _ (.putEq (by rw [hc13]) (.refl _)) rfl) rfl))
    · refine gt rfl (a1 rfl ?_)
      refine gt rfl (a1 (v := (B (decide ((c_.toNat : Int) = 93)))) rfl ?_)
      refine un (a1 (v := (B (decide ((c_.toNat : Int) = 93)))) rfl ?_)
      refine dnil ?_
      exact hX _ (.putEq (by rw [hc13]; rfl) (.skip _ _ (.skip _ _ (.putEq (by rw [hc13]) (.refl _)) rfl) rfl))
  refine un (a1 rfl ?_)
  refine gjoin 3 (d := 145) (v := (B (((decide ((c_.toNat : Int) = 41)) || (decide ((c_.toNat : Int) = 93))) || (decide ((c_.toNat : Int) = 125))))) (fun X hX => ?_) ?_
  · refine split2 (fun hc14 => ?_) (fun hc14 => ?_)
    · refine gs rfl rfl ?_
      refine gs rfl rfl ?_
      refine un (a1 (v := (B true)) rfl ?_)
      refine dnil ?_
      exact hX _ (.putEq (by rw [hc14]; rfl) (.skip _ _ (.skip _ _ (.putEq (by rw [hc14]) (.refl _)) rfl) rfl))
    · refine gt rfl (a1 rfl ?_)
      refine gt rfl (a1 (v := (B (decide ((c_.toNat : Int) = 125)))) rfl ?_)
      refine un (a1 (v := (B (decide ((c_.toNat : Int) = 125)))) rfl ?_)
      refine dnil ?_
      exact hX _ (.putEq (by rw [hc14]; rfl) (.skip _ _ (.skip _ _ (.putEq (by rw [hc14]) (.refl _)) rfl) rfl))
  refine dnil ?_
  refine Sv.cond (b := (((decide ((c_.toNat : Int) = 41)) || (decide ((c_.toNat : Int) = 93))) || (decide ((c_.toNat : Int) = 125)))) rfl (fun hc15 => ?_) (fun hc15 => ?_)
  · replace h := ifT hc15 h
    refine Sv.region ?_
    refine un (a1 rfl ?_)
    refine dnil ?_
    exact Sv.weak (weak_canon [0] rfl (by decide) (by decide) (fun b h => absurd h (Nat.not_lt_zero _)) (.cons rfl (avAs_free rfl) (.cons rfl (avAs_free rfl) (.cons rfl (.c (.ref rfl (by decide))) (.cons rfl (avAs_free rfl) .nil)))) (.box (by decide) rfl (blkAs_cells (.cons (.same rfl) (.cons (.same rfl) (.cons (.same rfl) (.cons (.same rfl) .nil))))) .nil)) (clerestoryref2_TokenAt_j8_ok h)
  · replace h := ifF hc15 h
    refine Sv.skip ?_
    exact Sv.weak (weak_canon [0] rfl (by decide) (by decide) (fun b h => absurd h (Nat.not_lt_zero _)) (.cons rfl (avAs_free rfl) (.cons rfl (avAs_free rfl) (.cons rfl (.c (.ref rfl (by decide))) (.cons rfl (avAs_free rfl) .nil)))) (.box (by decide) rfl (blkAs_cells (.cons (.same rfl) (.cons (.same rfl) (.cons (.same rfl) (.cons (.same rfl) .nil))))) .nil)) (clerestoryref2_TokenAt_j8_ok h)
abbrev clerestoryref2_TokenAt_q1 (mL : Int) (o : TSToken) : AExit → St → Prop := AThen (Sv Tryd.prog (GG mL) 0 a71_c9 (Ends a71.results 0 (clerestoryref2_TokenAt_post o))) (Ends a71.results 0 (clerestoryref2_TokenAt_post o))
noncomputable def clerestoryref2_TokenAt_j6 (s_ : (List UInt8)) (c_ : UInt8) (v93 : Bool) : Option TSToken :=
  if v93 then
    (clerestoryref2_said s_ 1).bind fun r_7 =>
    (sub? s_ 0 r_7.2).bind fun r_8 =>
    some (⟨3, r_8, r_7.1, 0⟩ : TSToken)
  else
    (clerestoryref2_begins s_ 0).bind fun r_9 =>
    if r_9 then
      (clerestoryref2_said s_ 0).bind fun r_10 =>
      (clerestoryref2_at s_ r_10.2).bind fun r_11 =>
      if decide (r_11 = 40) then
        (sub? s_ 0 (wi (r_10.2 + 1))).bind fun r_12 =>
        some (⟨2, r_12, r_10.1, 0⟩ : TSToken)
      else
        (sub? s_ 0 r_10.2).bind fun r_13 =>
        some (⟨1, r_13, r_10.1, 0⟩ : TSToken)
    else
      if (((decide ((c_.toNat : Int) = 40)) || (decide ((c_.toNat : Int) = 91))) || (decide ((c_.toNat : Int) = 123))) then
        clerestoryref2_TokenAt_j7 c_ s_ 10
      else
        clerestoryref2_TokenAt_j7 c_ s_ 12
theorem clerestoryref2_TokenAt_j6_ok {mL : Int} {s_ : (List UInt8)} {c_ : UInt8} {v93 : Bool} {o : TSToken} (h : clerestoryref2_TokenAt_j6 s_ c_ v93 = some o) :
    Sv Tryd.prog (GG mL) 0 a71_c5 (clerestoryref2_TokenAt_q1 mL o) ⟨(upd (upd (upd (upd (fun _ => none) 0 (some (S s_))) 2 (some (.c (.ref 0 4 0 0)))) 3 (some (.c (.val (.int .u8 (c_.toNat : Int)))))) 93 (some (B v93))), (upd (fun _ => none) 0 (some (.cells 4 [[cI 0, .str [], .str [], cI 0]]))), 1⟩ := by
  unfold clerestoryref2_TokenAt_j6 at h
  refine Sv.cond (b := v93) rfl (fun hc9 => ?_) (fun hc9 => ?_)
  · replace h := ifT hc9 h
    refine Sv.seq ?_
    refine Sv.region ?_
    refine un (a1 rfl ?_)
    obtain ⟨r_7, hr6, h⟩ := bnd h
    refine un (ac_pure (clerestoryref2_said_ok hr6) rfl rfl rfl ?_)
    refine un (a1 rfl ?_)
    refine un (a1 (v := (S r_7.1)) rfl ?_)
    refine un (a1 (v := (I r_7.2)) rfl ?_)
    refine un (a1 rfl ?_)
    refine un (a1 rfl ?_)
    refine dnil ?_
    refine Sv.seq ?_
    refine Sv.region ?_
    refine un (a1 rfl ?_)
    refine un (a1 rfl ?_)
    obtain ⟨r_8, hx5, h⟩ := bnd h
    refine un (a1 (v := (S r_8)) (s_slStr rfl rfl rfl hx5) ?_)
    refine un (a1 rfl ?_)
    refine un (a1 (v := (.agg [cI 3, .str r_8, .str r_7.1, cI 0])) rfl ?_)
    refine un (a2n (h' := upd _ 0 (some (.cells 4 [[cI 3, .str r_8, .str r_7.1, cI 0]]))) (n' := 1) rfl rfl (fun h => by cases h) ?_)
    refine dnil ?_
    refine Sv.ret ?_
    replace h := Option.some.inj h
    subst h
    exact ⟨_, .refl _, _, rfl, ⟨upd (fun _ => none) 0 (some (.agg [cI 3, .str r_8, .str r_7.1, cI 0])), (fun _ => none), 0⟩, (.agg [cI 3, .str r_8, .str r_7.1, cI 0]), weak_canon [] rfl List.nodup_nil (Nat.le_refl _) (fun b h => absurd h (Nat.not_lt_zero _)) (.cons rfl (avAs_free rfl) .nil) .nil, rfl, rfl, rfl, rfl⟩
  · replace h := ifF hc9 h
    refine Sv.skip ?_
    refine Sv.seq ?_
    refine Sv.seq ?_
    refine Sv.region ?_
    refine un (a1 rfl ?_)
    obtain ⟨r_9, hr7, h⟩ := bnd h
    refine un (ac_pure (clerestoryref2_begins_ok hr7) rfl rfl rfl ?_)
    refine dnil ?_
    refine Sv.cond (b := r_9) rfl (fun hc10 => ?_) (fun hc10 => ?_)
    · replace h := ifT hc10 h
      refine Sv.seq ?_
      refine Sv.region ?_
      refine un (a1 rfl ?_)
      obtain ⟨r_10, hr8, h⟩ := bnd h
      refine un (ac_pure (clerestoryref2_said_ok hr8) rfl rfl rfl ?_)
      refine un (a1 rfl ?_)
      refine un (a1 (v := (S r_10.1)) rfl ?_)
      refine un (a1 (v := (I r_10.2)) rfl ?_)
      refine un (a1 rfl ?_)
      refine un (a1 rfl ?_)
      refine dnil ?_
      refine Sv.seq ?_
      refine Sv.seq ?_
      refine Sv.region ?_
      refine un (a1 rfl ?_)
      refine un (a1 rfl ?_)
      obtain ⟨r_11, hr9, h⟩ := bnd h
      refine un (ac_pure (clerestoryref2_at_ok hr9) rfl rfl rfl ?_)
      refine un (a1 (v := (B (decide (r_11 = 40)))) rfl ?_)
      refine dnil ?_
      refine Sv.cond (b := decide (r_11 = 40)) rfl (fun hc11 => ?_) (fun hc11 => ?_)
      · replace h := ifT hc11 h
        refine Sv.seq ?_
        refine Sv.region ?_
        refine un (a1 rfl ?_)
        refine un (a1 rfl ?_)
        refine un (a1 (v := (I (wi (r_10.2 + 1)))) rfl ?_)
        obtain ⟨r_12, hx6, h⟩ := bnd h
        refine un (a1 (v := (S r_12)) (s_slStr rfl rfl rfl hx6) ?_)
        refine un (a1 rfl ?_)
        refine un (a1 (v := (.agg [cI 2, .str r_12, .str r_10.1, cI 0])) rfl ?_)
        refine un (a2n (h' := upd _ 0 (some (.cells 4 [[cI 2, .str r_12, .str r_10.1, cI 0]]))) (n' := 1) rfl rfl (fun h => by cases h) ?_)
        refine dnil ?_
        refine Sv.ret ?_
        replace h := Option.some.inj h
        subst h
        exact ⟨_, .refl _, _, rfl, ⟨upd (fun _ => none) 0 (some (.agg [cI 2, .str r_12, .str r_10.1, cI 0])), (fun _ => none), 0⟩, (.agg [cI 2, .str r_12, .str r_10.1, cI 0]), weak_canon [] rfl List.nodup_nil (Nat.le_refl _) (fun b h => absurd h (Nat.not_lt_zero _)) (.cons rfl (avAs_free rfl) .nil) .nil, rfl, rfl, rfl, rfl⟩
      · replace h := ifF hc11 h
        refine Sv.skip ?_
        refine Sv.seq ?_
        refine Sv.region ?_
        refine un (a1 rfl ?_)
        refine un (a1 rfl ?_)
        obtain ⟨r_13, hx7, h⟩ := bnd h
        refine un (a1 (v := (S r_13)) (s_slStr rfl rfl rfl hx7) ?_)
        refine un (a1 rfl ?_)
        refine un (a1 (v := (.agg [cI 1, .str r_13, .str r_10.1, cI 0])) rfl ?_)
        refine un (a2n (h' := upd _ 0 (some (.cells 4 [[cI 1, .str r_13, .str r_10.1, cI 0]]))) (n' := 1) rfl rfl (fun h => by cases h) ?_)
        refine dnil ?_
        refine Sv.ret ?_
        replace h := Option.some.inj h
        subst h
        exact ⟨_, .refl _, _, rfl, ⟨upd (fun _ => none) 0 (some (.agg [cI 1, .str r_13, .str r_10.1, cI 0])), (fun _ => none), 0⟩, (.agg [cI 1, .str r_13, .str r_10.1, cI 0]), weak_canon [] rfl List.nodup_nil (Nat.le_refl _) (fun b h => absurd h (Nat.not_lt_zero _)) (.cons rfl (avAs_free rfl) .nil) .nil, rfl, rfl, rfl, rfl⟩
    · replace h := ifF hc10 h
      refine Sv.skip ?_
      refine Sv.seq ?_
      refine Sv.region ?_
      refine un (a1 rfl ?_)
      refine dnil ?_
      refine Sv.seq ?_
      refine Sv.seq ?_
      refine Sv.region ?_
      refine un (a1 rfl ?_)
      refine un (a1 (v := (B (decide ((c_.toNat : Int) = 40)))) rfl ?_)
      refine un (a1 rfl ?_)
      refine gjoin 3 (d := 131) (v := (B ((decide ((c_.toNat : Int) = 40)) || (decide ((c_.toNat : Int) = 91))))) (fun X hX => ?_) ?_
      · refine split2 (fun hc16 => ?_) (fun hc16 => ?_)
        · refine gs rfl rfl ?_
          refine gs rfl rfl ?_
          refine un (a1 (v := (B true)) rfl ?_)
          refine dnil ?_
          exact hX _ (.putEq (by rw [hc16]; rfl) (.skip _ _ (.skip _ _ (.putEq (by rw [hc16]) (.refl _)) rfl) rfl))
        · refine gt rfl (a1 rfl ?_)
          refine gt rfl (a1 (v := (B (decide ((c_.toNat : Int) = 91)))) rfl ?_)
          refine un (a1 (v := (B (decide ((c_.toNat : Int) = 91)))) rfl ?_)
          refine dnil ?_
          exact hX _ (.putEq (by rw [hc16]; rfl) (.skip _ _ (.skip _ _ (.putEq (by rw [hc16]) (.refl _)) rfl) rfl))
      refine un (a1 rfl ?_)
      refine gjoin 3 (d := 135) (v := (B (((decide ((c_.toNat : Int) = 40)) || (decide ((c_.toNat : Int) = 91))) || (decide ((c_.toNat : Int) = 123))))) (fun X hX => ?_) ?_
      · refine split2 (fun hc17 => ?_) (fun hc17 => ?_)
        · refine gs rfl rfl ?_
          refine gs rfl rfl ?_
          refine un (a1 (v := (B true)) rfl ?_)
          refine dnil ?_
          exact hX _ (.putEq (by rw [hc17]; rfl) (.skip _ _ (.skip _ _ (.putEq (by rw [hc17]) (.refl _)) rfl) rfl))
        · refine gt rfl (a1 rfl ?_)
          refine gt rfl (a1 (v := (B (decide ((c_.toNat : Int) = 123)))) rfl ?_)
          refine un (a1 (v := (B (decide ((c_.toNat : Int) = 123)))) rfl ?_)
          refine dnil ?_
          exact hX _ (.putEq (by rw [hc17]; rfl) (.skip _ _ (.skip _ _ (.putEq (by rw [hc17]) (.refl _)) rfl) rfl))
      refine dnil ?_
      refine Sv.cond (b := (((decide ((c_.toNat : Int) = 40)) || (decide ((c_.toNat : Int) = 91))) || (decide ((c_.toNat : Int) = 123)))) rfl (fun hc18 => ?_) (fun hc18 => ?_)
      · replace h := ifT hc18 h
        refine Sv.region ?_
        refine un (a1 rfl ?_)
        refine dnil ?_
        exact Sv.weak (weak_canon [0] rfl (by decide) (by decide) (fun b h => absurd h (Nat.not_lt_zero _)) (.cons rfl (avAs_free rfl) (.cons rfl (avAs_free rfl) (.cons rfl (.c (.ref rfl (by decide))) (.cons rfl (avAs_free rfl) .nil)))) (.box (by decide) rfl (blkAs_cells (.cons (.same rfl) (.cons (.same rfl) (.cons (.same rfl) (.cons (.same rfl) .nil))))) .nil)) (clerestoryref2_TokenAt_j7_ok h)
      · replace h := ifF hc18 h
        refine Sv.skip ?_
        exact Sv.weak (weak_canon [0] rfl (by decide) (by decide) (fun b h => absurd h (Nat.not_lt_zero _)) (.cons rfl (avAs_free rfl) (.cons rfl (avAs_free rfl) (.cons rfl (.c (.ref rfl (by decide))) (.cons rfl (avAs_free rfl) .nil)))) (.box (by decide) rfl (blkAs_cells (.cons (.same rfl) (.cons (.same rfl) (.cons (.same rfl) (.cons (.same rfl) .nil))))) .nil)) (clerestoryref2_TokenAt_j7_ok h)
abbrev clerestoryref2_TokenAt_q2 (mL : Int) (o : TSToken) : AExit → St → Prop := AThen (Sv Tryd.prog (GG mL) 0 a71_c10 (Ends a71.results 0 (clerestoryref2_TokenAt_post o))) (Ends a71.results 0 (clerestoryref2_TokenAt_post o))
noncomputable def clerestoryref2_TokenAt_j5 (s_ : (List UInt8)) (c_ : UInt8) (v77 : Bool) : Option TSToken :=
  if v77 then
    (clerestoryref2_said s_ 1).bind fun r_5 =>
    (sub? s_ 0 r_5.2).bind fun r_6 =>
    some (⟨4, r_6, r_5.1, 0⟩ : TSToken)
  else
    if decide ((c_.toNat : Int) = 64) then
      (clerestoryref2_begins s_ 1).bind fun r_15 =>
      clerestoryref2_TokenAt_j6 s_ c_ r_15
    else
      clerestoryref2_TokenAt_j6 s_ c_ false
theorem clerestoryref2_TokenAt_j5_ok {mL : Int} {s_ : (List UInt8)} {c_ : UInt8} {v77 : Bool} {o : TSToken} (h : clerestoryref2_TokenAt_j5 s_ c_ v77 = some o) :
    Sv Tryd.prog (GG mL) 0 a71_c4 (clerestoryref2_TokenAt_q2 mL o) ⟨(upd (upd (upd (upd (fun _ => none) 0 (some (S s_))) 2 (some (.c (.ref 0 4 0 0)))) 3 (some (.c (.val (.int .u8 (c_.toNat : Int)))))) 77 (some (B v77))), (upd (fun _ => none) 0 (some (.cells 4 [[cI 0, .str [], .str [], cI 0]]))), 1⟩ := by
  unfold clerestoryref2_TokenAt_j5 at h
  refine Sv.cond (b := v77) rfl (fun hc8 => ?_) (fun hc8 => ?_)
  · replace h := ifT hc8 h
    refine Sv.seq ?_
    refine Sv.region ?_
    refine un (a1 rfl ?_)
    obtain ⟨r_5, hr5, h⟩ := bnd h
    refine un (ac_pure (clerestoryref2_said_ok hr5) rfl rfl rfl ?_)
    refine un (a1 rfl ?_)
    refine un (a1 (v := (S r_5.1)) rfl ?_)
    refine un (a1 (v := (I r_5.2)) rfl ?_)
    refine un (a1 rfl ?_)
    refine un (a1 rfl ?_)
    refine dnil ?_
    refine Sv.seq ?_
    refine Sv.region ?_
    refine un (a1 rfl ?_)
    refine un (a1 rfl ?_)
    obtain ⟨r_6, hx4, h⟩ := bnd h
    refine un (a1 (v := (S r_6)) (s_slStr rfl rfl rfl hx4) ?_)
    refine un (a1 rfl ?_)
    refine un (a1 (v := (.agg [cI 4, .str r_6, .str r_5.1, cI 0])) rfl ?_)
    refine un (a2n (h' := upd _ 0 (some (.cells 4 [[cI 4, .str r_6, .str r_5.1, cI 0]]))) (n' := 1) rfl rfl (fun h => by cases h) ?_)
    refine dnil ?_
    refine Sv.ret ?_
    replace h := Option.some.inj h
    subst h
    exact ⟨_, .refl _, _, rfl, ⟨upd (fun _ => none) 0 (some (.agg [cI 4, .str r_6, .str r_5.1, cI 0])), (fun _ => none), 0⟩, (.agg [cI 4, .str r_6, .str r_5.1, cI 0]), weak_canon [] rfl List.nodup_nil (Nat.le_refl _) (fun b h => absurd h (Nat.not_lt_zero _)) (.cons rfl (avAs_free rfl) .nil) .nil, rfl, rfl, rfl, rfl⟩
  · replace h := ifF hc8 h
    refine Sv.skip ?_
    refine Sv.seq ?_
    refine Sv.seq ?_
    refine Sv.region ?_
    refine un (a1 rfl ?_)
    refine un (a1 (v := (B (decide ((c_.toNat : Int) = 64)))) rfl ?_)
    refine un (a1 rfl ?_)
    refine split2 (fun hc19 => ?_) (fun hc19 => ?_)
    · replace h := ifT hc19 h
      refine gt rfl (a1 rfl ?_)
      obtain ⟨r_15, hr10, h⟩ := bnd h
      refine gt rfl (ac_pure (clerestoryref2_begins_ok hr10) rfl rfl rfl ?_)
      refine un (a1 (v := (B r_15)) rfl ?_)
      refine dnil ?_
      exact Sv.weak (weak_canon [0] rfl (by decide) (by decide) (fun b h => absurd h (Nat.not_lt_zero _)) (.cons rfl (avAs_free rfl) (.cons rfl (avAs_free rfl) (.cons rfl (.c (.ref rfl (by decide))) (.cons rfl (avAs_free rfl) .nil)))) (.box (by decide) rfl (blkAs_cells (.cons (.same rfl) (.cons (.same rfl) (.cons (.same rfl) (.cons (.same rfl) .nil))))) .nil)) (clerestoryref2_TokenAt_j6_ok h)
    · replace h := ifF hc19 h
      refine gs rfl rfl ?_
      refine gs rfl rfl ?_
      refine un (a1 (v := (B false)) rfl ?_)
      refine dnil ?_
      exact Sv.weak (weak_canon [0] rfl (by decide) (by decide) (fun b h => absurd h (Nat.not_lt_zero _)) (.cons rfl (avAs_free rfl) (.cons rfl (avAs_free rfl) (.cons rfl (.c (.ref rfl (by decide))) (.cons rfl (avAs_free rfl) .nil)))) (.box (by decide) rfl (blkAs_cells (.cons (.same rfl) (.cons (.same rfl) (.cons (.same rfl) (.cons (.same rfl) .nil))))) .nil)) (clerestoryref2_TokenAt_j6_ok h)
abbrev clerestoryref2_TokenAt_q3 (mL : Int) (o : TSToken) : AExit → St → Prop := AThen (Sv Tryd.prog (GG mL) 0 a71_c11 (Ends a71.results 0 (clerestoryref2_TokenAt_post o))) (Ends a71.results 0 (clerestoryref2_TokenAt_post o))
noncomputable def clerestoryref2_TokenAt_j4 (s_ : (List UInt8)) (c_ : UInt8) (v40 : Bool) : Option TSToken :=
  if v40 then
    (clerestoryref2_noteAt s_).bind fun r_1 =>
    some r_1
  else
    if ((decide ((c_.toNat : Int) = 39)) || (decide ((c_.toNat : Int) = 34))) then
      (clerestoryref2_textAt s_).bind fun r_2 =>
      some r_2
    else
      (clerestoryref2_NumberAt s_).bind fun r_3 =>
      if decide (0 < r_3.2) then
        (clerestoryref2_numAt s_ r_3.1 r_3.2).bind fun r_4 =>
        some r_4
      else
        if decide ((c_.toNat : Int) = 35) then
          (clerestoryref2_at s_ 1).bind fun r_16 =>
          if ((clerestoryref2_named r_16) && (decide (1 < (s_.length : Int)))) then
            clerestoryref2_TokenAt_j5 s_ c_ true
          else
            (clerestoryref2_escape s_ 1).bind fun r_17 =>
            clerestoryref2_TokenAt_j5 s_ c_ r_17
        else
          clerestoryref2_TokenAt_j5 s_ c_ false
theorem clerestoryref2_TokenAt_j4_ok {mL : Int} {s_ : (List UInt8)} {c_ : UInt8} {v40 : Bool} {o : TSToken} (h : clerestoryref2_TokenAt_j4 s_ c_ v40 = some o) :
    Sv Tryd.prog (GG mL) 0 a71_c3 (clerestoryref2_TokenAt_q3 mL o) ⟨(upd (upd (upd (upd (fun _ => none) 0 (some (S s_))) 2 (some (.c (.ref 0 4 0 0)))) 3 (some (.c (.val (.int .u8 (c_.toNat : Int)))))) 40 (some (B v40))), (upd (fun _ => none) 0 (some (.cells 4 [[cI 0, .str [], .str [], cI 0]]))), 1⟩ := by
  unfold clerestoryref2_TokenAt_j4 at h
  refine Sv.cond (b := v40) rfl (fun hc4 => ?_) (fun hc4 => ?_)
  · replace h := ifT hc4 h
    refine Sv.seq ?_
    refine Sv.region ?_
    refine un (a1 rfl ?_)
    obtain ⟨r_1, hr1, h⟩ := bnd h
    refine un (ac_pure (clerestoryref2_noteAt_ok hr1) rfl rfl rfl ?_)
    refine un (a2n (h' := upd _ 0 (some (.cells 4 [[cI r_1.Kind, .str r_1.Raw, .str r_1.Value, cI r_1.Num]]))) (n' := 1) rfl rfl (fun h => by cases h) ?_)
    refine dnil ?_
    refine Sv.ret ?_
    replace h := Option.some.inj h
    subst h
    exact ⟨_, .refl _, _, rfl, ⟨upd (fun _ => none) 0 (some (.agg [cI r_1.Kind, .str r_1.Raw, .str r_1.Value, cI r_1.Num])), (fun _ => none), 0⟩, (.agg [cI r_1.Kind, .str r_1.Raw, .str r_1.Value, cI r_1.Num]), weak_canon [] rfl List.nodup_nil (Nat.le_refl _) (fun b h => absurd h (Nat.not_lt_zero _)) (.cons rfl (avAs_free rfl) .nil) .nil, rfl, rfl, rfl, rfl⟩
  · replace h := ifF hc4 h
    refine Sv.skip ?_
    refine Sv.seq ?_
    refine Sv.seq ?_
    refine Sv.region ?_
    refine un (a1 rfl ?_)
    refine un (a1 (v := (B (decide ((c_.toNat : Int) = 39)))) rfl ?_)
    refine un (a1 rfl ?_)
    refine gjoin 3 (d := 48) (v := (B ((decide ((c_.toNat : Int) = 39)) || (decide ((c_.toNat : Int) = 34))))) (fun X hX => ?_) ?_
    · refine split2 (fun hc5 => ?_) (fun hc5 => ?_)
      · refine gs rfl rfl ?_
        refine gs rfl rfl ?_
        refine un (a1 (v := (B true)) rfl ?_)
        refine dnil ?_
        exact hX _ (.putEq (by rw [hc5]; rfl) (.skip _ _ (.skip _ _ (.putEq (by rw [hc5]) (.refl _)) rfl) rfl))
      · refine gt rfl (a1 rfl ?_)
        refine gt rfl (a1 (v := (B (decide ((c_.toNat : Int) = 34)))) rfl ?_)
        refine un (a1 (v := (B (decide ((c_.toNat : Int) = 34)))) rfl ?_)
        refine dnil ?_
        exact hX _ (.putEq (by rw [hc5]; rfl) (.skip _ _ (.skip _ _ (.putEq (by rw [hc5]) (.refl _)) rfl) rfl))
    refine dnil ?_
    refine Sv.cond (b := ((decide ((c_.toNat : Int) = 39)) || (decide ((c_.toNat : Int) = 34)))) rfl (fun hc6 => ?_) (fun hc6 => ?_)
    · replace h := ifT hc6 h
      refine Sv.seq ?_
      refine Sv.region ?_
      refine un (a1 rfl ?_)
      obtain ⟨r_2, hr2, h⟩ := bnd h
      refine un (ac_pure (clerestoryref2_textAt_ok hr2) rfl rfl rfl ?_)
      refine un (a2n (h' := upd _ 0 (some (.cells 4 [[cI r_2.Kind, .str r_2.Raw, .str r_2.Value, cI r_2.Num]]))) (n' := 1) rfl rfl (fun h => by cases h) ?_)
      refine dnil ?_
      refine Sv.ret ?_
      replace h := Option.some.inj h
      subst h
      exact ⟨_, .refl _, _, rfl, ⟨upd (fun _ => none) 0 (some (.agg [cI r_2.Kind, .str r_2.Raw, .str r_2.Value, cI r_2.Num])), (fun _ => none), 0⟩, (.agg [cI r_2.Kind, .str r_2.Raw, .str r_2.Value, cI r_2.Num]), weak_canon [] rfl List.nodup_nil (Nat.le_refl _) (fun b h => absurd h (Nat.not_lt_zero _)) (.cons rfl (avAs_free rfl) .nil) .nil, rfl, rfl, rfl, rfl⟩
    · replace h := ifF hc6 h
      refine Sv.skip ?_
      refine Sv.seq ?_
      refine Sv.region ?_
      refine un (a1 rfl ?_)
      obtain ⟨r_3, hr3, h⟩ := bnd h
      refine un (ac_pure (clerestoryref2_NumberAt_ok hr3) rfl rfl rfl ?_)
      refine un (a1 rfl ?_)
      refine un (a1 (v := (I r_3.1)) rfl ?_)
      refine un (a1 (v := (I r_3.2)) rfl ?_)
      refine un (a1 rfl ?_)
      refine un (a1 rfl ?_)
      refine dnil ?_
      refine Sv.seq ?_
      refine Sv.seq ?_
      refine Sv.region ?_
      refine un (a1 rfl ?_)
      refine un (a1 (v := (B (decide (0 < r_3.2)))) rfl ?_)
      refine dnil ?_
      refine Sv.cond (b := decide (0 < r_3.2)) rfl (fun hc7 => ?_) (fun hc7 => ?_)
      · replace h := ifT hc7 h
        refine Sv.seq ?_
        refine Sv.region ?_
        refine un (a1 rfl ?_)
        refine un (a1 rfl ?_)
        refine un (a1 rfl ?_)
        obtain ⟨r_4, hr4, h⟩ := bnd h
        refine un (ac_pure (clerestoryref2_numAt_ok hr4) rfl rfl rfl ?_)
        refine un (a2n (h' := upd _ 0 (some (.cells 4 [[cI r_4.Kind, .str r_4.Raw, .str r_4.Value, cI r_4.Num]]))) (n' := 1) rfl rfl (fun h => by cases h) ?_)
        refine dnil ?_
        refine Sv.ret ?_
        replace h := Option.some.inj h
        subst h
        exact ⟨_, .refl _, _, rfl, ⟨upd (fun _ => none) 0 (some (.agg [cI r_4.Kind, .str r_4.Raw, .str r_4.Value, cI r_4.Num])), (fun _ => none), 0⟩, (.agg [cI r_4.Kind, .str r_4.Raw, .str r_4.Value, cI r_4.Num]), weak_canon [] rfl List.nodup_nil (Nat.le_refl _) (fun b h => absurd h (Nat.not_lt_zero _)) (.cons rfl (avAs_free rfl) .nil) .nil, rfl, rfl, rfl, rfl⟩
      · replace h := ifF hc7 h
        refine Sv.skip ?_
        refine Sv.seq ?_
        refine Sv.seq ?_
        refine Sv.region ?_
        refine un (a1 rfl ?_)
        refine un (a1 (v := (B (decide ((c_.toNat : Int) = 35)))) rfl ?_)
        refine un (a1 rfl ?_)
        refine split2 (fun hc20 => ?_) (fun hc20 => ?_)
        · replace h := ifT hc20 h
          refine gt rfl (a1 rfl ?_)
          obtain ⟨r_16, hr11, h⟩ := bnd h
          refine gt rfl (ac_pure (clerestoryref2_at_ok hr11) rfl rfl rfl ?_)
          refine gt rfl (ac_pure (clerestoryref2_named_ok (mL := mL) r_16) rfl rfl rfl ?_)
          refine gt rfl (a1 rfl ?_)
          refine gjoin 4 (d := 72) (v := (B ((clerestoryref2_named r_16) && (decide (1 < (s_.length : Int)))))) (fun X hX => ?_) ?_
          · refine split2 (fun hc21 => ?_) (fun hc21 => ?_)
            · refine gt rfl (a1 rfl ?_)
              refine gt rfl (a1 (v := (I (s_.length : Int))) rfl ?_)
              refine gt rfl (a1 (v := (B (decide (1 < (s_.length : Int))))) rfl ?_)
              refine gt rfl (a1 (v := (B (decide (1 < (s_.length : Int))))) rfl ?_)
              refine dnil ?_
              exact hX _ (.putEq (by rw [hc21]; rfl) (.skip _ _ (.skip _ _ (.skip _ _ (.putEq (by rw [hc21]) (.refl _)) rfl) rfl) rfl))
            · refine gs rfl rfl ?_
              refine gs rfl rfl ?_
              refine gs rfl rfl ?_
              refine gt rfl (a1 (v := (B false)) rfl ?_)
              refine dnil ?_
              exact hX _ (.putEq (by rw [hc21]; rfl) (.skip _ _ (.skip _ _ (.skip _ _ (.putEq (by rw [hc21]) (.refl _)) rfl) rfl) rfl))
          refine gt rfl (a1 rfl ?_)
          refine split2 (fun hc22 => ?_) (fun hc22 => ?_)
          · replace h := ifT hc22 h
            refine gs rfl rfl ?_
            refine gs rfl rfl ?_
            refine gt rfl (a1 (v := (B true)) rfl ?_)
            refine un (a1 (v := (B true)) rfl ?_)
            refine dnil ?_
            exact Sv.weak (weak_canon [0] rfl (by decide) (by decide) (fun b h => absurd h (Nat.not_lt_zero _)) (.cons rfl (avAs_free rfl) (.cons rfl (avAs_free rfl) (.cons rfl (.c (.ref rfl (by decide))) (.cons rfl (avAs_free rfl) .nil)))) (.box (by decide) rfl (blkAs_cells (.cons (.same rfl) (.cons (.same rfl) (.cons (.same rfl) (.cons (.same rfl) .nil))))) .nil)) (clerestoryref2_TokenAt_j5_ok h)
          · replace h := ifF hc22 h
            refine gt rfl (a1 rfl ?_)
            obtain ⟨r_17, hr12, h⟩ := bnd h
            refine gt rfl (ac_pure (clerestoryref2_escape_ok hr12) rfl rfl rfl ?_)
            refine gt rfl (a1 (v := (B r_17)) rfl ?_)
            refine un (a1 (v := (B r_17)) rfl ?_)
            refine dnil ?_
            exact Sv.weak (weak_canon [0] rfl (by decide) (by decide) (fun b h => absurd h (Nat.not_lt_zero _)) (.cons rfl (avAs_free rfl) (.cons rfl (avAs_free rfl) (.cons rfl (.c (.ref rfl (by decide))) (.cons rfl (avAs_free rfl) .nil)))) (.box (by decide) rfl (blkAs_cells (.cons (.same rfl) (.cons (.same rfl) (.cons (.same rfl) (.cons (.same rfl) .nil))))) .nil)) (clerestoryref2_TokenAt_j5_ok h)
        · replace h := ifF hc20 h
          refine gs rfl rfl ?_
          refine gs rfl rfl ?_
          refine gs rfl rfl ?_
          refine gs rfl rfl ?_
          refine gu rfl ?_
          refine gu rfl ?_
          refine gu rfl ?_
          refine gs rfl rfl ?_
          refine gs rfl rfl ?_
          refine gu rfl ?_
          refine gu rfl ?_
          refine gs rfl rfl ?_
          refine un (a1 (v := (B false)) rfl ?_)
          refine dnil ?_
          exact Sv.weak (weak_canon [0] rfl (by decide) (by decide) (fun b h => absurd h (Nat.not_lt_zero _)) (.cons rfl (avAs_free rfl) (.cons rfl (avAs_free rfl) (.cons rfl (.c (.ref rfl (by decide))) (.cons rfl (avAs_free rfl) .nil)))) (.box (by decide) rfl (blkAs_cells (.cons (.same rfl) (.cons (.same rfl) (.cons (.same rfl) (.cons (.same rfl) .nil))))) .nil)) (clerestoryref2_TokenAt_j5_ok h)
/-- clerestory/clerestoryref2.TokenAt -/
noncomputable def clerestoryref2_TokenAt (s_ : (List UInt8)) : Option TSToken :=
  (at? s_ 0).bind fun c_ =>
  if (clerestoryref2_Blank (c_.toNat : Int)) then
    lim fun kk => clerestoryref2_TokenAt_l0 s_ (fun (i_1 : Int) => 
        (sub? s_ 0 i_1).bind fun r_ =>
        some (⟨8, r_, [], 0⟩ : TSToken)) kk 0
  else
    if decide ((c_.toNat : Int) = 47) then
      (clerestoryref2_at s_ 1).bind fun r_18 =>
      clerestoryref2_TokenAt_j4 s_ c_ (decide (r_18 = 42))
    else
      clerestoryref2_TokenAt_j4 s_ c_ false
theorem clerestoryref2_TokenAt_ok {mL : Int} {s_ : (List UInt8)} {r : TSToken} (h : clerestoryref2_TokenAt s_ = some r) : CPure Tryd.prog (GG mL) 71 [(S s_)] (.agg [cI r.Kind, .str r.Raw, .str r.Value, cI r.Num]) := by
  refine acalls_of_sv hmix c71 (R := clerestoryref2_TokenAt_post r) ?_
  unfold clerestoryref2_TokenAt at h
  refine Sv.seq ?_
  refine Sv.region ?_
  refine un (a2v (v := (.c (.ref 0 4 0 0))) (h' := upd _ 0 (some (.cells 4 [[cI 0, .str [], .str [], cI 0]]))) (n' := 1) rfl rfl (fun h => by cases h) ?_)
  refine dnil ?_
  refine Sv.seq ?_
  refine Sv.region ?_
  refine un (a1 rfl ?_)
  obtain ⟨c_, hx1, h⟩ := bnd h
  refine un (a1 (v := (.c (.val (.int .u8 (c_.toNat : Int))))) (s_idxS rfl rfl hx1) ?_)
  refine un (a1 rfl ?_)
  refine dnil ?_
  refine Sv.seq ?_
  refine Sv.seq ?_
  refine Sv.region ?_
  refine un (a1 rfl ?_)
  refine un (ac_pure (clerestoryref2_Blank_ok (mL := mL) (c_.toNat : Int)) rfl rfl rfl ?_)
  refine dnil ?_
  refine Sv.cond (b := (clerestoryref2_Blank (c_.toNat : Int))) rfl (fun hc1 => ?_) (fun hc1 => ?_)
  · replace h := ifT hc1 h
    refine Sv.seq ?_
    refine Sv.region ?_
    refine un (a1 rfl ?_)
    refine dnil ?_
    refine Sv.seq ?_
    refine Sv.block ?_
    obtain ⟨kk, h⟩ := lim_some h
    refine Sv.weak (weak_canon [0] rfl (by decide) (by decide) (fun b h => absurd h (Nat.not_lt_zero _)) (.cons rfl (avAs_free rfl) (.cons rfl (.c (.ref rfl (by decide))) (.cons rfl (avAs_free rfl) .nil))) (.box (by decide) rfl (blkAs_cells (.cons (.same rfl) (.cons (.same rfl) (.cons (.same rfl) (.cons (.same rfl) .nil))))) .nil)) (clerestoryref2_TokenAt_l0_ok h ?_ (fun s hs => hs))
    · intro i_1 h _ hw1
      refine Sv.weak hw1 ?_
      refine Sv.seq ?_
      refine Sv.region ?_
      refine un (a1 rfl ?_)
      refine un (a1 rfl ?_)
      obtain ⟨r_, hx3, h⟩ := bnd h
      refine un (a1 (v := (S r_)) (s_slStr rfl rfl rfl hx3) ?_)
      refine un (a1 (v := (.agg [cI 8, .str r_, .str [], cI 0])) rfl ?_)
      refine un (a2n (h' := upd _ 0 (some (.cells 4 [[cI 8, .str r_, .str [], cI 0]]))) (n' := 1) rfl rfl (fun h => by cases h) ?_)
      refine dnil ?_
      refine Sv.ret ?_
      replace h := Option.some.inj h
      subst h
      exact ⟨_, .refl _, _, rfl, ⟨upd (fun _ => none) 0 (some (.agg [cI 8, .str r_, .str [], cI 0])), (fun _ => none), 0⟩, (.agg [cI 8, .str r_, .str [], cI 0]), weak_canon [] rfl List.nodup_nil (Nat.le_refl _) (fun b h => absurd h (Nat.not_lt_zero _)) (.cons rfl (avAs_free rfl) .nil) .nil, rfl, rfl, rfl, rfl⟩
  · replace h := ifF hc1 h
    refine Sv.skip ?_
    refine Sv.seq ?_
    refine Sv.seq ?_
    refine Sv.region ?_
    refine un (a1 rfl ?_)
    refine un (a1 (v := (B (decide ((c_.toNat : Int) = 47)))) rfl ?_)
    refine un (a1 rfl ?_)
    refine split2 (fun hc23 => ?_) (fun hc23 => ?_)
    · replace h := ifT hc23 h
      refine gt rfl (a1 rfl ?_)
      obtain ⟨r_18, hr13, h⟩ := bnd h
      refine gt rfl (ac_pure (clerestoryref2_at_ok hr13) rfl rfl rfl ?_)
      refine gt rfl (a1 (v := (B (decide (r_18 = 42)))) rfl ?_)
      refine un (a1 (v := (B (decide (r_18 = 42)))) rfl ?_)
      refine dnil ?_
      exact Sv.weak (weak_canon [0] rfl (by decide) (by decide) (fun b h => absurd h (Nat.not_lt_zero _)) (.cons rfl (avAs_free rfl) (.cons rfl (avAs_free rfl) (.cons rfl (.c (.ref rfl (by decide))) (.cons rfl (avAs_free rfl) .nil)))) (.box (by decide) rfl (blkAs_cells (.cons (.same rfl) (.cons (.same rfl) (.cons (.same rfl) (.cons (.same rfl) .nil))))) .nil)) (clerestoryref2_TokenAt_j4_ok h)
    · replace h := ifF hc23 h
      refine gs rfl rfl ?_
      refine gs rfl rfl ?_
      refine gs rfl rfl ?_
      refine un (a1 (v := (B false)) rfl ?_)
      refine dnil ?_
      exact Sv.weak (weak_canon [0] rfl (by decide) (by decide) (fun b h => absurd h (Nat.not_lt_zero _)) (.cons rfl (avAs_free rfl) (.cons rfl (avAs_free rfl) (.cons rfl (.c (.ref rfl (by decide))) (.cons rfl (avAs_free rfl) .nil)))) (.box (by decide) rfl (blkAs_cells (.cons (.same rfl) (.cons (.same rfl) (.cons (.same rfl) (.cons (.same rfl) .nil))))) .nil)) (clerestoryref2_TokenAt_j4_ok h)
def a28_c0 : ACode := (.seq (.seq (.region [⟨(some 5), (.mov (.tmp 0)), none⟩, ⟨(some 6), (.lenS (.tmp 5)), none⟩, ⟨(some 7), (.bin .gtr (.tmp 6) (.const (.c (.val (.int .i64 0))))), none⟩])
 (.cond (.tmp 7) .skip (.exit 0)))
 (.block 1 (.seq (.region [⟨(some 8), (.mov (.tmp 0)), none⟩, ⟨(some 9), (.call 71 [(.tmp 8)]), none⟩, ⟨(some 4), (.box (.const (.agg [(.val (.int .i64 0)), (.str []), (.str []), (.val (.int .i64 0))]))), none⟩, ⟨none, (.store 4 (.tmp 4) (.tmp 9)), none⟩])
 (.seq (.region [⟨(some 10), (.mov (.tmp 3)), none⟩, ⟨(some 11), (.load true 4 (.tmp 4)), none⟩, ⟨(some 12), (.bslice 4 [(.val (.int .i64 0)), (.str []), (.str []), (.val (.int .i64 0))] 1 [(0, (.tmp 11))]), none⟩, ⟨(some 13), (.app 4 48 (.tmp 10) (.tmp 12)), none⟩, ⟨(some 3), (.mov (.tmp 13)), none⟩])
 (.region [⟨(some 14), (.mov (.tmp 0)), none⟩, ⟨(some 15), (.faddr 1 (.tmp 4)), none⟩, ⟨(some 16), (.load false 1 (.tmp 15)), none⟩, ⟨(some 17), (.lenS (.tmp 16)), none⟩, ⟨(some 18), (.slStr (.tmp 14) (some (.tmp 17)) none), none⟩, ⟨(some 0), (.mov (.tmp 18)), none⟩])))))
def a28 : AFunc := ⟨1, [(.tmp 2)], (.seq (.region [⟨(some 2), (.mov (.const (.c (.ro true 4 [])))), none⟩])
 (.seq (.region [⟨(some 3), (.mov (.const (.c (.ro true 4 [])))), none⟩])
 (.seq (.block 0 (.loop a28_c0))
 (.seq (.region [⟨(some 19), (.mov (.tmp 3)), none⟩, ⟨(some 2), (.mov (.tmp 19)), none⟩])
 .ret))))⟩
set_option maxRecDepth 100000 in
theorem c28 : compFunc Tryd.prog 28 = some a28 := by kernel_rfl
def clerestoryref2_Tokens_post (r : (List TSToken)) : AV → Heap → Nat → Prop := fun v h' n' => ∃ z0 : Bool, (z0 = true → r = []) ∧ v = (lstV z0 0 4 r.length) ∧ (h' = (upd (fun _ => none) 0 (lstB z0 4 (r.map e_TSToken)))) ∧ n' = 1
noncomputable def clerestoryref2_Tokens_l0 (K0_ : (List TSToken) → Option (List TSToken)) : Nat → (List UInt8) → (List TSToken) → Option (List TSToken)
  | 0, _, _ => none
  | k + 1, s_1, out =>
    if decide (0 < (s_1.length : Int)) then
      (clerestoryref2_TokenAt s_1).bind fun r_ =>
      (app? 48 out [r_]).bind fun r_1 =>
      (sub? s_1 (r_.Raw.length : Int) (s_1.length : Int)).bind fun r_2 =>
      (clerestoryref2_Tokens_l0 K0_ k) r_2 r_1
    else
      K0_ out
theorem clerestoryref2_Tokens_l0_ok {mL : Int} {Q : AExit → St → Prop} {K0_ : (List TSToken) → Option (List TSToken)} {k : Nat} {s_1 : (List UInt8)} {out : (List TSToken)} {zout : Bool} (hzout : zout = true → out = []) {o : (List TSToken)} (h : clerestoryref2_Tokens_l0 K0_ k s_1 out = some o)
    (hK0 : ∀ (out1 : (List TSToken)) (zout1 : Bool) (_ : zout1 = true → out1 = []), K0_ out1 = some o → ∀ s, Weak 0 s ⟨(upd (fun _ => none) 3 (some (lstV zout1 0 4 out1.length))), (upd (fun _ => none) 0 (lstB zout1 4 (out1.map e_TSToken))), 1⟩ → Q (.exit 0) s)
    (hr : ∀ s, Ends a28.results 0 (clerestoryref2_Tokens_post o) .ret s → Q .ret s) :
    Sv Tryd.prog (GG mL) 0 (.loop a28_c0) Q ⟨(upd (upd (fun _ => none) 0 (some (S s_1))) 3 (some (lstV zout 0 4 out.length))), (upd (fun _ => none) 0 (lstB zout 4 (out.map e_TSToken))), 1⟩ := by
  refine Sv.loop (I := fun k s => ∃ (s_1 : (List UInt8)), ∃ (out : (List TSToken)), ∃ (zout : Bool), (zout = true → out = []) ∧ clerestoryref2_Tokens_l0 K0_ k s_1 out = some o ∧ s = ⟨(upd (upd (fun _ => none) 0 (some (S s_1))) 3 (some (lstV zout 0 4 out.length))), (upd (fun _ => none) 0 (lstB zout 4 (out.map e_TSToken))), 1⟩) (fun k s hI => ?_) ⟨s_1, out, zout, hzout, h, rfl⟩
  clear h
  clear hzout zout out s_1
  obtain ⟨s_1, out, zout, hzout, h, rfl⟩ := hI
  cases k with
  | zero => cases h
  | succ k =>
  rw [clerestoryref2_Tokens_l0] at h
  have hself : ∀ (s_1 : (List UInt8)) (out : (List TSToken)) (zout : Bool) (_ : zout = true → out = []), (clerestoryref2_Tokens_l0 K0_ k) s_1 out = some o → ∀ s, Weak 0 s ⟨(upd (upd (fun _ => none) 0 (some (S s_1))) 3 (some (lstV zout 0 4 out.length))), (upd (fun _ => none) 0 (lstB zout 4 (out.map e_TSToken))), 1⟩ → (AThen (fun s' => ∃ s'' k', Weak 0 s' s'' ∧ k' < k + 1 ∧ (fun k s => ∃ (s_1 : (List UInt8)), ∃ (out : (List TSToken)), ∃ (zout : Bool), (zout = true → out = []) ∧ clerestoryref2_Tokens_l0 K0_ k s_1 out = some o ∧ s = ⟨(upd (upd (fun _ => none) 0 (some (S s_1))) 3 (some (lstV zout 0 4 out.length))), (upd (fun _ => none) 0 (lstB zout 4 (out.map e_TSToken))), 1⟩) k' s'') Q) .normal s := fun s_1 out zout hzout h s hw => ⟨_, k, hw, Nat.lt_succ_self k, s_1, out, zout, hzout, h, rfl⟩
  refine Sv.seq ?_
  refine Sv.seq ?_
  refine Sv.region ?_
  refine un (a1 rfl ?_)
  refine un (a1 (v := (I (s_1.length : Int))) rfl ?_)
  refine un (a1 (v := (B (decide (0 < (s_1.length : Int))))) rfl ?_)
  refine dnil ?_
  refine Sv.cond (b := decide (0 < (s_1.length : Int))) rfl (fun hc1 => ?_) (fun hc1 => ?_)
  · replace h := ifT hc1 h
    refine Sv.skip ?_
    refine Sv.block ?_
    refine Sv.seq ?_
    refine Sv.region ?_
    refine un (a1 rfl ?_)
    obtain ⟨r_, hr1, h⟩ := bnd h
    refine un (ac_pure (clerestoryref2_TokenAt_ok hr1) rfl rfl rfl ?_)
    refine un (a2v (v := (.c (.ref 1 4 0 0))) (h' := upd _ 1 (some (.cells 4 [[cI 0, .str [], .str [], cI 0]]))) (n' := 2) rfl rfl (fun h => by cases h) ?_)
    refine un (a2n (h' := upd _ 1 (some (.cells 4 [[cI r_.Kind, .str r_.Raw, .str r_.Value, cI r_.Num]]))) (n' := 2) rfl rfl (fun h => by cases h) ?_)
    refine dnil ?_
    refine Sv.seq ?_
    refine Sv.region ?_
    refine un (a1 rfl ?_)
    refine un (a1 (v := (.agg [cI r_.Kind, .str r_.Raw, .str r_.Value, cI r_.Num])) rfl ?_)
    refine un (a2v (v := (lstV false 2 4 [r_].length)) (h' := upd _ 2 (lstB false 4 ([r_].map e_TSToken))) (n' := 3) rfl rfl (fun h => by cases h) ?_)
    obtain ⟨r_1, hr2, h⟩ := bnd h
    have hz1 : (zout && [r_].isEmpty) = true → r_1 = [] := app_nil (z := zout) (ys := [r_]) hzout hr2
    refine un (a2v rfl (s_app (xs := out) (ys := [r_]) (e := e_TSToken) (z := zout) (b := 0) rfl rfl hzout rfl rfl (slc_lst rfl (List.length_map _).symm (map_nil_of (fun h => by cases h))) hr2) (fun h => by cases h) ?_)
    refine un (a1 rfl ?_)
    refine dnil ?_
    refine Sv.region ?_
    refine un (a1 rfl ?_)
    refine un (a1 (v := (.c (.ref 1 4 0 1))) rfl ?_)
    refine un (a1 (v := (S r_.Raw)) rfl ?_)
    refine un (a1 (v := (I (r_.Raw.length : Int))) rfl ?_)
    obtain ⟨r_2, hx1, h⟩ := bnd h
    refine un (a1 (v := (S r_2)) (s_slStr rfl rfl rfl hx1) ?_)
    refine un (a1 rfl ?_)
    refine dnil ?_
    exact hself r_2 r_1 (zout && [r_].isEmpty) hz1 h _ (weak_canon [3] rfl (by decide) (by decide) (fun b h => absurd h (Nat.not_lt_zero _)) (.cons rfl (.c (lstC_ren rfl (by decide))) (.cons rfl (avAs_free rfl) .nil)) (.row (by decide) rfl (fr_map fun _ => rfl) .nil))
  · replace h := ifF hc1 h
    refine Sv.exit ?_
    exact hK0 out zout hzout h _ (weak_canon [0] rfl (by decide) (by decide) (fun b h => absurd h (Nat.not_lt_zero _)) (.cons rfl (.c (lstC_ren rfl (by decide))) .nil) (.row (by decide) rfl (fr_map fun _ => rfl) .nil))
/-- clerestory/clerestoryref2.Tokens -/
noncomputable def clerestoryref2_Tokens (s_ : (List UInt8)) : Option (List TSToken) :=
  lim fun kk => clerestoryref2_Tokens_l0 (fun (out1 : (List TSToken)) => 
      some out1) kk s_ ([] : List TSToken)
theorem clerestoryref2_Tokens_ok {mL : Int} {s_ : (List UInt8)} {r : (List TSToken)} (h : clerestoryref2_Tokens s_ = some r) : ACalls Tryd.prog (GG mL) 28 [(S s_)] (fun _ => none) 0 (clerestoryref2_Tokens_post r) := by
  refine acalls_of_sv hmix c28 (R := clerestoryref2_Tokens_post r) ?_
  unfold clerestoryref2_Tokens at h
  refine Sv.seq ?_
  refine Sv.region ?_
  refine un (a1 rfl ?_)
  refine dnil ?_
  refine Sv.seq ?_
  refine Sv.region ?_
  refine un (a1 rfl ?_)
  refine dnil ?_
  refine Sv.seq ?_
  refine Sv.block ?_
  obtain ⟨kk, h⟩ := lim_some h
  refine Sv.weak (weak_canon [1000] rfl (by decide) (by decide) (fun b h => absurd h (Nat.not_lt_zero _)) (.cons rfl (.c (.same rfl)) (.cons rfl (avAs_free rfl) .nil)) (.non (by decide) .nil)) (clerestoryref2_Tokens_l0_ok (fun _ => rfl) h ?_ (fun s hs => hs))
  · intro out1 zout1 hzout1 h _ hw1
    refine Sv.weak hw1 ?_
    refine Sv.seq ?_
    refine Sv.region ?_
    refine un (a1 rfl ?_)
    refine un (a1 rfl ?_)
    refine dnil ?_
    refine Sv.ret ?_
    replace h := Option.some.inj h
    subst h
    exact ⟨_, .refl _, _, rfl, ⟨upd (fun _ => none) 0 (some (lstV zout1 0 4 out1.length)), (upd (fun _ => none) 0 (lstB zout1 4 (out1.map e_TSToken))), 1⟩, (lstV zout1 0 4 out1.length), weak_canon2 [0] [0] (by decide) (by decide) (fun b h => absurd h (Nat.not_lt_zero _)) (.cons (by decide) .nil) (.cons rfl (.c (lstC_ren rfl (by decide))) .nil) (.row (by decide) rfl (fr_map fun _ => rfl) .nil), rfl, zout1, hzout1, rfl, rfl, rfl⟩
def a26_c0 : ACode := (.seq (.seq (.region [⟨(some 11), (.mov (.tmp 5)), none⟩, ⟨(some 12), (.mov (.tmp 0)), none⟩, ⟨(some 13), (.len (.tmp 12)), none⟩, ⟨(some 14), (.bin .lss (.tmp 11) (.tmp 13)), none⟩])
 (.cond (.tmp 14) .skip (.exit 0)))
 (.seq (.block 1 (.seq (.drawn (.fin [(⟨(some 17), (.mov (.tmp 0)), none⟩, (0, 0)), (⟨(some 18), (.mov (.tmp 5)), none⟩, (0, 1)), (⟨(some 19), (.iaddr 4 (.tmp 17) (.tmp 18)), none⟩, (0, 2)), (⟨(some 20), (.load true 4 (.tmp 19)), none⟩, (0, 3)), (⟨(some 21), (.mov (.tmp 1)), none⟩, (0, 4)), (⟨(some 22), (.mov (.tmp 5)), none⟩, (0, 5)), (⟨(some 23), (.iaddr 4 (.tmp 21) (.tmp 22)), none⟩, (0, 6)), (⟨(some 24), (.load true 4 (.tmp 23)), none⟩, (0, 7)), (⟨(some 25), (.eqs true true [.i, .s, .s, .i] (.tmp 20) (.tmp 24)), none⟩, (0, 8))]))
 (.cond (.tmp 25) (.seq (.region [⟨(some 4), (.mov (.const (.c (.val (.bool false))))), none⟩])
 .ret) .skip)))
 (.region [⟨(some 15), (.mov (.tmp 5)), none⟩, ⟨(some 16), (.bin .add (.tmp 15) (.const (.c (.val (.int .i64 1))))), none⟩, ⟨(some 5), (.mov (.tmp 16)), none⟩])))
def a26 : AFunc := ⟨2, [(.tmp 4)], (.seq (.region [⟨(some 4), (.mov (.const (.c (.val (.bool false))))), none⟩])
 (.seq (.seq (.region [⟨(some 6), (.mov (.tmp 0)), none⟩, ⟨(some 7), (.len (.tmp 6)), none⟩, ⟨(some 8), (.mov (.tmp 1)), none⟩, ⟨(some 9), (.len (.tmp 8)), none⟩, ⟨(some 10), (.bin .neq (.tmp 7) (.tmp 9)), none⟩])
 (.cond (.tmp 10) (.seq (.region [⟨(some 4), (.mov (.const (.c (.val (.bool false))))), none⟩])
 .ret) .skip))
 (.seq (.seq (.region [⟨(some 5), (.mov (.const (.c (.val (.int .i64 0))))), none⟩])
 (.block 0 (.loop a26_c0)))
 (.seq (.region [⟨(some 4), (.mov (.const (.c (.val (.bool true))))), none⟩])
 .ret))))⟩
set_option maxRecDepth 100000 in
theorem c26 : compFunc Tryd.prog 26 = some a26 := by kernel_rfl
def clerestorylaw2_sameTokens_post (r : Bool) : AV → Heap → Nat → Prop := fun v h' n' => v = (B r) ∧ (h' = (fun _ => none)) ∧ n' = 0
noncomputable def clerestorylaw2_sameTokens_l0 (a_ : (List TSToken)) (b_ : (List TSToken)) (K0_ : Unit → Option Bool) : Nat → Int → Option Bool
  | 0, _ => none
  | k + 1, i_ =>
    if decide (i_ < (a_.length : Int)) then
      (at? a_ i_).bind fun x_ =>
      (at? b_ i_).bind fun x_1 =>
      letIn (!(decide (x_.Kind = x_1.Kind) && (decide (x_.Raw = x_1.Raw) && (decide (x_.Value = x_1.Value) && (decide (x_.Num = x_1.Num) && true))))) fun v25 : Bool =>
      if v25 then
        some false
      else
        (clerestorylaw2_sameTokens_l0 a_ b_ K0_ k) (wi (i_ + 1))
    else
      K0_ ()
theorem clerestorylaw2_sameTokens_l0_ok {mL : Int} {Q : AExit → St → Prop} {a_ : (List TSToken)} {b_ : (List TSToken)} {K0_ : Unit → Option Bool} {k : Nat} {i_ : Int} {o : Bool} (h : clerestorylaw2_sameTokens_l0 a_ b_ K0_ k i_ = some o)
    (hK0 : ∀ (_ : Unit), K0_ () = some o → ∀ s, Weak 0 s ⟨(fun _ => none), (fun _ => none), 0⟩ → Q (.exit 0) s)
    (hr : ∀ s, Ends a26.results 0 (clerestorylaw2_sameTokens_post o) .ret s → Q .ret s) :
    Sv Tryd.prog (GG mL) 0 (.loop a26_c0) Q ⟨(upd (upd (upd (fun _ => none) 0 (some (.c (.ro false 4 (a_.map e_TSToken))))) 1 (some (.c (.ro false 4 (b_.map e_TSToken))))) 5 (some (I i_))), (fun _ => none), 0⟩ := by
  refine Sv.loop (I := fun k s => ∃ (i_ : Int), clerestorylaw2_sameTokens_l0 a_ b_ K0_ k i_ = some o ∧ s = ⟨(upd (upd (upd (fun _ => none) 0 (some (.c (.ro false 4 (a_.map e_TSToken))))) 1 (some (.c (.ro false 4 (b_.map e_TSToken))))) 5 (some (I i_))), (fun _ => none), 0⟩) (fun k s hI => ?_) ⟨i_, h, rfl⟩
  clear h
  clear i_
  obtain ⟨i_, h, rfl⟩ := hI
  cases k with
  | zero => cases h
  | succ k =>
  rw [clerestorylaw2_sameTokens_l0] at h
  have hself : ∀ (i_ : Int), (clerestorylaw2_sameTokens_l0 a_ b_ K0_ k) i_ = some o → ∀ s, Weak 0 s ⟨(upd (upd (upd (fun _ => none) 0 (some (.c (.ro false 4 (a_.map e_TSToken))))) 1 (some (.c (.ro false 4 (b_.map e_TSToken))))) 5 (some (I i_))), (fun _ => none), 0⟩ → (AThen (fun s' => ∃ s'' k', Weak 0 s' s'' ∧ k' < k + 1 ∧ (fun k s => ∃ (i_ : Int), clerestorylaw2_sameTokens_l0 a_ b_ K0_ k i_ = some o ∧ s = ⟨(upd (upd (upd (fun _ => none) 0 (some (.c (.ro false 4 (a_.map e_TSToken))))) 1 (some (.c (.ro false 4 (b_.map e_TSToken))))) 5 (some (I i_))), (fun _ => none), 0⟩) k' s'') Q) .normal s := fun i_ h s hw => ⟨_, k, hw, Nat.lt_succ_self k, i_, h, rfl⟩
  refine Sv.seq ?_
  refine Sv.seq ?_
  refine Sv.region ?_
  refine un (a1 rfl ?_)
  refine un (a1 rfl ?_)
  refine un (a1 (v := (I (a_.length : Int))) (s_len (e := e_TSToken) (xs := a_) rfl) ?_)
  refine un (a1 (v := (B (decide (i_ < (a_.length : Int))))) rfl ?_)
  refine dnil ?_
  refine Sv.cond (b := decide (i_ < (a_.length : Int))) rfl (fun hc2 => ?_) (fun hc2 => ?_)
  · replace h := ifT hc2 h
    refine Sv.skip ?_
    refine Sv.seq ?_
    refine Sv.block ?_
    refine Sv.seq ?_
    refine Sv.drawn ?_
    refine un (a1 rfl ?_)
    refine un (a1 rfl ?_)
    obtain ⟨x_, hx1, h⟩ := bnd h
    refine un (a1 (v := (.c (.rop [cI x_.Kind, .str x_.Raw, .str x_.Value, cI x_.Num]))) (s_iaddr (e := e_TSToken) (xs := a_) rfl rfl hx1) ?_)
    refine un (a1 (v := (.agg [cI x_.Kind, .str x_.Raw, .str x_.Value, cI x_.Num])) rfl ?_)
    refine un (a1 rfl ?_)
    refine un (a1 rfl ?_)
    obtain ⟨x_1, hx2, h⟩ := bnd h
    refine un (a1 (v := (.c (.rop [cI x_1.Kind, .str x_1.Raw, .str x_1.Value, cI x_1.Num]))) (s_iaddr (e := e_TSToken) (xs := b_) rfl rfl hx2) ?_)
    refine un (a1 (v := (.agg [cI x_1.Kind, .str x_1.Raw, .str x_1.Value, cI x_1.Num])) rfl ?_)
    obtain ⟨v25, hv25⟩ : ∃ v25 : Bool, v25 = (!(decide (x_.Kind = x_1.Kind) && (decide (x_.Raw = x_1.Raw) && (decide (x_.Value = x_1.Value) && (decide (x_.Num = x_1.Num) && true))))) := ⟨_, rfl⟩
    replace h := letAt hv25 h
    refine un (a1 (v := (B v25)) (by rw [hv25]; rfl) ?_)
    clear hv25
    refine dnil ?_
    refine Sv.cond (b := v25) rfl (fun hc3 => ?_) (fun hc3 => ?_)
    · replace h := ifT hc3 h
      refine Sv.seq ?_
      refine Sv.region ?_
      refine un (a1 rfl ?_)
      refine dnil ?_
      refine Sv.ret ?_
      replace h := Option.some.inj h
      subst h
      exact hr _ ⟨_, .refl _, _, rfl, ⟨upd (fun _ => none) 0 (some (B false)), (fun _ => none), 0⟩, (B false), weak_canon [] rfl List.nodup_nil (Nat.le_refl _) (fun b h => absurd h (Nat.not_lt_zero _)) (.cons rfl (avAs_free rfl) .nil) .nil, rfl, rfl, rfl, rfl⟩
    · replace h := ifF hc3 h
      refine Sv.skip ?_
      refine Sv.region ?_
      refine un (a1 rfl ?_)
      refine un (a1 (v := (I (wi (i_ + 1)))) rfl ?_)
      refine un (a1 rfl ?_)
      refine dnil ?_
      exact hself (wi (i_ + 1)) h _ (weak_canon [] rfl (by decide) (by decide) (fun b h => absurd h (Nat.not_lt_zero _)) (.cons rfl (avAs_free rfl) (.cons rfl (avAs_free rfl) (.cons rfl (avAs_free rfl) .nil))) .nil)
  · replace h := ifF hc2 h
    refine Sv.exit ?_
    exact hK0 () h _ (weak_canon [] rfl (by decide) (by decide) (fun b h => absurd h (Nat.not_lt_zero _)) .nil .nil)
/-- clerestory/clerestorylaw2.sameTokens -/
noncomputable def clerestorylaw2_sameTokens (a_ : (List TSToken)) (b_ : (List TSToken)) : Option Bool :=
  if (!decide ((a_.length : Int) = (b_.length : Int))) then
    some false
  else
    lim fun kk => clerestorylaw2_sameTokens_l0 a_ b_ (fun (_ : Unit) => 
        some true) kk 0
theorem clerestorylaw2_sameTokens_ok {mL : Int} {a_ : (List TSToken)} {b_ : (List TSToken)} {r : Bool} (h : clerestorylaw2_sameTokens a_ b_ = some r) : CPure Tryd.prog (GG mL) 26 [(.c (.ro false 4 (a_.map e_TSToken))), (.c (.ro false 4 (b_.map e_TSToken)))] (B r) := by
  refine acalls_of_sv hmix c26 (R := clerestorylaw2_sameTokens_post r) ?_
  unfold clerestorylaw2_sameTokens at h
  refine Sv.seq ?_
  refine Sv.region ?_
  refine un (a1 rfl ?_)
  refine dnil ?_
  refine Sv.seq ?_
  refine Sv.seq ?_
  refine Sv.region ?_
  refine un (a1 rfl ?_)
  refine un (a1 (v := (I (a_.length : Int))) (s_len (e := e_TSToken) (xs := a_) rfl) ?_)
  refine un (a1 rfl ?_)
  refine un (a1 (v := (I (b_.length : Int))) (s_len (e := e_TSToken) (xs := b_) rfl) ?_)
  refine un (a1 (v := (B (!decide ((a_.length : Int) = (b_.length : Int))))) rfl ?_)
  refine dnil ?_
  refine Sv.cond (b := (!decide ((a_.length : Int) = (b_.length : Int)))) rfl (fun hc1 => ?_) (fun hc1 => ?_)
  · replace h := ifT hc1 h
    refine Sv.seq ?_
    refine Sv.region ?_
    refine un (a1 rfl ?_)
    refine dnil ?_
    refine Sv.ret ?_
    replace h := Option.some.inj h
    subst h
    exact ⟨_, .refl _, _, rfl, ⟨upd (fun _ => none) 0 (some (B false)), (fun _ => none), 0⟩, (B false), weak_canon [] rfl List.nodup_nil (Nat.le_refl _) (fun b h => absurd h (Nat.not_lt_zero _)) (.cons rfl (avAs_free rfl) .nil) .nil, rfl, rfl, rfl, rfl⟩
  · replace h := ifF hc1 h
    refine Sv.skip ?_
    refine Sv.seq ?_
    refine Sv.seq ?_
    refine Sv.region ?_
    refine un (a1 rfl ?_)
    refine dnil ?_
    refine Sv.block ?_
    obtain ⟨kk, h⟩ := lim_some h
    refine Sv.weak (weak_canon [] rfl (by decide) (by decide) (fun b h => absurd h (Nat.not_lt_zero _)) (.cons rfl (avAs_free rfl) (.cons rfl (avAs_free rfl) (.cons rfl (avAs_free rfl) .nil))) .nil) (clerestorylaw2_sameTokens_l0_ok h ?_ (fun s hs => hs))
    · intro _ h _ hw1
      refine Sv.weak hw1 ?_
      refine Sv.seq ?_
      refine Sv.region ?_
      refine un (a1 rfl ?_)
      refine dnil ?_
      refine Sv.ret ?_
      replace h := Option.some.inj h
      subst h
      exact ⟨_, .refl _, _, rfl, ⟨upd (fun _ => none) 0 (some (B true)), (fun _ => none), 0⟩, (B true), weak_canon [] rfl List.nodup_nil (Nat.le_refl _) (fun b h => absurd h (Nat.not_lt_zero _)) (.cons rfl (avAs_free rfl) .nil) .nil, rfl, rfl, rfl, rfl⟩
def a7 : AFunc := ⟨1, [(.tmp 2)], (.seq (.region [⟨(some 2), (.mov (.const (.c (.val (.bool false))))), none⟩])
 (.seq (.region [⟨(some 5), (.call 22 []), none⟩, ⟨(some 3), (.mov (.tmp 5)), none⟩])
 (.seq (.region [⟨(some 6), (.mov (.tmp 0)), none⟩, ⟨(some 7), (.call 25 [(.tmp 6), (.const (.c (.val (.int .i64 600))))]), none⟩, ⟨(some 0), (.mov (.tmp 7)), none⟩])
 (.seq (.region [⟨(some 8), (.mov (.tmp 0)), none⟩, ⟨(some 9), (.call 27 [(.tmp 8)]), none⟩, ⟨(some 10), (.mov (.tmp 0)), none⟩, ⟨(some 11), (.call 28 [(.tmp 10)]), none⟩, ⟨(some 12), (.call 26 [(.tmp 9), (.tmp 11)]), none⟩, ⟨(some 4), (.mov (.tmp 12)), none⟩])
 (.seq (.region [⟨(some 13), (.mov (.tmp 3)), none⟩, ⟨(some 14), (.mov (.tmp 13)), none⟩, ⟨(some 15), (.mov (.tmp 4)), (some (14, true))⟩, ⟨(some 16), (.pick (.tmp 14) (.tmp 15) (.const (.c (.val (.bool false))))), none⟩, ⟨(some 2), (.mov (.tmp 16)), none⟩])
 .ret)))))⟩
set_option maxRecDepth 100000 in
theorem c7 : compFunc Tryd.prog 7 = some a7 := by kernel_rfl
def clerestorylaw2_TokenCuts_post (r : Bool) : AV → Heap → Nat → Prop := fun v h' n' => v = (B r) ∧ (h' = (fun _ => none)) ∧ n' = 0
/-- clerestory/clerestorylaw2.TokenCuts -/
noncomputable def clerestorylaw2_TokenCuts (s_ : (List UInt8)) : Option Bool :=
  (clerestorylaw2_cutFact).bind fun r_ =>
  (clerestorylaw2_short s_ 600).bind fun r_1 =>
  (csstok_Cut r_1).bind fun r_2 =>
  (clerestoryref2_Tokens r_1).bind fun r_3 =>
  (clerestorylaw2_sameTokens r_2 r_3).bind fun r_4 =>
  some (r_ && r_4)
theorem clerestorylaw2_TokenCuts_ok {mL : Int} {s_ : (List UInt8)} {r : Bool} (h : clerestorylaw2_TokenCuts s_ = some r) : CPure Tryd.prog (GG mL) 7 [(S s_)] (B r) := by
  refine acalls_of_sv hmix c7 (R := clerestorylaw2_TokenCuts_post r) ?_
  unfold clerestorylaw2_TokenCuts at h
  refine Sv.seq ?_
  refine Sv.region ?_
  refine un (a1 rfl ?_)
  refine dnil ?_
  refine Sv.seq ?_
  refine Sv.region ?_
  obtain ⟨r_, hr1, h⟩ := bnd h
  refine un (ac_pure (clerestorylaw2_cutFact_ok hr1) rfl rfl rfl ?_)
  refine un (a1 rfl ?_)
  refine dnil ?_
  refine Sv.seq ?_
  refine Sv.region ?_
  refine un (a1 rfl ?_)
  obtain ⟨r_1, hr2, h⟩ := bnd h
  refine un (ac_pure (clerestorylaw2_short_ok hr2) rfl rfl rfl ?_)
  refine un (a1 rfl ?_)
  refine dnil ?_
  refine Sv.seq ?_
  refine Sv.region ?_
  refine un (a1 rfl ?_)
  obtain ⟨r_2, hr3, h⟩ := bnd h
  refine un (ac_gen (bs := []) («as» := [(S r_1)]) (h2 := _) (h1 := (fun _ => none)) (csstok_Cut_ok hr3) rfl (.cons (avAs_free rfl) .nil) (hsub_refl _) (.nil _) (fun _ => rfl) (by decide) (by decide) (.cons (avAs_free rfl) .nil) .nil ?_)
  rintro _ _ _ hn ⟨z_, hz_, rfl, rfl, rfl⟩
  refine ⟨.inl rfl, (upd (rem [] _) 0 (lstB z_ 4 (r_2.map e_TSToken))), fun hbd => (m3_cons (m3_row rfl (fr_map fun _ => rfl)) (m3_rem (in_nil _) (.cons (by decide) .nil) hbd)), (lstV z_ 0 4 r_2.length), 1, (by cases z_ <;> rfl), rfl, ?_⟩
  refine un (a1 rfl ?_)
  obtain ⟨r_3, hr4, h⟩ := bnd h
  refine un (ac_gen (bs := []) («as» := [(S r_1)]) (h2 := _) (h1 := (fun _ => none)) (clerestoryref2_Tokens_ok hr4) rfl (.cons (avAs_free rfl) .nil) (hsub_refl _) (.nil _) (fun _ => rfl) (by decide) (by decide) (.cons (avAs_free rfl) .nil) .nil ?_)
  rintro _ _ _ hn ⟨z_1, hz_1, rfl, rfl, rfl⟩
  refine ⟨.inl rfl, (upd (rem [] _) 1 (lstB z_1 4 (r_3.map e_TSToken))), fun hbd => (m3_cons (m3_row rfl (fr_map fun _ => rfl)) (m3_rem (in_nil _) (.cons (by decide) .nil) hbd)), (lstV z_1 1 4 r_3.length), 2, (by cases z_1 <;> rfl), rfl, ?_⟩
  obtain ⟨r_4, hr5, h⟩ := bnd h
  refine un (ac_lend (h2 := (upd (upd _ 0 none) 1 none)) (clerestorylaw2_sameTokens_ok hr5) rfl (.cons (.c (lstC_ro (es := List.map e_TSToken r_2) rfl (List.length_map e_TSToken).symm (map_nil_of hz_) (gone rfl) (fr_map fun _ => rfl))) (.cons (.c (lstC_ro (es := List.map e_TSToken r_3) rfl (List.length_map e_TSToken).symm (map_nil_of hz_1) (gone rfl) (fr_map fun _ => rfl))) .nil)) (hsub_none (hsub_none (hsub_refl _))) rfl rfl (.inr rfl) ?_)
  refine un (a1 rfl ?_)
  refine dnil ?_
  refine Sv.seq ?_
  refine Sv.region ?_
  refine un (a1 rfl ?_)
  refine un (a1 rfl ?_)
  refine gjoin 2 (d := 16) (v := (B (r_ && r_4))) (fun X hX => ?_) ?_
  · refine split2 (fun hc1 => ?_) (fun hc1 => ?_)
    · refine gt rfl (a1 rfl ?_)
      refine un (a1 (v := (B r_4)) rfl ?_)
      refine dnil ?_
      exact hX _ (.putEq (by rw [hc1]; rfl) (.skip _ _ (.putEq (by rw [hc1]) (.refl _)) rfl))
    · refine gs rfl rfl ?_
      refine un (a1 (v := (B false)) rfl ?_)
      refine dnil ?_
      exact hX _ (.putEq (by rw [hc1]; rfl) (.skip _ _ (.putEq (by rw [hc1]) (.refl _)) rfl))
  refine un (a1 rfl ?_)
  refine dnil ?_
  refine Sv.ret ?_
  replace h := Option.some.inj h
  subst h
  exact ⟨_, .refl _, _, rfl, ⟨upd (fun _ => none) 0 (some (B (r_ && r_4))), (fun _ => none), 0⟩, (B (r_ && r_4)), weak_canon [] rfl List.nodup_nil (Nat.le_refl _) (fun b h => absurd h (Nat.not_lt_zero _)) (.cons rfl (avAs_free rfl) .nil) .nil, rfl, rfl, rfl, rfl⟩
end Go.Proofs.YtdmmjgjmfpalhaaDoorBv
