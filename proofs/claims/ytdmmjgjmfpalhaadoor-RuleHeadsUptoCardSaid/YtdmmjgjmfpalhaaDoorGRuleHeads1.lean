/- Printed by a program of mine (bgen.py): plain functions, and the walks that show that the code comes to what they answer. -/
import Derived.Test.YtdmmjgjmfpalhaaDoorGRuleHeads0
namespace Go.Proofs.YtdmmjgjmfpalhaaDoorBv
open Go
set_option linter.unusedVariables false
set_option maxRecDepth 100000
def a38_c1 : ACode := (.seq (.region [⟨(some 19), (.faddr 1 (.tmp 6)), none⟩, ⟨(some 20), (.load false 1 (.tmp 19)), none⟩, ⟨(some 21), (.call 61 [(.tmp 3), (.tmp 20)]), none⟩])
 (.region [⟨(some 4), (.mov (.const (.c (.val (.bool false))))), none⟩]))
def a38_c0 : ACode := (.region [⟨(some 22), (.bin .add (.tmp 9) (.const (.c (.val (.int .i64 1))))), none⟩, ⟨(some 9), (.mov (.tmp 22)), none⟩])
def a38_c2 : ACode := (.seq (.region [⟨(some 10), (.bin .lss (.tmp 9) (.tmp 8)), none⟩])
 (.seq (.cond (.tmp 10) .skip (.exit 0))
 (.seq (.block 1 (.seq (.region [⟨(some 11), (.iaddr 4 (.tmp 7) (.tmp 9)), none⟩, ⟨(some 12), (.load true 4 (.tmp 11)), none⟩, ⟨(some 6), (.box (.const (.agg [(.val (.int .i64 0)), (.str []), (.str []), (.val (.int .i64 0))]))), none⟩, ⟨none, (.store 4 (.tmp 6) (.tmp 12)), none⟩])
 (.seq (.seq (.region [⟨(some 13), (.load true 4 (.tmp 6)), none⟩, ⟨(some 14), (.call 82 [(.tmp 13)]), none⟩])
 (.cond (.tmp 14) (.seq (.region [⟨(some 15), (.call 83 [(.tmp 3)]), none⟩, ⟨(some 16), (.bin .gtr (.tmp 15) (.const (.c (.val (.int .i64 0))))), none⟩, ⟨(some 4), (.mov (.tmp 16)), none⟩])
 (.exit 1)) .skip))
 (.seq (.seq (.region [⟨(some 17), (.mov (.tmp 4)), none⟩])
 (.cond (.tmp 17) (.region [⟨(some 18), (.call 60 [(.tmp 3), (.const (.c (.val (.int .u8 32))))]), none⟩]) .skip))
 a38_c1))))
 a38_c0)))
def a38 : AFunc := ⟨1, [(.tmp 2)], (.seq (.region [⟨(some 2), (.mov (.const (.c (.str [])))), none⟩])
 (.seq (.region [⟨(some 3), (.boxB 93), none⟩])
 (.seq (.region [⟨(some 4), (.mov (.const (.c (.val (.bool false))))), none⟩])
 (.seq (.seq (.region [⟨(some 7), (.mov (.tmp 0)), none⟩, ⟨(some 8), (.len (.tmp 7)), none⟩, ⟨(some 9), (.mov (.const (.c (.val (.int .i64 0))))), none⟩])
 (.block 0 (.loop a38_c2)))
 (.seq (.region [⟨(some 23), (.call 63 [(.tmp 3)]), none⟩, ⟨(some 2), (.mov (.tmp 23)), none⟩])
 .ret)))))⟩
set_option maxRecDepth 100000 in
theorem c38 : compFunc Tryd.prog 38 = some a38 := by kernel_rfl
def cssrule_Head_post (r : (List UInt8)) : AV → Heap → Nat → Prop := fun v h' n' => v = (S r) ∧ (h' = (fun _ => none)) ∧ n' = 0
noncomputable def cssrule_Head_j8 (v9 : Int) (l_ : (List TSToken)) (self : (List UInt8) → Bool → Int → Option (List UInt8)) (K0_ : (List UInt8) → Option (List UInt8)) (b_2 : (List UInt8)) (gap1 : Bool) : Option (List UInt8) :=
  self b_2 gap1 (wi (v9 + 1))
theorem cssrule_Head_j8_ok {mL : Int} {Q : AExit → St → Prop} {v9 : Int} {l_ : (List TSToken)} {self : (List UInt8) → Bool → Int → Option (List UInt8)} {K0_ : (List UInt8) → Option (List UInt8)} {b_2 : (List UInt8)} {gap1 : Bool} {zb_2 : Bool} (hzb_2 : zb_2 = true → b_2 = []) {o : (List UInt8)} (h : cssrule_Head_j8 v9 l_ self K0_ b_2 gap1 = some o)
    (hself : ∀ (b_ : (List UInt8)) (gap : Bool) (v9 : Int) (zb : Bool) (_ : zb = true → b_ = []), self b_ gap v9 = some o → ∀ s, Weak 0 s ⟨(upd (upd (upd (upd (upd (fun _ => none) 3 (some (.c (.ref 0 2 0 0)))) 4 (some (B gap))) 7 (some (.c (.ro false 4 (l_.map e_TSToken))))) 8 (some (I (l_.length : Int)))) 9 (some (I v9))), (upd (upd (fun _ => none) 0 (some (.bld 93 zb 1 b_.length))) 1 (bufB zb 5 b_)), 2⟩ → (Q) .normal s)
    (hK0 : ∀ (b_1 : (List UInt8)) (zb_1 : Bool) (_ : zb_1 = true → b_1 = []), K0_ b_1 = some o → ∀ s, Weak 0 s ⟨(upd (fun _ => none) 3 (some (.c (.ref 0 2 0 0)))), (upd (upd (fun _ => none) 0 (some (.bld 93 zb_1 1 b_1.length))) 1 (bufB zb_1 5 b_1)), 2⟩ → Q (.exit 0) s)
    (hr : ∀ s, Ends a38.results 0 (cssrule_Head_post o) .ret s → Q .ret s) :
    Sv Tryd.prog (GG mL) 0 a38_c0 Q ⟨(upd (upd (upd (upd (upd (fun _ => none) 3 (some (.c (.ref 0 2 0 0)))) 4 (some (B gap1))) 7 (some (.c (.ro false 4 (l_.map e_TSToken))))) 8 (some (I (l_.length : Int)))) 9 (some (I v9))), (upd (upd (fun _ => none) 0 (some (.bld 93 zb_2 1 b_2.length))) 1 (bufB zb_2 5 b_2)), 2⟩ := by
  unfold cssrule_Head_j8 at h
  refine Sv.region ?_
  refine un (a1 (v := (I (wi (v9 + 1)))) rfl ?_)
  refine un (a1 rfl ?_)
  refine dnil ?_
  exact hself b_2 gap1 (wi (v9 + 1)) zb_2 hzb_2 h _ (weak_canon [0, 1] rfl (by decide) (by decide) (fun b h => absurd h (Nat.not_lt_zero _)) (.cons rfl (avAs_free rfl) (.cons rfl (avAs_free rfl) (.cons rfl (avAs_free rfl) (.cons rfl (avAs_free rfl) (.cons rfl (.c (.ref rfl (by decide))) .nil))))) (.buf (by decide) rfl (.box (by decide) rfl (.bld rfl (by decide)) .nil)))
abbrev cssrule_Head_q0 (mL : Int) (Q : AExit → St → Prop) : AExit → St → Prop := AThen (Sv Tryd.prog (GG mL) 0 a38_c0 Q) Q
abbrev cssrule_Head_q1 (mL : Int) (Q : AExit → St → Prop) : AExit → St → Prop := ABlock 1 (cssrule_Head_q0 mL Q)
noncomputable def cssrule_Head_j9 (x_ : TSToken) (v9 : Int) (l_ : (List TSToken)) (self : (List UInt8) → Bool → Int → Option (List UInt8)) (K0_ : (List UInt8) → Option (List UInt8)) (b_3 : (List UInt8)) : Option (List UInt8) :=
  (strings_Builder_WriteString b_3 x_.Raw).bind fun r_ =>
  cssrule_Head_j8 v9 l_ self K0_ r_ false
theorem cssrule_Head_j9_ok {mL : Int} {Q : AExit → St → Prop} {x_ : TSToken} {v9 : Int} {l_ : (List TSToken)} {self : (List UInt8) → Bool → Int → Option (List UInt8)} {K0_ : (List UInt8) → Option (List UInt8)} {b_3 : (List UInt8)} {zb_3 : Bool} (hzb_3 : zb_3 = true → b_3 = []) {o : (List UInt8)} (h : cssrule_Head_j9 x_ v9 l_ self K0_ b_3 = some o)
    (hself : ∀ (b_ : (List UInt8)) (gap : Bool) (v9 : Int) (zb : Bool) (_ : zb = true → b_ = []), self b_ gap v9 = some o → ∀ s, Weak 0 s ⟨(upd (upd (upd (upd (upd (fun _ => none) 3 (some (.c (.ref 0 2 0 0)))) 4 (some (B gap))) 7 (some (.c (.ro false 4 (l_.map e_TSToken))))) 8 (some (I (l_.length : Int)))) 9 (some (I v9))), (upd (upd (fun _ => none) 0 (some (.bld 93 zb 1 b_.length))) 1 (bufB zb 5 b_)), 2⟩ → (Q) .normal s)
    (hK0 : ∀ (b_1 : (List UInt8)) (zb_1 : Bool) (_ : zb_1 = true → b_1 = []), K0_ b_1 = some o → ∀ s, Weak 0 s ⟨(upd (fun _ => none) 3 (some (.c (.ref 0 2 0 0)))), (upd (upd (fun _ => none) 0 (some (.bld 93 zb_1 1 b_1.length))) 1 (bufB zb_1 5 b_1)), 2⟩ → Q (.exit 0) s)
    (hr : ∀ s, Ends a38.results 0 (cssrule_Head_post o) .ret s → Q .ret s) :
    Sv Tryd.prog (GG mL) 0 a38_c1 (cssrule_Head_q1 mL Q) ⟨(upd (upd (upd (upd (upd (fun _ => none) 3 (some (.c (.ref 0 2 0 0)))) 6 (some (.c (.ref 2 4 0 0)))) 7 (some (.c (.ro false 4 (l_.map e_TSToken))))) 8 (some (I (l_.length : Int)))) 9 (some (I v9))), (upd (upd (upd (fun _ => none) 0 (some (.bld 93 zb_3 1 b_3.length))) 1 (bufB zb_3 5 b_3)) 2 (some (.cells 4 [[cI x_.Kind, .str x_.Raw, .str x_.Value, cI x_.Num]]))), 3⟩ := by
  unfold cssrule_Head_j9 at h
  refine Sv.seq ?_
  refine Sv.region ?_
  refine un (a1 (v := (.c (.ref 2 4 0 1))) rfl ?_)
  refine un (a1 (v := (S x_.Raw)) rfl ?_)
  obtain ⟨r_, hr1, h⟩ := bnd h
  refine un (ac_gen (bs := [0, 1]) («as» := [(.c (.ref 0 2 0 0)), (S x_.Raw)]) (h2 := _) (h1 := (upd (upd (fun _ => none) 0 (some (.bld 93 zb_3 1 b_3.length))) 1 (bufB zb_3 5 b_3))) (strings_Builder_WriteString_ok (z := zb_3) (l := b_3) hzb_3 hr1) rfl (.cons (.c (.ref rfl (by decide))) (.cons (avAs_free rfl) .nil)) (hsub_refl _) (.cons rfl (.cons rfl (.nil _))) (fun h => by cases h) (by decide) (by decide) (.cons (.c (.ref rfl (by decide))) (.cons (avAs_free rfl) .nil)) (.buf (by decide) rfl (.box (by decide) rfl (.bld rfl (by decide)) .nil)) ?_)
  rintro _ _ _ hn ⟨z_1, hz_1, rfl, rfl, rfl⟩
  refine ⟨.inl rfl, (upd (upd (rem [0, 1] _) 0 (some (.bld 93 z_1 3 r_.length))) 3 (bufB z_1 5 r_)), fun hbd => (m3_cons (m3_buf rfl) (m3_cons (m3_box rfl rfl) (m3_rem (in_cons (by decide) (in_cons (by decide) (in_nil _))) (.cons (by decide) (.cons (by decide) .nil)) hbd))), (.tup [(I (x_.Raw.length : Int)), (.c (.val .nilIface))]), 4, (by cases z_1 <;> rfl), rfl, ?_⟩
  refine dnil ?_
  refine Sv.region ?_
  refine un (a1 rfl ?_)
  refine dnil ?_
  exact Sv.weak (weak_canon [0, 3] rfl (by decide) (by decide) (fun b h => absurd h (Nat.not_lt_zero _)) (.cons rfl (avAs_free rfl) (.cons rfl (avAs_free rfl) (.cons rfl (avAs_free rfl) (.cons rfl (avAs_free rfl) (.cons rfl (.c (.ref rfl (by decide))) .nil))))) (.buf (by decide) rfl (.box (by decide) rfl (.bld rfl (by decide)) .nil))) (cssrule_Head_j8_ok hz_1 h hself hK0 hr)
noncomputable def cssrule_Head_l0 (l_ : (List TSToken)) (K0_ : (List UInt8) → Option (List UInt8)) : Nat → (List UInt8) → Bool → Int → Option (List UInt8)
  | 0, _, _, _ => none
  | k + 1, b_, gap, v9 =>
    if decide (v9 < (l_.length : Int)) then
      (at? l_ v9).bind fun x_ =>
      if (cssrule_silent x_) then
        cssrule_Head_j8 v9 l_ (cssrule_Head_l0 l_ K0_ k) K0_ b_ (decide (0 < (b_.length : Int)))
      else
        if gap then
          (strings_Builder_WriteByte b_ 32).bind fun r_1 =>
          cssrule_Head_j9 x_ v9 l_ (cssrule_Head_l0 l_ K0_ k) K0_ r_1
        else
          cssrule_Head_j9 x_ v9 l_ (cssrule_Head_l0 l_ K0_ k) K0_ b_
    else
      K0_ b_
theorem cssrule_Head_l0_ok {mL : Int} {Q : AExit → St → Prop} {l_ : (List TSToken)} {K0_ : (List UInt8) → Option (List UInt8)} {k : Nat} {b_ : (List UInt8)} {gap : Bool} {v9 : Int} {zb : Bool} (hzb : zb = true → b_ = []) {o : (List UInt8)} (h : cssrule_Head_l0 l_ K0_ k b_ gap v9 = some o)
    (hK0 : ∀ (b_1 : (List UInt8)) (zb_1 : Bool) (_ : zb_1 = true → b_1 = []), K0_ b_1 = some o → ∀ s, Weak 0 s ⟨(upd (fun _ => none) 3 (some (.c (.ref 0 2 0 0)))), (upd (upd (fun _ => none) 0 (some (.bld 93 zb_1 1 b_1.length))) 1 (bufB zb_1 5 b_1)), 2⟩ → Q (.exit 0) s)
    (hr : ∀ s, Ends a38.results 0 (cssrule_Head_post o) .ret s → Q .ret s) :
    Sv Tryd.prog (GG mL) 0 (.loop a38_c2) Q ⟨(upd (upd (upd (upd (upd (fun _ => none) 3 (some (.c (.ref 0 2 0 0)))) 4 (some (B gap))) 7 (some (.c (.ro false 4 (l_.map e_TSToken))))) 8 (some (I (l_.length : Int)))) 9 (some (I v9))), (upd (upd (fun _ => none) 0 (some (.bld 93 zb 1 b_.length))) 1 (bufB zb 5 b_)), 2⟩ := by
  refine Sv.loop (I := fun k s => ∃ (b_ : (List UInt8)), ∃ (gap : Bool), ∃ (v9 : Int), ∃ (zb : Bool), (zb = true → b_ = []) ∧ cssrule_Head_l0 l_ K0_ k b_ gap v9 = some o ∧ s = ⟨(upd (upd (upd (upd (upd (fun _ => none) 3 (some (.c (.ref 0 2 0 0)))) 4 (some (B gap))) 7 (some (.c (.ro false 4 (l_.map e_TSToken))))) 8 (some (I (l_.length : Int)))) 9 (some (I v9))), (upd (upd (fun _ => none) 0 (some (.bld 93 zb 1 b_.length))) 1 (bufB zb 5 b_)), 2⟩) (fun k s hI => ?_) ⟨b_, gap, v9, zb, hzb, h, rfl⟩
  clear h
  clear hzb zb v9 gap b_
  obtain ⟨b_, gap, v9, zb, hzb, h, rfl⟩ := hI
  cases k with
  | zero => cases h
  | succ k =>
  rw [cssrule_Head_l0] at h
  have hself : ∀ (b_ : (List UInt8)) (gap : Bool) (v9 : Int) (zb : Bool) (_ : zb = true → b_ = []), (cssrule_Head_l0 l_ K0_ k) b_ gap v9 = some o → ∀ s, Weak 0 s ⟨(upd (upd (upd (upd (upd (fun _ => none) 3 (some (.c (.ref 0 2 0 0)))) 4 (some (B gap))) 7 (some (.c (.ro false 4 (l_.map e_TSToken))))) 8 (some (I (l_.length : Int)))) 9 (some (I v9))), (upd (upd (fun _ => none) 0 (some (.bld 93 zb 1 b_.length))) 1 (bufB zb 5 b_)), 2⟩ → (AThen (fun s' => ∃ s'' k', Weak 0 s' s'' ∧ k' < k + 1 ∧ (fun k s => ∃ (b_ : (List UInt8)), ∃ (gap : Bool), ∃ (v9 : Int), ∃ (zb : Bool), (zb = true → b_ = []) ∧ cssrule_Head_l0 l_ K0_ k b_ gap v9 = some o ∧ s = ⟨(upd (upd (upd (upd (upd (fun _ => none) 3 (some (.c (.ref 0 2 0 0)))) 4 (some (B gap))) 7 (some (.c (.ro false 4 (l_.map e_TSToken))))) 8 (some (I (l_.length : Int)))) 9 (some (I v9))), (upd (upd (fun _ => none) 0 (some (.bld 93 zb 1 b_.length))) 1 (bufB zb 5 b_)), 2⟩) k' s'') Q) .normal s := fun b_ gap v9 zb hzb h s hw => ⟨_, k, hw, Nat.lt_succ_self k, b_, gap, v9, zb, hzb, h, rfl⟩
  refine Sv.seq ?_
  refine Sv.region ?_
  refine un (a1 (v := (B (decide (v9 < (l_.length : Int))))) rfl ?_)
  refine dnil ?_
  refine Sv.seq ?_
  refine Sv.cond (b := decide (v9 < (l_.length : Int))) rfl (fun hc1 => ?_) (fun hc1 => ?_)
  · replace h := ifT hc1 h
    refine Sv.skip ?_
    refine Sv.seq ?_
    refine Sv.block ?_
    refine Sv.seq ?_
    refine Sv.region ?_
    obtain ⟨x_, hx1, h⟩ := bnd h
    refine un (a1 (v := (.c (.rop [cI x_.Kind, .str x_.Raw, .str x_.Value, cI x_.Num]))) (s_iaddr (e := e_TSToken) (xs := l_) rfl rfl hx1) ?_)
    refine un (a1 (v := (.agg [cI x_.Kind, .str x_.Raw, .str x_.Value, cI x_.Num])) rfl ?_)
    refine un (a2v (v := (.c (.ref 2 4 0 0))) (h' := upd _ 2 (some (.cells 4 [[cI 0, .str [], .str [], cI 0]]))) (n' := 3) rfl rfl (fun h => by cases h) ?_)
    refine un (a2n (h' := upd _ 2 (some (.cells 4 [[cI x_.Kind, .str x_.Raw, .str x_.Value, cI x_.Num]]))) (n' := 3) rfl rfl (fun h => by cases h) ?_)
    refine dnil ?_
    refine Sv.seq ?_
    refine Sv.seq ?_
    refine Sv.region ?_
    refine un (a1 (v := (.agg [cI x_.Kind, .str x_.Raw, .str x_.Value, cI x_.Num])) rfl ?_)
    refine un (ac_pure (cssrule_silent_ok (mL := mL) x_) rfl rfl rfl ?_)
    refine dnil ?_
    refine Sv.cond (b := (cssrule_silent x_)) rfl (fun hc2 => ?_) (fun hc2 => ?_)
    · replace h := ifT hc2 h
      refine Sv.seq ?_
      refine Sv.region ?_
      refine un (ac_gen (bs := [0, 1]) («as» := [(.c (.ref 0 2 0 0))]) (h2 := _) (h1 := (upd (upd (fun _ => none) 0 (some (.bld 93 zb 1 b_.length))) 1 (bufB zb 5 b_))) (strings_Builder_Len_ok (z := zb) (l := b_) hzb) rfl (.cons (.c (.ref rfl (by decide))) .nil) (hsub_refl _) (.cons rfl (.cons rfl (.nil _))) (fun h => by cases h) (by decide) (by decide) (.cons (.c (.ref rfl (by decide))) .nil) (.buf (by decide) rfl (.box (by decide) rfl (.bld rfl (by decide)) .nil)) ?_)
      rintro _ _ _ hn ⟨z_, hz_, rfl, rfl, rfl⟩
      refine ⟨.inl rfl, (upd (upd (rem [0, 1] _) 0 (some (.bld 93 z_ 3 b_.length))) 3 (bufB z_ 5 b_)), fun hbd => (m3_cons (m3_buf rfl) (m3_cons (m3_box rfl rfl) (m3_rem (in_cons (by decide) (in_cons (by decide) (in_nil _))) (.cons (by decide) (.cons (by decide) .nil)) hbd))), (I (b_.length : Int)), 4, (by cases z_ <;> rfl), rfl, ?_⟩
      refine un (a1 (v := (B (decide (0 < (b_.length : Int))))) rfl ?_)
      refine un (a1 rfl ?_)
      refine dnil ?_
      refine Sv.exit ?_
      exact Sv.weak (weak_canon [0, 3] rfl (by decide) (by decide) (fun b h => absurd h (Nat.not_lt_zero _)) (.cons rfl (avAs_free rfl) (.cons rfl (avAs_free rfl) (.cons rfl (avAs_free rfl) (.cons rfl (avAs_free rfl) (.cons rfl (.c (.ref rfl (by decide))) .nil))))) (.buf (by decide) rfl (.box (by decide) rfl (.bld rfl (by decide)) .nil))) (cssrule_Head_j8_ok hz_ h hself hK0 hr)
    · replace h := ifF hc2 h
      refine Sv.skip ?_
      refine Sv.seq ?_
      refine Sv.seq ?_
      refine Sv.region ?_
      refine un (a1 rfl ?_)
      refine dnil ?_
      refine Sv.cond (b := gap) rfl (fun hc3 => ?_) (fun hc3 => ?_)
      · replace h := ifT hc3 h
        refine Sv.region ?_
        obtain ⟨r_1, hr2, h⟩ := bnd h
        refine un (ac_gen (bs := [0, 1]) («as» := [(.c (.ref 0 2 0 0)), (.c (.val (.int .u8 32)))]) (h2 := _) (h1 := (upd (upd (fun _ => none) 0 (some (.bld 93 zb 1 b_.length))) 1 (bufB zb 5 b_))) (strings_Builder_WriteByte_ok (z := zb) (l := b_) hzb hr2) rfl (.cons (.c (.ref rfl (by decide))) (.cons (avAs_free rfl) .nil)) (hsub_refl _) (.cons rfl (.cons rfl (.nil _))) (fun h => by cases h) (by decide) (by decide) (.cons (.c (.ref rfl (by decide))) (.cons (avAs_free rfl) .nil)) (.buf (by decide) rfl (.box (by decide) rfl (.bld rfl (by decide)) .nil)) ?_)
        rintro _ _ _ hn ⟨z_2, hz_2, rfl, rfl, rfl⟩
        refine ⟨.inl rfl, (upd (upd (rem [0, 1] _) 0 (some (.bld 93 z_2 3 r_1.length))) 3 (bufB z_2 5 r_1)), fun hbd => (m3_cons (m3_buf rfl) (m3_cons (m3_box rfl rfl) (m3_rem (in_cons (by decide) (in_cons (by decide) (in_nil _))) (.cons (by decide) (.cons (by decide) .nil)) hbd))), (.c (.val .nilIface)), 4, (by cases z_2 <;> rfl), rfl, ?_⟩
        refine dnil ?_
        exact Sv.weak (weak_canon [0, 3, 2] rfl (by decide) (by decide) (fun b h => absurd h (Nat.not_lt_zero _)) (.cons rfl (avAs_free rfl) (.cons rfl (avAs_free rfl) (.cons rfl (avAs_free rfl) (.cons rfl (.c (.ref rfl (by decide))) (.cons rfl (.c (.ref rfl (by decide))) .nil))))) (.box (by decide) rfl (blkAs_cells (.cons (.same rfl) (.cons (.same rfl) (.cons (.same rfl) (.cons (.same rfl) .nil))))) (.buf (by decide) rfl (.box (by decide) rfl (.bld rfl (by decide)) .nil)))) (cssrule_Head_j9_ok hz_2 h hself hK0 hr)
      · replace h := ifF hc3 h
        refine Sv.skip ?_
        exact Sv.weak (weak_canon [0, 1, 2] rfl (by decide) (by decide) (fun b h => absurd h (Nat.not_lt_zero _)) (.cons rfl (avAs_free rfl) (.cons rfl (avAs_free rfl) (.cons rfl (avAs_free rfl) (.cons rfl (.c (.ref rfl (by decide))) (.cons rfl (.c (.ref rfl (by decide))) .nil))))) (.box (by decide) rfl (blkAs_cells (.cons (.same rfl) (.cons (.same rfl) (.cons (.same rfl) (.cons (.same rfl) .nil))))) (.buf (by decide) rfl (.box (by decide) rfl (.bld rfl (by decide)) .nil)))) (cssrule_Head_j9_ok hzb h hself hK0 hr)
  · replace h := ifF hc1 h
    refine Sv.exit ?_
    exact hK0 b_ zb hzb h _ (weak_canon [0, 1] rfl (by decide) (by decide) (fun b h => absurd h (Nat.not_lt_zero _)) (.cons rfl (.c (.ref rfl (by decide))) .nil) (.buf (by decide) rfl (.box (by decide) rfl (.bld rfl (by decide)) .nil)))
/-- clerestory/cssrule.Head -/
noncomputable def cssrule_Head (l_ : (List TSToken)) : Option (List UInt8) :=
  lim fun kk => cssrule_Head_l0 l_ (fun (b_1 : (List UInt8)) => 
      some b_1) kk ([] : List UInt8) false 0
theorem cssrule_Head_ok {mL : Int} {l_ : (List TSToken)} {r : (List UInt8)} (h : cssrule_Head l_ = some r) : CPure Tryd.prog (GG mL) 38 [(.c (.ro false 4 (l_.map e_TSToken)))] (S r) := by
  refine acalls_of_sv hmix c38 (R := cssrule_Head_post r) ?_
  unfold cssrule_Head at h
  refine Sv.seq ?_
  refine Sv.region ?_
  refine un (a1 rfl ?_)
  refine dnil ?_
  refine Sv.seq ?_
  refine Sv.region ?_
  refine un (a2v (v := (.c (.ref 1 2 0 0))) (h' := upd _ 1 (some (.bld 93 true 0 ([] : List UInt8).length))) (n' := 2) rfl rfl (fun h => by cases h) ?_)
  refine dnil ?_
  refine Sv.seq ?_
  refine Sv.region ?_
  refine un (a1 rfl ?_)
  refine dnil ?_
  refine Sv.seq ?_
  refine Sv.seq ?_
  refine Sv.region ?_
  refine un (a1 rfl ?_)
  refine un (a1 (v := (I (l_.length : Int))) (s_len (e := e_TSToken) (xs := l_) rfl) ?_)
  refine un (a1 rfl ?_)
  refine dnil ?_
  refine Sv.block ?_
  obtain ⟨kk, h⟩ := lim_some h
  refine Sv.weak (weak_canon [1, 1000] rfl (by decide) (by decide) (fun b h => absurd h (Nat.not_lt_zero _)) (.cons rfl (avAs_free rfl) (.cons rfl (avAs_free rfl) (.cons rfl (avAs_free rfl) (.cons rfl (avAs_free rfl) (.cons rfl (.c (.ref rfl (by decide))) .nil))))) (.nonB (by decide) (.box (by decide) rfl (.bldN (by decide)) .nil))) (cssrule_Head_l0_ok (fun _ => rfl) h ?_ (fun s hs => hs))
  · intro b_1 zb_1 hzb_1 h _ hw1
    refine Sv.weak hw1 ?_
    refine Sv.seq ?_
    refine Sv.region ?_
    refine un (ac_gen (bs := [0, 1]) («as» := [(.c (.ref 0 2 0 0))]) (h2 := _) (h1 := (upd (upd (fun _ => none) 0 (some (.bld 93 zb_1 1 b_1.length))) 1 (bufB zb_1 5 b_1))) (strings_Builder_String_ok (z := zb_1) (l := b_1) hzb_1) rfl (.cons (.c (.ref rfl (by decide))) .nil) (hsub_refl _) (.cons rfl (.cons rfl (.nil _))) (fun h => by cases h) (by decide) (by decide) (.cons (.c (.ref rfl (by decide))) .nil) (.buf (by decide) rfl (.box (by decide) rfl (.bld rfl (by decide)) .nil)) ?_)
    rintro _ _ _ hn ⟨rfl, rfl, rfl⟩
    refine ⟨.inl rfl, (rem [0, 1] _), fun hbd => (m3_rem (in_cons (by decide) (in_cons (by decide) (in_nil _))) (.nil) hbd), (S b_1), 2, rfl, rfl, ?_⟩
    refine un (a1 rfl ?_)
    refine dnil ?_
    refine Sv.ret ?_
    replace h := Option.some.inj h
    subst h
    exact ⟨_, .refl _, _, rfl, ⟨upd (fun _ => none) 0 (some (S b_1)), (fun _ => none), 0⟩, (S b_1), weak_canon [] rfl List.nodup_nil (Nat.le_refl _) (fun b h => absurd h (Nat.not_lt_zero _)) (.cons rfl (avAs_free rfl) .nil) .nil, rfl, rfl, rfl, rfl⟩
def a84 : AFunc := ⟨1, [(.tmp 2)], (.seq (.region [⟨(some 1), (.box (.tmp 0)), none⟩, ⟨(some 2), (.mov (.const (.c (.val (.bool false))))), none⟩])
 (.seq (.region [⟨(some 3), (.faddr 0 (.tmp 1)), none⟩, ⟨(some 4), (.load false 1 (.tmp 3)), none⟩, ⟨(some 5), (.bin .eql (.tmp 4) (.const (.c (.val (.int .i64 8))))), none⟩, ⟨(some 6), (.mov (.tmp 5)), none⟩, ⟨(some 7), (.faddr 0 (.tmp 1)), (some (6, false))⟩, ⟨(some 8), (.load false 1 (.tmp 7)), (some (6, false))⟩, ⟨(some 9), (.bin .eql (.tmp 8) (.const (.c (.val (.int .i64 9))))), (some (6, false))⟩, ⟨(some 10), (.pick (.tmp 6) (.const (.c (.val (.bool true)))) (.tmp 9)), none⟩, ⟨(some 2), (.mov (.tmp 10)), none⟩])
 .ret))⟩
set_option maxRecDepth 100000 in
theorem c84 : compFunc Tryd.prog 84 = some a84 := by kernel_rfl
def clerestoryref2_Silent_post (r : Bool) : AV → Heap → Nat → Prop := fun v h' n' => v = (B r) ∧ (h' = (fun _ => none)) ∧ n' = 0
/-- clerestory/clerestoryref2.Silent -/
def clerestoryref2_Silent (t_ : TSToken) : Bool :=
  ((decide (t_.Kind = 8)) || (decide (t_.Kind = 9)))
theorem clerestoryref2_Silent_ok {mL : Int} (t_ : TSToken) : CPure Tryd.prog (GG mL) 84 [(.agg [cI t_.Kind, .str t_.Raw, .str t_.Value, cI t_.Num])] (B (clerestoryref2_Silent t_)) := by
  generalize h : clerestoryref2_Silent t_ = o
  refine acalls_of_sv hmix c84 (R := clerestoryref2_Silent_post o) ?_
  unfold clerestoryref2_Silent at h
  refine Sv.seq ?_
  refine Sv.region ?_
  refine un (a2v (v := (.c (.ref 0 4 0 0))) (h' := upd _ 0 (some (.cells 4 [[cI t_.Kind, .str t_.Raw, .str t_.Value, cI t_.Num]]))) (n' := 1) rfl rfl (fun h => by cases h) ?_)
  refine un (a1 rfl ?_)
  refine dnil ?_
  refine Sv.seq ?_
  refine Sv.region ?_
  refine un (a1 (v := (.c (.ref 0 4 0 0))) rfl ?_)
  refine un (a1 (v := (I t_.Kind)) rfl ?_)
  refine un (a1 (v := (B (decide (t_.Kind = 8)))) rfl ?_)
  refine un (a1 rfl ?_)
  refine gjoin 4 (d := 10) (v := (B ((decide (t_.Kind = 8)) || (decide (t_.Kind = 9))))) (fun X hX => ?_) ?_
  · refine split2 (fun hc1 => ?_) (fun hc1 => ?_)
    · refine gs rfl rfl ?_
      refine gs rfl rfl ?_
      refine gs rfl rfl ?_
      refine un (a1 (v := (B true)) rfl ?_)
      refine dnil ?_
      exact hX _ (.putEq (by rw [hc1]; rfl) (.skip _ _ (.skip _ _ (.skip _ _ (.putEq (by rw [hc1]) (.refl _)) rfl) rfl) rfl))
    · refine gt rfl (a1 (v := (.c (.ref 0 4 0 0))) rfl ?_)
      refine gt rfl (a1 (v := (I t_.Kind)) rfl ?_)
      refine gt rfl (a1 (v := (B (decide (t_.Kind = 9)))) rfl ?_)
      refine un (a1 (v := (B (decide (t_.Kind = 9)))) rfl ?_)
      refine dnil ?_
      exact hX _ (.putEq (by rw [hc1]; rfl) (.skip _ _ (.skip _ _ (.skip _ _ (.putEq (by rw [hc1]) (.refl _)) rfl) rfl) rfl))
  refine un (a1 rfl ?_)
  refine dnil ?_
  refine Sv.ret ?_
  subst h
  exact ⟨_, .refl _, _, rfl, ⟨upd (fun _ => none) 0 (some (B ((decide (t_.Kind = 8)) || (decide (t_.Kind = 9))))), (fun _ => none), 0⟩, (B ((decide (t_.Kind = 8)) || (decide (t_.Kind = 9)))), weak_canon [] rfl List.nodup_nil (Nat.le_refl _) (fun b h => absurd h (Nat.not_lt_zero _)) (.cons rfl (avAs_free rfl) .nil) .nil, rfl, rfl, rfl, rfl⟩
def a39_c0 : ACode := (.cond (.tmp 25) (.region [⟨(some 26), (.mov (.tmp 3)), none⟩, ⟨(some 27), (.bin .add (.tmp 26) (.const (.c (.str [32])))), none⟩, ⟨(some 3), (.mov (.tmp 27)), none⟩]) .skip)
def a39_c2 : ACode := (.region [⟨(some 28), (.mov (.tmp 3)), none⟩, ⟨(some 29), (.mov (.tmp 0)), none⟩, ⟨(some 30), (.mov (.tmp 4)), none⟩, ⟨(some 31), (.iaddr 4 (.tmp 29) (.tmp 30)), none⟩, ⟨(some 32), (.faddr 1 (.tmp 31)), none⟩, ⟨(some 33), (.load false 1 (.tmp 32)), none⟩, ⟨(some 34), (.bin .add (.tmp 28) (.tmp 33)), none⟩, ⟨(some 3), (.mov (.tmp 34)), none⟩])
def a39_c1 : ACode := (.region [⟨(some 9), (.mov (.tmp 4)), none⟩, ⟨(some 10), (.bin .add (.tmp 9) (.const (.c (.val (.int .i64 1))))), none⟩, ⟨(some 4), (.mov (.tmp 10)), none⟩])
def a39_c3 : ACode := (.seq (.seq (.region [⟨(some 5), (.mov (.tmp 4)), none⟩, ⟨(some 6), (.mov (.tmp 0)), none⟩, ⟨(some 7), (.len (.tmp 6)), none⟩, ⟨(some 8), (.bin .lss (.tmp 5) (.tmp 7)), none⟩])
 (.cond (.tmp 8) .skip (.exit 0)))
 (.seq (.block 1 (.seq (.seq (.region [⟨(some 11), (.mov (.tmp 0)), none⟩, ⟨(some 12), (.mov (.tmp 4)), none⟩, ⟨(some 13), (.iaddr 4 (.tmp 11) (.tmp 12)), none⟩, ⟨(some 14), (.load true 4 (.tmp 13)), none⟩, ⟨(some 15), (.call 84 [(.tmp 14)]), none⟩])
 (.cond (.tmp 15) (.exit 1) .skip))
 (.seq (.seq (.region [⟨(some 16), (.mov (.tmp 3)), none⟩, ⟨(some 17), (.bin .neq (.tmp 16) (.const (.c (.str [])))), none⟩, ⟨(some 18), (.mov (.tmp 17)), none⟩, ⟨(some 19), (.mov (.tmp 0)), (some (18, true))⟩, ⟨(some 20), (.mov (.tmp 4)), (some (18, true))⟩, ⟨(some 21), (.bin .sub (.tmp 20) (.const (.c (.val (.int .i64 1))))), (some (18, true))⟩, ⟨(some 22), (.iaddr 4 (.tmp 19) (.tmp 21)), (some (18, true))⟩, ⟨(some 23), (.load true 4 (.tmp 22)), (some (18, true))⟩, ⟨(some 24), (.call 84 [(.tmp 23)]), (some (18, true))⟩, ⟨(some 25), (.pick (.tmp 18) (.tmp 24) (.const (.c (.val (.bool false))))), none⟩])
 a39_c0)
 a39_c2)))
 a39_c1))
def a39 : AFunc := ⟨1, [(.tmp 2)], (.seq (.region [⟨(some 2), (.mov (.const (.c (.str [])))), none⟩])
 (.seq (.region [⟨(some 3), (.mov (.const (.c (.str [])))), none⟩])
 (.seq (.seq (.region [⟨(some 4), (.mov (.const (.c (.val (.int .i64 0))))), none⟩])
 (.block 0 (.loop a39_c3)))
 (.seq (.region [⟨(some 35), (.mov (.tmp 3)), none⟩, ⟨(some 2), (.mov (.tmp 35)), none⟩])
 .ret))))⟩
set_option maxRecDepth 100000 in
theorem c39 : compFunc Tryd.prog 39 = some a39 := by kernel_rfl
def clerestoryref2_HeadOf_post (r : (List UInt8)) : AV → Heap → Nat → Prop := fun v h' n' => v = (S r) ∧ (h' = (fun _ => none)) ∧ n' = 0
noncomputable def clerestoryref2_HeadOf_j30 (i_ : Int) (l_ : (List TSToken)) (self : (List UInt8) → Int → Option (List UInt8)) (K0_ : (List UInt8) → Option (List UInt8)) (s_2 : (List UInt8)) : Option (List UInt8) :=
  self s_2 (wi (i_ + 1))
theorem clerestoryref2_HeadOf_j30_ok {mL : Int} {Q : AExit → St → Prop} {i_ : Int} {l_ : (List TSToken)} {self : (List UInt8) → Int → Option (List UInt8)} {K0_ : (List UInt8) → Option (List UInt8)} {s_2 : (List UInt8)} {o : (List UInt8)} (h : clerestoryref2_HeadOf_j30 i_ l_ self K0_ s_2 = some o)
    (hself : ∀ (s_ : (List UInt8)) (i_ : Int), self s_ i_ = some o → ∀ s, Weak 0 s ⟨(upd (upd (upd (fun _ => none) 0 (some (.c (.ro false 4 (l_.map e_TSToken))))) 3 (some (S s_))) 4 (some (I i_))), (fun _ => none), 0⟩ → (Q) .normal s)
    (hK0 : ∀ (s_1 : (List UInt8)), K0_ s_1 = some o → ∀ s, Weak 0 s ⟨(upd (fun _ => none) 3 (some (S s_1))), (fun _ => none), 0⟩ → Q (.exit 0) s)
    (hr : ∀ s, Ends a39.results 0 (clerestoryref2_HeadOf_post o) .ret s → Q .ret s) :
    Sv Tryd.prog (GG mL) 0 a39_c1 Q ⟨(upd (upd (upd (fun _ => none) 0 (some (.c (.ro false 4 (l_.map e_TSToken))))) 3 (some (S s_2))) 4 (some (I i_))), (fun _ => none), 0⟩ := by
  unfold clerestoryref2_HeadOf_j30 at h
  refine Sv.region ?_
  refine un (a1 rfl ?_)
  refine un (a1 (v := (I (wi (i_ + 1)))) rfl ?_)
  refine un (a1 rfl ?_)
  refine dnil ?_
  exact hself s_2 (wi (i_ + 1)) h _ (weak_canon [] rfl (by decide) (by decide) (fun b h => absurd h (Nat.not_lt_zero _)) (.cons rfl (avAs_free rfl) (.cons rfl (avAs_free rfl) (.cons rfl (avAs_free rfl) .nil))) .nil)
abbrev clerestoryref2_HeadOf_q0 (mL : Int) (Q : AExit → St → Prop) : AExit → St → Prop := AThen (Sv Tryd.prog (GG mL) 0 a39_c1 Q) Q
abbrev clerestoryref2_HeadOf_q1 (mL : Int) (Q : AExit → St → Prop) : AExit → St → Prop := ABlock 1 (clerestoryref2_HeadOf_q0 mL Q)
noncomputable def clerestoryref2_HeadOf_j32 (l_ : (List TSToken)) (i_ : Int) (self : (List UInt8) → Int → Option (List UInt8)) (K0_ : (List UInt8) → Option (List UInt8)) (s_3 : (List UInt8)) : Option (List UInt8) :=
  (at? l_ i_).bind fun x_1 =>
  (cat? s_3 x_1.Raw).bind fun r_ =>
  clerestoryref2_HeadOf_j30 i_ l_ self K0_ r_
theorem clerestoryref2_HeadOf_j32_ok {mL : Int} {Q : AExit → St → Prop} {l_ : (List TSToken)} {i_ : Int} {self : (List UInt8) → Int → Option (List UInt8)} {K0_ : (List UInt8) → Option (List UInt8)} {s_3 : (List UInt8)} {o : (List UInt8)} (h : clerestoryref2_HeadOf_j32 l_ i_ self K0_ s_3 = some o)
    (hself : ∀ (s_ : (List UInt8)) (i_ : Int), self s_ i_ = some o → ∀ s, Weak 0 s ⟨(upd (upd (upd (fun _ => none) 0 (some (.c (.ro false 4 (l_.map e_TSToken))))) 3 (some (S s_))) 4 (some (I i_))), (fun _ => none), 0⟩ → (Q) .normal s)
    (hK0 : ∀ (s_1 : (List UInt8)), K0_ s_1 = some o → ∀ s, Weak 0 s ⟨(upd (fun _ => none) 3 (some (S s_1))), (fun _ => none), 0⟩ → Q (.exit 0) s)
    (hr : ∀ s, Ends a39.results 0 (clerestoryref2_HeadOf_post o) .ret s → Q .ret s) :
    Sv Tryd.prog (GG mL) 0 a39_c2 (clerestoryref2_HeadOf_q1 mL Q) ⟨(upd (upd (upd (fun _ => none) 0 (some (.c (.ro false 4 (l_.map e_TSToken))))) 3 (some (S s_3))) 4 (some (I i_))), (fun _ => none), 0⟩ := by
  unfold clerestoryref2_HeadOf_j32 at h
  refine Sv.region ?_
  refine un (a1 rfl ?_)
  refine un (a1 rfl ?_)
  refine un (a1 rfl ?_)
  obtain ⟨x_1, hx2, h⟩ := bnd h
  refine un (a1 (v := (.c (.rop [cI x_1.Kind, .str x_1.Raw, .str x_1.Value, cI x_1.Num]))) (s_iaddr (e := e_TSToken) (xs := l_) rfl rfl hx2) ?_)
  refine un (a1 (v := (.c (.rop [.str x_1.Raw, .str x_1.Value, cI x_1.Num]))) rfl ?_)
  refine un (a1 (v := (S x_1.Raw)) rfl ?_)
  obtain ⟨r_, hx3, h⟩ := bnd h
  refine un (a1 (v := (S r_)) (s_cat rfl rfl hx3) ?_)
  refine un (a1 rfl ?_)
  refine dnil ?_
  exact Sv.weak (weak_canon [] rfl (by decide) (by decide) (fun b h => absurd h (Nat.not_lt_zero _)) (.cons rfl (avAs_free rfl) (.cons rfl (avAs_free rfl) (.cons rfl (avAs_free rfl) .nil))) .nil) (clerestoryref2_HeadOf_j30_ok h hself hK0 hr)
abbrev clerestoryref2_HeadOf_q2 (mL : Int) (Q : AExit → St → Prop) : AExit → St → Prop := AThen (Sv Tryd.prog (GG mL) 0 a39_c2 (clerestoryref2_HeadOf_q1 mL Q)) (clerestoryref2_HeadOf_q1 mL Q)
noncomputable def clerestoryref2_HeadOf_j33 (s_ : (List UInt8)) (l_ : (List TSToken)) (i_ : Int) (self : (List UInt8) → Int → Option (List UInt8)) (K0_ : (List UInt8) → Option (List UInt8)) (v25 : Bool) : Option (List UInt8) :=
  if v25 then
    (cat? s_ [32]).bind fun r_1 =>
    clerestoryref2_HeadOf_j32 l_ i_ self K0_ r_1
  else
    clerestoryref2_HeadOf_j32 l_ i_ self K0_ s_
theorem clerestoryref2_HeadOf_j33_ok {mL : Int} {Q : AExit → St → Prop} {s_ : (List UInt8)} {l_ : (List TSToken)} {i_ : Int} {self : (List UInt8) → Int → Option (List UInt8)} {K0_ : (List UInt8) → Option (List UInt8)} {v25 : Bool} {o : (List UInt8)} (h : clerestoryref2_HeadOf_j33 s_ l_ i_ self K0_ v25 = some o)
    (hself : ∀ (s_ : (List UInt8)) (i_ : Int), self s_ i_ = some o → ∀ s, Weak 0 s ⟨(upd (upd (upd (fun _ => none) 0 (some (.c (.ro false 4 (l_.map e_TSToken))))) 3 (some (S s_))) 4 (some (I i_))), (fun _ => none), 0⟩ → (Q) .normal s)
    (hK0 : ∀ (s_1 : (List UInt8)), K0_ s_1 = some o → ∀ s, Weak 0 s ⟨(upd (fun _ => none) 3 (some (S s_1))), (fun _ => none), 0⟩ → Q (.exit 0) s)
    (hr : ∀ s, Ends a39.results 0 (clerestoryref2_HeadOf_post o) .ret s → Q .ret s) :
    Sv Tryd.prog (GG mL) 0 a39_c0 (clerestoryref2_HeadOf_q2 mL Q) ⟨(upd (upd (upd (upd (fun _ => none) 0 (some (.c (.ro false 4 (l_.map e_TSToken))))) 3 (some (S s_))) 4 (some (I i_))) 25 (some (B v25))), (fun _ => none), 0⟩ := by
  unfold clerestoryref2_HeadOf_j33 at h
  refine Sv.cond (b := v25) rfl (fun hc3 => ?_) (fun hc3 => ?_)
  · replace h := ifT hc3 h
    refine Sv.region ?_
    refine un (a1 rfl ?_)
    obtain ⟨r_1, hx4, h⟩ := bnd h
    refine un (a1 (v := (S r_1)) (s_cat rfl rfl hx4) ?_)
    refine un (a1 rfl ?_)
    refine dnil ?_
    exact Sv.weak (weak_canon [] rfl (by decide) (by decide) (fun b h => absurd h (Nat.not_lt_zero _)) (.cons rfl (avAs_free rfl) (.cons rfl (avAs_free rfl) (.cons rfl (avAs_free rfl) .nil))) .nil) (clerestoryref2_HeadOf_j32_ok h hself hK0 hr)
  · replace h := ifF hc3 h
    refine Sv.skip ?_
    exact Sv.weak (weak_canon [] rfl (by decide) (by decide) (fun b h => absurd h (Nat.not_lt_zero _)) (.cons rfl (avAs_free rfl) (.cons rfl (avAs_free rfl) (.cons rfl (avAs_free rfl) .nil))) .nil) (clerestoryref2_HeadOf_j32_ok h hself hK0 hr)
noncomputable def clerestoryref2_HeadOf_l0 (l_ : (List TSToken)) (K0_ : (List UInt8) → Option (List UInt8)) : Nat → (List UInt8) → Int → Option (List UInt8)
  | 0, _, _ => none
  | k + 1, s_, i_ =>
    if decide (i_ < (l_.length : Int)) then
      (at? l_ i_).bind fun x_ =>
      if (clerestoryref2_Silent x_) then
        clerestoryref2_HeadOf_j30 i_ l_ (clerestoryref2_HeadOf_l0 l_ K0_ k) K0_ s_
      else
        if (!decide (s_ = [])) then
          (at? l_ (wi (i_ - 1))).bind fun x_2 =>
          clerestoryref2_HeadOf_j33 s_ l_ i_ (clerestoryref2_HeadOf_l0 l_ K0_ k) K0_ (clerestoryref2_Silent x_2)
        else
          clerestoryref2_HeadOf_j33 s_ l_ i_ (clerestoryref2_HeadOf_l0 l_ K0_ k) K0_ false
    else
      K0_ s_
theorem clerestoryref2_HeadOf_l0_ok {mL : Int} {Q : AExit → St → Prop} {l_ : (List TSToken)} {K0_ : (List UInt8) → Option (List UInt8)} {k : Nat} {s_ : (List UInt8)} {i_ : Int} {o : (List UInt8)} (h : clerestoryref2_HeadOf_l0 l_ K0_ k s_ i_ = some o)
    (hK0 : ∀ (s_1 : (List UInt8)), K0_ s_1 = some o → ∀ s, Weak 0 s ⟨(upd (fun _ => none) 3 (some (S s_1))), (fun _ => none), 0⟩ → Q (.exit 0) s)
    (hr : ∀ s, Ends a39.results 0 (clerestoryref2_HeadOf_post o) .ret s → Q .ret s) :
    Sv Tryd.prog (GG mL) 0 (.loop a39_c3) Q ⟨(upd (upd (upd (fun _ => none) 0 (some (.c (.ro false 4 (l_.map e_TSToken))))) 3 (some (S s_))) 4 (some (I i_))), (fun _ => none), 0⟩ := by
  refine Sv.loop (I := fun k s => ∃ (s_ : (List UInt8)), ∃ (i_ : Int), clerestoryref2_HeadOf_l0 l_ K0_ k s_ i_ = some o ∧ s = ⟨(upd (upd (upd (fun _ => none) 0 (some (.c (.ro false 4 (l_.map e_TSToken))))) 3 (some (S s_))) 4 (some (I i_))), (fun _ => none), 0⟩) (fun k s hI => ?_) ⟨s_, i_, h, rfl⟩
  clear h
  clear i_ s_
  obtain ⟨s_, i_, h, rfl⟩ := hI
  cases k with
  | zero => cases h
  | succ k =>
  rw [clerestoryref2_HeadOf_l0] at h
  have hself : ∀ (s_ : (List UInt8)) (i_ : Int), (clerestoryref2_HeadOf_l0 l_ K0_ k) s_ i_ = some o → ∀ s, Weak 0 s ⟨(upd (upd (upd (fun _ => none) 0 (some (.c (.ro false 4 (l_.map e_TSToken))))) 3 (some (S s_))) 4 (some (I i_))), (fun _ => none), 0⟩ → (AThen (fun s' => ∃ s'' k', Weak 0 s' s'' ∧ k' < k + 1 ∧ (fun k s => ∃ (s_ : (List UInt8)), ∃ (i_ : Int), clerestoryref2_HeadOf_l0 l_ K0_ k s_ i_ = some o ∧ s = ⟨(upd (upd (upd (fun _ => none) 0 (some (.c (.ro false 4 (l_.map e_TSToken))))) 3 (some (S s_))) 4 (some (I i_))), (fun _ => none), 0⟩) k' s'') Q) .normal s := fun s_ i_ h s hw => ⟨_, k, hw, Nat.lt_succ_self k, s_, i_, h, rfl⟩
  refine Sv.seq ?_
  refine Sv.seq ?_
  refine Sv.region ?_
  refine un (a1 rfl ?_)
  refine un (a1 rfl ?_)
  refine un (a1 (v := (I (l_.length : Int))) (s_len (e := e_TSToken) (xs := l_) rfl) ?_)
  refine un (a1 (v := (B (decide (i_ < (l_.length : Int))))) rfl ?_)
  refine dnil ?_
  refine Sv.cond (b := decide (i_ < (l_.length : Int))) rfl (fun hc1 => ?_) (fun hc1 => ?_)
  · replace h := ifT hc1 h
    refine Sv.skip ?_
    refine Sv.seq ?_
    refine Sv.block ?_
    refine Sv.seq ?_
    refine Sv.seq ?_
    refine Sv.region ?_
    refine un (a1 rfl ?_)
    refine un (a1 rfl ?_)
    obtain ⟨x_, hx1, h⟩ := bnd h
    refine un (a1 (v := (.c (.rop [cI x_.Kind, .str x_.Raw, .str x_.Value, cI x_.Num]))) (s_iaddr (e := e_TSToken) (xs := l_) rfl rfl hx1) ?_)
    refine un (a1 (v := (.agg [cI x_.Kind, .str x_.Raw, .str x_.Value, cI x_.Num])) rfl ?_)
    refine un (ac_pure (clerestoryref2_Silent_ok (mL := mL) x_) rfl rfl rfl ?_)
    refine dnil ?_
    refine Sv.cond (b := (clerestoryref2_Silent x_)) rfl (fun hc2 => ?_) (fun hc2 => ?_)
    · replace h := ifT hc2 h
      refine Sv.exit ?_
      exact Sv.weak (weak_canon [] rfl (by decide) (by decide) (fun b h => absurd h (Nat.not_lt_zero _)) (.cons rfl (avAs_free rfl) (.cons rfl (avAs_free rfl) (.cons rfl (avAs_free rfl) .nil))) .nil) (clerestoryref2_HeadOf_j30_ok h hself hK0 hr)
    · replace h := ifF hc2 h
      refine Sv.skip ?_
      refine Sv.seq ?_
      refine Sv.seq ?_
      refine Sv.region ?_
      refine un (a1 rfl ?_)
      refine un (a1 (v := (B (!decide (s_ = [])))) rfl ?_)
      refine un (a1 rfl ?_)
      refine split2 (fun hc4 => ?_) (fun hc4 => ?_)
      · replace h := ifT hc4 h
        refine gt rfl (a1 rfl ?_)
        refine gt rfl (a1 rfl ?_)
        refine gt rfl (a1 (v := (I (wi (i_ - 1)))) rfl ?_)
        obtain ⟨x_2, hx5, h⟩ := bnd h
        refine gt rfl (a1 (v := (.c (.rop [cI x_2.Kind, .str x_2.Raw, .str x_2.Value, cI x_2.Num]))) (s_iaddr (e := e_TSToken) (xs := l_) rfl rfl hx5) ?_)
        refine gt rfl (a1 (v := (.agg [cI x_2.Kind, .str x_2.Raw, .str x_2.Value, cI x_2.Num])) rfl ?_)
        refine gt rfl (ac_pure (clerestoryref2_Silent_ok (mL := mL) x_2) rfl rfl rfl ?_)
        refine un (a1 (v := (B (clerestoryref2_Silent x_2))) rfl ?_)
        refine dnil ?_
        exact Sv.weak (weak_canon [] rfl (by decide) (by decide) (fun b h => absurd h (Nat.not_lt_zero _)) (.cons rfl (avAs_free rfl) (.cons rfl (avAs_free rfl) (.cons rfl (avAs_free rfl) (.cons rfl (avAs_free rfl) .nil)))) .nil) (clerestoryref2_HeadOf_j33_ok h hself hK0 hr)
      · replace h := ifF hc4 h
        refine gs rfl rfl ?_
        refine gs rfl rfl ?_
        refine gs rfl rfl ?_
        refine gs rfl rfl ?_
        refine gs rfl rfl ?_
        refine gs rfl rfl ?_
        refine un (a1 (v := (B false)) rfl ?_)
        refine dnil ?_
        exact Sv.weak (weak_canon [] rfl (by decide) (by decide) (fun b h => absurd h (Nat.not_lt_zero _)) (.cons rfl (avAs_free rfl) (.cons rfl (avAs_free rfl) (.cons rfl (avAs_free rfl) (.cons rfl (avAs_free rfl) .nil)))) .nil) (clerestoryref2_HeadOf_j33_ok h hself hK0 hr)
  · replace h := ifF hc1 h
    refine Sv.exit ?_
    exact hK0 s_ h _ (weak_canon [] rfl (by decide) (by decide) (fun b h => absurd h (Nat.not_lt_zero _)) (.cons rfl (avAs_free rfl) .nil) .nil)
/-- clerestory/clerestoryref2.HeadOf -/
noncomputable def clerestoryref2_HeadOf (l_ : (List TSToken)) : Option (List UInt8) :=
  lim fun kk => clerestoryref2_HeadOf_l0 l_ (fun (s_1 : (List UInt8)) => 
      some s_1) kk [] 0
theorem clerestoryref2_HeadOf_ok {mL : Int} {l_ : (List TSToken)} {r : (List UInt8)} (h : clerestoryref2_HeadOf l_ = some r) : CPure Tryd.prog (GG mL) 39 [(.c (.ro false 4 (l_.map e_TSToken)))] (S r) := by
  refine acalls_of_sv hmix c39 (R := clerestoryref2_HeadOf_post r) ?_
  unfold clerestoryref2_HeadOf at h
  refine Sv.seq ?_
  refine Sv.region ?_
  refine un (a1 rfl ?_)
  refine dnil ?_
  refine Sv.seq ?_
  refine Sv.region ?_
  refine un (a1 rfl ?_)
  refine dnil ?_
  refine Sv.seq ?_
  refine Sv.seq ?_
  refine Sv.region ?_
  refine un (a1 rfl ?_)
  refine dnil ?_
  refine Sv.block ?_
  obtain ⟨kk, h⟩ := lim_some h
  refine Sv.weak (weak_canon [] rfl (by decide) (by decide) (fun b h => absurd h (Nat.not_lt_zero _)) (.cons rfl (avAs_free rfl) (.cons rfl (avAs_free rfl) (.cons rfl (avAs_free rfl) .nil))) .nil) (clerestoryref2_HeadOf_l0_ok h ?_ (fun s hs => hs))
  · intro s_1 h _ hw1
    refine Sv.weak hw1 ?_
    refine Sv.seq ?_
    refine Sv.region ?_
    refine un (a1 rfl ?_)
    refine un (a1 rfl ?_)
    refine dnil ?_
    refine Sv.ret ?_
    replace h := Option.some.inj h
    subst h
    exact ⟨_, .refl _, _, rfl, ⟨upd (fun _ => none) 0 (some (S s_1)), (fun _ => none), 0⟩, (S s_1), weak_canon [] rfl List.nodup_nil (Nat.le_refl _) (fun b h => absurd h (Nat.not_lt_zero _)) (.cons rfl (avAs_free rfl) .nil) .nil, rfl, rfl, rfl, rfl⟩
def a11_c0 : ACode := (.seq (.seq (.region [⟨(some 8), (.mov (.tmp 4)), none⟩, ⟨(some 9), (.mov (.tmp 0)), none⟩, ⟨(some 10), (.len (.tmp 9)), none⟩, ⟨(some 11), (.bin .lss (.tmp 8) (.tmp 10)), none⟩])
 (.cond (.tmp 11) .skip (.exit 0)))
 (.seq (.block 1 (.seq (.region [⟨(some 14), (.mov (.tmp 0)), none⟩, ⟨(some 15), (.mov (.tmp 4)), none⟩, ⟨(some 16), (.iaddr 4 (.tmp 14) (.tmp 15)), none⟩, ⟨(some 17), (.faddr 1 (.tmp 16)), none⟩, ⟨(some 18), (.load false 1 (.tmp 17)), none⟩, ⟨(some 19), (.bin .eql (.tmp 18) (.const (.c (.str [])))), none⟩])
 (.cond (.tmp 19) (.seq (.region [⟨(some 20), (.mov (.tmp 3)), none⟩, ⟨(some 2), (.mov (.tmp 20)), none⟩])
 .ret) .skip)))
 (.region [⟨(some 12), (.mov (.tmp 4)), none⟩, ⟨(some 13), (.bin .add (.tmp 12) (.const (.c (.val (.int .i64 1))))), none⟩, ⟨(some 4), (.mov (.tmp 13)), none⟩])))
def a11_c1 : ACode := .ret
def a11 : AFunc := ⟨1, [(.tmp 2)], (.seq (.region [⟨(some 2), (.mov (.const (.c (.val (.bool false))))), none⟩])
 (.seq (.region [⟨(some 5), (.call 27 [(.const (.c (.str [32, 97, 32, 47, 42, 32, 98, 32, 42, 47, 32, 99, 32])))]), none⟩, ⟨(some 6), (.call 38 [(.tmp 5)]), none⟩, ⟨(some 7), (.bin .eql (.tmp 6) (.const (.c (.str [97, 32, 99])))), none⟩, ⟨(some 3), (.mov (.tmp 7)), none⟩])
 (.seq (.seq (.region [⟨(some 4), (.mov (.const (.c (.val (.int .i64 0))))), none⟩])
 (.block 0 (.loop a11_c0)))
 (.seq (.region [⟨(some 21), (.mov (.tmp 3)), none⟩, ⟨(some 22), (.mov (.tmp 21)), none⟩, ⟨(some 23), (.mov (.tmp 0)), (some (22, true))⟩, ⟨(some 24), (.call 38 [(.tmp 23)]), (some (22, true))⟩, ⟨(some 25), (.mov (.tmp 0)), (some (22, true))⟩, ⟨(some 26), (.call 39 [(.tmp 25)]), (some (22, true))⟩, ⟨(some 27), (.bin .eql (.tmp 24) (.tmp 26)), (some (22, true))⟩, ⟨(some 28), (.pick (.tmp 22) (.tmp 27) (.const (.c (.val (.bool false))))), none⟩, ⟨(some 2), (.mov (.tmp 28)), none⟩])
 a11_c1))))⟩
set_option maxRecDepth 100000 in
theorem c11 : compFunc Tryd.prog 11 = some a11 := by kernel_rfl
def clerestorylaw2_RuleHeads_post (r : Bool) : AV → Heap → Nat → Prop := fun v h' n' => v = (B r) ∧ (h' = (fun _ => none)) ∧ n' = 0
noncomputable def clerestorylaw2_RuleHeads_l0 (l_ : (List TSToken)) (r_1 : (List UInt8)) (K0_ : Unit → Option Bool) : Nat → Int → Option Bool
  | 0, _ => none
  | k + 1, i_ =>
    if decide (i_ < (l_.length : Int)) then
      (at? l_ i_).bind fun x_ =>
      if decide (x_.Raw = []) then
        some (decide (r_1 = [97, 32, 99]))
      else
        (clerestorylaw2_RuleHeads_l0 l_ r_1 K0_ k) (wi (i_ + 1))
    else
      K0_ ()
theorem clerestorylaw2_RuleHeads_l0_ok {mL : Int} {Q : AExit → St → Prop} {l_ : (List TSToken)} {r_1 : (List UInt8)} {K0_ : Unit → Option Bool} {k : Nat} {i_ : Int} {o : Bool} (h : clerestorylaw2_RuleHeads_l0 l_ r_1 K0_ k i_ = some o)
    (hK0 : ∀ (_ : Unit), K0_ () = some o → ∀ s, Weak 0 s ⟨(upd (upd (fun _ => none) 0 (some (.c (.ro false 4 (l_.map e_TSToken))))) 3 (some (B (decide (r_1 = [97, 32, 99]))))), (fun _ => none), 0⟩ → Q (.exit 0) s)
    (hr : ∀ s, Ends a11.results 0 (clerestorylaw2_RuleHeads_post o) .ret s → Q .ret s) :
    Sv Tryd.prog (GG mL) 0 (.loop a11_c0) Q ⟨(upd (upd (upd (fun _ => none) 0 (some (.c (.ro false 4 (l_.map e_TSToken))))) 3 (some (B (decide (r_1 = [97, 32, 99]))))) 4 (some (I i_))), (fun _ => none), 0⟩ := by
  refine Sv.loop (I := fun k s => ∃ (i_ : Int), clerestorylaw2_RuleHeads_l0 l_ r_1 K0_ k i_ = some o ∧ s = ⟨(upd (upd (upd (fun _ => none) 0 (some (.c (.ro false 4 (l_.map e_TSToken))))) 3 (some (B (decide (r_1 = [97, 32, 99]))))) 4 (some (I i_))), (fun _ => none), 0⟩) (fun k s hI => ?_) ⟨i_, h, rfl⟩
  clear h
  clear i_
  obtain ⟨i_, h, rfl⟩ := hI
  cases k with
  | zero => cases h
  | succ k =>
  rw [clerestorylaw2_RuleHeads_l0] at h
  have hself : ∀ (i_ : Int), (clerestorylaw2_RuleHeads_l0 l_ r_1 K0_ k) i_ = some o → ∀ s, Weak 0 s ⟨(upd (upd (upd (fun _ => none) 0 (some (.c (.ro false 4 (l_.map e_TSToken))))) 3 (some (B (decide (r_1 = [97, 32, 99]))))) 4 (some (I i_))), (fun _ => none), 0⟩ → (AThen (fun s' => ∃ s'' k', Weak 0 s' s'' ∧ k' < k + 1 ∧ (fun k s => ∃ (i_ : Int), clerestorylaw2_RuleHeads_l0 l_ r_1 K0_ k i_ = some o ∧ s = ⟨(upd (upd (upd (fun _ => none) 0 (some (.c (.ro false 4 (l_.map e_TSToken))))) 3 (some (B (decide (r_1 = [97, 32, 99]))))) 4 (some (I i_))), (fun _ => none), 0⟩) k' s'') Q) .normal s := fun i_ h s hw => ⟨_, k, hw, Nat.lt_succ_self k, i_, h, rfl⟩
  refine Sv.seq ?_
  refine Sv.seq ?_
  refine Sv.region ?_
  refine un (a1 rfl ?_)
  refine un (a1 rfl ?_)
  refine un (a1 (v := (I (l_.length : Int))) (s_len (e := e_TSToken) (xs := l_) rfl) ?_)
  refine un (a1 (v := (B (decide (i_ < (l_.length : Int))))) rfl ?_)
  refine dnil ?_
  refine Sv.cond (b := decide (i_ < (l_.length : Int))) rfl (fun hc1 => ?_) (fun hc1 => ?_)
  · replace h := ifT hc1 h
    refine Sv.skip ?_
    refine Sv.seq ?_
    refine Sv.block ?_
    refine Sv.seq ?_
    refine Sv.region ?_
    refine un (a1 rfl ?_)
    refine un (a1 rfl ?_)
    obtain ⟨x_, hx1, h⟩ := bnd h
    refine un (a1 (v := (.c (.rop [cI x_.Kind, .str x_.Raw, .str x_.Value, cI x_.Num]))) (s_iaddr (e := e_TSToken) (xs := l_) rfl rfl hx1) ?_)
    refine un (a1 (v := (.c (.rop [.str x_.Raw, .str x_.Value, cI x_.Num]))) rfl ?_)
    refine un (a1 (v := (S x_.Raw)) rfl ?_)
    refine un (a1 (v := (B (decide (x_.Raw = [])))) rfl ?_)
    refine dnil ?_
    refine Sv.cond (b := decide (x_.Raw = [])) rfl (fun hc2 => ?_) (fun hc2 => ?_)
    · replace h := ifT hc2 h
      refine Sv.seq ?_
      refine Sv.region ?_
      refine un (a1 rfl ?_)
      refine un (a1 rfl ?_)
      refine dnil ?_
      refine Sv.ret ?_
      replace h := Option.some.inj h
      subst h
      exact hr _ ⟨_, .refl _, _, rfl, ⟨upd (fun _ => none) 0 (some (B (decide (r_1 = [97, 32, 99])))), (fun _ => none), 0⟩, (B (decide (r_1 = [97, 32, 99]))), weak_canon [] rfl List.nodup_nil (Nat.le_refl _) (fun b h => absurd h (Nat.not_lt_zero _)) (.cons rfl (avAs_free rfl) .nil) .nil, rfl, rfl, rfl, rfl⟩
    · replace h := ifF hc2 h
      refine Sv.skip ?_
      refine Sv.region ?_
      refine un (a1 rfl ?_)
      refine un (a1 (v := (I (wi (i_ + 1)))) rfl ?_)
      refine un (a1 rfl ?_)
      refine dnil ?_
      exact hself (wi (i_ + 1)) h _ (weak_canon [] rfl (by decide) (by decide) (fun b h => absurd h (Nat.not_lt_zero _)) (.cons rfl (avAs_free rfl) (.cons rfl (avAs_free rfl) (.cons rfl (avAs_free rfl) .nil))) .nil)
  · replace h := ifF hc1 h
    refine Sv.exit ?_
    exact hK0 () h _ (weak_canon [] rfl (by decide) (by decide) (fun b h => absurd h (Nat.not_lt_zero _)) (.cons rfl (avAs_free rfl) (.cons rfl (avAs_free rfl) .nil)) .nil)
noncomputable def clerestorylaw2_RuleHeads_j1 (v2 : Bool) : Option Bool :=
  some v2
theorem clerestorylaw2_RuleHeads_j1_ok {mL : Int} {v2 : Bool} {o : Bool} (h : clerestorylaw2_RuleHeads_j1 v2 = some o) :
    Sv Tryd.prog (GG mL) 0 a11_c1 (Ends a11.results 0 (clerestorylaw2_RuleHeads_post o)) ⟨(upd (fun _ => none) 2 (some (B v2))), (fun _ => none), 0⟩ := by
  unfold clerestorylaw2_RuleHeads_j1 at h
  refine Sv.ret ?_
  replace h := Option.some.inj h
  subst h
  exact ⟨_, .refl _, _, rfl, ⟨upd (fun _ => none) 0 (some (B v2)), (fun _ => none), 0⟩, (B v2), weak_canon [] rfl List.nodup_nil (Nat.le_refl _) (fun b h => absurd h (Nat.not_lt_zero _)) (.cons rfl (avAs_free rfl) .nil) .nil, rfl, rfl, rfl, rfl⟩
/-- clerestory/clerestorylaw2.RuleHeads -/
noncomputable def clerestorylaw2_RuleHeads (l_ : (List TSToken)) : Option Bool :=
  (csstok_Cut [32, 97, 32, 47, 42, 32, 98, 32, 42, 47, 32, 99, 32]).bind fun r_ =>
  (cssrule_Head r_).bind fun r_1 =>
  lim fun kk => clerestorylaw2_RuleHeads_l0 l_ r_1 (fun (_ : Unit) => 
      if decide (r_1 = [97, 32, 99]) then
        (cssrule_Head l_).bind fun r_2 =>
        (clerestoryref2_HeadOf l_).bind fun r_3 =>
        clerestorylaw2_RuleHeads_j1 (decide (r_2 = r_3))
      else
        clerestorylaw2_RuleHeads_j1 false) kk 0
theorem clerestorylaw2_RuleHeads_ok {mL : Int} {l_ : (List TSToken)} {r : Bool} (h : clerestorylaw2_RuleHeads l_ = some r) : CPure Tryd.prog (GG mL) 11 [(.c (.ro false 4 (l_.map e_TSToken)))] (B r) := by
  refine acalls_of_sv hmix c11 (R := clerestorylaw2_RuleHeads_post r) ?_
  unfold clerestorylaw2_RuleHeads at h
  refine Sv.seq ?_
  refine Sv.region ?_
  refine un (a1 rfl ?_)
  refine dnil ?_
  refine Sv.seq ?_
  refine Sv.region ?_
  obtain ⟨r_, hr1, h⟩ := bnd h
  refine un (ac_gen (bs := []) («as» := [(S [32, 97, 32, 47, 42, 32, 98, 32, 42, 47, 32, 99, 32])]) (h2 := _) (h1 := (fun _ => none)) (csstok_Cut_ok hr1) rfl (.cons (avAs_free rfl) .nil) (hsub_refl _) (.nil _) (fun _ => rfl) (by decide) (by decide) (.cons (avAs_free rfl) .nil) .nil ?_)
  rintro _ _ _ hn ⟨z_, hz_, rfl, rfl, rfl⟩
  refine ⟨.inl rfl, (upd (rem [] _) 0 (lstB z_ 4 (r_.map e_TSToken))), fun hbd => (m3_cons (m3_row rfl (fr_map fun _ => rfl)) (m3_rem (in_nil _) (.cons (by decide) .nil) hbd)), (lstV z_ 0 4 r_.length), 1, (by cases z_ <;> rfl), rfl, ?_⟩
  obtain ⟨r_1, hr2, h⟩ := bnd h
  refine un (ac_lend (h2 := (upd _ 0 none)) (cssrule_Head_ok hr2) rfl (.cons (.c (lstC_ro (es := List.map e_TSToken r_) rfl (List.length_map e_TSToken).symm (map_nil_of hz_) (gone rfl) (fr_map fun _ => rfl))) .nil) (hsub_none (hsub_refl _)) rfl rfl (.inr rfl) ?_)
  refine un (a1 (v := (B (decide (r_1 = [97, 32, 99])))) rfl ?_)
  refine un (a1 rfl ?_)
  refine dnil ?_
  refine Sv.seq ?_
  refine Sv.seq ?_
  refine Sv.region ?_
  refine un (a1 rfl ?_)
  refine dnil ?_
  refine Sv.block ?_
  obtain ⟨kk, h⟩ := lim_some h
  refine Sv.weak (weak_canon [] rfl (by decide) (by decide) (fun b h => absurd h (Nat.not_lt_zero _)) (.cons rfl (avAs_free rfl) (.cons rfl (avAs_free rfl) (.cons rfl (avAs_free rfl) .nil))) .nil) (clerestorylaw2_RuleHeads_l0_ok h ?_ (fun s hs => hs))
  · intro _ h _ hw1
    refine Sv.weak hw1 ?_
    refine Sv.seq ?_
    refine Sv.region ?_
    refine un (a1 rfl ?_)
    refine un (a1 rfl ?_)
    refine split2 (fun hc3 => ?_) (fun hc3 => ?_)
    · replace h := ifT hc3 h
      refine gt rfl (a1 rfl ?_)
      obtain ⟨r_2, hr3, h⟩ := bnd h
      refine gt rfl (ac_pure (cssrule_Head_ok hr3) rfl rfl rfl ?_)
      refine gt rfl (a1 rfl ?_)
      obtain ⟨r_3, hr4, h⟩ := bnd h
      refine gt rfl (ac_pure (clerestoryref2_HeadOf_ok hr4) rfl rfl rfl ?_)
      refine gt rfl (a1 (v := (B (decide (r_2 = r_3)))) rfl ?_)
      refine un (a1 (v := (B (decide (r_2 = r_3)))) rfl ?_)
      refine un (a1 rfl ?_)
      refine dnil ?_
      exact Sv.weak (weak_canon [] rfl (by decide) (by decide) (fun b h => absurd h (Nat.not_lt_zero _)) (.cons rfl (avAs_free rfl) .nil) .nil) (clerestorylaw2_RuleHeads_j1_ok h)
    · replace h := ifF hc3 h
      refine gs rfl rfl ?_
      refine gs rfl rfl ?_
      refine gs rfl rfl ?_
      refine gs rfl rfl ?_
      refine gs rfl rfl ?_
      refine un (a1 (v := (B false)) rfl ?_)
      refine un (a1 rfl ?_)
      refine dnil ?_
      exact Sv.weak (weak_canon [] rfl (by decide) (by decide) (fun b h => absurd h (Nat.not_lt_zero _)) (.cons rfl (avAs_free rfl) .nil) .nil) (clerestorylaw2_RuleHeads_j1_ok h)
end Go.Proofs.YtdmmjgjmfpalhaaDoorBv
