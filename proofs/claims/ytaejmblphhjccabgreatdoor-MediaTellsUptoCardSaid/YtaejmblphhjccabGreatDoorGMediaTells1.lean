/- Printed by a program of mine (bgen.py): plain functions, and the walks that show that the code comes to what they answer. -/
import Derived.Test.YtaejmblphhjccabGreatDoorGMediaTells0
namespace Go.Proofs.YtaejmblphhjccabGreatDoorBv
open Go
set_option linter.unusedVariables false
set_option linter.unusedSimpArgs false
set_option maxRecDepth 100000
def a79_c0 : ACode := (.cond (.tmp 18) (.region [⟨(some 21), (.mov (.tmp 4)), none⟩, ⟨(some 22), (.mov (.tmp 3)), none⟩, ⟨(some 23), (.faddr 1 (.tmp 6)), none⟩, ⟨(some 24), (.load false 1 (.tmp 23)), none⟩, ⟨(some 25), (.faddr 1 (.tmp 6)), none⟩, ⟨(some 26), (.load false 1 (.tmp 25)), none⟩, ⟨(some 27), (.lenS (.tmp 26)), none⟩, ⟨(some 28), (.bin .sub (.tmp 27) (.const (.c (.val (.int .i64 1))))), none⟩, ⟨(some 29), (.idxS (.tmp 24) (.tmp 28)), none⟩, ⟨(some 30), (.mlook (.i .u8) (.c (.val (.int .u8 0))) false (.tmp 22) (.tmp 29)), none⟩, ⟨(some 31), (.bslice 1 [(.val (.int .u8 0))] 1 [(0, (.tmp 30))]), none⟩, ⟨(some 32), (.app 1 1 (.tmp 21) (.tmp 31)), none⟩, ⟨(some 4), (.mov (.tmp 32)), none⟩]) (.seq (.region [⟨(some 34), (.bin .eql (.tmp 17) (.const (.c (.val (.int .i64 11))))), none⟩, ⟨(some 33), (.mov (.tmp 34)), none⟩])
 (.cond (.tmp 33) (.seq (.drawn (.fin [(⟨(some 35), (.faddr 1 (.tmp 6)), none⟩, (0, 0)), (⟨(some 36), (.load false 1 (.tmp 35)), none⟩, (0, 1)), (⟨(some 37), (.idxS (.tmp 36) (.const (.c (.val (.int .i64 0))))), none⟩, (0, 2)), (⟨(some 38), (.mov (.tmp 4)), none⟩, (0, 3)), (⟨(some 39), (.mov (.tmp 4)), none⟩, (0, 4)), (⟨(some 40), (.len (.tmp 39)), none⟩, (0, 5)), (⟨(some 41), (.bin .sub (.tmp 40) (.const (.c (.val (.int .i64 1))))), none⟩, (0, 6)), (⟨(some 42), (.iaddr 1 (.tmp 38) (.tmp 41)), none⟩, (0, 7)), (⟨(some 43), (.load false 1 (.tmp 42)), none⟩, (0, 8)), (⟨(some 44), (.bin .eql (.tmp 37) (.tmp 43)), none⟩, (0, 9))]))
 (.cond (.tmp 44) (.region [⟨(some 45), (.mov (.tmp 4)), none⟩, ⟨(some 46), (.mov (.tmp 4)), none⟩, ⟨(some 47), (.len (.tmp 46)), none⟩, ⟨(some 48), (.bin .sub (.tmp 47) (.const (.c (.val (.int .i64 1))))), none⟩, ⟨(some 49), (.slSl 1 (.tmp 45) none (some (.tmp 48)) none), none⟩, ⟨(some 4), (.mov (.tmp 49)), none⟩]) .skip)) .skip)))
def a79_c2 : ACode := (.seq (.region [⟨(some 50), (.mov (.tmp 4)), none⟩, ⟨(some 51), (.len (.tmp 50)), none⟩, ⟨(some 52), (.bin .eql (.tmp 51) (.const (.c (.val (.int .i64 0))))), none⟩])
 (.cond (.tmp 52) (.seq (.region [⟨(some 53), (.mov (.tmp 5)), none⟩, ⟨(some 54), (.bin .add (.tmp 53) (.const (.c (.val (.int .i64 1))))), none⟩, ⟨(some 2), (.mov (.tmp 54)), none⟩])
 .ret) .skip))
def a79_c1 : ACode := (.region [⟨(some 55), (.bin .add (.tmp 11) (.const (.c (.val (.int .i64 1))))), none⟩, ⟨(some 11), (.mov (.tmp 55)), none⟩])
def a79_c3 : ACode := (.seq (.region [⟨(some 12), (.bin .lss (.tmp 11) (.tmp 10)), none⟩])
 (.seq (.cond (.tmp 12) .skip (.exit 0))
 (.seq (.block 1 (.seq (.region [⟨(some 13), (.mov (.tmp 11)), none⟩, ⟨(some 14), (.iaddr 4 (.tmp 9) (.tmp 11)), none⟩, ⟨(some 15), (.load true 4 (.tmp 14)), none⟩, ⟨(some 6), (.box (.const (.agg [(.val (.int .i64 0)), (.str []), (.str []), (.val (.int .i64 0))]))), none⟩, ⟨(some 5), (.mov (.tmp 13)), none⟩, ⟨none, (.store 4 (.tmp 6) (.tmp 15)), none⟩])
 (.seq (.seq (.region [⟨(some 16), (.faddr 0 (.tmp 6)), none⟩, ⟨(some 17), (.load false 1 (.tmp 16)), none⟩])
 (.block 2 (.seq (.seq (.region [⟨(some 19), (.bin .eql (.tmp 17) (.const (.c (.val (.int .i64 10))))), none⟩, ⟨(some 18), (.mov (.tmp 19)), none⟩])
 (.cond (.tmp 18) .skip (.region [⟨(some 20), (.bin .eql (.tmp 17) (.const (.c (.val (.int .i64 2))))), none⟩, ⟨(some 18), (.mov (.tmp 20)), none⟩])))
 a79_c0)))
 a79_c2)))
 a79_c1)))
def a79 : AFunc := ⟨1, [(.tmp 2)], (.seq (.region [⟨(some 2), (.mov (.const (.c (.val (.int .i64 0))))), none⟩])
 (.seq (.region [⟨(some 7), (.mkmap (.i .u8)), none⟩, ⟨none, (.mput (.i .u8) (.tmp 7) (.const (.c (.val (.int .u8 40)))) (.const (.c (.val (.int .u8 41))))), none⟩, ⟨none, (.mput (.i .u8) (.tmp 7) (.const (.c (.val (.int .u8 91)))) (.const (.c (.val (.int .u8 93))))), none⟩, ⟨none, (.mput (.i .u8) (.tmp 7) (.const (.c (.val (.int .u8 123)))) (.const (.c (.val (.int .u8 125))))), none⟩, ⟨(some 8), (.mov (.tmp 7)), none⟩, ⟨(some 3), (.mov (.tmp 8)), none⟩])
 (.seq (.region [⟨(some 4), (.mov (.const (.c (.ro true 1 [])))), none⟩])
 (.seq (.seq (.region [⟨(some 9), (.mov (.tmp 0)), none⟩, ⟨(some 10), (.len (.tmp 9)), none⟩, ⟨(some 11), (.mov (.const (.c (.val (.int .i64 0))))), none⟩])
 (.block 0 (.loop a79_c3)))
 (.seq (.region [⟨(some 2), (.mov (.const (.c (.val (.int .i64 0))))), none⟩])
 .ret)))))⟩
set_option maxRecDepth 100000 in
theorem c79 : compFunc Tryz.prog 79 = some a79 := by kernel_rfl
def media_end_post (r : Int) : AV → Heap → Nat → Prop := fun v h' n' => v = (I r) ∧ (h' = (fun _ => none)) ∧ n' = 0
abbrev media_end_q0 (mL : Int) (Q : AExit → St → Prop) : AExit → St → Prop := AThen (Sv Tryz.prog (GG mL) 0 a79_c1 Q) Q
abbrev media_end_q1 (mL : Int) (Q : AExit → St → Prop) : AExit → St → Prop := ABlock 1 (media_end_q0 mL Q)
abbrev media_end_l0_H (l_ : (List TSToken)) (mp2 : (List (Int × Int))) (F_ : (List Int) → Int → Option Int) (o : Int) (R_ : St → Prop) : Prop := ∀ (want : (List Int)) (v11 : Int) (zwant : Bool) (_ : zwant = true → want = []), F_ want v11 = some o → ∀ s, Weak 0 s ⟨(upd (upd (upd (upd (upd (fun _ => none) 3 (some (.c (.mp 0)))) 4 (some (lstV zwant 1 1 want.length))) 9 (some (.c (.ro false 4 (l_.map e_TSToken))))) 10 (some (I (l_.length : Int)))) 11 (some (I v11))), (upd (upd (fun _ => none) 0 (mapB (.i .u8) (fun x => .val (.int .u8 x)) (fun (x : Int) => (.c (.val (.int .u8 x)))) mp2)) 1 (lstB zwant 1 (want.map (eK .u8)))), 2⟩ → R_ s
abbrev media_end_l0_E0 (F_ : Unit → Option Int) (o : Int) (R_ : St → Prop) : Prop := ∀ (_ : Unit), F_ () = some o → ∀ s, Weak 0 s ⟨(fun _ => none), (fun _ => none), 0⟩ → R_ s
noncomputable def media_end_j11 (v11 : Int) (l_ : (List TSToken)) (mp2 : (List (Int × Int))) (self : (List Int) → Int → Option Int) (K0_ : Unit → Option Int) (want1 : (List Int)) : Option Int :=
  if decide ((want1.length : Int) = 0) then
    some (wi (v11 + 1))
  else
    self want1 (wi (v11 + 1))
theorem media_end_j11_ok {mL : Int} {Q : AExit → St → Prop} {v11 : Int} {l_ : (List TSToken)} {mp2 : (List (Int × Int))} {self : (List Int) → Int → Option Int} {K0_ : Unit → Option Int} {want1 : (List Int)} {zwant1 : Bool} (hzwant1 : zwant1 = true → want1 = []) {o : Int} (h : media_end_j11 v11 l_ mp2 self K0_ want1 = some o)
    (hself : media_end_l0_H l_ mp2 self o (Q .normal))
    (hK0 : media_end_l0_E0 K0_ o (Q (.exit 0)))
    (hr : ∀ s, Ends a79.results 0 (media_end_post o) .ret s → Q .ret s) :
    Sv Tryz.prog (GG mL) 0 a79_c2 (media_end_q1 mL Q) ⟨(upd (upd (upd (upd (upd (upd (fun _ => none) 3 (some (.c (.mp 0)))) 4 (some (lstV zwant1 1 1 want1.length))) 5 (some (I v11))) 9 (some (.c (.ro false 4 (l_.map e_TSToken))))) 10 (some (I (l_.length : Int)))) 11 (some (I v11))), (upd (upd (fun _ => none) 0 (mapB (.i .u8) (fun x => .val (.int .u8 x)) (fun (x : Int) => (.c (.val (.int .u8 x)))) mp2)) 1 (lstB zwant1 1 (want1.map (eK .u8)))), 2⟩ := by
  unfold media_end_j11 at h
  refine Sv.seq ?_
  refine Sv.region ?_
  refine un (a1 rfl ?_)
  refine un (a1 (v := (I (want1.length : Int))) (s_lenL rfl (len_nil_of hzwant1)) ?_)
  refine un (a1 (v := (B (decide ((want1.length : Int) = 0)))) rfl ?_)
  refine dnil ?_
  refine Sv.cond (b := decide ((want1.length : Int) = 0)) rfl (fun hc2 => ?_) (fun hc2 => ?_)
  · replace h := ifT hc2 h
    refine Sv.seq ?_
    refine Sv.region ?_
    refine un (a1 rfl ?_)
    refine un (a1 (v := (I (wi (v11 + 1)))) rfl ?_)
    refine un (a1 rfl ?_)
    refine dnil ?_
    refine Sv.ret ?_
    replace h := Option.some.inj h
    subst h
    exact hr _ ⟨_, .refl _, _, rfl, ⟨upd (fun _ => none) 0 (some (I (wi (v11 + 1)))), (fun _ => none), 0⟩, (I (wi (v11 + 1))), weak_canon [] rfl List.nodup_nil (Nat.le_refl _) (fun b h => absurd h (Nat.not_lt_zero _)) (.cons rfl (avAs_free rfl) .nil) .nil, rfl, rfl, rfl, rfl⟩
  · replace h := ifF hc2 h
    refine Sv.skip ?_
    refine Sv.region ?_
    refine un (a1 (v := (I (wi (v11 + 1)))) rfl ?_)
    refine un (a1 rfl ?_)
    refine dnil ?_
    exact hself want1 (wi (v11 + 1)) zwant1 hzwant1 h _ (weak_canon [0, 1] rfl (by decide) (by decide) (fun b h => absurd h (Nat.not_lt_zero _)) (.cons rfl (avAs_free rfl) (.cons rfl (avAs_free rfl) (.cons rfl (avAs_free rfl) (.cons rfl (.c (lstC_ren rfl (by decide))) (.cons rfl (.c (.mp rfl (by decide))) .nil))))) (.row (by decide) rfl (fr_map fun _ => rfl) (.box (by decide) rfl .map .nil)))
abbrev media_end_q2 (mL : Int) (Q : AExit → St → Prop) : AExit → St → Prop := AThen (Sv Tryz.prog (GG mL) 0 a79_c2 (media_end_q1 mL Q)) (media_end_q1 mL Q)
abbrev media_end_q3 (mL : Int) (Q : AExit → St → Prop) : AExit → St → Prop := ABlock 2 (media_end_q2 mL Q)
noncomputable def media_end_j12 (x_ : TSToken) (mp2 : (List (Int × Int))) (v11 : Int) (l_ : (List TSToken)) (self : (List Int) → Int → Option Int) (K0_ : Unit → Option Int) (want2 : (List Int)) (v18 : Bool) : Option Int :=
  if v18 then
    (at? x_.Raw (wi ((x_.Raw.length : Int) - 1))).bind fun c_ =>
    (app? 1 want2 [((mget mp2 (c_.toNat : Int)).getD (0 : Int))]).bind fun r_ =>
    media_end_j11 v11 l_ mp2 self K0_ r_
  else
    if decide (x_.Kind = 11) then
      (at? x_.Raw 0).bind fun c_1 =>
      (at? want2 (wi ((want2.length : Int) - 1))).bind fun x_1 =>
      if decide ((c_1.toNat : Int) = x_1) then
        (sub? want2 0 (wi ((want2.length : Int) - 1))).bind fun r_1 =>
        media_end_j11 v11 l_ mp2 self K0_ r_1
      else
        media_end_j11 v11 l_ mp2 self K0_ want2
    else
      media_end_j11 v11 l_ mp2 self K0_ want2
theorem media_end_j12_ok {mL : Int} {Q : AExit → St → Prop} {x_ : TSToken} {mp2 : (List (Int × Int))} {v11 : Int} {l_ : (List TSToken)} {self : (List Int) → Int → Option Int} {K0_ : Unit → Option Int} {want2 : (List Int)} {v18 : Bool} {zwant2 : Bool} (hzwant2 : zwant2 = true → want2 = []) {o : Int} (h : media_end_j12 x_ mp2 v11 l_ self K0_ want2 v18 = some o)
    (hself : media_end_l0_H l_ mp2 self o (Q .normal))
    (hK0 : media_end_l0_E0 K0_ o (Q (.exit 0)))
    (hr : ∀ s, Ends a79.results 0 (media_end_post o) .ret s → Q .ret s) :
    Sv Tryz.prog (GG mL) 0 a79_c0 (media_end_q3 mL Q) ⟨(upd (upd (upd (upd (upd (upd (upd (upd (upd (fun _ => none) 3 (some (.c (.mp 0)))) 4 (some (lstV zwant2 1 1 want2.length))) 5 (some (I v11))) 6 (some (.c (.ref 2 4 0 0)))) 9 (some (.c (.ro false 4 (l_.map e_TSToken))))) 10 (some (I (l_.length : Int)))) 11 (some (I v11))) 17 (some (I x_.Kind))) 18 (some (B v18))), (upd (upd (upd (fun _ => none) 0 (mapB (.i .u8) (fun x => .val (.int .u8 x)) (fun (x : Int) => (.c (.val (.int .u8 x)))) mp2)) 1 (lstB zwant2 1 (want2.map (eK .u8)))) 2 (some (.cells 4 [[cI x_.Kind, .str x_.Raw, .str x_.Value, cI x_.Num]]))), 3⟩ := by
  unfold media_end_j12 at h
  refine Sv.cond (b := v18) rfl (fun hc3 => ?_) (fun hc3 => ?_)
  · replace h := ifT hc3 h
    refine Sv.region ?_
    refine un (a1 rfl ?_)
    refine un (a1 rfl ?_)
    refine un (a1 (v := (.c (.ref 2 4 0 1))) rfl ?_)
    refine un (a1 (v := (S x_.Raw)) rfl ?_)
    refine un (a1 (v := (.c (.ref 2 4 0 1))) rfl ?_)
    refine un (a1 (v := (S x_.Raw)) rfl ?_)
    refine un (a1 (v := (I (x_.Raw.length : Int))) rfl ?_)
    refine un (a1 (v := (I (wi ((x_.Raw.length : Int) - 1)))) rfl ?_)
    obtain ⟨c_, hx2, h⟩ := bnd h
    refine un (a1 (v := (.c (.val (.int .u8 (c_.toNat : Int))))) (s_idxS rfl rfl hx2) ?_)
    refine un (a1 (v := (.c (.val (.int .u8 ((mget mp2 (c_.toNat : Int)).getD (0 : Int)))))) (s_mlook (ek := (fun x => .val (.int .u8 x))) (ev := (fun (x : Int) => (.c (.val (.int .u8 x))))) (l := mp2) (key := (c_.toNat : Int)) (z := 0) (fun _ _ => rfl) rfl rfl rfl rfl rfl) ?_)
    refine un (a2v (v := (lstV false 3 1 [((mget mp2 (c_.toNat : Int)).getD (0 : Int))].length)) (h' := upd _ 3 (lstB false 1 ([((mget mp2 (c_.toNat : Int)).getD (0 : Int))].map (eK .u8)))) (n' := 4) rfl rfl (fun h => by cases h) ?_)
    obtain ⟨r_, hr1, h⟩ := bnd h
    have hz1 : (zwant2 && [((mget mp2 (c_.toNat : Int)).getD (0 : Int))].isEmpty) = true → r_ = [] := app_nil (z := zwant2) (ys := [((mget mp2 (c_.toNat : Int)).getD (0 : Int))]) hzwant2 hr1
    refine un (a2v rfl (s_app (xs := want2) (ys := [((mget mp2 (c_.toNat : Int)).getD (0 : Int))]) (e := (eK .u8)) (z := zwant2) (b := 1) rfl rfl hzwant2 rfl rfl (slc_lst rfl (List.length_map _).symm (map_nil_of (fun h => by cases h))) hr1) (fun h => by cases h) ?_)
    refine un (a1 rfl ?_)
    refine dnil ?_
    exact Sv.weak (weak_canon [0, 4] rfl (by decide) (by decide) (fun b h => absurd h (Nat.not_lt_zero _)) (.cons rfl (avAs_free rfl) (.cons rfl (avAs_free rfl) (.cons rfl (avAs_free rfl) (.cons rfl (avAs_free rfl) (.cons rfl (.c (lstC_ren rfl (by decide))) (.cons rfl (.c (.mp rfl (by decide))) .nil)))))) (.row (by decide) rfl (fr_map fun _ => rfl) (.box (by decide) rfl .map .nil))) (media_end_j11_ok hz1 h hself hK0 hr)
  · replace h := ifF hc3 h
    refine Sv.seq ?_
    refine Sv.region ?_
    refine un (a1 (v := (B (decide (x_.Kind = 11)))) rfl ?_)
    refine un (a1 rfl ?_)
    refine dnil ?_
    refine Sv.cond (b := decide (x_.Kind = 11)) rfl (fun hc4 => ?_) (fun hc4 => ?_)
    · replace h := ifT hc4 h
      refine Sv.seq ?_
      refine Sv.drawn ?_
      refine un (a1 (v := (.c (.ref 2 4 0 1))) rfl ?_)
      refine un (a1 (v := (S x_.Raw)) rfl ?_)
      obtain ⟨c_1, hx3, h⟩ := bnd h
      refine un (a1 (v := (.c (.val (.int .u8 (c_1.toNat : Int))))) (s_idxS rfl rfl hx3) ?_)
      refine un (a1 rfl ?_)
      refine un (a1 rfl ?_)
      refine un (a1 (v := (I (want2.length : Int))) (s_lenL rfl (len_nil_of hzwant2)) ?_)
      refine un (a1 (v := (I (wi ((want2.length : Int) - 1)))) rfl ?_)
      obtain ⟨x_1, hx4, h⟩ := bnd h
      refine un (a1 (v := (.c (.ref 1 1 (wi ((want2.length : Int) - 1)).toNat 0))) (s_iaddrL rfl rfl hzwant2 hx4) ?_)
      refine un (a1 (v := (.c (.val (.int .u8 x_1)))) (s_loadL (z := zwant2) (e := (eK .u8)) rfl rfl hzwant2 hx4 rfl rfl) ?_)
      refine un (a1 (v := (B (decide ((c_1.toNat : Int) = x_1)))) rfl ?_)
      refine dnil ?_
      refine Sv.cond (b := decide ((c_1.toNat : Int) = x_1)) rfl (fun hc5 => ?_) (fun hc5 => ?_)
      · replace h := ifT hc5 h
        refine Sv.region ?_
        refine un (a1 rfl ?_)
        refine un (a1 rfl ?_)
        refine un (a1 (v := (I (want2.length : Int))) (s_lenL rfl (len_nil_of hzwant2)) ?_)
        refine un (a1 (v := (I (wi ((want2.length : Int) - 1)))) rfl ?_)
        obtain ⟨r_1, hx5, h⟩ := bnd h
        refine un (a1 (v := (cutV zwant2 1 1 r_1.length want2.length)) (s_cutL rfl hzwant2 rfl rfl hx5) ?_)
        refine dweak (show Weak 0 _ ⟨(upd (upd (upd (upd (upd (upd (upd (upd (upd (upd (upd (upd (upd (upd (upd (upd (upd (upd (upd (upd (fun _ => none) 3 (some (.c (.mp 0)))) 5 (some (I v11))) 6 (some (.c (.ref 2 4 0 0)))) 9 (some (.c (.ro false 4 (l_.map e_TSToken))))) 10 (some (I (l_.length : Int)))) 11 (some (I v11))) 17 (some (I x_.Kind))) 18 (some (B v18))) 33 (some (B (decide (x_.Kind = 11))))) 34 (some (B (decide (x_.Kind = 11))))) 35 (some (.c (.ref 2 4 0 1)))) 36 (some (S x_.Raw))) 37 (some (.c (.val (.int .u8 (c_1.toNat : Int)))))) 40 (some (I (want2.length : Int)))) 41 (some (I (wi ((want2.length : Int) - 1))))) 43 (some (.c (.val (.int .u8 x_1))))) 44 (some (B (decide ((c_1.toNat : Int) = x_1))))) 47 (some (I (want2.length : Int)))) 48 (some (I (wi ((want2.length : Int) - 1))))) 49 (some (lstV zwant2 1 1 r_1.length))), (upd (upd (upd (fun _ => none) 0 (mapB (.i .u8) (fun x => .val (.int .u8 x)) (fun (x : Int) => (.c (.val (.int .u8 x)))) mp2)) 1 (lstB zwant2 1 (r_1.map (eK .u8)))) 2 (some (.cells 4 [[cI x_.Kind, .str x_.Raw, .str x_.Value, cI x_.Num]]))), 3⟩ from (weak_canon [0, 1, 2] rfl (by decide) (by decide) (fun b h => absurd h (Nat.not_lt_zero _)) (.cons rfl (.c (cut_ren rfl (by decide) (cut_le hx5))) (.cons rfl (avAs_free rfl) (.cons rfl (avAs_free rfl) (.cons rfl (avAs_free rfl) (.cons rfl (avAs_free rfl) (.cons rfl (avAs_free rfl) (.cons rfl (avAs_free rfl) (.cons rfl (avAs_free rfl) (.cons rfl (avAs_free rfl) (.cons rfl (.c (.ref rfl (by decide))) (.cons rfl (avAs_free rfl) (.cons rfl (avAs_free rfl) (.cons rfl (avAs_free rfl) (.cons rfl (avAs_free rfl) (.cons rfl (avAs_free rfl) (.cons rfl (avAs_free rfl) (.cons rfl (avAs_free rfl) (.cons rfl (.c (.ref rfl (by decide))) (.cons rfl (avAs_free rfl) (.cons rfl (.c (.mp rfl (by decide))) .nil)))))))))))))))))))) (.box (by decide) rfl (blkAs_cells (.cons (.same rfl) (.cons (.same rfl) (.cons (.same rfl) (.cons (.same rfl) .nil))))) (.rowP (by decide) rfl (cutP hx5) (fr_map fun _ => rfl) (.box (by decide) rfl .map .nil))))) ?_
        refine un (a1 rfl ?_)
        refine dnil ?_
        exact Sv.weak (weak_canon [0, 1] rfl (by decide) (by decide) (fun b h => absurd h (Nat.not_lt_zero _)) (.cons rfl (avAs_free rfl) (.cons rfl (avAs_free rfl) (.cons rfl (avAs_free rfl) (.cons rfl (avAs_free rfl) (.cons rfl (.c (lstC_ren rfl (by decide))) (.cons rfl (.c (.mp rfl (by decide))) .nil)))))) (.row (by decide) rfl (fr_map fun _ => rfl) (.box (by decide) rfl .map .nil))) (media_end_j11_ok (cut_nil hzwant2 hx5) h hself hK0 hr)
      · replace h := ifF hc5 h
        refine Sv.skip ?_
        exact Sv.weak (weak_canon [0, 1] rfl (by decide) (by decide) (fun b h => absurd h (Nat.not_lt_zero _)) (.cons rfl (avAs_free rfl) (.cons rfl (avAs_free rfl) (.cons rfl (avAs_free rfl) (.cons rfl (avAs_free rfl) (.cons rfl (.c (lstC_ren rfl (by decide))) (.cons rfl (.c (.mp rfl (by decide))) .nil)))))) (.row (by decide) rfl (fr_map fun _ => rfl) (.box (by decide) rfl .map .nil))) (media_end_j11_ok hzwant2 h hself hK0 hr)
    · replace h := ifF hc4 h
      refine Sv.skip ?_
      exact Sv.weak (weak_canon [0, 1] rfl (by decide) (by decide) (fun b h => absurd h (Nat.not_lt_zero _)) (.cons rfl (avAs_free rfl) (.cons rfl (avAs_free rfl) (.cons rfl (avAs_free rfl) (.cons rfl (avAs_free rfl) (.cons rfl (.c (lstC_ren rfl (by decide))) (.cons rfl (.c (.mp rfl (by decide))) .nil)))))) (.row (by decide) rfl (fr_map fun _ => rfl) (.box (by decide) rfl .map .nil))) (media_end_j11_ok hzwant2 h hself hK0 hr)
abbrev media_end_l0_I (l_ : (List TSToken)) (mp2 : (List (Int × Int))) (F_ : Nat → (List Int) → Int → Option Int) (o : Int) : Nat → St → Prop := fun k s => ∃ (want : (List Int)), ∃ (v11 : Int), ∃ (zwant : Bool), (zwant = true → want = []) ∧ F_ k want v11 = some o ∧ s = ⟨(upd (upd (upd (upd (upd (fun _ => none) 3 (some (.c (.mp 0)))) 4 (some (lstV zwant 1 1 want.length))) 9 (some (.c (.ro false 4 (l_.map e_TSToken))))) 10 (some (I (l_.length : Int)))) 11 (some (I v11))), (upd (upd (fun _ => none) 0 (mapB (.i .u8) (fun x => .val (.int .u8 x)) (fun (x : Int) => (.c (.val (.int .u8 x)))) mp2)) 1 (lstB zwant 1 (want.map (eK .u8)))), 2⟩
noncomputable def media_end_l0 (l_ : (List TSToken)) (mp2 : (List (Int × Int))) (K0_ : Unit → Option Int) : Nat → (List Int) → Int → Option Int
  | 0, _, _ => none
  | k + 1, want, v11 =>
    if decide (v11 < (l_.length : Int)) then
      (at? l_ v11).bind fun x_ =>
      if decide (x_.Kind = 10) then
        media_end_j12 x_ mp2 v11 l_ (media_end_l0 l_ mp2 K0_ k) K0_ want (decide (x_.Kind = 10))
      else
        media_end_j12 x_ mp2 v11 l_ (media_end_l0 l_ mp2 K0_ k) K0_ want (decide (x_.Kind = 2))
    else
      K0_ ()
theorem media_end_l0_ok {mL : Int} {Q : AExit → St → Prop} {l_ : (List TSToken)} {mp2 : (List (Int × Int))} {K0_ : Unit → Option Int} {k : Nat} {want : (List Int)} {v11 : Int} {zwant : Bool} (hzwant : zwant = true → want = []) {o : Int} (h : media_end_l0 l_ mp2 K0_ k want v11 = some o)
    (hK0 : media_end_l0_E0 K0_ o (Q (.exit 0)))
    (hr : ∀ s, Ends a79.results 0 (media_end_post o) .ret s → Q .ret s) :
    Sv Tryz.prog (GG mL) 0 (.loop a79_c3) Q ⟨(upd (upd (upd (upd (upd (fun _ => none) 3 (some (.c (.mp 0)))) 4 (some (lstV zwant 1 1 want.length))) 9 (some (.c (.ro false 4 (l_.map e_TSToken))))) 10 (some (I (l_.length : Int)))) 11 (some (I v11))), (upd (upd (fun _ => none) 0 (mapB (.i .u8) (fun x => .val (.int .u8 x)) (fun (x : Int) => (.c (.val (.int .u8 x)))) mp2)) 1 (lstB zwant 1 (want.map (eK .u8)))), 2⟩ := by
  refine Sv.loop (I := media_end_l0_I l_ mp2 (media_end_l0 l_ mp2 K0_) o) (fun k s hI => ?_) ⟨want, v11, zwant, hzwant, h, rfl⟩
  clear h
  clear hzwant zwant v11 want
  obtain ⟨want, v11, zwant, hzwant, h, rfl⟩ := hI
  cases k with
  | zero => cases h
  | succ k =>
  rw [media_end_l0] at h
  have hself : media_end_l0_H l_ mp2 (media_end_l0 l_ mp2 K0_ k) o (rnd 0 (media_end_l0_I l_ mp2 (media_end_l0 l_ mp2 K0_) o) k Q) := fun want v11 zwant hzwant h s hw => ⟨_, k, hw, Nat.lt_succ_self k, want, v11, zwant, hzwant, h, rfl⟩
  refine Sv.seq ?_
  refine Sv.region ?_
  refine un (a1 (v := (B (decide (v11 < (l_.length : Int))))) rfl ?_)
  refine dnil ?_
  refine Sv.seq ?_
  refine Sv.cond (b := decide (v11 < (l_.length : Int))) rfl (fun hc1 => ?_) (fun hc1 => ?_)
  · replace h := ifT hc1 h
    refine Sv.skip ?_
    refine Sv.seq ?_
    refine Sv.block ?_
    refine Sv.seq ?_
    refine Sv.region ?_
    refine un (a1 rfl ?_)
    obtain ⟨x_, hx1, h⟩ := bnd h
    refine un (a1 (v := (.c (.rop [cI x_.Kind, .str x_.Raw, .str x_.Value, cI x_.Num]))) (s_iaddr (e := e_TSToken) (xs := l_) rfl rfl hx1) ?_)
    refine un (a1 (v := (.agg [cI x_.Kind, .str x_.Raw, .str x_.Value, cI x_.Num])) rfl ?_)
    refine un (a2v (v := (.c (.ref 2 4 0 0))) (h' := upd _ 2 (some (.cells 4 [[cI 0, .str [], .str [], cI 0]]))) (n' := 3) rfl rfl (fun h => by cases h) ?_)
    refine un (a1 rfl ?_)
    refine un (a2n (h' := upd _ 2 (some (.cells 4 [[cI x_.Kind, .str x_.Raw, .str x_.Value, cI x_.Num]]))) (n' := 3) rfl rfl (fun h => by cases h) ?_)
    refine dnil ?_
    refine Sv.seq ?_
    refine Sv.seq ?_
    refine Sv.region ?_
    refine un (a1 (v := (.c (.ref 2 4 0 0))) rfl ?_)
    refine un (a1 (v := (I x_.Kind)) rfl ?_)
    refine dnil ?_
    refine Sv.block ?_
    refine Sv.seq ?_
    refine Sv.seq ?_
    refine Sv.region ?_
    refine un (a1 (v := (B (decide (x_.Kind = 10)))) rfl ?_)
    refine un (a1 rfl ?_)
    refine dnil ?_
    refine Sv.cond (b := decide (x_.Kind = 10)) rfl (fun hc6 => ?_) (fun hc6 => ?_)
    · replace h := ifT hc6 h
      refine Sv.skip ?_
      exact Sv.weak (weak_canon [0, 1, 2] rfl (by decide) (by decide) (fun b h => absurd h (Nat.not_lt_zero _)) (.cons rfl (avAs_free rfl) (.cons rfl (avAs_free rfl) (.cons rfl (avAs_free rfl) (.cons rfl (avAs_free rfl) (.cons rfl (avAs_free rfl) (.cons rfl (.c (.ref rfl (by decide))) (.cons rfl (avAs_free rfl) (.cons rfl (.c (lstC_ren rfl (by decide))) (.cons rfl (.c (.mp rfl (by decide))) .nil))))))))) (.box (by decide) rfl (blkAs_cells (.cons (.same rfl) (.cons (.same rfl) (.cons (.same rfl) (.cons (.same rfl) .nil))))) (.row (by decide) rfl (fr_map fun _ => rfl) (.box (by decide) rfl .map .nil)))) (media_end_j12_ok hzwant h hself hK0 hr)
    · replace h := ifF hc6 h
      refine Sv.region ?_
      refine un (a1 (v := (B (decide (x_.Kind = 2)))) rfl ?_)
      refine un (a1 rfl ?_)
      refine dnil ?_
      exact Sv.weak (weak_canon [0, 1, 2] rfl (by decide) (by decide) (fun b h => absurd h (Nat.not_lt_zero _)) (.cons rfl (avAs_free rfl) (.cons rfl (avAs_free rfl) (.cons rfl (avAs_free rfl) (.cons rfl (avAs_free rfl) (.cons rfl (avAs_free rfl) (.cons rfl (.c (.ref rfl (by decide))) (.cons rfl (avAs_free rfl) (.cons rfl (.c (lstC_ren rfl (by decide))) (.cons rfl (.c (.mp rfl (by decide))) .nil))))))))) (.box (by decide) rfl (blkAs_cells (.cons (.same rfl) (.cons (.same rfl) (.cons (.same rfl) (.cons (.same rfl) .nil))))) (.row (by decide) rfl (fr_map fun _ => rfl) (.box (by decide) rfl .map .nil)))) (media_end_j12_ok hzwant h hself hK0 hr)
  · replace h := ifF hc1 h
    refine Sv.exit ?_
    exact hK0 () h _ (weak_canon [] rfl (by decide) (by decide) (fun b h => absurd h (Nat.not_lt_zero _)) .nil .nil)
/-- clerestory/media.end -/
noncomputable def media_end (l_ : (List TSToken)) : Option Int :=
  letIn (mset ([] : List (Int × Int)) 40 41) fun mp : (List (Int × Int)) =>
  letIn (mset mp 91 93) fun mp1 : (List (Int × Int)) =>
  letIn (mset mp1 123 125) fun mp2 : (List (Int × Int)) =>
  limF fun kk => media_end_l0 l_ mp2 (fun (_ : Unit) => 
      some 0) kk ([] : List Int) 0
theorem media_end_ok {mL : Int} {l_ : (List TSToken)} {r : Int} (h : media_end l_ = some r) : CPure Tryz.prog (GG mL) 79 [(.c (.ro false 4 (l_.map e_TSToken)))] (I r) := by
  refine acalls_of_sv hmix c79 (R := media_end_post r) ?_
  unfold media_end at h
  refine Sv.seq ?_
  refine Sv.region ?_
  refine un (a1 rfl ?_)
  refine dnil ?_
  refine Sv.seq ?_
  refine Sv.region ?_
  refine un (a2v (v := (.c (.mp 0))) (h' := upd _ 0 (mapB (.i .u8) (fun x => .val (.int .u8 x)) (fun (x : Int) => (.c (.val (.int .u8 x)))) ([] : List (Int × Int)))) (n' := 1) rfl rfl (fun h => by cases h) ?_)
  obtain ⟨mp, hmp⟩ : ∃ mp : (List (Int × Int)), mp = (mset ([] : List (Int × Int)) 40 41) := ⟨_, rfl⟩
  replace h := letAt hmp h
  refine un (a2n (h' := upd _ 0 (mapB (.i .u8) (fun x => .val (.int .u8 x)) (fun (x : Int) => (.c (.val (.int .u8 x)))) mp)) (n' := 1) rfl (by rw [hmp]; exact s_mput (ek := (fun x => .val (.int .u8 x))) (ev := (fun (x : Int) => (.c (.val (.int .u8 x))))) (l := ([] : List (Int × Int))) (key := 40) (val := 41) (fun _ _ => rfl) rfl rfl rfl rfl rfl rfl) (fun h => by cases h) ?_)
  clear hmp
  obtain ⟨mp1, hmp1⟩ : ∃ mp1 : (List (Int × Int)), mp1 = (mset mp 91 93) := ⟨_, rfl⟩
  replace h := letAt hmp1 h
  refine un (a2n (h' := upd _ 0 (mapB (.i .u8) (fun x => .val (.int .u8 x)) (fun (x : Int) => (.c (.val (.int .u8 x)))) mp1)) (n' := 1) rfl (by rw [hmp1]; exact s_mput (ek := (fun x => .val (.int .u8 x))) (ev := (fun (x : Int) => (.c (.val (.int .u8 x))))) (l := mp) (key := 91) (val := 93) (fun _ _ => rfl) rfl rfl rfl rfl rfl rfl) (fun h => by cases h) ?_)
  clear hmp1
  obtain ⟨mp2, hmp2⟩ : ∃ mp2 : (List (Int × Int)), mp2 = (mset mp1 123 125) := ⟨_, rfl⟩
  replace h := letAt hmp2 h
  refine un (a2n (h' := upd _ 0 (mapB (.i .u8) (fun x => .val (.int .u8 x)) (fun (x : Int) => (.c (.val (.int .u8 x)))) mp2)) (n' := 1) rfl (by rw [hmp2]; exact s_mput (ek := (fun x => .val (.int .u8 x))) (ev := (fun (x : Int) => (.c (.val (.int .u8 x))))) (l := mp1) (key := 123) (val := 125) (fun _ _ => rfl) rfl rfl rfl rfl rfl rfl) (fun h => by cases h) ?_)
  clear hmp2
  refine un (a1 rfl ?_)
  refine un (a1 rfl ?_)
  refine dnil ?_
  refine Sv.seq ?_
  refine Sv.region ?_
  refine un (a1 rfl ?_)
  refine dnil ?_
  refine Sv.seq ?_
  refine Sv.seq ?_
  refine Sv.region ?_
  refine un (a1 rfl ?_)
  refine un (a1 (v := (I (l_.length : Int))) (s_len (e := e_TSToken) (xs := l_) rfl) ?_)
  refine un (a1 rfl ?_)
  refine dnil ?_
  refine Sv.block ?_
  obtain ⟨kk, h⟩ := limF_some h
  refine Sv.weak (weak_canon [0, 1000] rfl (by decide) (by decide) (fun b h => absurd h (Nat.not_lt_zero _)) (.cons rfl (avAs_free rfl) (.cons rfl (avAs_free rfl) (.cons rfl (avAs_free rfl) (.cons rfl (.c (.same rfl)) (.cons rfl (.c (.mp rfl (by decide))) .nil))))) (.non (by decide) (.box (by decide) rfl .map .nil))) (media_end_l0_ok (fun _ => rfl) h ?_ (fun s hs => hs))
  · intro _ h _ hw1
    refine Sv.weak hw1 ?_
    refine Sv.seq ?_
    refine Sv.region ?_
    refine un (a1 rfl ?_)
    refine dnil ?_
    refine Sv.ret ?_
    replace h := Option.some.inj h
    subst h
    exact ⟨_, .refl _, _, rfl, ⟨upd (fun _ => none) 0 (some (I 0)), (fun _ => none), 0⟩, (I 0), weak_canon [] rfl List.nodup_nil (Nat.le_refl _) (fun b h => absurd h (Nat.not_lt_zero _)) (.cons rfl (avAs_free rfl) .nil) .nil, rfl, rfl, rfl, rfl⟩
def a49_c0 : ACode := (.region [⟨(some 37), (.mov (.tmp 5)), none⟩, ⟨(some 38), (.mov (.tmp 7)), none⟩, ⟨(some 39), (.bin .sub (.tmp 38) (.const (.c (.val (.int .i64 1))))), none⟩, ⟨(some 40), (.bin .add (.tmp 37) (.tmp 39)), none⟩, ⟨(some 5), (.mov (.tmp 40)), none⟩])
def a49_c1 : ACode := (.region [⟨(some 12), (.mov (.tmp 5)), none⟩, ⟨(some 13), (.bin .add (.tmp 12) (.const (.c (.val (.int .i64 1))))), none⟩, ⟨(some 5), (.mov (.tmp 13)), none⟩])
def a49_c2 : ACode := (.seq (.seq (.region [⟨(some 8), (.mov (.tmp 5)), none⟩, ⟨(some 9), (.mov (.tmp 0)), none⟩, ⟨(some 10), (.len (.tmp 9)), none⟩, ⟨(some 11), (.bin .lss (.tmp 8) (.tmp 10)), none⟩])
 (.cond (.tmp 11) .skip (.exit 0)))
 (.seq (.block 1 (.seq (.region [⟨(some 14), (.mov (.tmp 0)), none⟩, ⟨(some 15), (.mov (.tmp 5)), none⟩, ⟨(some 16), (.iaddr 4 (.tmp 14) (.tmp 15)), none⟩, ⟨(some 17), (.load true 4 (.tmp 16)), none⟩, ⟨(some 6), (.box (.const (.agg [(.val (.int .i64 0)), (.str []), (.str []), (.val (.int .i64 0))]))), none⟩, ⟨none, (.store 4 (.tmp 6) (.tmp 17)), none⟩])
 (.block 2 (.seq (.region [⟨(some 19), (.faddr 0 (.tmp 6)), none⟩, ⟨(some 20), (.load false 1 (.tmp 19)), none⟩, ⟨(some 21), (.bin .eql (.tmp 20) (.const (.c (.val (.int .i64 10))))), none⟩, ⟨(some 22), (.mov (.tmp 21)), none⟩, ⟨(some 23), (.faddr 0 (.tmp 6)), (some (22, false))⟩, ⟨(some 24), (.load false 1 (.tmp 23)), (some (22, false))⟩, ⟨(some 25), (.bin .eql (.tmp 24) (.const (.c (.val (.int .i64 2))))), (some (22, false))⟩, ⟨(some 26), (.pick (.tmp 22) (.const (.c (.val (.bool true)))) (.tmp 25)), none⟩, ⟨(some 18), (.mov (.tmp 26)), none⟩])
 (.cond (.tmp 18) (.seq (.region [⟨(some 27), (.mov (.tmp 0)), none⟩, ⟨(some 28), (.mov (.tmp 5)), none⟩, ⟨(some 29), (.slSl 4 (.tmp 27) (some (.tmp 28)) none none), none⟩, ⟨(some 30), (.call 79 [(.tmp 29)]), none⟩, ⟨(some 7), (.mov (.tmp 30)), none⟩])
 (.seq (.seq (.region [⟨(some 31), (.mov (.tmp 7)), none⟩, ⟨(some 32), (.bin .eql (.tmp 31) (.const (.c (.val (.int .i64 0))))), none⟩])
 (.cond (.tmp 32) (.region [⟨(some 33), (.mov (.tmp 0)), none⟩, ⟨(some 34), (.len (.tmp 33)), none⟩, ⟨(some 35), (.mov (.tmp 5)), none⟩, ⟨(some 36), (.bin .sub (.tmp 34) (.tmp 35)), none⟩, ⟨(some 7), (.mov (.tmp 36)), none⟩]) .skip))
 a49_c0)) (.seq (.region [⟨(some 42), (.faddr 0 (.tmp 6)), none⟩, ⟨(some 43), (.load false 1 (.tmp 42)), none⟩, ⟨(some 44), (.bin .eql (.tmp 43) (.const (.c (.val (.int .i64 12))))), none⟩, ⟨(some 45), (.mov (.tmp 44)), none⟩, ⟨(some 46), (.faddr 1 (.tmp 6)), (some (45, true))⟩, ⟨(some 47), (.load false 1 (.tmp 46)), (some (45, true))⟩, ⟨(some 48), (.bin .eql (.tmp 47) (.const (.c (.str [44])))), (some (45, true))⟩, ⟨(some 49), (.pick (.tmp 45) (.tmp 48) (.const (.c (.val (.bool false))))), none⟩, ⟨(some 41), (.mov (.tmp 49)), none⟩])
 (.cond (.tmp 41) (.seq (.region [⟨(some 50), (.mov (.tmp 3)), none⟩, ⟨(some 51), (.mov (.tmp 0)), none⟩, ⟨(some 52), (.mov (.tmp 4)), none⟩, ⟨(some 53), (.mov (.tmp 5)), none⟩, ⟨(some 54), (.slSl 4 (.tmp 51) (some (.tmp 52)) (some (.tmp 53)) none), none⟩, ⟨(some 55), (.bslice 1 [(.ro true 4 [])] 1 [(0, (.tmp 54))]), none⟩, ⟨(some 56), (.app 1 24 (.tmp 50) (.tmp 55)), none⟩, ⟨(some 3), (.mov (.tmp 56)), none⟩])
 (.region [⟨(some 57), (.mov (.tmp 5)), none⟩, ⟨(some 58), (.bin .add (.tmp 57) (.const (.c (.val (.int .i64 1))))), none⟩, ⟨(some 4), (.mov (.tmp 58)), none⟩])) .skip)))))))
 a49_c1))
def a49 : AFunc := ⟨1, [(.tmp 2)], (.seq (.region [⟨(some 2), (.mov (.const (.c (.ro true 1 [])))), none⟩])
 (.seq (.region [⟨(some 3), (.mov (.const (.c (.ro true 1 [])))), none⟩])
 (.seq (.region [⟨(some 4), (.mov (.const (.c (.val (.int .i64 0))))), none⟩])
 (.seq (.seq (.region [⟨(some 5), (.mov (.const (.c (.val (.int .i64 0))))), none⟩])
 (.block 0 (.loop a49_c2)))
 (.seq (.region [⟨(some 59), (.mov (.tmp 3)), none⟩, ⟨(some 60), (.mov (.tmp 0)), none⟩, ⟨(some 61), (.mov (.tmp 4)), none⟩, ⟨(some 62), (.slSl 4 (.tmp 60) (some (.tmp 61)) none none), none⟩, ⟨(some 63), (.bslice 1 [(.ro true 4 [])] 1 [(0, (.tmp 62))]), none⟩, ⟨(some 64), (.app 1 24 (.tmp 59) (.tmp 63)), none⟩, ⟨(some 2), (.mov (.tmp 64)), none⟩])
 .ret)))))⟩
set_option maxRecDepth 100000 in
theorem c49 : compFunc Tryz.prog 49 = some a49 := by kernel_rfl
def media_pieces_post (r : (List (List TSToken))) : AV → Heap → Nat → Prop := fun v h' n' => ∃ z0 : Bool, (z0 = true → r = []) ∧ v = (lstV z0 0 1 r.length) ∧ (h' = (upd (fun _ => none) 0 (lstB z0 1 (r.map (eSl 4 e_TSToken))))) ∧ n' = 1
abbrev media_pieces_l0_H (l_ : (List TSToken)) (F_ : (List (List TSToken)) → Int → Int → Option (List (List TSToken))) (o : (List (List TSToken))) (R_ : St → Prop) : Prop := ∀ (out : (List (List TSToken))) (from_ : Int) (i_ : Int) (zout : Bool) (_ : zout = true → out = []), F_ out from_ i_ = some o → ∀ s, Weak 0 s ⟨(upd (upd (upd (upd (fun _ => none) 0 (some (.c (.ro false 4 (l_.map e_TSToken))))) 3 (some (lstV zout 0 1 out.length))) 4 (some (I from_))) 5 (some (I i_))), (upd (fun _ => none) 0 (lstB zout 1 (out.map (eSl 4 e_TSToken)))), 1⟩ → R_ s
abbrev media_pieces_l0_E0 (l_ : (List TSToken)) (F_ : (List (List TSToken)) → Int → Option (List (List TSToken))) (o : (List (List TSToken))) (R_ : St → Prop) : Prop := ∀ (out1 : (List (List TSToken))) (from_1 : Int) (zout1 : Bool) (_ : zout1 = true → out1 = []), F_ out1 from_1 = some o → ∀ s, Weak 0 s ⟨(upd (upd (upd (fun _ => none) 0 (some (.c (.ro false 4 (l_.map e_TSToken))))) 3 (some (lstV zout1 0 1 out1.length))) 4 (some (I from_1))), (upd (fun _ => none) 0 (lstB zout1 1 (out1.map (eSl 4 e_TSToken)))), 1⟩ → R_ s
noncomputable def media_pieces_j11 (l_ : (List TSToken)) (self : (List (List TSToken)) → Int → Int → Option (List (List TSToken))) (K0_ : (List (List TSToken)) → Int → Option (List (List TSToken))) (out2 : (List (List TSToken))) (from_2 : Int) (i_1 : Int) : Option (List (List TSToken)) :=
  self out2 from_2 (wi (i_1 + 1))
theorem media_pieces_j11_ok {mL : Int} {Q : AExit → St → Prop} {l_ : (List TSToken)} {self : (List (List TSToken)) → Int → Int → Option (List (List TSToken))} {K0_ : (List (List TSToken)) → Int → Option (List (List TSToken))} {out2 : (List (List TSToken))} {from_2 : Int} {i_1 : Int} {zout2 : Bool} (hzout2 : zout2 = true → out2 = []) {o : (List (List TSToken))} (h : media_pieces_j11 l_ self K0_ out2 from_2 i_1 = some o)
    (hself : media_pieces_l0_H l_ self o (Q .normal))
    (hK0 : media_pieces_l0_E0 l_ K0_ o (Q (.exit 0)))
    (hr : ∀ s, Ends a49.results 0 (media_pieces_post o) .ret s → Q .ret s) :
    Sv Tryz.prog (GG mL) 0 a49_c1 Q ⟨(upd (upd (upd (upd (fun _ => none) 0 (some (.c (.ro false 4 (l_.map e_TSToken))))) 3 (some (lstV zout2 0 1 out2.length))) 4 (some (I from_2))) 5 (some (I i_1))), (upd (fun _ => none) 0 (lstB zout2 1 (out2.map (eSl 4 e_TSToken)))), 1⟩ := by
  unfold media_pieces_j11 at h
  refine Sv.region ?_
  refine un (a1 rfl ?_)
  refine un (a1 (v := (I (wi (i_1 + 1)))) rfl ?_)
  refine un (a1 rfl ?_)
  refine dnil ?_
  exact hself out2 from_2 (wi (i_1 + 1)) zout2 hzout2 h _ (weak_canon [0] rfl (by decide) (by decide) (fun b h => absurd h (Nat.not_lt_zero _)) (.cons rfl (avAs_free rfl) (.cons rfl (avAs_free rfl) (.cons rfl (.c (lstC_ren rfl (by decide))) (.cons rfl (avAs_free rfl) .nil)))) (.row (by decide) rfl (fr_map fun _ => rfl) .nil))
abbrev media_pieces_q0 (mL : Int) (Q : AExit → St → Prop) : AExit → St → Prop := AThen (Sv Tryz.prog (GG mL) 0 a49_c1 Q) Q
abbrev media_pieces_q1 (mL : Int) (Q : AExit → St → Prop) : AExit → St → Prop := ABlock 1 (media_pieces_q0 mL Q)
abbrev media_pieces_q2 (mL : Int) (Q : AExit → St → Prop) : AExit → St → Prop := ABlock 2 (media_pieces_q1 mL Q)
noncomputable def media_pieces_j12 (l_ : (List TSToken)) (from_ : Int) (i_ : Int) (self : (List (List TSToken)) → Int → Int → Option (List (List TSToken))) (K0_ : (List (List TSToken)) → Int → Option (List (List TSToken))) (out3 : (List (List TSToken))) (n_ : Int) : Option (List (List TSToken)) :=
  media_pieces_j11 l_ self K0_ out3 from_ (wi (i_ + (wi (n_ - 1))))
theorem media_pieces_j12_ok {mL : Int} {Q : AExit → St → Prop} {l_ : (List TSToken)} {from_ : Int} {i_ : Int} {self : (List (List TSToken)) → Int → Int → Option (List (List TSToken))} {K0_ : (List (List TSToken)) → Int → Option (List (List TSToken))} {out3 : (List (List TSToken))} {n_ : Int} {zout3 : Bool} (hzout3 : zout3 = true → out3 = []) {o : (List (List TSToken))} (h : media_pieces_j12 l_ from_ i_ self K0_ out3 n_ = some o)
    (hself : media_pieces_l0_H l_ self o (Q .normal))
    (hK0 : media_pieces_l0_E0 l_ K0_ o (Q (.exit 0)))
    (hr : ∀ s, Ends a49.results 0 (media_pieces_post o) .ret s → Q .ret s) :
    Sv Tryz.prog (GG mL) 0 a49_c0 (media_pieces_q2 mL Q) ⟨(upd (upd (upd (upd (upd (fun _ => none) 0 (some (.c (.ro false 4 (l_.map e_TSToken))))) 3 (some (lstV zout3 0 1 out3.length))) 4 (some (I from_))) 5 (some (I i_))) 7 (some (I n_))), (upd (fun _ => none) 0 (lstB zout3 1 (out3.map (eSl 4 e_TSToken)))), 1⟩ := by
  unfold media_pieces_j12 at h
  refine Sv.region ?_
  refine un (a1 rfl ?_)
  refine un (a1 rfl ?_)
  refine un (a1 (v := (I (wi (n_ - 1)))) rfl ?_)
  refine un (a1 (v := (I (wi (i_ + (wi (n_ - 1)))))) rfl ?_)
  refine un (a1 rfl ?_)
  refine dnil ?_
  exact Sv.weak (weak_canon [0] rfl (by decide) (by decide) (fun b h => absurd h (Nat.not_lt_zero _)) (.cons rfl (avAs_free rfl) (.cons rfl (avAs_free rfl) (.cons rfl (.c (lstC_ren rfl (by decide))) (.cons rfl (avAs_free rfl) .nil)))) (.row (by decide) rfl (fr_map fun _ => rfl) .nil)) (media_pieces_j11_ok hzout3 h hself hK0 hr)
abbrev media_pieces_l0_I (l_ : (List TSToken)) (F_ : Nat → (List (List TSToken)) → Int → Int → Option (List (List TSToken))) (o : (List (List TSToken))) : Nat → St → Prop := fun k s => ∃ (out : (List (List TSToken))), ∃ (from_ : Int), ∃ (i_ : Int), ∃ (zout : Bool), (zout = true → out = []) ∧ F_ k out from_ i_ = some o ∧ s = ⟨(upd (upd (upd (upd (fun _ => none) 0 (some (.c (.ro false 4 (l_.map e_TSToken))))) 3 (some (lstV zout 0 1 out.length))) 4 (some (I from_))) 5 (some (I i_))), (upd (fun _ => none) 0 (lstB zout 1 (out.map (eSl 4 e_TSToken)))), 1⟩
noncomputable def media_pieces_l0 (l_ : (List TSToken)) (K0_ : (List (List TSToken)) → Int → Option (List (List TSToken))) : Nat → (List (List TSToken)) → Int → Int → Option (List (List TSToken))
  | 0, _, _, _ => none
  | k + 1, out, from_, i_ =>
    if decide (i_ < (l_.length : Int)) then
      (at? l_ i_).bind fun x_ =>
      if ((decide (x_.Kind = 10)) || (decide (x_.Kind = 2))) then
        (sub? l_ i_ (l_.length : Int)).bind fun r_ =>
        (media_end r_).bind fun r_1 =>
        if decide (r_1 = 0) then
          media_pieces_j12 l_ from_ i_ (media_pieces_l0 l_ K0_ k) K0_ out (wi ((l_.length : Int) - i_))
        else
          media_pieces_j12 l_ from_ i_ (media_pieces_l0 l_ K0_ k) K0_ out r_1
      else
        if ((decide (x_.Kind = 12)) && (decide (x_.Raw = [44]))) then
          (sub? l_ from_ i_).bind fun r_2 =>
          (app? 24 out [r_2]).bind fun r_3 =>
          media_pieces_j11 l_ (media_pieces_l0 l_ K0_ k) K0_ r_3 (wi (i_ + 1)) i_
        else
          media_pieces_j11 l_ (media_pieces_l0 l_ K0_ k) K0_ out from_ i_
    else
      K0_ out from_
theorem media_pieces_l0_ok {mL : Int} {Q : AExit → St → Prop} {l_ : (List TSToken)} {K0_ : (List (List TSToken)) → Int → Option (List (List TSToken))} {k : Nat} {out : (List (List TSToken))} {from_ : Int} {i_ : Int} {zout : Bool} (hzout : zout = true → out = []) {o : (List (List TSToken))} (h : media_pieces_l0 l_ K0_ k out from_ i_ = some o)
    (hK0 : media_pieces_l0_E0 l_ K0_ o (Q (.exit 0)))
    (hr : ∀ s, Ends a49.results 0 (media_pieces_post o) .ret s → Q .ret s) :
    Sv Tryz.prog (GG mL) 0 (.loop a49_c2) Q ⟨(upd (upd (upd (upd (fun _ => none) 0 (some (.c (.ro false 4 (l_.map e_TSToken))))) 3 (some (lstV zout 0 1 out.length))) 4 (some (I from_))) 5 (some (I i_))), (upd (fun _ => none) 0 (lstB zout 1 (out.map (eSl 4 e_TSToken)))), 1⟩ := by
  refine Sv.loop (I := media_pieces_l0_I l_ (media_pieces_l0 l_ K0_) o) (fun k s hI => ?_) ⟨out, from_, i_, zout, hzout, h, rfl⟩
  clear h
  clear hzout zout i_ from_ out
  obtain ⟨out, from_, i_, zout, hzout, h, rfl⟩ := hI
  cases k with
  | zero => cases h
  | succ k =>
  rw [media_pieces_l0] at h
  have hself : media_pieces_l0_H l_ (media_pieces_l0 l_ K0_ k) o (rnd 0 (media_pieces_l0_I l_ (media_pieces_l0 l_ K0_) o) k Q) := fun out from_ i_ zout hzout h s hw => ⟨_, k, hw, Nat.lt_succ_self k, out, from_, i_, zout, hzout, h, rfl⟩
  refine Sv.seq ?_
  refine Sv.seq ?_
  refine Sv.region ?_
  refine un (a1 rfl ?_)
  refine un (a1 rfl ?_)
  refine un (a1 (v := (I (l_.length : Int))) (s_len (e := e_TSToken) (xs := l_) rfl) ?_)
  refine un (a1 (v := (B (decide (i_ < (l_.length : Int))))) rfl ?_)
  refine dnil ?_
  refine Sv.cond (b := decide (i_ < (l_.length : Int))) rfl (fun hc1 => ?_) (fun hc1 => ?_)
  · replace h := ifT hc1 h
    refine Sv.skip ?_
    refine Sv.seq ?_
    refine Sv.block ?_
    refine Sv.seq ?_
    refine Sv.region ?_
    refine un (a1 rfl ?_)
    refine un (a1 rfl ?_)
    obtain ⟨x_, hx1, h⟩ := bnd h
    refine un (a1 (v := (.c (.rop [cI x_.Kind, .str x_.Raw, .str x_.Value, cI x_.Num]))) (s_iaddr (e := e_TSToken) (xs := l_) rfl rfl hx1) ?_)
    refine un (a1 (v := (.agg [cI x_.Kind, .str x_.Raw, .str x_.Value, cI x_.Num])) rfl ?_)
    refine un (a2v (v := (.c (.ref 1 4 0 0))) (h' := upd _ 1 (some (.cells 4 [[cI 0, .str [], .str [], cI 0]]))) (n' := 2) rfl rfl (fun h => by cases h) ?_)
    refine un (a2n (h' := upd _ 1 (some (.cells 4 [[cI x_.Kind, .str x_.Raw, .str x_.Value, cI x_.Num]]))) (n' := 2) rfl rfl (fun h => by cases h) ?_)
    refine dnil ?_
    refine Sv.block ?_
    refine Sv.seq ?_
    refine Sv.region ?_
    refine un (a1 (v := (.c (.ref 1 4 0 0))) rfl ?_)
    refine un (a1 (v := (I x_.Kind)) rfl ?_)
    refine un (a1 (v := (B (decide (x_.Kind = 10)))) rfl ?_)
    refine un (a1 rfl ?_)
    refine gjoin 4 (d := 26) (v := (B ((decide (x_.Kind = 10)) || (decide (x_.Kind = 2))))) (fun X hX => ?_) ?_
    · refine split2 (fun hc2 => ?_) (fun hc2 => ?_)
      · refine gs rfl rfl ?_
        refine gs rfl rfl ?_
        refine gs rfl rfl ?_
        refine un (a1 (v := (B true)) rfl ?_)
        refine dnil ?_
        exact hX _ (.putEq (by rw [hc2]; rfl) (.skip _ _ (.skip _ _ (.skip _ _ (.putEq (by rw [hc2]) (.refl _)) rfl) rfl) rfl))
      · refine gt rfl (a1 (v := (.c (.ref 1 4 0 0))) rfl ?_)
        refine gt rfl (a1 (v := (I x_.Kind)) rfl ?_)
        refine gt rfl (a1 (v := (B (decide (x_.Kind = 2)))) rfl ?_)
        refine un (a1 (v := (B (decide (x_.Kind = 2)))) rfl ?_)
        refine dnil ?_
        exact hX _ (.putEq (by rw [hc2]; rfl) (.skip _ _ (.skip _ _ (.skip _ _ (.putEq (by rw [hc2]) (.refl _)) rfl) rfl) rfl))
    refine un (a1 rfl ?_)
    refine dnil ?_
    refine Sv.cond (b := ((decide (x_.Kind = 10)) || (decide (x_.Kind = 2)))) rfl (fun hc3 => ?_) (fun hc3 => ?_)
    · replace h := ifT hc3 h
      refine Sv.seq ?_
      refine Sv.region ?_
      refine un (a1 rfl ?_)
      refine un (a1 rfl ?_)
      obtain ⟨r_, hx2, h⟩ := bnd h
      refine un (a1 (v := (.c (.ro false 4 (r_.map e_TSToken)))) (s_slSl (e := e_TSToken) rfl rfl rfl hx2) ?_)
      obtain ⟨r_1, hr1, h⟩ := bnd h
      refine un (ac_pure (media_end_ok hr1) rfl rfl rfl ?_)
      refine un (a1 rfl ?_)
      refine dnil ?_
      refine Sv.seq ?_
      refine Sv.seq ?_
      refine Sv.region ?_
      refine un (a1 rfl ?_)
      refine un (a1 (v := (B (decide (r_1 = 0)))) rfl ?_)
      refine dnil ?_
      refine Sv.cond (b := decide (r_1 = 0)) rfl (fun hc4 => ?_) (fun hc4 => ?_)
      · replace h := ifT hc4 h
        refine Sv.region ?_
        refine un (a1 rfl ?_)
        refine un (a1 (v := (I (l_.length : Int))) (s_len (e := e_TSToken) (xs := l_) rfl) ?_)
        refine un (a1 rfl ?_)
        refine un (a1 (v := (I (wi ((l_.length : Int) - i_)))) rfl ?_)
        refine un (a1 rfl ?_)
        refine dnil ?_
        exact Sv.weak (weak_canon [0] rfl (by decide) (by decide) (fun b h => absurd h (Nat.not_lt_zero _)) (.cons rfl (avAs_free rfl) (.cons rfl (avAs_free rfl) (.cons rfl (avAs_free rfl) (.cons rfl (.c (lstC_ren rfl (by decide))) (.cons rfl (avAs_free rfl) .nil))))) (.row (by decide) rfl (fr_map fun _ => rfl) .nil)) (media_pieces_j12_ok hzout h hself hK0 hr)
      · replace h := ifF hc4 h
        refine Sv.skip ?_
        exact Sv.weak (weak_canon [0] rfl (by decide) (by decide) (fun b h => absurd h (Nat.not_lt_zero _)) (.cons rfl (avAs_free rfl) (.cons rfl (avAs_free rfl) (.cons rfl (avAs_free rfl) (.cons rfl (.c (lstC_ren rfl (by decide))) (.cons rfl (avAs_free rfl) .nil))))) (.row (by decide) rfl (fr_map fun _ => rfl) .nil)) (media_pieces_j12_ok hzout h hself hK0 hr)
    · replace h := ifF hc3 h
      refine Sv.seq ?_
      refine Sv.region ?_
      refine un (a1 (v := (.c (.ref 1 4 0 0))) rfl ?_)
      refine un (a1 (v := (I x_.Kind)) rfl ?_)
      refine un (a1 (v := (B (decide (x_.Kind = 12)))) rfl ?_)
      refine un (a1 rfl ?_)
      refine gjoin 4 (d := 49) (v := (B ((decide (x_.Kind = 12)) && (decide (x_.Raw = [44]))))) (fun X hX => ?_) ?_
      · refine split2 (fun hc5 => ?_) (fun hc5 => ?_)
        · refine gt rfl (a1 (v := (.c (.ref 1 4 0 1))) rfl ?_)
          refine gt rfl (a1 (v := (S x_.Raw)) rfl ?_)
          refine gt rfl (a1 (v := (B (decide (x_.Raw = [44])))) rfl ?_)
          refine un (a1 (v := (B (decide (x_.Raw = [44])))) rfl ?_)
          refine dnil ?_
          exact hX _ (.putEq (by rw [hc5]; rfl) (.skip _ _ (.skip _ _ (.skip _ _ (.putEq (by rw [hc5]) (.refl _)) rfl) rfl) rfl))
        · refine gs rfl rfl ?_
          refine gs rfl rfl ?_
          refine gs rfl rfl ?_
          refine un (a1 (v := (B false)) rfl ?_)
          refine dnil ?_
          exact hX _ (.putEq (by rw [hc5]; rfl) (.skip _ _ (.skip _ _ (.skip _ _ (.putEq (by rw [hc5]) (.refl _)) rfl) rfl) rfl))
      refine un (a1 rfl ?_)
      refine dnil ?_
      refine Sv.cond (b := ((decide (x_.Kind = 12)) && (decide (x_.Raw = [44])))) rfl (fun hc6 => ?_) (fun hc6 => ?_)
      · replace h := ifT hc6 h
        refine Sv.seq ?_
        refine Sv.region ?_
        refine un (a1 rfl ?_)
        refine un (a1 rfl ?_)
        refine un (a1 rfl ?_)
        refine un (a1 rfl ?_)
        obtain ⟨r_2, hx3, h⟩ := bnd h
        refine un (a1 (v := (.c (.ro false 4 (r_2.map e_TSToken)))) (s_slSl (e := e_TSToken) rfl rfl rfl hx3) ?_)
        refine un (a2v (v := (lstV false 2 1 [r_2].length)) (h' := upd _ 2 (lstB false 1 ([r_2].map (eSl 4 e_TSToken)))) (n' := 3) rfl rfl (fun h => by cases h) ?_)
        obtain ⟨r_3, hr2, h⟩ := bnd h
        have hz1 : (zout && [r_2].isEmpty) = true → r_3 = [] := app_nil (z := zout) (ys := [r_2]) hzout hr2
        refine un (a2v rfl (s_app (xs := out) (ys := [r_2]) (e := (eSl 4 e_TSToken)) (z := zout) (b := 0) rfl rfl hzout rfl rfl (slc_lst rfl (List.length_map _).symm (map_nil_of (fun h => by cases h))) hr2) (fun h => by cases h) ?_)
        refine un (a1 rfl ?_)
        refine dnil ?_
        refine Sv.region ?_
        refine un (a1 rfl ?_)
        refine un (a1 (v := (I (wi (i_ + 1)))) rfl ?_)
        refine un (a1 rfl ?_)
        refine dnil ?_
        exact Sv.weak (weak_canon [3] rfl (by decide) (by decide) (fun b h => absurd h (Nat.not_lt_zero _)) (.cons rfl (avAs_free rfl) (.cons rfl (avAs_free rfl) (.cons rfl (.c (lstC_ren rfl (by decide))) (.cons rfl (avAs_free rfl) .nil)))) (.row (by decide) rfl (fr_map fun _ => rfl) .nil)) (media_pieces_j11_ok hz1 h hself hK0 hr)
      · replace h := ifF hc6 h
        refine Sv.skip ?_
        exact Sv.weak (weak_canon [0] rfl (by decide) (by decide) (fun b h => absurd h (Nat.not_lt_zero _)) (.cons rfl (avAs_free rfl) (.cons rfl (avAs_free rfl) (.cons rfl (.c (lstC_ren rfl (by decide))) (.cons rfl (avAs_free rfl) .nil)))) (.row (by decide) rfl (fr_map fun _ => rfl) .nil)) (media_pieces_j11_ok hzout h hself hK0 hr)
  · replace h := ifF hc1 h
    refine Sv.exit ?_
    exact hK0 out from_ zout hzout h _ (weak_canon [0] rfl (by decide) (by decide) (fun b h => absurd h (Nat.not_lt_zero _)) (.cons rfl (avAs_free rfl) (.cons rfl (.c (lstC_ren rfl (by decide))) (.cons rfl (avAs_free rfl) .nil))) (.row (by decide) rfl (fr_map fun _ => rfl) .nil))
/-- clerestory/media.pieces -/
noncomputable def media_pieces (l_ : (List TSToken)) : Option (List (List TSToken)) :=
  limF fun kk => media_pieces_l0 l_ (fun (out1 : (List (List TSToken))) (from_1 : Int) => 
      (sub? l_ from_1 (l_.length : Int)).bind fun r_4 =>
      (app? 24 out1 [r_4]).bind fun r_5 =>
      some r_5) kk ([] : List (List TSToken)) 0 0
theorem media_pieces_ok {mL : Int} {l_ : (List TSToken)} {r : (List (List TSToken))} (h : media_pieces l_ = some r) : ACalls Tryz.prog (GG mL) 49 [(.c (.ro false 4 (l_.map e_TSToken)))] (fun _ => none) 0 (media_pieces_post r) := by
  refine acalls_of_sv hmix c49 (R := media_pieces_post r) ?_
  unfold media_pieces at h
  refine Sv.seq ?_
  refine Sv.region ?_
  refine un (a1 rfl ?_)
  refine dnil ?_
  refine Sv.seq ?_
  refine Sv.region ?_
  refine un (a1 rfl ?_)
  refine dnil ?_
  refine Sv.seq ?_
  refine Sv.region ?_
  refine un (a1 rfl ?_)
  refine dnil ?_
  refine Sv.seq ?_
  refine Sv.seq ?_
  refine Sv.region ?_
  refine un (a1 rfl ?_)
  refine dnil ?_
  refine Sv.block ?_
  obtain ⟨kk, h⟩ := limF_some h
  refine Sv.weak (weak_canon [1000] rfl (by decide) (by decide) (fun b h => absurd h (Nat.not_lt_zero _)) (.cons rfl (avAs_free rfl) (.cons rfl (avAs_free rfl) (.cons rfl (.c (.same rfl)) (.cons rfl (avAs_free rfl) .nil)))) (.non (by decide) .nil)) (media_pieces_l0_ok (fun _ => rfl) h ?_ (fun s hs => hs))
  · intro out1 from_1 zout1 hzout1 h _ hw1
    refine Sv.weak hw1 ?_
    refine Sv.seq ?_
    refine Sv.region ?_
    refine un (a1 rfl ?_)
    refine un (a1 rfl ?_)
    refine un (a1 rfl ?_)
    obtain ⟨r_4, hx4, h⟩ := bnd h
    refine un (a1 (v := (.c (.ro false 4 (r_4.map e_TSToken)))) (s_slSl (e := e_TSToken) rfl rfl rfl hx4) ?_)
    refine un (a2v (v := (lstV false 1 1 [r_4].length)) (h' := upd _ 1 (lstB false 1 ([r_4].map (eSl 4 e_TSToken)))) (n' := 2) rfl rfl (fun h => by cases h) ?_)
    obtain ⟨r_5, hr3, h⟩ := bnd h
    have hz2 : (zout1 && [r_4].isEmpty) = true → r_5 = [] := app_nil (z := zout1) (ys := [r_4]) hzout1 hr3
    refine un (a2v rfl (s_app (xs := out1) (ys := [r_4]) (e := (eSl 4 e_TSToken)) (z := zout1) (b := 0) rfl rfl hzout1 rfl rfl (slc_lst rfl (List.length_map _).symm (map_nil_of (fun h => by cases h))) hr3) (fun h => by cases h) ?_)
    refine un (a1 rfl ?_)
    refine dnil ?_
    refine Sv.ret ?_
    replace h := Option.some.inj h
    subst h
    exact ⟨_, .refl _, _, rfl, ⟨upd (fun _ => none) 0 (some (lstV (zout1 && [r_4].isEmpty) 0 1 r_5.length)), (upd (fun _ => none) 0 (lstB (zout1 && [r_4].isEmpty) 1 (r_5.map (eSl 4 e_TSToken)))), 1⟩, (lstV (zout1 && [r_4].isEmpty) 0 1 r_5.length), weak_canon2 [2] [0] (by decide) (by decide) (fun b h => absurd h (Nat.not_lt_zero _)) (.cons (by decide) .nil) (.cons rfl (.c (lstC_ren rfl (by decide))) .nil) (.row (by decide) rfl (fr_map fun _ => rfl) .nil), rfl, (zout1 && [r_4].isEmpty), hz2, rfl, rfl, rfl⟩
def a106_c0 : ACode := (.region [⟨(some 26), (.bin .add (.tmp 10) (.const (.c (.val (.int .i64 1))))), none⟩, ⟨(some 10), (.mov (.tmp 26)), none⟩])
def a106_c1 : ACode := (.seq (.region [⟨(some 11), (.bin .lss (.tmp 10) (.tmp 9)), none⟩])
 (.seq (.cond (.tmp 11) .skip (.exit 0))
 (.seq (.block 1 (.seq (.region [⟨(some 12), (.mov (.tmp 10)), none⟩, ⟨(some 13), (.iaddr 1 (.tmp 8) (.tmp 10)), none⟩, ⟨(some 14), (.load false 1 (.tmp 13)), none⟩, ⟨(some 4), (.mov (.tmp 12)), none⟩, ⟨(some 5), (.mov (.tmp 14)), none⟩])
 (.seq (.region [⟨(some 15), (.mov (.tmp 5)), none⟩, ⟨(some 16), (.bin .geq (.tmp 15) (.const (.c (.val (.int .u8 65))))), none⟩, ⟨(some 17), (.mov (.tmp 16)), none⟩, ⟨(some 18), (.mov (.tmp 5)), (some (17, true))⟩, ⟨(some 19), (.bin .leq (.tmp 18) (.const (.c (.val (.int .u8 90))))), (some (17, true))⟩, ⟨(some 20), (.pick (.tmp 17) (.tmp 19) (.const (.c (.val (.bool false))))), none⟩])
 (.cond (.tmp 20) (.region [⟨(some 21), (.mov (.tmp 3)), none⟩, ⟨(some 22), (.mov (.tmp 4)), none⟩, ⟨(some 23), (.mov (.tmp 5)), none⟩, ⟨(some 24), (.bin .add (.tmp 23) (.const (.c (.val (.int .u8 32))))), none⟩, ⟨(some 25), (.iaddr 1 (.tmp 21) (.tmp 22)), none⟩, ⟨none, (.store 1 (.tmp 25) (.tmp 24)), none⟩]) .skip))))
 a106_c0)))
def a106 : AFunc := ⟨1, [(.tmp 2)], (.seq (.region [⟨(some 2), (.mov (.const (.c (.str [])))), none⟩])
 (.seq (.region [⟨(some 6), (.mov (.tmp 0)), none⟩, ⟨(some 7), (.toBytes (.tmp 6)), none⟩, ⟨(some 3), (.mov (.tmp 7)), none⟩])
 (.seq (.seq (.region [⟨(some 8), (.mov (.tmp 3)), none⟩, ⟨(some 9), (.len (.tmp 8)), none⟩, ⟨(some 10), (.mov (.const (.c (.val (.int .i64 0))))), none⟩])
 (.block 0 (.loop a106_c1)))
 (.seq (.region [⟨(some 27), (.mov (.tmp 3)), none⟩, ⟨(some 28), (.ofBytes (.tmp 27)), none⟩, ⟨(some 2), (.mov (.tmp 28)), none⟩])
 .ret))))⟩
set_option maxRecDepth 100000 in
theorem c106 : compFunc Tryz.prog 106 = some a106 := by kernel_rfl
def media_lower_post (r : (List UInt8)) : AV → Heap → Nat → Prop := fun v h' n' => v = (S r) ∧ (h' = (fun _ => none)) ∧ n' = 0
abbrev media_lower_l0_H (F_ : (List Int) → Int → Int → Option (List UInt8)) (o : (List UInt8)) (R_ : St → Prop) : Prop := ∀ (b_ : (List Int)) (v9 : Int) (v10 : Int) (zb : Bool) (_ : zb = true → b_ = []), F_ b_ v9 v10 = some o → ∀ s, Weak 0 s ⟨(upd (upd (upd (upd (fun _ => none) 3 (some (lstV zb 0 1 b_.length))) 8 (some (lstV zb 0 1 b_.length))) 9 (some (I v9))) 10 (some (I v10))), (upd (fun _ => none) 0 (lstB zb 1 (b_.map (eK .u8)))), 1⟩ → R_ s
abbrev media_lower_l0_E0 (F_ : (List Int) → Option (List UInt8)) (o : (List UInt8)) (R_ : St → Prop) : Prop := ∀ (b_1 : (List Int)) (zb_1 : Bool) (_ : zb_1 = true → b_1 = []), F_ b_1 = some o → ∀ s, Weak 0 s ⟨(upd (fun _ => none) 3 (some (lstV zb_1 0 1 b_1.length))), (upd (fun _ => none) 0 (lstB zb_1 1 (b_1.map (eK .u8)))), 1⟩ → R_ s
noncomputable def media_lower_j3 (v9 : Int) (v10 : Int) (self : (List Int) → Int → Int → Option (List UInt8)) (K0_ : (List Int) → Option (List UInt8)) (b_2 : (List Int)) : Option (List UInt8) :=
  self b_2 v9 (wi (v10 + 1))
theorem media_lower_j3_ok {mL : Int} {Q : AExit → St → Prop} {v9 : Int} {v10 : Int} {self : (List Int) → Int → Int → Option (List UInt8)} {K0_ : (List Int) → Option (List UInt8)} {b_2 : (List Int)} {zb_2 : Bool} (hzb_2 : zb_2 = true → b_2 = []) {o : (List UInt8)} (h : media_lower_j3 v9 v10 self K0_ b_2 = some o)
    (hself : media_lower_l0_H self o (Q .normal))
    (hK0 : media_lower_l0_E0 K0_ o (Q (.exit 0)))
    (hr : ∀ s, Ends a106.results 0 (media_lower_post o) .ret s → Q .ret s) :
    Sv Tryz.prog (GG mL) 0 a106_c0 Q ⟨(upd (upd (upd (upd (fun _ => none) 3 (some (lstV zb_2 0 1 b_2.length))) 8 (some (lstV zb_2 0 1 b_2.length))) 9 (some (I v9))) 10 (some (I v10))), (upd (fun _ => none) 0 (lstB zb_2 1 (b_2.map (eK .u8)))), 1⟩ := by
  unfold media_lower_j3 at h
  refine Sv.region ?_
  refine un (a1 (v := (I (wi (v10 + 1)))) rfl ?_)
  refine un (a1 rfl ?_)
  refine dnil ?_
  exact hself b_2 v9 (wi (v10 + 1)) zb_2 hzb_2 h _ (weak_canon [0] rfl (by decide) (by decide) (fun b h => absurd h (Nat.not_lt_zero _)) (.cons rfl (avAs_free rfl) (.cons rfl (avAs_free rfl) (.cons rfl (.c (lstC_ren rfl (by decide))) (.cons rfl (.c (lstC_ren rfl (by decide))) .nil)))) (.row (by decide) rfl (fr_map fun _ => rfl) .nil))
abbrev media_lower_l0_I (F_ : Nat → (List Int) → Int → Int → Option (List UInt8)) (o : (List UInt8)) : Nat → St → Prop := fun k s => ∃ (b_ : (List Int)), ∃ (v9 : Int), ∃ (v10 : Int), ∃ (zb : Bool), (zb = true → b_ = []) ∧ F_ k b_ v9 v10 = some o ∧ s = ⟨(upd (upd (upd (upd (fun _ => none) 3 (some (lstV zb 0 1 b_.length))) 8 (some (lstV zb 0 1 b_.length))) 9 (some (I v9))) 10 (some (I v10))), (upd (fun _ => none) 0 (lstB zb 1 (b_.map (eK .u8)))), 1⟩
noncomputable def media_lower_l0 (K0_ : (List Int) → Option (List UInt8)) : Nat → (List Int) → Int → Int → Option (List UInt8)
  | 0, _, _, _ => none
  | k + 1, b_, v9, v10 =>
    if decide (v10 < v9) then
      (at? b_ v10).bind fun x_ =>
      if ((decide (65 ≤ x_)) && (decide (x_ ≤ 90))) then
        (at? b_ v10).bind fun x_1 =>
        media_lower_j3 v9 v10 (media_lower_l0 K0_ k) K0_ (b_.set v10.toNat (wr .u8 (x_ + 32)))
      else
        media_lower_j3 v9 v10 (media_lower_l0 K0_ k) K0_ b_
    else
      K0_ b_
theorem media_lower_l0_ok {mL : Int} {Q : AExit → St → Prop} {K0_ : (List Int) → Option (List UInt8)} {k : Nat} {b_ : (List Int)} {v9 : Int} {v10 : Int} {zb : Bool} (hzb : zb = true → b_ = []) {o : (List UInt8)} (h : media_lower_l0 K0_ k b_ v9 v10 = some o)
    (hK0 : media_lower_l0_E0 K0_ o (Q (.exit 0)))
    (hr : ∀ s, Ends a106.results 0 (media_lower_post o) .ret s → Q .ret s) :
    Sv Tryz.prog (GG mL) 0 (.loop a106_c1) Q ⟨(upd (upd (upd (upd (fun _ => none) 3 (some (lstV zb 0 1 b_.length))) 8 (some (lstV zb 0 1 b_.length))) 9 (some (I v9))) 10 (some (I v10))), (upd (fun _ => none) 0 (lstB zb 1 (b_.map (eK .u8)))), 1⟩ := by
  refine Sv.loop (I := media_lower_l0_I (media_lower_l0 K0_) o) (fun k s hI => ?_) ⟨b_, v9, v10, zb, hzb, h, rfl⟩
  clear h
  clear hzb zb v10 v9 b_
  obtain ⟨b_, v9, v10, zb, hzb, h, rfl⟩ := hI
  cases k with
  | zero => cases h
  | succ k =>
  rw [media_lower_l0] at h
  have hself : media_lower_l0_H (media_lower_l0 K0_ k) o (rnd 0 (media_lower_l0_I (media_lower_l0 K0_) o) k Q) := fun b_ v9 v10 zb hzb h s hw => ⟨_, k, hw, Nat.lt_succ_self k, b_, v9, v10, zb, hzb, h, rfl⟩
  refine Sv.seq ?_
  refine Sv.region ?_
  refine un (a1 (v := (B (decide (v10 < v9)))) rfl ?_)
  refine dnil ?_
  refine Sv.seq ?_
  refine Sv.cond (b := decide (v10 < v9)) rfl (fun hc1 => ?_) (fun hc1 => ?_)
  · replace h := ifT hc1 h
    refine Sv.skip ?_
    refine Sv.seq ?_
    refine Sv.block ?_
    refine Sv.seq ?_
    refine Sv.region ?_
    refine un (a1 rfl ?_)
    obtain ⟨x_, hx1, h⟩ := bnd h
    refine un (a1 (v := (.c (.ref 0 1 v10.toNat 0))) (s_iaddrL rfl rfl hzb hx1) ?_)
    refine un (a1 (v := (.c (.val (.int .u8 x_)))) (s_loadL (z := zb) (e := (eK .u8)) rfl rfl hzb hx1 rfl rfl) ?_)
    refine un (a1 rfl ?_)
    refine un (a1 rfl ?_)
    refine dnil ?_
    refine Sv.seq ?_
    refine Sv.region ?_
    refine un (a1 rfl ?_)
    refine un (a1 (v := (B (decide (65 ≤ x_)))) rfl ?_)
    refine un (a1 rfl ?_)
    refine gjoin 3 (d := 20) (v := (B ((decide (65 ≤ x_)) && (decide (x_ ≤ 90))))) (fun X hX => ?_) ?_
    · refine split2 (fun hc2 => ?_) (fun hc2 => ?_)
      · refine gt rfl (a1 rfl ?_)
        refine gt rfl (a1 (v := (B (decide (x_ ≤ 90)))) rfl ?_)
        refine un (a1 (v := (B (decide (x_ ≤ 90)))) rfl ?_)
        refine dnil ?_
        exact hX _ (.putEq (by rw [hc2]; rfl) (.skip _ _ (.skip _ _ (.putEq (by rw [hc2]) (.refl _)) rfl) rfl))
      · refine gs rfl rfl ?_
        refine gs rfl rfl ?_
        refine un (a1 (v := (B false)) rfl ?_)
        refine dnil ?_
        exact hX _ (.putEq (by rw [hc2]; rfl) (.skip _ _ (.skip _ _ (.putEq (by rw [hc2]) (.refl _)) rfl) rfl))
    refine dnil ?_
    refine Sv.cond (b := ((decide (65 ≤ x_)) && (decide (x_ ≤ 90)))) rfl (fun hc3 => ?_) (fun hc3 => ?_)
    · replace h := ifT hc3 h
      refine Sv.region ?_
      refine un (a1 rfl ?_)
      refine un (a1 rfl ?_)
      refine un (a1 rfl ?_)
      refine un (a1 (v := (.c (.val (.int .u8 (wr .u8 (x_ + 32)))))) rfl ?_)
      obtain ⟨x_1, hx2, h⟩ := bnd h
      refine un (a1 (v := (.c (.ref 0 1 v10.toNat 0))) (s_iaddrL rfl rfl hzb hx2) ?_)
      refine un (a2n (h' := upd _ 0 (lstB zb 1 ((b_.set v10.toNat (wr .u8 (x_ + 32))).map (eK .u8)))) (n' := 1) rfl (s_storeL (e := (eK .u8)) (q' := (wr .u8 (x_ + 32))) rfl rfl hzb hx2 rfl rfl rfl (Nat.le_of_ble_eq_true rfl) rfl) (fun h => by cases h) ?_)
      try rw [len_set b_ v10.toNat (wr .u8 (x_ + 32))]
      refine dnil ?_
      exact Sv.weak (weak_canon [0] rfl (by decide) (by decide) (fun b h => absurd h (Nat.not_lt_zero _)) (.cons rfl (avAs_free rfl) (.cons rfl (avAs_free rfl) (.cons rfl (.c (lstC_ren rfl (by decide))) (.cons rfl (.c (lstC_ren rfl (by decide))) .nil)))) (.row (by decide) rfl (fr_map fun _ => rfl) .nil)) (media_lower_j3_ok (hz_len hzb (len_set b_ v10.toNat (wr .u8 (x_ + 32)))) h hself hK0 hr)
    · replace h := ifF hc3 h
      refine Sv.skip ?_
      exact Sv.weak (weak_canon [0] rfl (by decide) (by decide) (fun b h => absurd h (Nat.not_lt_zero _)) (.cons rfl (avAs_free rfl) (.cons rfl (avAs_free rfl) (.cons rfl (.c (lstC_ren rfl (by decide))) (.cons rfl (.c (lstC_ren rfl (by decide))) .nil)))) (.row (by decide) rfl (fr_map fun _ => rfl) .nil)) (media_lower_j3_ok hzb h hself hK0 hr)
  · replace h := ifF hc1 h
    refine Sv.exit ?_
    exact hK0 b_ zb hzb h _ (weak_canon [0] rfl (by decide) (by decide) (fun b h => absurd h (Nat.not_lt_zero _)) (.cons rfl (.c (lstC_ren rfl (by decide))) .nil) (.row (by decide) rfl (fr_map fun _ => rfl) .nil))
/-- clerestory/media.lower -/
noncomputable def media_lower (s_ : (List UInt8)) : Option (List UInt8) :=
  limF fun kk => media_lower_l0 (fun (b_1 : (List Int)) => 
      some (byts b_1)) kk (ints s_) ((ints s_).length : Int) 0
theorem media_lower_ok {mL : Int} {s_ : (List UInt8)} {r : (List UInt8)} (h : media_lower s_ = some r) : CPure Tryz.prog (GG mL) 106 [(S s_)] (S r) := by
  refine acalls_of_sv hmix c106 (R := media_lower_post r) ?_
  unfold media_lower at h
  refine Sv.seq ?_
  refine Sv.region ?_
  refine un (a1 rfl ?_)
  refine dnil ?_
  refine Sv.seq ?_
  refine Sv.region ?_
  refine un (a1 rfl ?_)
  refine un (a2v (v := (lstV false 0 1 (ints s_).length)) (h' := upd _ 0 (lstB false 1 ((ints s_).map (eK .u8)))) (n' := 1) rfl (s_toBytes rfl) (fun h => by cases h) ?_)
  refine un (a1 rfl ?_)
  refine dnil ?_
  refine Sv.seq ?_
  refine Sv.seq ?_
  refine Sv.region ?_
  refine un (a1 rfl ?_)
  refine un (a1 (v := (I ((ints s_).length : Int))) (s_lenL rfl (len_nil_of (fun h => by cases h))) ?_)
  refine un (a1 rfl ?_)
  refine dnil ?_
  refine Sv.block ?_
  obtain ⟨kk, h⟩ := limF_some h
  refine Sv.weak (weak_canon [0] rfl (by decide) (by decide) (fun b h => absurd h (Nat.not_lt_zero _)) (.cons rfl (avAs_free rfl) (.cons rfl (avAs_free rfl) (.cons rfl (.c (lstC_ren rfl (by decide))) (.cons rfl (.c (lstC_ren rfl (by decide))) .nil)))) (.row (by decide) rfl (fr_map fun _ => rfl) .nil)) (media_lower_l0_ok (fun h => by cases h) h ?_ (fun s hs => hs))
  · intro b_1 zb_1 hzb_1 h _ hw1
    refine Sv.weak hw1 ?_
    refine Sv.seq ?_
    refine Sv.region ?_
    refine un (a1 rfl ?_)
    refine un (a1 (v := (S (byts b_1))) (s_ofBytes (xs := b_1) rfl (slc_lst rfl (List.length_map _).symm (map_nil_of hzb_1))) ?_)
    refine un (a1 rfl ?_)
    refine dnil ?_
    refine Sv.ret ?_
    replace h := Option.some.inj h
    subst h
    exact ⟨_, .refl _, _, rfl, ⟨upd (fun _ => none) 0 (some (S (byts b_1))), (fun _ => none), 0⟩, (S (byts b_1)), weak_canon [] rfl List.nodup_nil (Nat.le_refl _) (fun b h => absurd h (Nat.not_lt_zero _)) (.cons rfl (avAs_free rfl) .nil) .nil, rfl, rfl, rfl, rfl⟩
def a80 : AFunc := ⟨1, [(.tmp 2)], (.seq (.region [⟨(some 1), (.box (.tmp 0)), none⟩, ⟨(some 2), (.mov (.const (.c (.str [])))), none⟩])
 (.seq (.seq (.region [⟨(some 3), (.faddr 0 (.tmp 1)), none⟩, ⟨(some 4), (.load false 1 (.tmp 3)), none⟩, ⟨(some 5), (.bin .neq (.tmp 4) (.const (.c (.val (.int .i64 1))))), none⟩])
 (.cond (.tmp 5) (.seq (.region [⟨(some 2), (.mov (.const (.c (.str [])))), none⟩])
 .ret) .skip))
 (.seq (.region [⟨(some 6), (.faddr 2 (.tmp 1)), none⟩, ⟨(some 7), (.load false 1 (.tmp 6)), none⟩, ⟨(some 8), (.call 106 [(.tmp 7)]), none⟩, ⟨(some 2), (.mov (.tmp 8)), none⟩])
 .ret)))⟩
set_option maxRecDepth 100000 in
theorem c80 : compFunc Tryz.prog 80 = some a80 := by kernel_rfl
def media_word_post (r : (List UInt8)) : AV → Heap → Nat → Prop := fun v h' n' => v = (S r) ∧ (h' = (fun _ => none)) ∧ n' = 0
/-- clerestory/media.word -/
noncomputable def media_word (t_ : TSToken) : Option (List UInt8) :=
  if (!decide (t_.Kind = 1)) then
    some []
  else
    (media_lower t_.Value).bind fun r_ =>
    some r_
theorem media_word_ok {mL : Int} {t_ : TSToken} {r : (List UInt8)} (h : media_word t_ = some r) : CPure Tryz.prog (GG mL) 80 [(.agg [cI t_.Kind, .str t_.Raw, .str t_.Value, cI t_.Num])] (S r) := by
  refine acalls_of_sv hmix c80 (R := media_word_post r) ?_
  unfold media_word at h
  refine Sv.seq ?_
  refine Sv.region ?_
  refine un (a2v (v := (.c (.ref 0 4 0 0))) (h' := upd _ 0 (some (.cells 4 [[cI t_.Kind, .str t_.Raw, .str t_.Value, cI t_.Num]]))) (n' := 1) rfl rfl (fun h => by cases h) ?_)
  refine un (a1 rfl ?_)
  refine dnil ?_
  refine Sv.seq ?_
  refine Sv.seq ?_
  refine Sv.region ?_
  refine un (a1 (v := (.c (.ref 0 4 0 0))) rfl ?_)
  refine un (a1 (v := (I t_.Kind)) rfl ?_)
  refine un (a1 (v := (B (!decide (t_.Kind = 1)))) rfl ?_)
  refine dnil ?_
  refine Sv.cond (b := (!decide (t_.Kind = 1))) rfl (fun hc1 => ?_) (fun hc1 => ?_)
  · replace h := ifT hc1 h
    refine Sv.seq ?_
    refine Sv.region ?_
    refine un (a1 rfl ?_)
    refine dnil ?_
    refine Sv.ret ?_
    replace h := Option.some.inj h
    subst h
    exact ⟨_, .refl _, _, rfl, ⟨upd (fun _ => none) 0 (some (S [])), (fun _ => none), 0⟩, (S []), weak_canon [] rfl List.nodup_nil (Nat.le_refl _) (fun b h => absurd h (Nat.not_lt_zero _)) (.cons rfl (avAs_free rfl) .nil) .nil, rfl, rfl, rfl, rfl⟩
  · replace h := ifF hc1 h
    refine Sv.skip ?_
    refine Sv.seq ?_
    refine Sv.region ?_
    refine un (a1 (v := (.c (.ref 0 4 0 2))) rfl ?_)
    refine un (a1 (v := (S t_.Value)) rfl ?_)
    obtain ⟨r_, hr1, h⟩ := bnd h
    refine un (ac_pure (media_lower_ok hr1) rfl rfl rfl ?_)
    refine un (a1 rfl ?_)
    refine dnil ?_
    refine Sv.ret ?_
    replace h := Option.some.inj h
    subst h
    exact ⟨_, .refl _, _, rfl, ⟨upd (fun _ => none) 0 (some (S r_)), (fun _ => none), 0⟩, (S r_), weak_canon [] rfl List.nodup_nil (Nat.le_refl _) (fun b h => absurd h (Nat.not_lt_zero _)) (.cons rfl (avAs_free rfl) .nil) .nil, rfl, rfl, rfl, rfl⟩
def a81_c0 : ACode := (.seq (.region [⟨(some 7), (.bin .lss (.tmp 6) (.const (.c (.val (.int .i64 12))))), none⟩])
 (.seq (.cond (.tmp 7) .skip (.exit 0))
 (.seq (.block 1 (.seq (.region [⟨(some 8), (.mov (.tmp 6)), none⟩, ⟨(some 9), (.idxA false 12 1 (.tmp 5) (.tmp 6)), none⟩, ⟨(some 3), (.mov (.tmp 8)), none⟩, ⟨(some 4), (.mov (.tmp 9)), none⟩])
 (.seq (.region [⟨(some 10), (.mov (.tmp 3)), none⟩, ⟨(some 11), (.bin .gtr (.tmp 10) (.const (.c (.val (.int .i64 0))))), none⟩, ⟨(some 12), (.mov (.tmp 11)), none⟩, ⟨(some 13), (.mov (.tmp 4)), (some (12, true))⟩, ⟨(some 14), (.mov (.tmp 0)), (some (12, true))⟩, ⟨(some 15), (.bin .eql (.tmp 13) (.tmp 14)), (some (12, true))⟩, ⟨(some 16), (.pick (.tmp 12) (.tmp 15) (.const (.c (.val (.bool false))))), none⟩])
 (.cond (.tmp 16) (.seq (.region [⟨(some 17), (.mov (.tmp 3)), none⟩, ⟨(some 2), (.mov (.tmp 17)), none⟩])
 .ret) .skip))))
 (.region [⟨(some 18), (.bin .add (.tmp 6) (.const (.c (.val (.int .i64 1))))), none⟩, ⟨(some 6), (.mov (.tmp 18)), none⟩]))))
def a81 : AFunc := ⟨1, [(.tmp 2)], (.seq (.region [⟨(some 2), (.mov (.const (.c (.val (.int .i64 0))))), none⟩])
 (.seq (.seq (.region [⟨(some 5), (.load true 12 (.glob 0)), none⟩, ⟨(some 6), (.mov (.const (.c (.val (.int .i64 0))))), none⟩])
 (.block 0 (.loop a81_c0)))
 (.seq (.region [⟨(some 2), (.mov (.const (.c (.val (.int .i64 12))))), none⟩])
 .ret)))⟩
set_option maxRecDepth 100000 in
theorem c81 : compFunc Tryz.prog 81 = some a81 := by kernel_rfl
def media_kind_post (r : Int) : AV → Heap → Nat → Prop := fun v h' n' => v = (I r) ∧ (h' = (fun _ => none)) ∧ n' = 0
def media_kind_t0 : List (List UInt8) := [[], [97, 108, 108], [115, 99, 114, 101, 101, 110], [112, 114, 105, 110, 116], [109, 105, 110, 45, 119, 105, 100, 116, 104], [109, 97, 120, 45, 119, 105, 100, 116, 104], [109, 105, 110, 45, 104, 101, 105, 103, 104, 116], [109, 97, 120, 45, 104, 101, 105, 103, 104, 116], [112, 114, 101, 102, 101, 114, 115, 45, 99, 111, 108, 111, 114, 45, 115, 99, 104, 101, 109, 101, 58, 100, 97, 114, 107], [112, 114, 101, 102, 101, 114, 115, 45, 99, 111, 108, 111, 114, 45, 115, 99, 104, 101, 109, 101, 58, 108, 105, 103, 104, 116], [111, 114, 105, 101, 110, 116, 97, 116, 105, 111, 110, 58, 112, 111, 114, 116, 114, 97, 105, 116], [111, 114, 105, 101, 110, 116, 97, 116, 105, 111, 110, 58, 108, 97, 110, 100, 115, 99, 97, 112, 101]]
abbrev media_kind_l0_E0 (F_ : Unit → Option Int) (o : Int) (R_ : St → Prop) : Prop := ∀ (_ : Unit), F_ () = some o → ∀ s, Weak 0 s ⟨(fun _ => none), (fun _ => none), 0⟩ → R_ s
abbrev media_kind_l0_I (word : (List UInt8)) (F_ : Nat → Int → Option Int) (o : Int) : Nat → St → Prop := fun k s => ∃ (v6 : Int), F_ k v6 = some o ∧ s = ⟨(upd (upd (upd (fun _ => none) 0 (some (S word))) 5 (some (.agg [.str [], .str [97, 108, 108], .str [115, 99, 114, 101, 101, 110], .str [112, 114, 105, 110, 116], .str [109, 105, 110, 45, 119, 105, 100, 116, 104], .str [109, 97, 120, 45, 119, 105, 100, 116, 104], .str [109, 105, 110, 45, 104, 101, 105, 103, 104, 116], .str [109, 97, 120, 45, 104, 101, 105, 103, 104, 116], .str [112, 114, 101, 102, 101, 114, 115, 45, 99, 111, 108, 111, 114, 45, 115, 99, 104, 101, 109, 101, 58, 100, 97, 114, 107], .str [112, 114, 101, 102, 101, 114, 115, 45, 99, 111, 108, 111, 114, 45, 115, 99, 104, 101, 109, 101, 58, 108, 105, 103, 104, 116], .str [111, 114, 105, 101, 110, 116, 97, 116, 105, 111, 110, 58, 112, 111, 114, 116, 114, 97, 105, 116], .str [111, 114, 105, 101, 110, 116, 97, 116, 105, 111, 110, 58, 108, 97, 110, 100, 115, 99, 97, 112, 101]]))) 6 (some (I v6))), (fun _ => none), 0⟩
abbrev media_kind_l0_H (word : (List UInt8)) (F_ : Int → Option Int) (o : Int) (R_ : St → Prop) : Prop := ∀ (v6 : Int), F_ v6 = some o → ∀ s, Weak 0 s ⟨(upd (upd (upd (fun _ => none) 0 (some (S word))) 5 (some (.agg [.str [], .str [97, 108, 108], .str [115, 99, 114, 101, 101, 110], .str [112, 114, 105, 110, 116], .str [109, 105, 110, 45, 119, 105, 100, 116, 104], .str [109, 97, 120, 45, 119, 105, 100, 116, 104], .str [109, 105, 110, 45, 104, 101, 105, 103, 104, 116], .str [109, 97, 120, 45, 104, 101, 105, 103, 104, 116], .str [112, 114, 101, 102, 101, 114, 115, 45, 99, 111, 108, 111, 114, 45, 115, 99, 104, 101, 109, 101, 58, 100, 97, 114, 107], .str [112, 114, 101, 102, 101, 114, 115, 45, 99, 111, 108, 111, 114, 45, 115, 99, 104, 101, 109, 101, 58, 108, 105, 103, 104, 116], .str [111, 114, 105, 101, 110, 116, 97, 116, 105, 111, 110, 58, 112, 111, 114, 116, 114, 97, 105, 116], .str [111, 114, 105, 101, 110, 116, 97, 116, 105, 111, 110, 58, 108, 97, 110, 100, 115, 99, 97, 112, 101]]))) 6 (some (I v6))), (fun _ => none), 0⟩ → R_ s
noncomputable def media_kind_l0 (word : (List UInt8)) (K0_ : Unit → Option Int) : Nat → Int → Option Int
  | 0, _ => none
  | k + 1, v6 =>
    if decide (v6 < 12) then
      (at? media_kind_t0 v6).bind fun x_ =>
      if ((decide (0 < v6)) && (decide (x_ = word))) then
        some v6
      else
        (media_kind_l0 word K0_ k) (wi (v6 + 1))
    else
      K0_ ()
theorem media_kind_l0_ok {mL : Int} {Q : AExit → St → Prop} {word : (List UInt8)} {K0_ : Unit → Option Int} {k : Nat} {v6 : Int} {o : Int} (h : media_kind_l0 word K0_ k v6 = some o)
    (hK0 : media_kind_l0_E0 K0_ o (Q (.exit 0)))
    (hr : ∀ s, Ends a81.results 0 (media_kind_post o) .ret s → Q .ret s) :
    Sv Tryz.prog (GG mL) 0 (.loop a81_c0) Q ⟨(upd (upd (upd (fun _ => none) 0 (some (S word))) 5 (some (.agg [.str [], .str [97, 108, 108], .str [115, 99, 114, 101, 101, 110], .str [112, 114, 105, 110, 116], .str [109, 105, 110, 45, 119, 105, 100, 116, 104], .str [109, 97, 120, 45, 119, 105, 100, 116, 104], .str [109, 105, 110, 45, 104, 101, 105, 103, 104, 116], .str [109, 97, 120, 45, 104, 101, 105, 103, 104, 116], .str [112, 114, 101, 102, 101, 114, 115, 45, 99, 111, 108, 111, 114, 45, 115, 99, 104, 101, 109, 101, 58, 100, 97, 114, 107], .str [112, 114, 101, 102, 101, 114, 115, 45, 99, 111, 108, 111, 114, 45, 115, 99, 104, 101, 109, 101, 58, 108, 105, 103, 104, 116], .str [111, 114, 105, 101, 110, 116, 97, 116, 105, 111, 110, 58, 112, 111, 114, 116, 114, 97, 105, 116], .str [111, 114, 105, 101, 110, 116, 97, 116, 105, 111, 110, 58, 108, 97, 110, 100, 115, 99, 97, 112, 101]]))) 6 (some (I v6))), (fun _ => none), 0⟩ := by
  refine Sv.loop (I := media_kind_l0_I word (media_kind_l0 word K0_) o) (fun k s hI => ?_) ⟨v6, h, rfl⟩
  clear h
  clear v6
  obtain ⟨v6, h, rfl⟩ := hI
  cases k with
  | zero => cases h
  | succ k =>
  rw [media_kind_l0] at h
  have hself : media_kind_l0_H word (media_kind_l0 word K0_ k) o (rnd 0 (media_kind_l0_I word (media_kind_l0 word K0_) o) k Q) := fun v6 h s hw => ⟨_, k, hw, Nat.lt_succ_self k, v6, h, rfl⟩
  refine Sv.seq ?_
  refine Sv.region ?_
  refine un (a1 (v := (B (decide (v6 < 12)))) rfl ?_)
  refine dnil ?_
  refine Sv.seq ?_
  refine Sv.cond (b := decide (v6 < 12)) rfl (fun hc1 => ?_) (fun hc1 => ?_)
  · replace h := ifT hc1 h
    refine Sv.skip ?_
    refine Sv.seq ?_
    refine Sv.block ?_
    refine Sv.seq ?_
    refine Sv.region ?_
    refine un (a1 rfl ?_)
    obtain ⟨x_, hx1, h⟩ := bnd h
    refine un (a1 (v := (S x_)) (s_idxA (L := media_kind_t0) (v := fun q => (S q)) rfl rfl rfl (.cons rfl (.cons rfl (.cons rfl (.cons rfl (.cons rfl (.cons rfl (.cons rfl (.cons rfl (.cons rfl (.cons rfl (.cons rfl (.cons rfl .nil)))))))))))) hx1) ?_)
    refine un (a1 rfl ?_)
    refine un (a1 rfl ?_)
    refine dnil ?_
    refine Sv.seq ?_
    refine Sv.region ?_
    refine un (a1 rfl ?_)
    refine un (a1 (v := (B (decide (0 < v6)))) rfl ?_)
    refine un (a1 rfl ?_)
    refine gjoin 4 (d := 16) (v := (B ((decide (0 < v6)) && (decide (x_ = word))))) (fun X hX => ?_) ?_
    · refine split2 (fun hc2 => ?_) (fun hc2 => ?_)
      · refine gt rfl (a1 rfl ?_)
        refine gt rfl (a1 rfl ?_)
        refine gt rfl (a1 (v := (B (decide (x_ = word)))) rfl ?_)
        refine un (a1 (v := (B (decide (x_ = word)))) rfl ?_)
        refine dnil ?_
        exact hX _ (.putEq (by rw [hc2]; rfl) (.skip _ _ (.skip _ _ (.skip _ _ (.putEq (by rw [hc2]) (.refl _)) rfl) rfl) rfl))
      · refine gs rfl rfl ?_
        refine gs rfl rfl ?_
        refine gs rfl rfl ?_
        refine un (a1 (v := (B false)) rfl ?_)
        refine dnil ?_
        exact hX _ (.putEq (by rw [hc2]; rfl) (.skip _ _ (.skip _ _ (.skip _ _ (.putEq (by rw [hc2]) (.refl _)) rfl) rfl) rfl))
    refine dnil ?_
    refine Sv.cond (b := ((decide (0 < v6)) && (decide (x_ = word)))) rfl (fun hc3 => ?_) (fun hc3 => ?_)
    · replace h := ifT hc3 h
      refine Sv.seq ?_
      refine Sv.region ?_
      refine un (a1 rfl ?_)
      refine un (a1 rfl ?_)
      refine dnil ?_
      refine Sv.ret ?_
      replace h := Option.some.inj h
      subst h
      exact hr _ ⟨_, .refl _, _, rfl, ⟨upd (fun _ => none) 0 (some (I v6)), (fun _ => none), 0⟩, (I v6), weak_canon [] rfl List.nodup_nil (Nat.le_refl _) (fun b h => absurd h (Nat.not_lt_zero _)) (.cons rfl (avAs_free rfl) .nil) .nil, rfl, rfl, rfl, rfl⟩
    · replace h := ifF hc3 h
      refine Sv.skip ?_
      refine Sv.region ?_
      refine un (a1 (v := (I (wi (v6 + 1)))) rfl ?_)
      refine un (a1 rfl ?_)
      refine dnil ?_
      exact hself (wi (v6 + 1)) h _ (weak_canon [] rfl (by decide) (by decide) (fun b h => absurd h (Nat.not_lt_zero _)) (.cons rfl (avAs_free rfl) (.cons rfl (avAs_free rfl) (.cons rfl (avAs_free rfl) .nil))) .nil)
  · replace h := ifF hc1 h
    refine Sv.exit ?_
    exact hK0 () h _ (weak_canon [] rfl (by decide) (by decide) (fun b h => absurd h (Nat.not_lt_zero _)) .nil .nil)
/-- clerestory/media.kind -/
noncomputable def media_kind (word : (List UInt8)) : Option Int :=
  limF fun kk => media_kind_l0 word (fun (_ : Unit) => 
      some 12) kk 0
theorem media_kind_ok {mL : Int} {word : (List UInt8)} {r : Int} (h : media_kind word = some r) : CPure Tryz.prog (GG mL) 81 [(S word)] (I r) := by
  refine acalls_of_sv hmix c81 (R := media_kind_post r) ?_
  unfold media_kind at h
  refine Sv.seq ?_
  refine Sv.region ?_
  refine un (a1 rfl ?_)
  refine dnil ?_
  refine Sv.seq ?_
  refine Sv.seq ?_
  refine Sv.region ?_
  refine un (a1 (v := (.agg [.str [], .str [97, 108, 108], .str [115, 99, 114, 101, 101, 110], .str [112, 114, 105, 110, 116], .str [109, 105, 110, 45, 119, 105, 100, 116, 104], .str [109, 97, 120, 45, 119, 105, 100, 116, 104], .str [109, 105, 110, 45, 104, 101, 105, 103, 104, 116], .str [109, 97, 120, 45, 104, 101, 105, 103, 104, 116], .str [112, 114, 101, 102, 101, 114, 115, 45, 99, 111, 108, 111, 114, 45, 115, 99, 104, 101, 109, 101, 58, 100, 97, 114, 107], .str [112, 114, 101, 102, 101, 114, 115, 45, 99, 111, 108, 111, 114, 45, 115, 99, 104, 101, 109, 101, 58, 108, 105, 103, 104, 116], .str [111, 114, 105, 101, 110, 116, 97, 116, 105, 111, 110, 58, 112, 111, 114, 116, 114, 97, 105, 116], .str [111, 114, 105, 101, 110, 116, 97, 116, 105, 111, 110, 58, 108, 97, 110, 100, 115, 99, 97, 112, 101]])) rfl ?_)
  refine un (a1 rfl ?_)
  refine dnil ?_
  refine Sv.block ?_
  obtain ⟨kk, h⟩ := limF_some h
  refine Sv.weak (weak_canon [] rfl (by decide) (by decide) (fun b h => absurd h (Nat.not_lt_zero _)) (.cons rfl (avAs_free rfl) (.cons rfl (avAs_free rfl) (.cons rfl (avAs_free rfl) .nil))) .nil) (media_kind_l0_ok h ?_ (fun s hs => hs))
  · intro _ h _ hw1
    refine Sv.weak hw1 ?_
    refine Sv.seq ?_
    refine Sv.region ?_
    refine un (a1 rfl ?_)
    refine dnil ?_
    refine Sv.ret ?_
    replace h := Option.some.inj h
    subst h
    exact ⟨_, .refl _, _, rfl, ⟨upd (fun _ => none) 0 (some (I 12)), (fun _ => none), 0⟩, (I 12), weak_canon [] rfl List.nodup_nil (Nat.le_refl _) (fun b h => absurd h (Nat.not_lt_zero _)) (.cons rfl (avAs_free rfl) .nil) .nil, rfl, rfl, rfl, rfl⟩
noncomputable abbrev strings_Trim (s_ : (List UInt8)) (cutset_ : (List UInt8)) : Option (List UInt8) := trim? s_ cutset_
/-- strings.Trim, by the contract of the shelf -/
theorem strings_Trim_ok {mL : Int} {s_ : (List UInt8)} {cutset_ : (List UInt8)} {r : (List UInt8)} (h : strings_Trim s_ cutset_ = some r) : CPure Tryz.prog (GG mL) 107 [(S s_), (S cutset_)] (S r) := trim_ok Tryz.lays160 (by kernel_rfl) h
noncomputable abbrev strconv_Atoi (s_ : (List UInt8)) : Option (Int × Bool) := atoi? s_
/-- strconv.Atoi, by the contract of the shelf -/
theorem strconv_Atoi_ok {mL : Int} {s_ : (List UInt8)} {r : (Int × Bool)} (h : strconv_Atoi s_ = some r) : CPure Tryz.prog (GG mL) 108 [(S s_)] (.tup [(I r.1), (.c (errC r.2))]) := atoi_ok Tryz.laysC172 (by kernel_rfl) (by kernel_rfl) h
def a82_c0 : ACode := (.cond (.tmp 20) (.seq (.region [⟨(some 21), (.load true 2 (.tmp 3)), none⟩, ⟨none, (.store 2 (.tmp 2) (.tmp 21)), none⟩])
 .ret) .skip)
def a82_c1 : ACode := (.cond (.tmp 55) (.seq (.region [⟨(some 56), (.load true 2 (.tmp 3)), none⟩, ⟨none, (.store 2 (.tmp 2) (.tmp 56)), none⟩])
 .ret) .skip)
def a82_c3 : ACode := (.seq (.region [⟨(some 58), (.faddr 1 (.tmp 6)), none⟩, ⟨(some 59), (.load false 1 (.tmp 58)), none⟩, ⟨(some 60), (.faddr 1 (.tmp 6)), none⟩, ⟨(some 61), (.load false 1 (.tmp 60)), none⟩, ⟨(some 62), (.lenS (.tmp 61)), none⟩, ⟨(some 63), (.bin .sub (.tmp 62) (.const (.c (.val (.int .i64 2))))), none⟩, ⟨(some 64), (.slStr (.tmp 59) none (some (.tmp 63))), none⟩, ⟨(some 65), (.call 108 [(.tmp 64)]), none⟩, ⟨(some 57), (.mov (.tmp 65)), none⟩, ⟨(some 66), (.ext (.tmp 57) 0), none⟩, ⟨(some 67), (.ext (.tmp 57) 1), none⟩, ⟨(some 7), (.mov (.tmp 66)), none⟩, ⟨(some 8), (.mov (.tmp 67)), none⟩])
 (.seq (.seq (.region [⟨(some 68), (.mov (.tmp 8)), none⟩, ⟨(some 69), (.eqi true (.tmp 68)), none⟩, ⟨(some 70), (.mov (.tmp 69)), none⟩, ⟨(some 71), (.mov (.tmp 7)), (some (70, false))⟩, ⟨(some 72), (.bin .gtr (.tmp 71) (.const (.c (.val (.int .i64 1000000))))), (some (70, false))⟩, ⟨(some 73), (.pick (.tmp 70) (.const (.c (.val (.bool true)))) (.tmp 72)), none⟩])
 (.cond (.tmp 73) (.seq (.region [⟨(some 74), (.load true 2 (.tmp 3)), none⟩, ⟨none, (.store 2 (.tmp 2) (.tmp 74)), none⟩])
 .ret) .skip))
 (.seq (.region [⟨(some 75), (.mov (.tmp 5)), none⟩, ⟨(some 76), (.mov (.tmp 7)), none⟩, ⟨(some 77), (.build [(.val (.int .i64 0)), (.val (.int .i64 0))] [(0, (1, (.tmp 75))), (1, (1, (.tmp 76)))]), none⟩, ⟨none, (.store 2 (.tmp 2) (.tmp 77)), none⟩])
 .ret)))
def a82_c2 : ACode := (.seq (.seq (.region [⟨(some 78), (.mov (.tmp 4)), none⟩, ⟨(some 79), (.bin .add (.tmp 78) (.const (.c (.str [58])))), none⟩, ⟨(some 80), (.mov (.tmp 0)), none⟩, ⟨(some 81), (.iaddr 4 (.tmp 80) (.const (.c (.val (.int .i64 2))))), none⟩, ⟨(some 82), (.load true 4 (.tmp 81)), none⟩, ⟨(some 83), (.call 80 [(.tmp 82)]), none⟩, ⟨(some 84), (.bin .add (.tmp 79) (.tmp 83)), none⟩, ⟨(some 85), (.call 81 [(.tmp 84)]), none⟩, ⟨(some 9), (.mov (.tmp 85)), none⟩])
 (.seq (.region [⟨(some 86), (.mov (.tmp 9)), none⟩, ⟨(some 87), (.bin .geq (.tmp 86) (.const (.c (.val (.int .i64 8))))), none⟩])
 (.cond (.tmp 87) (.seq (.region [⟨(some 88), (.mov (.tmp 9)), none⟩, ⟨(some 89), (.build [(.val (.int .i64 0)), (.val (.int .i64 0))] [(0, (1, (.tmp 88)))]), none⟩, ⟨none, (.store 2 (.tmp 2) (.tmp 89)), none⟩])
 .ret) .skip)))
 (.seq (.region [⟨(some 90), (.load true 2 (.tmp 3)), none⟩, ⟨none, (.store 2 (.tmp 2) (.tmp 90)), none⟩])
 .ret))
def a82_c4 : ACode := (.seq (.region [⟨(some 22), (.mov (.tmp 0)), none⟩, ⟨(some 23), (.iaddr 4 (.tmp 22) (.const (.c (.val (.int .i64 0))))), none⟩, ⟨(some 24), (.load true 4 (.tmp 23)), none⟩, ⟨(some 25), (.call 80 [(.tmp 24)]), none⟩, ⟨(some 4), (.mov (.tmp 25)), none⟩])
 (.seq (.seq (.region [⟨(some 26), (.mov (.tmp 4)), none⟩, ⟨(some 27), (.call 81 [(.tmp 26)]), none⟩, ⟨(some 5), (.mov (.tmp 27)), none⟩])
 (.seq (.region [⟨(some 28), (.mov (.tmp 5)), none⟩, ⟨(some 29), (.bin .geq (.tmp 28) (.const (.c (.val (.int .i64 4))))), none⟩, ⟨(some 30), (.mov (.tmp 29)), none⟩, ⟨(some 31), (.mov (.tmp 5)), (some (30, true))⟩, ⟨(some 32), (.bin .leq (.tmp 31) (.const (.c (.val (.int .i64 7))))), (some (30, true))⟩, ⟨(some 33), (.pick (.tmp 30) (.tmp 32) (.const (.c (.val (.bool false))))), none⟩])
 (.cond (.tmp 33) (.seq (.region [⟨(some 34), (.mov (.tmp 0)), none⟩, ⟨(some 35), (.iaddr 4 (.tmp 34) (.const (.c (.val (.int .i64 2))))), none⟩, ⟨(some 36), (.load true 4 (.tmp 35)), none⟩, ⟨(some 6), (.box (.const (.agg [(.val (.int .i64 0)), (.str []), (.str []), (.val (.int .i64 0))]))), none⟩, ⟨none, (.store 4 (.tmp 6) (.tmp 36)), none⟩])
 (.seq (.seq (.region [⟨(some 37), (.faddr 0 (.tmp 6)), none⟩, ⟨(some 38), (.load false 1 (.tmp 37)), none⟩, ⟨(some 39), (.bin .neq (.tmp 38) (.const (.c (.val (.int .i64 7))))), none⟩, ⟨(some 40), (.mov (.tmp 39)), none⟩, ⟨(some 41), (.faddr 2 (.tmp 6)), (some (40, false))⟩, ⟨(some 42), (.load false 1 (.tmp 41)), (some (40, false))⟩, ⟨(some 43), (.bin .neq (.tmp 42) (.const (.c (.str [112, 120])))), (some (40, false))⟩, ⟨(some 44), (.pick (.tmp 40) (.const (.c (.val (.bool true)))) (.tmp 43)), none⟩, ⟨(some 45), (.mov (.tmp 44)), none⟩, ⟨(some 46), (.faddr 1 (.tmp 6)), (some (45, false))⟩, ⟨(some 47), (.load false 1 (.tmp 46)), (some (45, false))⟩, ⟨(some 48), (.faddr 1 (.tmp 6)), (some (45, false))⟩, ⟨(some 49), (.load false 1 (.tmp 48)), (some (45, false))⟩, ⟨(some 50), (.lenS (.tmp 49)), (some (45, false))⟩, ⟨(some 51), (.bin .sub (.tmp 50) (.const (.c (.val (.int .i64 2))))), (some (45, false))⟩, ⟨(some 52), (.slStr (.tmp 47) none (some (.tmp 51))), (some (45, false))⟩, ⟨(some 53), (.call 107 [(.tmp 52), (.const (.c (.str [48, 49, 50, 51, 52, 53, 54, 55, 56, 57])))]), (some (45, false))⟩, ⟨(some 54), (.bin .neq (.tmp 53) (.const (.c (.str [])))), (some (45, false))⟩, ⟨(some 55), (.pick (.tmp 45) (.const (.c (.val (.bool true)))) (.tmp 54)), none⟩])
 a82_c1)
 a82_c3)) .skip)))
 a82_c2))
def a82 : AFunc := ⟨1, [(.cell true 2 2)], (.seq (.region [⟨(some 2), (.box (.const (.agg [(.val (.int .i64 0)), (.val (.int .i64 0))]))), none⟩])
 (.seq (.region [⟨(some 10), (.build [(.val (.int .i64 0)), (.val (.int .i64 0))] [(0, (1, (.const (.c (.val (.int .i64 12))))))]), none⟩, ⟨(some 3), (.box (.const (.agg [(.val (.int .i64 0)), (.val (.int .i64 0))]))), none⟩, ⟨none, (.store 2 (.tmp 3) (.tmp 10)), none⟩])
 (.seq (.seq (.region [⟨(some 11), (.mov (.tmp 0)), none⟩, ⟨(some 12), (.len (.tmp 11)), none⟩, ⟨(some 13), (.bin .neq (.tmp 12) (.const (.c (.val (.int .i64 3))))), none⟩, ⟨(some 14), (.mov (.tmp 13)), none⟩, ⟨(some 15), (.mov (.tmp 0)), (some (14, false))⟩, ⟨(some 16), (.iaddr 4 (.tmp 15) (.const (.c (.val (.int .i64 1))))), (some (14, false))⟩, ⟨(some 17), (.faddr 1 (.tmp 16)), (some (14, false))⟩, ⟨(some 18), (.load false 1 (.tmp 17)), (some (14, false))⟩, ⟨(some 19), (.bin .neq (.tmp 18) (.const (.c (.str [58])))), (some (14, false))⟩, ⟨(some 20), (.pick (.tmp 14) (.const (.c (.val (.bool true)))) (.tmp 19)), none⟩])
 a82_c0)
 a82_c4)))⟩
set_option maxRecDepth 100000 in
theorem c82 : compFunc Tryz.prog 82 = some a82 := by kernel_rfl
def media_feature_post (r : TSFeature) : AV → Heap → Nat → Prop := fun v h' n' => v = (.agg [cI r.Kind, cI r.Num]) ∧ (h' = (fun _ => none)) ∧ n' = 0
abbrev media_feature_q0 (mL : Int) (o : TSFeature) : AExit → St → Prop := AThen (Sv Tryz.prog (GG mL) 0 a82_c2 (Ends a82.results 0 (media_feature_post o))) (Ends a82.results 0 (media_feature_post o))
abbrev media_feature_q1 (mL : Int) (o : TSFeature) : AExit → St → Prop := AThen (Sv Tryz.prog (GG mL) 0 a82_c3 (media_feature_q0 mL o)) (media_feature_q0 mL o)
noncomputable def media_feature_j2 (x_1 : TSToken) (r_1 : Int) (v55 : Bool) : Option TSFeature :=
  if v55 then
    some (⟨12, 0⟩ : TSFeature)
  else
    (sub? x_1.Raw 0 (wi ((x_1.Raw.length : Int) - 2))).bind fun r_2 =>
    (strconv_Atoi r_2).bind fun r_3 =>
    if (r_3.2 || (decide (1000000 < r_3.1))) then
      some (⟨12, 0⟩ : TSFeature)
    else
      some (⟨r_1, r_3.1⟩ : TSFeature)
theorem media_feature_j2_ok {mL : Int} {x_1 : TSToken} {r_1 : Int} {v55 : Bool} {o : TSFeature} (h : media_feature_j2 x_1 r_1 v55 = some o) :
    Sv Tryz.prog (GG mL) 0 a82_c1 (media_feature_q1 mL o) ⟨(upd (upd (upd (upd (upd (fun _ => none) 2 (some (.c (.ref 0 2 0 0)))) 3 (some (.c (.ref 1 2 0 0)))) 5 (some (I r_1))) 6 (some (.c (.ref 2 4 0 0)))) 55 (some (B v55))), (upd (upd (upd (fun _ => none) 0 (some (.cells 2 [[cI 0, cI 0]]))) 1 (some (.cells 2 [[cI 12, cI 0]]))) 2 (some (.cells 4 [[cI x_1.Kind, .str x_1.Raw, .str x_1.Value, cI x_1.Num]]))), 3⟩ := by
  unfold media_feature_j2 at h
  refine Sv.cond (b := v55) rfl (fun hc4 => ?_) (fun hc4 => ?_)
  · replace h := ifT hc4 h
    refine Sv.seq ?_
    refine Sv.region ?_
    refine un (a1 (v := (.agg [cI 12, cI 0])) rfl ?_)
    refine un (a2n (h' := upd _ 0 (some (.cells 2 [[cI 12, cI 0]]))) (n' := 3) rfl rfl (fun h => by cases h) ?_)
    refine dnil ?_
    refine Sv.ret ?_
    replace h := Option.some.inj h
    subst h
    exact ⟨_, .refl _, _, rfl, ⟨upd (fun _ => none) 0 (some (.agg [cI 12, cI 0])), (fun _ => none), 0⟩, (.agg [cI 12, cI 0]), weak_canon [] rfl List.nodup_nil (Nat.le_refl _) (fun b h => absurd h (Nat.not_lt_zero _)) (.cons rfl (avAs_free rfl) .nil) .nil, rfl, rfl, rfl, rfl⟩
  · replace h := ifF hc4 h
    refine Sv.skip ?_
    refine Sv.seq ?_
    refine Sv.region ?_
    refine un (a1 (v := (.c (.ref 2 4 0 1))) rfl ?_)
    refine un (a1 (v := (S x_1.Raw)) rfl ?_)
    refine un (a1 (v := (.c (.ref 2 4 0 1))) rfl ?_)
    refine un (a1 (v := (S x_1.Raw)) rfl ?_)
    refine un (a1 (v := (I (x_1.Raw.length : Int))) rfl ?_)
    refine un (a1 (v := (I (wi ((x_1.Raw.length : Int) - 2)))) rfl ?_)
    obtain ⟨r_2, hx3, h⟩ := bnd h
    refine un (a1 (v := (S r_2)) (s_slStr rfl rfl rfl hx3) ?_)
    obtain ⟨r_3, hr3, h⟩ := bnd h
    refine un (ac_pure (strconv_Atoi_ok hr3) rfl rfl (by simp only [AV.free, freeL, List.all_cons, List.all_nil, errC_free, ierrC_free] <;> rfl) ?_)
    refine un (a1 rfl ?_)
    refine un (a1 (v := (I r_3.1)) rfl ?_)
    refine un (a1 (v := (.c (errC r_3.2))) rfl ?_)
    refine un (a1 rfl ?_)
    refine un (a1 rfl ?_)
    refine dnil ?_
    refine Sv.seq ?_
    refine Sv.seq ?_
    refine Sv.region ?_
    refine un (a1 rfl ?_)
    refine un (a1 (v := (B r_3.2)) (s_eqe (neg := true) (b := r_3.2) rfl) ?_)
    refine un (a1 rfl ?_)
    refine gjoin 3 (d := 73) (v := (B (r_3.2 || (decide (1000000 < r_3.1))))) (fun X hX => ?_) ?_
    · refine split2 (fun hc5 => ?_) (fun hc5 => ?_)
      · refine gs rfl rfl ?_
        refine gs rfl rfl ?_
        refine un (a1 (v := (B true)) rfl ?_)
        refine dnil ?_
        exact hX _ (.putEq (by rw [hc5]; rfl) (.skip _ _ (.skip _ _ (.putEq (by rw [hc5]) (.refl _)) rfl) rfl))
      · refine gt rfl (a1 rfl ?_)
        refine gt rfl (a1 (v := (B (decide (1000000 < r_3.1)))) rfl ?_)
        refine un (a1 (v := (B (decide (1000000 < r_3.1)))) rfl ?_)
        refine dnil ?_
        exact hX _ (.putEq (by rw [hc5]; rfl) (.skip _ _ (.skip _ _ (.putEq (by rw [hc5]) (.refl _)) rfl) rfl))
    refine dnil ?_
    refine Sv.cond (b := (r_3.2 || (decide (1000000 < r_3.1)))) rfl (fun hc6 => ?_) (fun hc6 => ?_)
    · replace h := ifT hc6 h
      refine Sv.seq ?_
      refine Sv.region ?_
      refine un (a1 (v := (.agg [cI 12, cI 0])) rfl ?_)
      refine un (a2n (h' := upd _ 0 (some (.cells 2 [[cI 12, cI 0]]))) (n' := 3) rfl rfl (fun h => by cases h) ?_)
      refine dnil ?_
      refine Sv.ret ?_
      replace h := Option.some.inj h
      subst h
      exact ⟨_, .refl _, _, rfl, ⟨upd (fun _ => none) 0 (some (.agg [cI 12, cI 0])), (fun _ => none), 0⟩, (.agg [cI 12, cI 0]), weak_canon [] rfl List.nodup_nil (Nat.le_refl _) (fun b h => absurd h (Nat.not_lt_zero _)) (.cons rfl (avAs_free rfl) .nil) .nil, rfl, rfl, rfl, rfl⟩
    · replace h := ifF hc6 h
      refine Sv.skip ?_
      refine Sv.seq ?_
      refine Sv.region ?_
      refine un (a1 rfl ?_)
      refine un (a1 rfl ?_)
      refine un (a1 (v := (.agg [cI r_1, cI r_3.1])) rfl ?_)
      refine un (a2n (h' := upd _ 0 (some (.cells 2 [[cI r_1, cI r_3.1]]))) (n' := 3) rfl rfl (fun h => by cases h) ?_)
      refine dnil ?_
      refine Sv.ret ?_
      replace h := Option.some.inj h
      subst h
      exact ⟨_, .refl _, _, rfl, ⟨upd (fun _ => none) 0 (some (.agg [cI r_1, cI r_3.1])), (fun _ => none), 0⟩, (.agg [cI r_1, cI r_3.1]), weak_canon [] rfl List.nodup_nil (Nat.le_refl _) (fun b h => absurd h (Nat.not_lt_zero _)) (.cons rfl (avAs_free rfl) .nil) .nil, rfl, rfl, rfl, rfl⟩
abbrev media_feature_q2 (mL : Int) (o : TSFeature) : AExit → St → Prop := AThen (Sv Tryz.prog (GG mL) 0 a82_c4 (Ends a82.results 0 (media_feature_post o))) (Ends a82.results 0 (media_feature_post o))
noncomputable def media_feature_j1 (l_ : (List TSToken)) (v20 : Bool) : Option TSFeature :=
  if v20 then
    some (⟨12, 0⟩ : TSFeature)
  else
    (at? l_ 0).bind fun x_ =>
    (media_word x_).bind fun r_ =>
    (media_kind r_).bind fun r_1 =>
    if ((decide (4 ≤ r_1)) && (decide (r_1 ≤ 7))) then
      (at? l_ 2).bind fun x_1 =>
      if ((!decide (x_1.Kind = 7)) || (!decide (x_1.Value = [112, 120]))) then
        media_feature_j2 x_1 r_1 true
      else
        (sub? x_1.Raw 0 (wi ((x_1.Raw.length : Int) - 2))).bind fun r_4 =>
        (strings_Trim r_4 [48, 49, 50, 51, 52, 53, 54, 55, 56, 57]).bind fun r_5 =>
        media_feature_j2 x_1 r_1 (!decide (r_5 = []))
    else
      (cat? r_ [58]).bind fun r_6 =>
      (at? l_ 2).bind fun x_2 =>
      (media_word x_2).bind fun r_7 =>
      (cat? r_6 r_7).bind fun r_8 =>
      (media_kind r_8).bind fun r_9 =>
      if decide (8 ≤ r_9) then
        some (⟨r_9, 0⟩ : TSFeature)
      else
        some (⟨12, 0⟩ : TSFeature)
theorem media_feature_j1_ok {mL : Int} {l_ : (List TSToken)} {v20 : Bool} {o : TSFeature} (h : media_feature_j1 l_ v20 = some o) :
    Sv Tryz.prog (GG mL) 0 a82_c0 (media_feature_q2 mL o) ⟨(upd (upd (upd (upd (fun _ => none) 0 (some (.c (.ro false 4 (l_.map e_TSToken))))) 2 (some (.c (.ref 0 2 0 0)))) 3 (some (.c (.ref 1 2 0 0)))) 20 (some (B v20))), (upd (upd (fun _ => none) 0 (some (.cells 2 [[cI 0, cI 0]]))) 1 (some (.cells 2 [[cI 12, cI 0]]))), 2⟩ := by
  unfold media_feature_j1 at h
  refine Sv.cond (b := v20) rfl (fun hc1 => ?_) (fun hc1 => ?_)
  · replace h := ifT hc1 h
    refine Sv.seq ?_
    refine Sv.region ?_
    refine un (a1 (v := (.agg [cI 12, cI 0])) rfl ?_)
    refine un (a2n (h' := upd _ 0 (some (.cells 2 [[cI 12, cI 0]]))) (n' := 2) rfl rfl (fun h => by cases h) ?_)
    refine dnil ?_
    refine Sv.ret ?_
    replace h := Option.some.inj h
    subst h
    exact ⟨_, .refl _, _, rfl, ⟨upd (fun _ => none) 0 (some (.agg [cI 12, cI 0])), (fun _ => none), 0⟩, (.agg [cI 12, cI 0]), weak_canon [] rfl List.nodup_nil (Nat.le_refl _) (fun b h => absurd h (Nat.not_lt_zero _)) (.cons rfl (avAs_free rfl) .nil) .nil, rfl, rfl, rfl, rfl⟩
  · replace h := ifF hc1 h
    refine Sv.skip ?_
    refine Sv.seq ?_
    refine Sv.region ?_
    refine un (a1 rfl ?_)
    obtain ⟨x_, hx1, h⟩ := bnd h
    refine un (a1 (v := (.c (.rop [cI x_.Kind, .str x_.Raw, .str x_.Value, cI x_.Num]))) (s_iaddr (e := e_TSToken) (xs := l_) rfl rfl hx1) ?_)
    refine un (a1 (v := (.agg [cI x_.Kind, .str x_.Raw, .str x_.Value, cI x_.Num])) rfl ?_)
    obtain ⟨r_, hr1, h⟩ := bnd h
    refine un (ac_pure (media_word_ok hr1) rfl rfl rfl ?_)
    refine un (a1 rfl ?_)
    refine dnil ?_
    refine Sv.seq ?_
    refine Sv.seq ?_
    refine Sv.region ?_
    refine un (a1 rfl ?_)
    obtain ⟨r_1, hr2, h⟩ := bnd h
    refine un (ac_pure (media_kind_ok hr2) rfl rfl rfl ?_)
    refine un (a1 rfl ?_)
    refine dnil ?_
    refine Sv.seq ?_
    refine Sv.region ?_
    refine un (a1 rfl ?_)
    refine un (a1 (v := (B (decide (4 ≤ r_1)))) rfl ?_)
    refine un (a1 rfl ?_)
    refine gjoin 3 (d := 33) (v := (B ((decide (4 ≤ r_1)) && (decide (r_1 ≤ 7))))) (fun X hX => ?_) ?_
    · refine split2 (fun hc2 => ?_) (fun hc2 => ?_)
      · refine gt rfl (a1 rfl ?_)
        refine gt rfl (a1 (v := (B (decide (r_1 ≤ 7)))) rfl ?_)
        refine un (a1 (v := (B (decide (r_1 ≤ 7)))) rfl ?_)
        refine dnil ?_
        exact hX _ (.putEq (by rw [hc2]; rfl) (.skip _ _ (.skip _ _ (.putEq (by rw [hc2]) (.refl _)) rfl) rfl))
      · refine gs rfl rfl ?_
        refine gs rfl rfl ?_
        refine un (a1 (v := (B false)) rfl ?_)
        refine dnil ?_
        exact hX _ (.putEq (by rw [hc2]; rfl) (.skip _ _ (.skip _ _ (.putEq (by rw [hc2]) (.refl _)) rfl) rfl))
    refine dnil ?_
    refine Sv.cond (b := ((decide (4 ≤ r_1)) && (decide (r_1 ≤ 7)))) rfl (fun hc3 => ?_) (fun hc3 => ?_)
    · replace h := ifT hc3 h
      refine Sv.seq ?_
      refine Sv.region ?_
      refine un (a1 rfl ?_)
      obtain ⟨x_1, hx2, h⟩ := bnd h
      refine un (a1 (v := (.c (.rop [cI x_1.Kind, .str x_1.Raw, .str x_1.Value, cI x_1.Num]))) (s_iaddr (e := e_TSToken) (xs := l_) rfl rfl hx2) ?_)
      refine un (a1 (v := (.agg [cI x_1.Kind, .str x_1.Raw, .str x_1.Value, cI x_1.Num])) rfl ?_)
      refine un (a2v (v := (.c (.ref 2 4 0 0))) (h' := upd _ 2 (some (.cells 4 [[cI 0, .str [], .str [], cI 0]]))) (n' := 3) rfl rfl (fun h => by cases h) ?_)
      refine un (a2n (h' := upd _ 2 (some (.cells 4 [[cI x_1.Kind, .str x_1.Raw, .str x_1.Value, cI x_1.Num]]))) (n' := 3) rfl rfl (fun h => by cases h) ?_)
      refine dnil ?_
      refine Sv.seq ?_
      refine Sv.seq ?_
      refine Sv.region ?_
      refine un (a1 (v := (.c (.ref 2 4 0 0))) rfl ?_)
      refine un (a1 (v := (I x_1.Kind)) rfl ?_)
      refine un (a1 (v := (B (!decide (x_1.Kind = 7)))) rfl ?_)
      refine un (a1 rfl ?_)
      refine gjoin 4 (d := 44) (v := (B ((!decide (x_1.Kind = 7)) || (!decide (x_1.Value = [112, 120]))))) (fun X hX => ?_) ?_
      · refine split2 (fun hc7 => ?_) (fun hc7 => ?_)
        · refine gs rfl rfl ?_
          refine gs rfl rfl ?_
          refine gs rfl rfl ?_
          refine un (a1 (v := (B true)) rfl ?_)
          refine dnil ?_
          exact hX _ (.putEq (by rw [hc7]; rfl) (.skip _ _ (.skip _ _ (.skip _ _ (.putEq (by rw [hc7]) (.refl _)) rfl) rfl) rfl))
        · refine gt rfl (a1 (v := (.c (.ref 2 4 0 2))) rfl ?_)
          refine gt rfl (a1 (v := (S x_1.Value)) rfl ?_)
          refine gt rfl (a1 (v := (B (!decide (x_1.Value = [112, 120])))) rfl ?_)
          refine un (a1 (v := (B (!decide (x_1.Value = [112, 120])))) rfl ?_)
          refine dnil ?_
          exact hX _ (.putEq (by rw [hc7]; rfl) (.skip _ _ (.skip _ _ (.skip _ _ (.putEq (by rw [hc7]) (.refl _)) rfl) rfl) rfl))
      refine un (a1 rfl ?_)
      refine split2 (fun hc8 => ?_) (fun hc8 => ?_)
      · replace h := ifT hc8 h
        refine gs rfl rfl ?_
        refine gs rfl rfl ?_
        refine gs rfl rfl ?_
        refine gs rfl rfl ?_
        refine gs rfl rfl ?_
        refine gs rfl rfl ?_
        refine gs rfl rfl ?_
        refine gs rfl rfl ?_
        refine gs rfl rfl ?_
        refine un (a1 (v := (B true)) rfl ?_)
        refine dnil ?_
        exact Sv.weak (weak_canon [0, 1, 2] rfl (by decide) (by decide) (fun b h => absurd h (Nat.not_lt_zero _)) (.cons rfl (avAs_free rfl) (.cons rfl (.c (.ref rfl (by decide))) (.cons rfl (avAs_free rfl) (.cons rfl (.c (.ref rfl (by decide))) (.cons rfl (.c (.ref rfl (by decide))) .nil))))) (.box (by decide) rfl (blkAs_cells (.cons (.same rfl) (.cons (.same rfl) (.cons (.same rfl) (.cons (.same rfl) .nil))))) (.box (by decide) rfl (blkAs_cells (.cons (.same rfl) (.cons (.same rfl) .nil))) (.box (by decide) rfl (blkAs_cells (.cons (.same rfl) (.cons (.same rfl) .nil))) .nil)))) (media_feature_j2_ok h)
      · replace h := ifF hc8 h
        refine gt rfl (a1 (v := (.c (.ref 2 4 0 1))) rfl ?_)
        refine gt rfl (a1 (v := (S x_1.Raw)) rfl ?_)
        refine gt rfl (a1 (v := (.c (.ref 2 4 0 1))) rfl ?_)
        refine gt rfl (a1 (v := (S x_1.Raw)) rfl ?_)
        refine gt rfl (a1 (v := (I (x_1.Raw.length : Int))) rfl ?_)
        refine gt rfl (a1 (v := (I (wi ((x_1.Raw.length : Int) - 2)))) rfl ?_)
        obtain ⟨r_4, hx4, h⟩ := bnd h
        refine gt rfl (a1 (v := (S r_4)) (s_slStr rfl rfl rfl hx4) ?_)
        obtain ⟨r_5, hr4, h⟩ := bnd h
        refine gt rfl (ac_pure (strings_Trim_ok hr4) rfl rfl rfl ?_)
        refine gt rfl (a1 (v := (B (!decide (r_5 = [])))) rfl ?_)
        refine un (a1 (v := (B (!decide (r_5 = [])))) rfl ?_)
        refine dnil ?_
        exact Sv.weak (weak_canon [0, 1, 2] rfl (by decide) (by decide) (fun b h => absurd h (Nat.not_lt_zero _)) (.cons rfl (avAs_free rfl) (.cons rfl (.c (.ref rfl (by decide))) (.cons rfl (avAs_free rfl) (.cons rfl (.c (.ref rfl (by decide))) (.cons rfl (.c (.ref rfl (by decide))) .nil))))) (.box (by decide) rfl (blkAs_cells (.cons (.same rfl) (.cons (.same rfl) (.cons (.same rfl) (.cons (.same rfl) .nil))))) (.box (by decide) rfl (blkAs_cells (.cons (.same rfl) (.cons (.same rfl) .nil))) (.box (by decide) rfl (blkAs_cells (.cons (.same rfl) (.cons (.same rfl) .nil))) .nil)))) (media_feature_j2_ok h)
    · replace h := ifF hc3 h
      refine Sv.skip ?_
      refine Sv.seq ?_
      refine Sv.seq ?_
      refine Sv.region ?_
      refine un (a1 rfl ?_)
      obtain ⟨r_6, hx5, h⟩ := bnd h
      refine un (a1 (v := (S r_6)) (s_cat rfl rfl hx5) ?_)
      refine un (a1 rfl ?_)
      obtain ⟨x_2, hx6, h⟩ := bnd h
      refine un (a1 (v := (.c (.rop [cI x_2.Kind, .str x_2.Raw, .str x_2.Value, cI x_2.Num]))) (s_iaddr (e := e_TSToken) (xs := l_) rfl rfl hx6) ?_)
      refine un (a1 (v := (.agg [cI x_2.Kind, .str x_2.Raw, .str x_2.Value, cI x_2.Num])) rfl ?_)
      obtain ⟨r_7, hr5, h⟩ := bnd h
      refine un (ac_pure (media_word_ok hr5) rfl rfl rfl ?_)
      obtain ⟨r_8, hx7, h⟩ := bnd h
      refine un (a1 (v := (S r_8)) (s_cat rfl rfl hx7) ?_)
      obtain ⟨r_9, hr6, h⟩ := bnd h
      refine un (ac_pure (media_kind_ok hr6) rfl rfl rfl ?_)
      refine un (a1 rfl ?_)
      refine dnil ?_
      refine Sv.seq ?_
      refine Sv.region ?_
      refine un (a1 rfl ?_)
      refine un (a1 (v := (B (decide (8 ≤ r_9)))) rfl ?_)
      refine dnil ?_
      refine Sv.cond (b := decide (8 ≤ r_9)) rfl (fun hc9 => ?_) (fun hc9 => ?_)
      · replace h := ifT hc9 h
        refine Sv.seq ?_
        refine Sv.region ?_
        refine un (a1 rfl ?_)
        refine un (a1 (v := (.agg [cI r_9, cI 0])) rfl ?_)
        refine un (a2n (h' := upd _ 0 (some (.cells 2 [[cI r_9, cI 0]]))) (n' := 2) rfl rfl (fun h => by cases h) ?_)
        refine dnil ?_
        refine Sv.ret ?_
        replace h := Option.some.inj h
        subst h
        exact ⟨_, .refl _, _, rfl, ⟨upd (fun _ => none) 0 (some (.agg [cI r_9, cI 0])), (fun _ => none), 0⟩, (.agg [cI r_9, cI 0]), weak_canon [] rfl List.nodup_nil (Nat.le_refl _) (fun b h => absurd h (Nat.not_lt_zero _)) (.cons rfl (avAs_free rfl) .nil) .nil, rfl, rfl, rfl, rfl⟩
      · replace h := ifF hc9 h
        refine Sv.skip ?_
        refine Sv.seq ?_
        refine Sv.region ?_
        refine un (a1 (v := (.agg [cI 12, cI 0])) rfl ?_)
        refine un (a2n (h' := upd _ 0 (some (.cells 2 [[cI 12, cI 0]]))) (n' := 2) rfl rfl (fun h => by cases h) ?_)
        refine dnil ?_
        refine Sv.ret ?_
        replace h := Option.some.inj h
        subst h
        exact ⟨_, .refl _, _, rfl, ⟨upd (fun _ => none) 0 (some (.agg [cI 12, cI 0])), (fun _ => none), 0⟩, (.agg [cI 12, cI 0]), weak_canon [] rfl List.nodup_nil (Nat.le_refl _) (fun b h => absurd h (Nat.not_lt_zero _)) (.cons rfl (avAs_free rfl) .nil) .nil, rfl, rfl, rfl, rfl⟩
/-- clerestory/media.feature -/
noncomputable def media_feature (l_ : (List TSToken)) : Option TSFeature :=
  if (!decide ((l_.length : Int) = 3)) then
    media_feature_j1 l_ true
  else
    (at? l_ 1).bind fun x_3 =>
    media_feature_j1 l_ (!decide (x_3.Raw = [58]))
theorem media_feature_ok {mL : Int} {l_ : (List TSToken)} {r : TSFeature} (h : media_feature l_ = some r) : CPure Tryz.prog (GG mL) 82 [(.c (.ro false 4 (l_.map e_TSToken)))] (.agg [cI r.Kind, cI r.Num]) := by
  refine acalls_of_sv hmix c82 (R := media_feature_post r) ?_
  unfold media_feature at h
  refine Sv.seq ?_
  refine Sv.region ?_
  refine un (a2v (v := (.c (.ref 0 2 0 0))) (h' := upd _ 0 (some (.cells 2 [[cI 0, cI 0]]))) (n' := 1) rfl rfl (fun h => by cases h) ?_)
  refine dnil ?_
  refine Sv.seq ?_
  refine Sv.region ?_
  refine un (a1 (v := (.agg [cI 12, cI 0])) rfl ?_)
  refine un (a2v (v := (.c (.ref 1 2 0 0))) (h' := upd _ 1 (some (.cells 2 [[cI 0, cI 0]]))) (n' := 2) rfl rfl (fun h => by cases h) ?_)
  refine un (a2n (h' := upd _ 1 (some (.cells 2 [[cI 12, cI 0]]))) (n' := 2) rfl rfl (fun h => by cases h) ?_)
  refine dnil ?_
  refine Sv.seq ?_
  refine Sv.seq ?_
  refine Sv.region ?_
  refine un (a1 rfl ?_)
  refine un (a1 (v := (I (l_.length : Int))) (s_len (e := e_TSToken) (xs := l_) rfl) ?_)
  refine un (a1 (v := (B (!decide ((l_.length : Int) = 3)))) rfl ?_)
  refine un (a1 rfl ?_)
  refine split2 (fun hc10 => ?_) (fun hc10 => ?_)
  · replace h := ifT hc10 h
    refine gs rfl rfl ?_
    refine gs rfl rfl ?_
    refine gs rfl rfl ?_
    refine gs rfl rfl ?_
    refine gs rfl rfl ?_
    refine un (a1 (v := (B true)) rfl ?_)
    refine dnil ?_
    exact Sv.weak (weak_canon [0, 1] rfl (by decide) (by decide) (fun b h => absurd h (Nat.not_lt_zero _)) (.cons rfl (avAs_free rfl) (.cons rfl (.c (.ref rfl (by decide))) (.cons rfl (.c (.ref rfl (by decide))) (.cons rfl (avAs_free rfl) .nil)))) (.box (by decide) rfl (blkAs_cells (.cons (.same rfl) (.cons (.same rfl) .nil))) (.box (by decide) rfl (blkAs_cells (.cons (.same rfl) (.cons (.same rfl) .nil))) .nil))) (media_feature_j1_ok h)
  · replace h := ifF hc10 h
    refine gt rfl (a1 rfl ?_)
    obtain ⟨x_3, hx8, h⟩ := bnd h
    refine gt rfl (a1 (v := (.c (.rop [cI x_3.Kind, .str x_3.Raw, .str x_3.Value, cI x_3.Num]))) (s_iaddr (e := e_TSToken) (xs := l_) rfl rfl hx8) ?_)
    refine gt rfl (a1 (v := (.c (.rop [.str x_3.Raw, .str x_3.Value, cI x_3.Num]))) rfl ?_)
    refine gt rfl (a1 (v := (S x_3.Raw)) rfl ?_)
    refine gt rfl (a1 (v := (B (!decide (x_3.Raw = [58])))) rfl ?_)
    refine un (a1 (v := (B (!decide (x_3.Raw = [58])))) rfl ?_)
    refine dnil ?_
    exact Sv.weak (weak_canon [0, 1] rfl (by decide) (by decide) (fun b h => absurd h (Nat.not_lt_zero _)) (.cons rfl (avAs_free rfl) (.cons rfl (.c (.ref rfl (by decide))) (.cons rfl (.c (.ref rfl (by decide))) (.cons rfl (avAs_free rfl) .nil)))) (.box (by decide) rfl (blkAs_cells (.cons (.same rfl) (.cons (.same rfl) .nil))) (.box (by decide) rfl (blkAs_cells (.cons (.same rfl) (.cons (.same rfl) .nil))) .nil))) (media_feature_j1_ok h)
def a50_c0 : ACode := (.cond (.tmp 16) (.seq (.region [⟨(some 17), (.faddr 0 (.tmp 4)), none⟩, ⟨none, (.store 1 (.tmp 17) (.const (.c (.val (.bool true))))), none⟩])
 (.region [⟨(some 18), (.mov (.tmp 0)), none⟩, ⟨(some 19), (.slSl 4 (.tmp 18) (some (.const (.c (.val (.int .i64 1))))) none none), none⟩, ⟨(some 0), (.mov (.tmp 19)), none⟩])) .skip)
def a50_c2 : ACode := (.seq (.region [⟨(some 48), (.faddr 1 (.tmp 4)), none⟩, ⟨(some 49), (.load false 1 (.tmp 48)), none⟩, ⟨(some 50), (.load true 2 (.tmp 6)), none⟩, ⟨(some 51), (.bslice 2 [(.val (.int .i64 0)), (.val (.int .i64 0))] 1 [(0, (.tmp 50))]), none⟩, ⟨(some 52), (.app 2 16 (.tmp 49) (.tmp 51)), none⟩, ⟨(some 53), (.faddr 1 (.tmp 4)), none⟩, ⟨none, (.store 1 (.tmp 53) (.tmp 52)), none⟩])
 (.seq (.seq (.region [⟨(some 54), (.mov (.tmp 0)), none⟩, ⟨(some 55), (.mov (.tmp 5)), none⟩, ⟨(some 56), (.slSl 4 (.tmp 54) (some (.tmp 55)) none none), none⟩, ⟨(some 0), (.mov (.tmp 56)), none⟩])
 (.seq (.region [⟨(some 57), (.mov (.tmp 0)), none⟩, ⟨(some 58), (.len (.tmp 57)), none⟩, ⟨(some 59), (.bin .eql (.tmp 58) (.const (.c (.val (.int .i64 0))))), none⟩])
 (.cond (.tmp 59) (.seq (.region [⟨(some 60), (.load true 2 (.tmp 4)), none⟩, ⟨none, (.store 2 (.tmp 2) (.tmp 60)), none⟩, ⟨(some 3), (.mov (.const (.c (.val (.bool true))))), none⟩])
 .ret) .skip)))
 (.seq (.seq (.region [⟨(some 61), (.mov (.tmp 0)), none⟩, ⟨(some 62), (.iaddr 4 (.tmp 61) (.const (.c (.val (.int .i64 0))))), none⟩, ⟨(some 63), (.load true 4 (.tmp 62)), none⟩, ⟨(some 64), (.call 80 [(.tmp 63)]), none⟩, ⟨(some 65), (.bin .neq (.tmp 64) (.const (.c (.str [97, 110, 100])))), none⟩])
 (.cond (.tmp 65) (.seq (.region [⟨(some 66), (.load true 2 (.tmp 4)), none⟩, ⟨none, (.store 2 (.tmp 2) (.tmp 66)), none⟩, ⟨(some 3), (.mov (.const (.c (.val (.bool false))))), none⟩])
 .ret) .skip))
 (.region [⟨(some 67), (.mov (.tmp 0)), none⟩, ⟨(some 68), (.slSl 4 (.tmp 67) (some (.const (.c (.val (.int .i64 1))))) none none), none⟩, ⟨(some 0), (.mov (.tmp 68)), none⟩]))))
def a50_c3 : ACode := (.seq (.seq (.region [⟨(some 20), (.mov (.tmp 0)), none⟩, ⟨(some 21), (.len (.tmp 20)), none⟩, ⟨(some 22), (.bin .gtr (.tmp 21) (.const (.c (.val (.int .i64 0))))), none⟩])
 (.cond (.tmp 22) .skip (.exit 0)))
 (.block 1 (.seq (.region [⟨(some 5), (.mov (.const (.c (.val (.int .i64 1))))), none⟩])
 (.seq (.region [⟨(some 23), (.mov (.tmp 0)), none⟩, ⟨(some 24), (.iaddr 4 (.tmp 23) (.const (.c (.val (.int .i64 0))))), none⟩, ⟨(some 25), (.load true 4 (.tmp 24)), none⟩, ⟨(some 26), (.call 80 [(.tmp 25)]), none⟩, ⟨(some 27), (.call 81 [(.tmp 26)]), none⟩, ⟨(some 28), (.build [(.val (.int .i64 0)), (.val (.int .i64 0))] [(0, (1, (.tmp 27)))]), none⟩, ⟨(some 6), (.box (.const (.agg [(.val (.int .i64 0)), (.val (.int .i64 0))]))), none⟩, ⟨none, (.store 2 (.tmp 6) (.tmp 28)), none⟩])
 (.seq (.seq (.region [⟨(some 29), (.mov (.tmp 0)), none⟩, ⟨(some 30), (.iaddr 4 (.tmp 29) (.const (.c (.val (.int .i64 0))))), none⟩, ⟨(some 31), (.faddr 1 (.tmp 30)), none⟩, ⟨(some 32), (.load false 1 (.tmp 31)), none⟩, ⟨(some 33), (.bin .eql (.tmp 32) (.const (.c (.str [40])))), none⟩])
 (.cond (.tmp 33) (.seq (.seq (.region [⟨(some 34), (.mov (.tmp 0)), none⟩, ⟨(some 35), (.call 79 [(.tmp 34)]), none⟩, ⟨(some 5), (.mov (.tmp 35)), none⟩])
 (.seq (.region [⟨(some 36), (.mov (.tmp 5)), none⟩, ⟨(some 37), (.bin .eql (.tmp 36) (.const (.c (.val (.int .i64 0))))), none⟩])
 (.cond (.tmp 37) (.seq (.region [⟨(some 38), (.load true 2 (.tmp 4)), none⟩, ⟨none, (.store 2 (.tmp 2) (.tmp 38)), none⟩, ⟨(some 3), (.mov (.const (.c (.val (.bool false))))), none⟩])
 .ret) .skip)))
 (.region [⟨(some 39), (.mov (.tmp 0)), none⟩, ⟨(some 40), (.mov (.tmp 5)), none⟩, ⟨(some 41), (.bin .sub (.tmp 40) (.const (.c (.val (.int .i64 1))))), none⟩, ⟨(some 42), (.slSl 4 (.tmp 39) (some (.const (.c (.val (.int .i64 1))))) (some (.tmp 41)) none), none⟩, ⟨(some 43), (.call 82 [(.tmp 42)]), none⟩, ⟨none, (.store 2 (.tmp 6) (.tmp 43)), none⟩])) (.seq (.region [⟨(some 44), (.faddr 0 (.tmp 6)), none⟩, ⟨(some 45), (.load false 1 (.tmp 44)), none⟩, ⟨(some 46), (.bin .gtr (.tmp 45) (.const (.c (.val (.int .i64 3))))), none⟩])
 (.cond (.tmp 46) (.seq (.region [⟨(some 47), (.load true 2 (.tmp 4)), none⟩, ⟨none, (.store 2 (.tmp 2) (.tmp 47)), none⟩, ⟨(some 3), (.mov (.const (.c (.val (.bool false))))), none⟩])
 .ret) .skip))))
 a50_c2)))))
def a50_c1 : ACode := (.seq (.block 0 (.loop a50_c3))
 (.seq (.region [⟨(some 69), (.load true 2 (.tmp 4)), none⟩, ⟨none, (.store 2 (.tmp 2) (.tmp 69)), none⟩, ⟨(some 3), (.mov (.const (.c (.val (.bool false))))), none⟩])
 .ret))
def a50 : AFunc := ⟨1, [(.cell true 2 2), (.tmp 3)], (.seq (.region [⟨(some 2), (.box (.const (.agg [(.val (.bool false)), (.ro true 2 [])]))), none⟩, ⟨(some 3), (.mov (.const (.c (.val (.bool false))))), none⟩])
 (.seq (.region [⟨(some 4), (.box (.const (.agg [(.val (.bool false)), (.ro true 2 [])]))), none⟩])
 (.seq (.seq (.region [⟨(some 7), (.mov (.tmp 0)), none⟩, ⟨(some 8), (.len (.tmp 7)), none⟩, ⟨(some 9), (.bin .gtr (.tmp 8) (.const (.c (.val (.int .i64 0))))), none⟩, ⟨(some 10), (.mov (.tmp 9)), none⟩, ⟨(some 11), (.mov (.tmp 0)), (some (10, true))⟩, ⟨(some 12), (.iaddr 4 (.tmp 11) (.const (.c (.val (.int .i64 0))))), (some (10, true))⟩, ⟨(some 13), (.load true 4 (.tmp 12)), (some (10, true))⟩, ⟨(some 14), (.call 80 [(.tmp 13)]), (some (10, true))⟩, ⟨(some 15), (.bin .eql (.tmp 14) (.const (.c (.str [110, 111, 116])))), (some (10, true))⟩, ⟨(some 16), (.pick (.tmp 10) (.tmp 15) (.const (.c (.val (.bool false))))), none⟩])
 a50_c0)
 a50_c1)))⟩
set_option maxRecDepth 100000 in
theorem c50 : compFunc Tryz.prog 50 = some a50 := by kernel_rfl
def media_query_post (r : (TSQuery × Bool)) : AV → Heap → Nat → Prop := fun v h' n' => v = (.tup [(.agg [cB r.1.Not, .ro false 2 (r.1.Features.map e_TSFeature)]), (B r.2)]) ∧ (h' = (fun _ => none)) ∧ n' = 0
abbrev media_query_q0 (mL : Int) (Q : AExit → St → Prop) : AExit → St → Prop := ABlock 1 Q
abbrev media_query_l0_H (q0 : Bool) (F_ : (List TSToken) → (List TSFeature) → Option (TSQuery × Bool)) (o : (TSQuery × Bool)) (R_ : St → Prop) : Prop := ∀ (l_2 : (List TSToken)) (q1 : (List TSFeature)) (zq1 : Bool) (_ : zq1 = true → q1 = []), F_ l_2 q1 = some o → ∀ s, Weak 0 s ⟨(upd (upd (upd (fun _ => none) 0 (some (.c (.ro false 4 (l_2.map e_TSToken))))) 2 (some (.c (.ref 0 2 0 0)))) 4 (some (.c (.ref 1 2 0 0)))), (upd (upd (upd (fun _ => none) 0 (some (.cells 2 [[cB false, .ro true 2 []]]))) 1 (some (.cells 2 [[cB q0, lstC zq1 2 2 q1.length]]))) 2 (lstB zq1 2 (q1.map e_TSFeature))), 3⟩ → R_ s
abbrev media_query_l0_E0 (q0 : Bool) (F_ : (List TSFeature) → Option (TSQuery × Bool)) (o : (TSQuery × Bool)) (R_ : St → Prop) : Prop := ∀ (q11 : (List TSFeature)) (zq11 : Bool) (_ : zq11 = true → q11 = []), F_ q11 = some o → ∀ s, Weak 0 s ⟨(upd (upd (fun _ => none) 2 (some (.c (.ref 0 2 0 0)))) 4 (some (.c (.ref 1 2 0 0)))), (upd (upd (upd (fun _ => none) 0 (some (.cells 2 [[cB false, .ro true 2 []]]))) 1 (some (.cells 2 [[cB q0, lstC zq11 2 2 q11.length]]))) 2 (lstB zq11 2 (q11.map e_TSFeature))), 3⟩ → R_ s
noncomputable def media_query_j6 (l_2 : (List TSToken)) (q0 : Bool) (self : (List TSToken) → (List TSFeature) → Option (TSQuery × Bool)) (K0_ : (List TSFeature) → Option (TSQuery × Bool)) (q12 : (List TSFeature)) (n_ : Int) (f0 : Int) (f1 : Int) : Option (TSQuery × Bool) :=
  (app? 16 q12 [(⟨f0, f1⟩ : TSFeature)]).bind fun r_2 =>
  (sub? l_2 n_ (l_2.length : Int)).bind fun r_3 =>
  if decide ((r_3.length : Int) = 0) then
    some ((⟨q0, r_2⟩ : TSQuery), true)
  else
    (at? r_3 0).bind fun x_1 =>
    (media_word x_1).bind fun r_4 =>
    if (!decide (r_4 = [97, 110, 100])) then
      some ((⟨q0, r_2⟩ : TSQuery), false)
    else
      (sub? r_3 1 (r_3.length : Int)).bind fun r_5 =>
      self r_5 r_2
theorem media_query_j6_ok {mL : Int} {Q : AExit → St → Prop} {l_2 : (List TSToken)} {q0 : Bool} {self : (List TSToken) → (List TSFeature) → Option (TSQuery × Bool)} {K0_ : (List TSFeature) → Option (TSQuery × Bool)} {q12 : (List TSFeature)} {n_ : Int} {f0 : Int} {f1 : Int} {zq12 : Bool} (hzq12 : zq12 = true → q12 = []) {o : (TSQuery × Bool)} (h : media_query_j6 l_2 q0 self K0_ q12 n_ f0 f1 = some o)
    (hself : media_query_l0_H q0 self o (Q .normal))
    (hK0 : media_query_l0_E0 q0 K0_ o (Q (.exit 0)))
    (hr : ∀ s, Ends a50.results 0 (media_query_post o) .ret s → Q .ret s) :
    Sv Tryz.prog (GG mL) 0 a50_c2 (media_query_q0 mL Q) ⟨(upd (upd (upd (upd (upd (fun _ => none) 0 (some (.c (.ro false 4 (l_2.map e_TSToken))))) 2 (some (.c (.ref 0 2 0 0)))) 4 (some (.c (.ref 1 2 0 0)))) 5 (some (I n_))) 6 (some (.c (.ref 3 2 0 0)))), (upd (upd (upd (upd (fun _ => none) 0 (some (.cells 2 [[cB false, .ro true 2 []]]))) 1 (some (.cells 2 [[cB q0, lstC zq12 2 2 q12.length]]))) 2 (lstB zq12 2 (q12.map e_TSFeature))) 3 (some (.cells 2 [[cI f0, cI f1]]))), 4⟩ := by
  unfold media_query_j6 at h
  refine Sv.seq ?_
  refine Sv.region ?_
  refine un (a1 (v := (.c (.ref 1 2 0 1))) rfl ?_)
  refine un (a1 (v := (lstV zq12 2 2 q12.length)) rfl ?_)
  refine un (a1 (v := (.agg [cI f0, cI f1])) rfl ?_)
  refine un (a2v (v := (lstV false 4 2 [(⟨f0, f1⟩ : TSFeature)].length)) (h' := upd _ 4 (lstB false 2 ([(⟨f0, f1⟩ : TSFeature)].map e_TSFeature))) (n' := 5) rfl rfl (fun h => by cases h) ?_)
  obtain ⟨r_2, hr3, h⟩ := bnd h
  have hz1 : (zq12 && [(⟨f0, f1⟩ : TSFeature)].isEmpty) = true → r_2 = [] := app_nil (z := zq12) (ys := [(⟨f0, f1⟩ : TSFeature)]) hzq12 hr3
  refine un (a2v rfl (s_app (xs := q12) (ys := [(⟨f0, f1⟩ : TSFeature)]) (e := e_TSFeature) (z := zq12) (b := 2) rfl rfl hzq12 rfl rfl (slc_lst rfl (List.length_map _).symm (map_nil_of (fun h => by cases h))) hr3) (fun h => by cases h) ?_)
  refine un (a1 (v := (.c (.ref 1 2 0 1))) rfl ?_)
  refine un (a2n (h' := upd _ 1 (some (.cells 2 [[cB q0, lstC (zq12 && [(⟨f0, f1⟩ : TSFeature)].isEmpty) 5 2 r_2.length]]))) (n' := 6) rfl rfl (fun h => by cases h) ?_)
  refine dnil ?_
  refine Sv.seq ?_
  refine Sv.seq ?_
  refine Sv.region ?_
  refine un (a1 rfl ?_)
  refine un (a1 rfl ?_)
  obtain ⟨r_3, hx2, h⟩ := bnd h
  refine un (a1 (v := (.c (.ro false 4 (r_3.map e_TSToken)))) (s_slSl (e := e_TSToken) rfl rfl rfl hx2) ?_)
  refine un (a1 rfl ?_)
  refine dnil ?_
  refine Sv.seq ?_
  refine Sv.region ?_
  refine un (a1 rfl ?_)
  refine un (a1 (v := (I (r_3.length : Int))) (s_len (e := e_TSToken) (xs := r_3) rfl) ?_)
  refine un (a1 (v := (B (decide ((r_3.length : Int) = 0)))) rfl ?_)
  refine dnil ?_
  refine Sv.cond (b := decide ((r_3.length : Int) = 0)) rfl (fun hc2 => ?_) (fun hc2 => ?_)
  · replace h := ifT hc2 h
    refine Sv.seq ?_
    refine Sv.region ?_
    refine un (a1 (v := (.agg [cB q0, lstC (zq12 && [(⟨f0, f1⟩ : TSFeature)].isEmpty) 5 2 r_2.length])) rfl ?_)
    refine un (a2n (h' := upd _ 0 (some (.cells 2 [[cB q0, lstC (zq12 && [(⟨f0, f1⟩ : TSFeature)].isEmpty) 5 2 r_2.length]]))) (n' := 6) rfl rfl (fun h => by cases h) ?_)
    refine un (a1 rfl ?_)
    refine dnil ?_
    refine Sv.ret ?_
    replace h := Option.some.inj h
    subst h
    exact hr _ ⟨_, .refl _, _, rfl, ⟨upd (fun _ => none) 0 (some (.tup [(.agg [cB q0, .ro false 2 (r_2.map e_TSFeature)]), (B true)])), (fun _ => none), 0⟩, (.tup [(.agg [cB q0, .ro false 2 (r_2.map e_TSFeature)]), (B true)]), weak_canon [] rfl List.nodup_nil (Nat.le_refl _) (fun b h => absurd h (Nat.not_lt_zero _)) (.cons rfl (avAs_tup (.cons (avAs_agg (.cons (.same rfl) (.cons (lstC_ro (es := List.map e_TSFeature r_2) rfl (List.length_map e_TSFeature).symm (map_nil_of hz1) (fun b x hx => not_in (bs := []) rfl b (((.nil) : HLt _ _) b x hx)) (fr_map fun _ => rfl)) .nil))) (.cons (avAs_free rfl) .nil))) .nil) .nil, rfl, rfl, rfl, rfl⟩
  · replace h := ifF hc2 h
    refine Sv.skip ?_
    refine Sv.seq ?_
    refine Sv.seq ?_
    refine Sv.region ?_
    refine un (a1 rfl ?_)
    obtain ⟨x_1, hx3, h⟩ := bnd h
    refine un (a1 (v := (.c (.rop [cI x_1.Kind, .str x_1.Raw, .str x_1.Value, cI x_1.Num]))) (s_iaddr (e := e_TSToken) (xs := r_3) rfl rfl hx3) ?_)
    refine un (a1 (v := (.agg [cI x_1.Kind, .str x_1.Raw, .str x_1.Value, cI x_1.Num])) rfl ?_)
    obtain ⟨r_4, hr4, h⟩ := bnd h
    refine un (ac_pure (media_word_ok hr4) rfl rfl rfl ?_)
    refine un (a1 (v := (B (!decide (r_4 = [97, 110, 100])))) rfl ?_)
    refine dnil ?_
    refine Sv.cond (b := (!decide (r_4 = [97, 110, 100]))) rfl (fun hc3 => ?_) (fun hc3 => ?_)
    · replace h := ifT hc3 h
      refine Sv.seq ?_
      refine Sv.region ?_
      refine un (a1 (v := (.agg [cB q0, lstC (zq12 && [(⟨f0, f1⟩ : TSFeature)].isEmpty) 5 2 r_2.length])) rfl ?_)
      refine un (a2n (h' := upd _ 0 (some (.cells 2 [[cB q0, lstC (zq12 && [(⟨f0, f1⟩ : TSFeature)].isEmpty) 5 2 r_2.length]]))) (n' := 6) rfl rfl (fun h => by cases h) ?_)
      refine un (a1 rfl ?_)
      refine dnil ?_
      refine Sv.ret ?_
      replace h := Option.some.inj h
      subst h
      exact hr _ ⟨_, .refl _, _, rfl, ⟨upd (fun _ => none) 0 (some (.tup [(.agg [cB q0, .ro false 2 (r_2.map e_TSFeature)]), (B false)])), (fun _ => none), 0⟩, (.tup [(.agg [cB q0, .ro false 2 (r_2.map e_TSFeature)]), (B false)]), weak_canon [] rfl List.nodup_nil (Nat.le_refl _) (fun b h => absurd h (Nat.not_lt_zero _)) (.cons rfl (avAs_tup (.cons (avAs_agg (.cons (.same rfl) (.cons (lstC_ro (es := List.map e_TSFeature r_2) rfl (List.length_map e_TSFeature).symm (map_nil_of hz1) (fun b x hx => not_in (bs := []) rfl b (((.nil) : HLt _ _) b x hx)) (fr_map fun _ => rfl)) .nil))) (.cons (avAs_free rfl) .nil))) .nil) .nil, rfl, rfl, rfl, rfl⟩
    · replace h := ifF hc3 h
      refine Sv.skip ?_
      refine Sv.region ?_
      refine un (a1 rfl ?_)
      obtain ⟨r_5, hx4, h⟩ := bnd h
      refine un (a1 (v := (.c (.ro false 4 (r_5.map e_TSToken)))) (s_slSl (e := e_TSToken) rfl rfl rfl hx4) ?_)
      refine un (a1 rfl ?_)
      refine dnil ?_
      exact hself r_5 r_2 (zq12 && [(⟨f0, f1⟩ : TSFeature)].isEmpty) hz1 h _ (weak_canon [0, 1, 5] rfl (by decide) (by decide) (fun b h => absurd h (Nat.not_lt_zero _)) (.cons rfl (.c (.ref rfl (by decide))) (.cons rfl (.c (.ref rfl (by decide))) (.cons rfl (avAs_free rfl) .nil))) (.row (by decide) rfl (fr_map fun _ => rfl) (.box (by decide) rfl (blkAs_cells (.cons (.same rfl) (.cons (lstC_ren rfl (by decide)) .nil))) (.box (by decide) rfl (blkAs_cells (.cons (.same rfl) (.cons (.same rfl) .nil))) .nil))))
abbrev media_query_l0_I (q0 : Bool) (F_ : Nat → (List TSToken) → (List TSFeature) → Option (TSQuery × Bool)) (o : (TSQuery × Bool)) : Nat → St → Prop := fun k s => ∃ (l_2 : (List TSToken)), ∃ (q1 : (List TSFeature)), ∃ (zq1 : Bool), (zq1 = true → q1 = []) ∧ F_ k l_2 q1 = some o ∧ s = ⟨(upd (upd (upd (fun _ => none) 0 (some (.c (.ro false 4 (l_2.map e_TSToken))))) 2 (some (.c (.ref 0 2 0 0)))) 4 (some (.c (.ref 1 2 0 0)))), (upd (upd (upd (fun _ => none) 0 (some (.cells 2 [[cB false, .ro true 2 []]]))) 1 (some (.cells 2 [[cB q0, lstC zq1 2 2 q1.length]]))) 2 (lstB zq1 2 (q1.map e_TSFeature))), 3⟩
noncomputable def media_query_l0 (q0 : Bool) (K0_ : (List TSFeature) → Option (TSQuery × Bool)) : Nat → (List TSToken) → (List TSFeature) → Option (TSQuery × Bool)
  | 0, _, _ => none
  | k + 1, l_2, q1 =>
    if decide (0 < (l_2.length : Int)) then
      (at? l_2 0).bind fun x_ =>
      (media_word x_).bind fun r_ =>
      (media_kind r_).bind fun r_1 =>
      (at? l_2 0).bind fun x_2 =>
      if decide (x_2.Raw = [40]) then
        (media_end l_2).bind fun r_6 =>
        if decide (r_6 = 0) then
          some ((⟨q0, q1⟩ : TSQuery), false)
        else
          (sub? l_2 1 (wi (r_6 - 1))).bind fun r_7 =>
          (media_feature r_7).bind fun r_8 =>
          media_query_j6 l_2 q0 (media_query_l0 q0 K0_ k) K0_ q1 r_6 r_8.Kind r_8.Num
      else
        if decide (3 < r_1) then
          some ((⟨q0, q1⟩ : TSQuery), false)
        else
          media_query_j6 l_2 q0 (media_query_l0 q0 K0_ k) K0_ q1 1 r_1 0
    else
      K0_ q1
theorem media_query_l0_ok {mL : Int} {Q : AExit → St → Prop} {q0 : Bool} {K0_ : (List TSFeature) → Option (TSQuery × Bool)} {k : Nat} {l_2 : (List TSToken)} {q1 : (List TSFeature)} {zq1 : Bool} (hzq1 : zq1 = true → q1 = []) {o : (TSQuery × Bool)} (h : media_query_l0 q0 K0_ k l_2 q1 = some o)
    (hK0 : media_query_l0_E0 q0 K0_ o (Q (.exit 0)))
    (hr : ∀ s, Ends a50.results 0 (media_query_post o) .ret s → Q .ret s) :
    Sv Tryz.prog (GG mL) 0 (.loop a50_c3) Q ⟨(upd (upd (upd (fun _ => none) 0 (some (.c (.ro false 4 (l_2.map e_TSToken))))) 2 (some (.c (.ref 0 2 0 0)))) 4 (some (.c (.ref 1 2 0 0)))), (upd (upd (upd (fun _ => none) 0 (some (.cells 2 [[cB false, .ro true 2 []]]))) 1 (some (.cells 2 [[cB q0, lstC zq1 2 2 q1.length]]))) 2 (lstB zq1 2 (q1.map e_TSFeature))), 3⟩ := by
  refine Sv.loop (I := media_query_l0_I q0 (media_query_l0 q0 K0_) o) (fun k s hI => ?_) ⟨l_2, q1, zq1, hzq1, h, rfl⟩
  clear h
  clear hzq1 zq1 q1 l_2
  obtain ⟨l_2, q1, zq1, hzq1, h, rfl⟩ := hI
  cases k with
  | zero => cases h
  | succ k =>
  rw [media_query_l0] at h
  have hself : media_query_l0_H q0 (media_query_l0 q0 K0_ k) o (rnd 0 (media_query_l0_I q0 (media_query_l0 q0 K0_) o) k Q) := fun l_2 q1 zq1 hzq1 h s hw => ⟨_, k, hw, Nat.lt_succ_self k, l_2, q1, zq1, hzq1, h, rfl⟩
  refine Sv.seq ?_
  refine Sv.seq ?_
  refine Sv.region ?_
  refine un (a1 rfl ?_)
  refine un (a1 (v := (I (l_2.length : Int))) (s_len (e := e_TSToken) (xs := l_2) rfl) ?_)
  refine un (a1 (v := (B (decide (0 < (l_2.length : Int))))) rfl ?_)
  refine dnil ?_
  refine Sv.cond (b := decide (0 < (l_2.length : Int))) rfl (fun hc1 => ?_) (fun hc1 => ?_)
  · replace h := ifT hc1 h
    refine Sv.skip ?_
    refine Sv.block ?_
    refine Sv.seq ?_
    refine Sv.region ?_
    refine un (a1 rfl ?_)
    refine dnil ?_
    refine Sv.seq ?_
    refine Sv.region ?_
    refine un (a1 rfl ?_)
    obtain ⟨x_, hx1, h⟩ := bnd h
    refine un (a1 (v := (.c (.rop [cI x_.Kind, .str x_.Raw, .str x_.Value, cI x_.Num]))) (s_iaddr (e := e_TSToken) (xs := l_2) rfl rfl hx1) ?_)
    refine un (a1 (v := (.agg [cI x_.Kind, .str x_.Raw, .str x_.Value, cI x_.Num])) rfl ?_)
    obtain ⟨r_, hr1, h⟩ := bnd h
    refine un (ac_pure (media_word_ok hr1) rfl rfl rfl ?_)
    obtain ⟨r_1, hr2, h⟩ := bnd h
    refine un (ac_pure (media_kind_ok hr2) rfl rfl rfl ?_)
    refine un (a1 (v := (.agg [cI r_1, cI 0])) rfl ?_)
    refine un (a2v (v := (.c (.ref 3 2 0 0))) (h' := upd _ 3 (some (.cells 2 [[cI 0, cI 0]]))) (n' := 4) rfl rfl (fun h => by cases h) ?_)
    refine un (a2n (h' := upd _ 3 (some (.cells 2 [[cI r_1, cI 0]]))) (n' := 4) rfl rfl (fun h => by cases h) ?_)
    refine dnil ?_
    refine Sv.seq ?_
    refine Sv.seq ?_
    refine Sv.region ?_
    refine un (a1 rfl ?_)
    obtain ⟨x_2, hx5, h⟩ := bnd h
    refine un (a1 (v := (.c (.rop [cI x_2.Kind, .str x_2.Raw, .str x_2.Value, cI x_2.Num]))) (s_iaddr (e := e_TSToken) (xs := l_2) rfl rfl hx5) ?_)
    refine un (a1 (v := (.c (.rop [.str x_2.Raw, .str x_2.Value, cI x_2.Num]))) rfl ?_)
    refine un (a1 (v := (S x_2.Raw)) rfl ?_)
    refine un (a1 (v := (B (decide (x_2.Raw = [40])))) rfl ?_)
    refine dnil ?_
    refine Sv.cond (b := decide (x_2.Raw = [40])) rfl (fun hc4 => ?_) (fun hc4 => ?_)
    · replace h := ifT hc4 h
      refine Sv.seq ?_
      refine Sv.seq ?_
      refine Sv.region ?_
      refine un (a1 rfl ?_)
      obtain ⟨r_6, hr5, h⟩ := bnd h
      refine un (ac_pure (media_end_ok hr5) rfl rfl rfl ?_)
      refine un (a1 rfl ?_)
      refine dnil ?_
      refine Sv.seq ?_
      refine Sv.region ?_
      refine un (a1 rfl ?_)
      refine un (a1 (v := (B (decide (r_6 = 0)))) rfl ?_)
      refine dnil ?_
      refine Sv.cond (b := decide (r_6 = 0)) rfl (fun hc5 => ?_) (fun hc5 => ?_)
      · replace h := ifT hc5 h
        refine Sv.seq ?_
        refine Sv.region ?_
        refine un (a1 (v := (.agg [cB q0, lstC zq1 2 2 q1.length])) rfl ?_)
        refine un (a2n (h' := upd _ 0 (some (.cells 2 [[cB q0, lstC zq1 2 2 q1.length]]))) (n' := 4) rfl rfl (fun h => by cases h) ?_)
        refine un (a1 rfl ?_)
        refine dnil ?_
        refine Sv.ret ?_
        replace h := Option.some.inj h
        subst h
        exact hr _ ⟨_, .refl _, _, rfl, ⟨upd (fun _ => none) 0 (some (.tup [(.agg [cB q0, .ro false 2 (q1.map e_TSFeature)]), (B false)])), (fun _ => none), 0⟩, (.tup [(.agg [cB q0, .ro false 2 (q1.map e_TSFeature)]), (B false)]), weak_canon [] rfl List.nodup_nil (Nat.le_refl _) (fun b h => absurd h (Nat.not_lt_zero _)) (.cons rfl (avAs_tup (.cons (avAs_agg (.cons (.same rfl) (.cons (lstC_ro (es := List.map e_TSFeature q1) rfl (List.length_map e_TSFeature).symm (map_nil_of hzq1) (fun b x hx => not_in (bs := []) rfl b (((.nil) : HLt _ _) b x hx)) (fr_map fun _ => rfl)) .nil))) (.cons (avAs_free rfl) .nil))) .nil) .nil, rfl, rfl, rfl, rfl⟩
      · replace h := ifF hc5 h
        refine Sv.skip ?_
        refine Sv.region ?_
        refine un (a1 rfl ?_)
        refine un (a1 rfl ?_)
        refine un (a1 (v := (I (wi (r_6 - 1)))) rfl ?_)
        obtain ⟨r_7, hx6, h⟩ := bnd h
        refine un (a1 (v := (.c (.ro false 4 (r_7.map e_TSToken)))) (s_slSl (e := e_TSToken) rfl rfl rfl hx6) ?_)
        obtain ⟨r_8, hr6, h⟩ := bnd h
        refine un (ac_pure (media_feature_ok hr6) rfl rfl rfl ?_)
        refine un (a2n (h' := upd _ 3 (some (.cells 2 [[cI r_8.Kind, cI r_8.Num]]))) (n' := 4) rfl rfl (fun h => by cases h) ?_)
        refine dnil ?_
        exact Sv.weak (weak_canon [0, 1, 2, 3] rfl (by decide) (by decide) (fun b h => absurd h (Nat.not_lt_zero _)) (.cons rfl (.c (.ref rfl (by decide))) (.cons rfl (avAs_free rfl) (.cons rfl (.c (.ref rfl (by decide))) (.cons rfl (.c (.ref rfl (by decide))) (.cons rfl (avAs_free rfl) .nil))))) (.box (by decide) rfl (blkAs_cells (.cons (.same rfl) (.cons (.same rfl) .nil))) (.row (by decide) rfl (fr_map fun _ => rfl) (.box (by decide) rfl (blkAs_cells (.cons (.same rfl) (.cons (lstC_ren rfl (by decide)) .nil))) (.box (by decide) rfl (blkAs_cells (.cons (.same rfl) (.cons (.same rfl) .nil))) .nil))))) (media_query_j6_ok hzq1 h hself hK0 hr)
    · replace h := ifF hc4 h
      refine Sv.seq ?_
      refine Sv.region ?_
      refine un (a1 (v := (.c (.ref 3 2 0 0))) rfl ?_)
      refine un (a1 (v := (I r_1)) rfl ?_)
      refine un (a1 (v := (B (decide (3 < r_1)))) rfl ?_)
      refine dnil ?_
      refine Sv.cond (b := decide (3 < r_1)) rfl (fun hc6 => ?_) (fun hc6 => ?_)
      · replace h := ifT hc6 h
        refine Sv.seq ?_
        refine Sv.region ?_
        refine un (a1 (v := (.agg [cB q0, lstC zq1 2 2 q1.length])) rfl ?_)
        refine un (a2n (h' := upd _ 0 (some (.cells 2 [[cB q0, lstC zq1 2 2 q1.length]]))) (n' := 4) rfl rfl (fun h => by cases h) ?_)
        refine un (a1 rfl ?_)
        refine dnil ?_
        refine Sv.ret ?_
        replace h := Option.some.inj h
        subst h
        exact hr _ ⟨_, .refl _, _, rfl, ⟨upd (fun _ => none) 0 (some (.tup [(.agg [cB q0, .ro false 2 (q1.map e_TSFeature)]), (B false)])), (fun _ => none), 0⟩, (.tup [(.agg [cB q0, .ro false 2 (q1.map e_TSFeature)]), (B false)]), weak_canon [] rfl List.nodup_nil (Nat.le_refl _) (fun b h => absurd h (Nat.not_lt_zero _)) (.cons rfl (avAs_tup (.cons (avAs_agg (.cons (.same rfl) (.cons (lstC_ro (es := List.map e_TSFeature q1) rfl (List.length_map e_TSFeature).symm (map_nil_of hzq1) (fun b x hx => not_in (bs := []) rfl b (((.nil) : HLt _ _) b x hx)) (fr_map fun _ => rfl)) .nil))) (.cons (avAs_free rfl) .nil))) .nil) .nil, rfl, rfl, rfl, rfl⟩
      · replace h := ifF hc6 h
        refine Sv.skip ?_
        exact Sv.weak (weak_canon [0, 1, 2, 3] rfl (by decide) (by decide) (fun b h => absurd h (Nat.not_lt_zero _)) (.cons rfl (.c (.ref rfl (by decide))) (.cons rfl (avAs_free rfl) (.cons rfl (.c (.ref rfl (by decide))) (.cons rfl (.c (.ref rfl (by decide))) (.cons rfl (avAs_free rfl) .nil))))) (.box (by decide) rfl (blkAs_cells (.cons (.same rfl) (.cons (.same rfl) .nil))) (.row (by decide) rfl (fr_map fun _ => rfl) (.box (by decide) rfl (blkAs_cells (.cons (.same rfl) (.cons (lstC_ren rfl (by decide)) .nil))) (.box (by decide) rfl (blkAs_cells (.cons (.same rfl) (.cons (.same rfl) .nil))) .nil))))) (media_query_j6_ok hzq1 h hself hK0 hr)
  · replace h := ifF hc1 h
    refine Sv.exit ?_
    exact hK0 q1 zq1 hzq1 h _ (weak_canon [0, 1, 2] rfl (by decide) (by decide) (fun b h => absurd h (Nat.not_lt_zero _)) (.cons rfl (.c (.ref rfl (by decide))) (.cons rfl (.c (.ref rfl (by decide))) .nil)) (.row (by decide) rfl (fr_map fun _ => rfl) (.box (by decide) rfl (blkAs_cells (.cons (.same rfl) (.cons (lstC_ren rfl (by decide)) .nil))) (.box (by decide) rfl (blkAs_cells (.cons (.same rfl) (.cons (.same rfl) .nil))) .nil))))
noncomputable def media_query_j3 (l_1 : (List TSToken)) (q0 : Bool) : Option (TSQuery × Bool) :=
  limF fun kk => media_query_l0 q0 (fun (q11 : (List TSFeature)) => 
      some ((⟨q0, q11⟩ : TSQuery), false)) kk l_1 ([] : List TSFeature)
theorem media_query_j3_ok {mL : Int} {l_1 : (List TSToken)} {q0 : Bool} {o : (TSQuery × Bool)} (h : media_query_j3 l_1 q0 = some o) :
    Sv Tryz.prog (GG mL) 0 a50_c1 (Ends a50.results 0 (media_query_post o)) ⟨(upd (upd (upd (fun _ => none) 0 (some (.c (.ro false 4 (l_1.map e_TSToken))))) 2 (some (.c (.ref 0 2 0 0)))) 4 (some (.c (.ref 1 2 0 0)))), (upd (upd (fun _ => none) 0 (some (.cells 2 [[cB false, .ro true 2 []]]))) 1 (some (.cells 2 [[cB q0, .ro true 2 []]]))), 2⟩ := by
  unfold media_query_j3 at h
  refine Sv.seq ?_
  refine Sv.block ?_
  obtain ⟨kk, h⟩ := limF_some h
  refine Sv.weak (weak_canon [0, 1, 1000] rfl (by decide) (by decide) (fun b h => absurd h (Nat.not_lt_zero _)) (.cons rfl (.c (.ref rfl (by decide))) (.cons rfl (.c (.ref rfl (by decide))) (.cons rfl (avAs_free rfl) .nil))) (.non (by decide) (.box (by decide) rfl (blkAs_cells (.cons (.same rfl) (.cons (.same rfl) .nil))) (.box (by decide) rfl (blkAs_cells (.cons (.same rfl) (.cons (.same rfl) .nil))) .nil)))) (media_query_l0_ok (fun _ => rfl) h ?_ (fun s hs => hs))
  · intro q11 zq11 hzq11 h _ hw1
    refine Sv.weak hw1 ?_
    refine Sv.seq ?_
    refine Sv.region ?_
    refine un (a1 (v := (.agg [cB q0, lstC zq11 2 2 q11.length])) rfl ?_)
    refine un (a2n (h' := upd _ 0 (some (.cells 2 [[cB q0, lstC zq11 2 2 q11.length]]))) (n' := 3) rfl rfl (fun h => by cases h) ?_)
    refine un (a1 rfl ?_)
    refine dnil ?_
    refine Sv.ret ?_
    replace h := Option.some.inj h
    subst h
    exact ⟨_, .refl _, _, rfl, ⟨upd (fun _ => none) 0 (some (.tup [(.agg [cB q0, .ro false 2 (q11.map e_TSFeature)]), (B false)])), (fun _ => none), 0⟩, (.tup [(.agg [cB q0, .ro false 2 (q11.map e_TSFeature)]), (B false)]), weak_canon [] rfl List.nodup_nil (Nat.le_refl _) (fun b h => absurd h (Nat.not_lt_zero _)) (.cons rfl (avAs_tup (.cons (avAs_agg (.cons (.same rfl) (.cons (lstC_ro (es := List.map e_TSFeature q11) rfl (List.length_map e_TSFeature).symm (map_nil_of hzq11) (fun b x hx => not_in (bs := []) rfl b (((.nil) : HLt _ _) b x hx)) (fr_map fun _ => rfl)) .nil))) (.cons (avAs_free rfl) .nil))) .nil) .nil, rfl, rfl, rfl, rfl⟩
abbrev media_query_q1 (mL : Int) (o : (TSQuery × Bool)) : AExit → St → Prop := AThen (Sv Tryz.prog (GG mL) 0 a50_c1 (Ends a50.results 0 (media_query_post o))) (Ends a50.results 0 (media_query_post o))
noncomputable def media_query_j7 (l_ : (List TSToken)) (v16 : Bool) : Option (TSQuery × Bool) :=
  if v16 then
    (sub? l_ 1 (l_.length : Int)).bind fun r_9 =>
    media_query_j3 r_9 true
  else
    media_query_j3 l_ false
theorem media_query_j7_ok {mL : Int} {l_ : (List TSToken)} {v16 : Bool} {o : (TSQuery × Bool)} (h : media_query_j7 l_ v16 = some o) :
    Sv Tryz.prog (GG mL) 0 a50_c0 (media_query_q1 mL o) ⟨(upd (upd (upd (upd (fun _ => none) 0 (some (.c (.ro false 4 (l_.map e_TSToken))))) 2 (some (.c (.ref 0 2 0 0)))) 4 (some (.c (.ref 1 2 0 0)))) 16 (some (B v16))), (upd (upd (fun _ => none) 0 (some (.cells 2 [[cB false, .ro true 2 []]]))) 1 (some (.cells 2 [[cB false, .ro true 2 []]]))), 2⟩ := by
  unfold media_query_j7 at h
  refine Sv.cond (b := v16) rfl (fun hc7 => ?_) (fun hc7 => ?_)
  · replace h := ifT hc7 h
    refine Sv.seq ?_
    refine Sv.region ?_
    refine un (a1 (v := (.c (.ref 1 2 0 0))) rfl ?_)
    refine un (a2n (h' := upd _ 1 (some (.cells 2 [[cB true, .ro true 2 []]]))) (n' := 2) rfl rfl (fun h => by cases h) ?_)
    refine dnil ?_
    refine Sv.region ?_
    refine un (a1 rfl ?_)
    obtain ⟨r_9, hx7, h⟩ := bnd h
    refine un (a1 (v := (.c (.ro false 4 (r_9.map e_TSToken)))) (s_slSl (e := e_TSToken) rfl rfl rfl hx7) ?_)
    refine un (a1 rfl ?_)
    refine dnil ?_
    exact Sv.weak (weak_canon [0, 1] rfl (by decide) (by decide) (fun b h => absurd h (Nat.not_lt_zero _)) (.cons rfl (.c (.ref rfl (by decide))) (.cons rfl (.c (.ref rfl (by decide))) (.cons rfl (avAs_free rfl) .nil))) (.box (by decide) rfl (blkAs_cells (.cons (.same rfl) (.cons (.same rfl) .nil))) (.box (by decide) rfl (blkAs_cells (.cons (.same rfl) (.cons (.same rfl) .nil))) .nil))) (media_query_j3_ok h)
  · replace h := ifF hc7 h
    refine Sv.skip ?_
    exact Sv.weak (weak_canon [0, 1] rfl (by decide) (by decide) (fun b h => absurd h (Nat.not_lt_zero _)) (.cons rfl (.c (.ref rfl (by decide))) (.cons rfl (.c (.ref rfl (by decide))) (.cons rfl (avAs_free rfl) .nil))) (.box (by decide) rfl (blkAs_cells (.cons (.same rfl) (.cons (.same rfl) .nil))) (.box (by decide) rfl (blkAs_cells (.cons (.same rfl) (.cons (.same rfl) .nil))) .nil))) (media_query_j3_ok h)
/-- clerestory/media.query -/
noncomputable def media_query (l_ : (List TSToken)) : Option (TSQuery × Bool) :=
  if decide (0 < (l_.length : Int)) then
    (at? l_ 0).bind fun x_3 =>
    (media_word x_3).bind fun r_10 =>
    media_query_j7 l_ (decide (r_10 = [110, 111, 116]))
  else
    media_query_j7 l_ false
theorem media_query_ok {mL : Int} {l_ : (List TSToken)} {r : (TSQuery × Bool)} (h : media_query l_ = some r) : CPure Tryz.prog (GG mL) 50 [(.c (.ro false 4 (l_.map e_TSToken)))] (.tup [(.agg [cB r.1.Not, .ro false 2 (r.1.Features.map e_TSFeature)]), (B r.2)]) := by
  refine acalls_of_sv hmix c50 (R := media_query_post r) ?_
  unfold media_query at h
  refine Sv.seq ?_
  refine Sv.region ?_
  refine un (a2v (v := (.c (.ref 0 2 0 0))) (h' := upd _ 0 (some (.cells 2 [[cB false, .ro true 2 []]]))) (n' := 1) rfl rfl (fun h => by cases h) ?_)
  refine un (a1 rfl ?_)
  refine dnil ?_
  refine Sv.seq ?_
  refine Sv.region ?_
  refine un (a2v (v := (.c (.ref 1 2 0 0))) (h' := upd _ 1 (some (.cells 2 [[cB false, .ro true 2 []]]))) (n' := 2) rfl rfl (fun h => by cases h) ?_)
  refine dnil ?_
  refine Sv.seq ?_
  refine Sv.seq ?_
  refine Sv.region ?_
  refine un (a1 rfl ?_)
  refine un (a1 (v := (I (l_.length : Int))) (s_len (e := e_TSToken) (xs := l_) rfl) ?_)
  refine un (a1 (v := (B (decide (0 < (l_.length : Int))))) rfl ?_)
  refine un (a1 rfl ?_)
  refine split2 (fun hc8 => ?_) (fun hc8 => ?_)
  · replace h := ifT hc8 h
    refine gt rfl (a1 rfl ?_)
    obtain ⟨x_3, hx8, h⟩ := bnd h
    refine gt rfl (a1 (v := (.c (.rop [cI x_3.Kind, .str x_3.Raw, .str x_3.Value, cI x_3.Num]))) (s_iaddr (e := e_TSToken) (xs := l_) rfl rfl hx8) ?_)
    refine gt rfl (a1 (v := (.agg [cI x_3.Kind, .str x_3.Raw, .str x_3.Value, cI x_3.Num])) rfl ?_)
    obtain ⟨r_10, hr7, h⟩ := bnd h
    refine gt rfl (ac_pure (media_word_ok hr7) rfl rfl rfl ?_)
    refine gt rfl (a1 (v := (B (decide (r_10 = [110, 111, 116])))) rfl ?_)
    refine un (a1 (v := (B (decide (r_10 = [110, 111, 116])))) rfl ?_)
    refine dnil ?_
    exact Sv.weak (weak_canon [0, 1] rfl (by decide) (by decide) (fun b h => absurd h (Nat.not_lt_zero _)) (.cons rfl (avAs_free rfl) (.cons rfl (.c (.ref rfl (by decide))) (.cons rfl (.c (.ref rfl (by decide))) (.cons rfl (avAs_free rfl) .nil)))) (.box (by decide) rfl (blkAs_cells (.cons (.same rfl) (.cons (.same rfl) .nil))) (.box (by decide) rfl (blkAs_cells (.cons (.same rfl) (.cons (.same rfl) .nil))) .nil))) (media_query_j7_ok h)
  · replace h := ifF hc8 h
    refine gs rfl rfl ?_
    refine gs rfl rfl ?_
    refine gs rfl rfl ?_
    refine gs rfl rfl ?_
    refine gs rfl rfl ?_
    refine un (a1 (v := (B false)) rfl ?_)
    refine dnil ?_
    exact Sv.weak (weak_canon [0, 1] rfl (by decide) (by decide) (fun b h => absurd h (Nat.not_lt_zero _)) (.cons rfl (avAs_free rfl) (.cons rfl (.c (.ref rfl (by decide))) (.cons rfl (.c (.ref rfl (by decide))) (.cons rfl (avAs_free rfl) .nil)))) (.box (by decide) rfl (blkAs_cells (.cons (.same rfl) (.cons (.same rfl) .nil))) (.box (by decide) rfl (blkAs_cells (.cons (.same rfl) (.cons (.same rfl) .nil))) .nil))) (media_query_j7_ok h)
def a30_c0 : ACode := (.region [⟨(some 40), (.mov (.tmp 5)), none⟩, ⟨(some 41), (.load true 2 (.tmp 8)), none⟩, ⟨(some 42), (.bslice 2 [(.val (.bool false)), (.ro true 2 [])] 1 [(0, (.tmp 41))]), none⟩, ⟨(some 43), (.app 2 32 (.tmp 40) (.tmp 42)), none⟩, ⟨(some 5), (.mov (.tmp 43)), none⟩])
def a30_c1 : ACode := (.region [⟨(some 44), (.bin .add (.tmp 26) (.const (.c (.val (.int .i64 1))))), none⟩, ⟨(some 26), (.mov (.tmp 44)), none⟩])
def a30_c2 : ACode := (.seq (.region [⟨(some 27), (.bin .lss (.tmp 26) (.tmp 25)), none⟩])
 (.seq (.cond (.tmp 27) .skip (.exit 0))
 (.seq (.block 1 (.seq (.region [⟨(some 28), (.iaddr 1 (.tmp 24) (.tmp 26)), none⟩, ⟨(some 29), (.load false 1 (.tmp 28)), none⟩, ⟨(some 7), (.mov (.tmp 29)), none⟩])
 (.seq (.region [⟨(some 31), (.mov (.tmp 7)), none⟩, ⟨(some 32), (.call 50 [(.tmp 31)]), none⟩, ⟨(some 30), (.mov (.tmp 32)), none⟩, ⟨(some 33), (.ext (.tmp 30) 0), none⟩, ⟨(some 34), (.ext (.tmp 30) 1), none⟩, ⟨(some 8), (.box (.const (.agg [(.val (.bool false)), (.ro true 2 [])]))), none⟩, ⟨none, (.store 2 (.tmp 8) (.tmp 33)), none⟩, ⟨(some 9), (.mov (.tmp 34)), none⟩])
 (.seq (.seq (.region [⟨(some 35), (.mov (.tmp 9)), none⟩, ⟨(some 36), (.un .not (.tmp 35)), none⟩])
 (.cond (.tmp 36) (.region [⟨(some 37), (.build [(.val (.int .i64 0)), (.val (.int .i64 0))] [(0, (1, (.const (.c (.val (.int .i64 12))))))]), none⟩, ⟨(some 38), (.bslice 2 [(.val (.int .i64 0)), (.val (.int .i64 0))] 1 [(0, (.tmp 37))]), none⟩, ⟨(some 39), (.build [(.val (.bool false)), (.ro true 2 [])] [(1, (1, (.tmp 38)))]), none⟩, ⟨none, (.store 2 (.tmp 8) (.tmp 39)), none⟩]) .skip))
 a30_c0))))
 a30_c1)))
def a30 : AFunc := ⟨1, [(.tmp 2), (.tmp 3)], (.seq (.region [⟨(some 2), (.mov (.const (.c (.ro true 2 [])))), none⟩, ⟨(some 3), (.mov (.const (.c (.val (.int .i64 0))))), none⟩])
 (.seq (.seq (.region [⟨(some 10), (.mov (.tmp 0)), none⟩, ⟨(some 11), (.lenS (.tmp 10)), none⟩, ⟨(some 12), (.bin .gtr (.tmp 11) (.const (.c (.val (.int .i64 400))))), none⟩])
 (.cond (.tmp 12) (.seq (.region [⟨(some 2), (.mov (.const (.c (.ro true 2 [])))), none⟩, ⟨(some 3), (.mov (.const (.c (.val (.int .i64 2))))), none⟩])
 .ret) .skip))
 (.seq (.region [⟨(some 13), (.mov (.tmp 0)), none⟩, ⟨(some 14), (.call 23 [(.tmp 13)]), none⟩, ⟨(some 15), (.call 48 [(.tmp 14)]), none⟩, ⟨(some 4), (.mov (.tmp 15)), none⟩])
 (.seq (.seq (.region [⟨(some 16), (.mov (.tmp 4)), none⟩, ⟨(some 17), (.len (.tmp 16)), none⟩, ⟨(some 18), (.bin .eql (.tmp 17) (.const (.c (.val (.int .i64 0))))), none⟩])
 (.cond (.tmp 18) (.seq (.region [⟨(some 19), (.build [(.val (.int .i64 0)), (.val (.int .i64 0))] [(0, (1, (.const (.c (.val (.int .i64 1))))))]), none⟩, ⟨(some 20), (.bslice 2 [(.val (.int .i64 0)), (.val (.int .i64 0))] 1 [(0, (.tmp 19))]), none⟩, ⟨(some 21), (.build [(.val (.bool false)), (.ro true 2 [])] [(1, (1, (.tmp 20)))]), none⟩, ⟨(some 22), (.bslice 2 [(.val (.bool false)), (.ro true 2 [])] 1 [(0, (.tmp 21))]), none⟩, ⟨(some 2), (.mov (.tmp 22)), none⟩, ⟨(some 3), (.mov (.const (.c (.val (.int .i64 0))))), none⟩])
 .ret) .skip))
 (.seq (.region [⟨(some 5), (.mov (.const (.c (.ro true 2 [])))), none⟩])
 (.seq (.seq (.region [⟨(some 23), (.mov (.tmp 4)), none⟩, ⟨(some 24), (.call 49 [(.tmp 23)]), none⟩, ⟨(some 25), (.len (.tmp 24)), none⟩, ⟨(some 26), (.mov (.const (.c (.val (.int .i64 0))))), none⟩])
 (.block 0 (.loop a30_c2)))
 (.seq (.region [⟨(some 45), (.mov (.tmp 5)), none⟩, ⟨(some 2), (.mov (.tmp 45)), none⟩, ⟨(some 3), (.mov (.const (.c (.val (.int .i64 0))))), none⟩])
 .ret)))))))⟩
set_option maxRecDepth 100000 in
theorem c30 : compFunc Tryz.prog 30 = some a30 := by kernel_rfl
def media_Read_post (r : ((List TSQuery) × Int)) : AV → Heap → Nat → Prop := fun v h' n' => ∃ z0 : Bool, (z0 = true → r.1 = []) ∧ v = (.tup [(lstV z0 0 2 r.1.length), (I r.2)]) ∧ (h' = (upd (fun _ => none) 0 (lstB z0 2 (r.1.map e_TSQuery)))) ∧ n' = 1
abbrev media_Read_q0 (mL : Int) (Q : AExit → St → Prop) : AExit → St → Prop := AThen (Sv Tryz.prog (GG mL) 0 a30_c1 Q) Q
abbrev media_Read_q1 (mL : Int) (Q : AExit → St → Prop) : AExit → St → Prop := ABlock 1 (media_Read_q0 mL Q)
abbrev media_Read_l0_H (r_3 : (List (List TSToken))) (F_ : (List TSQuery) → (List (List TSToken)) → Int → Option ((List TSQuery) × Int)) (o : ((List TSQuery) × Int)) (R_ : St → Prop) : Prop := ∀ (out : (List TSQuery)) (v24 : (List (List TSToken))) (v26 : Int) (zout : Bool) (_ : zout = true → out = []) (zv24 : Bool) (_ : zv24 = true → v24 = []), F_ out v24 v26 = some o → ∀ s, Weak 0 s ⟨(upd (upd (upd (upd (fun _ => none) 5 (some (lstV zout 0 2 out.length))) 24 (some (lstV zv24 1 1 v24.length))) 25 (some (I (r_3.length : Int)))) 26 (some (I v26))), (upd (upd (fun _ => none) 0 (lstB zout 2 (out.map e_TSQuery))) 1 (lstB zv24 1 (v24.map (eSl 4 e_TSToken)))), 2⟩ → R_ s
abbrev media_Read_l0_E0 (F_ : (List TSQuery) → Option ((List TSQuery) × Int)) (o : ((List TSQuery) × Int)) (R_ : St → Prop) : Prop := ∀ (out1 : (List TSQuery)) (zout1 : Bool) (_ : zout1 = true → out1 = []), F_ out1 = some o → ∀ s, Weak 0 s ⟨(upd (fun _ => none) 5 (some (lstV zout1 0 2 out1.length))), (upd (fun _ => none) 0 (lstB zout1 2 (out1.map e_TSQuery))), 1⟩ → R_ s
noncomputable def media_Read_j3 (v26 : Int) (r_3 : (List (List TSToken))) (self : (List TSQuery) → (List (List TSToken)) → Int → Option ((List TSQuery) × Int)) (K0_ : (List TSQuery) → Option ((List TSQuery) × Int)) (out2 : (List TSQuery)) (q0 : Bool) (q1 : (List TSFeature)) (v241 : (List (List TSToken))) : Option ((List TSQuery) × Int) :=
  (app? 32 out2 [(⟨q0, q1⟩ : TSQuery)]).bind fun r_5 =>
  self r_5 v241 (wi (v26 + 1))
theorem media_Read_j3_ok {mL : Int} {Q : AExit → St → Prop} {v26 : Int} {r_3 : (List (List TSToken))} {self : (List TSQuery) → (List (List TSToken)) → Int → Option ((List TSQuery) × Int)} {K0_ : (List TSQuery) → Option ((List TSQuery) × Int)} {out2 : (List TSQuery)} {q0 : Bool} {q1 : (List TSFeature)} {v241 : (List (List TSToken))} {zout2 : Bool} (hzout2 : zout2 = true → out2 = []) {zv241 : Bool} (hzv241 : zv241 = true → v241 = []) {o : ((List TSQuery) × Int)} (h : media_Read_j3 v26 r_3 self K0_ out2 q0 q1 v241 = some o)
    (hself : media_Read_l0_H r_3 self o (Q .normal))
    (hK0 : media_Read_l0_E0 K0_ o (Q (.exit 0)))
    (hr : ∀ s, Ends a30.results 0 (media_Read_post o) .ret s → Q .ret s) :
    Sv Tryz.prog (GG mL) 0 a30_c0 (media_Read_q1 mL Q) ⟨(upd (upd (upd (upd (upd (fun _ => none) 5 (some (lstV zout2 0 2 out2.length))) 8 (some (.c (.ref 1 2 0 0)))) 24 (some (lstV zv241 2 1 v241.length))) 25 (some (I (r_3.length : Int)))) 26 (some (I v26))), (upd (upd (upd (fun _ => none) 0 (lstB zout2 2 (out2.map e_TSQuery))) 1 (some (.cells 2 [[cB q0, .ro false 2 (q1.map e_TSFeature)]]))) 2 (lstB zv241 1 (v241.map (eSl 4 e_TSToken)))), 3⟩ := by
  unfold media_Read_j3 at h
  refine Sv.region ?_
  refine un (a1 rfl ?_)
  refine un (a1 (v := (.agg [cB q0, .ro false 2 (q1.map e_TSFeature)])) rfl ?_)
  refine un (a2v (v := (lstV false 3 2 [(⟨q0, q1⟩ : TSQuery)].length)) (h' := upd _ 3 (lstB false 2 ([(⟨q0, q1⟩ : TSQuery)].map e_TSQuery))) (n' := 4) rfl rfl (fun h => by cases h) ?_)
  obtain ⟨r_5, hr6, h⟩ := bnd h
  have hz1 : (zout2 && [(⟨q0, q1⟩ : TSQuery)].isEmpty) = true → r_5 = [] := app_nil (z := zout2) (ys := [(⟨q0, q1⟩ : TSQuery)]) hzout2 hr6
  refine un (a2v rfl (s_app (xs := out2) (ys := [(⟨q0, q1⟩ : TSQuery)]) (e := e_TSQuery) (z := zout2) (b := 0) rfl rfl hzout2 rfl rfl (slc_lst rfl (List.length_map _).symm (map_nil_of (fun h => by cases h))) hr6) (fun h => by cases h) ?_)
  refine un (a1 rfl ?_)
  refine dnil ?_
  refine Sv.region ?_
  refine un (a1 (v := (I (wi (v26 + 1)))) rfl ?_)
  refine un (a1 rfl ?_)
  refine dnil ?_
  exact hself r_5 v241 (wi (v26 + 1)) (zout2 && [(⟨q0, q1⟩ : TSQuery)].isEmpty) hz1 zv241 hzv241 h _ (weak_canon [4, 2] rfl (by decide) (by decide) (fun b h => absurd h (Nat.not_lt_zero _)) (.cons rfl (avAs_free rfl) (.cons rfl (avAs_free rfl) (.cons rfl (.c (lstC_ren rfl (by decide))) (.cons rfl (.c (lstC_ren rfl (by decide))) .nil)))) (.row (by decide) rfl (fr_map fun _ => rfl) (.row (by decide) rfl (fr_map fun _ => rfl) .nil)))
abbrev media_Read_l0_I (r_3 : (List (List TSToken))) (F_ : Nat → (List TSQuery) → (List (List TSToken)) → Int → Option ((List TSQuery) × Int)) (o : ((List TSQuery) × Int)) : Nat → St → Prop := fun k s => ∃ (out : (List TSQuery)), ∃ (v24 : (List (List TSToken))), ∃ (v26 : Int), ∃ (zout : Bool), (zout = true → out = []) ∧ ∃ (zv24 : Bool), (zv24 = true → v24 = []) ∧ F_ k out v24 v26 = some o ∧ s = ⟨(upd (upd (upd (upd (fun _ => none) 5 (some (lstV zout 0 2 out.length))) 24 (some (lstV zv24 1 1 v24.length))) 25 (some (I (r_3.length : Int)))) 26 (some (I v26))), (upd (upd (fun _ => none) 0 (lstB zout 2 (out.map e_TSQuery))) 1 (lstB zv24 1 (v24.map (eSl 4 e_TSToken)))), 2⟩
noncomputable def media_Read_l0 (r_3 : (List (List TSToken))) (K0_ : (List TSQuery) → Option ((List TSQuery) × Int)) : Nat → (List TSQuery) → (List (List TSToken)) → Int → Option ((List TSQuery) × Int)
  | 0, _, _, _ => none
  | k + 1, out, v24, v26 =>
    if decide (v26 < (r_3.length : Int)) then
      (at? v24 v26).bind fun x_ =>
      (media_query x_).bind fun r_4 =>
      if (!r_4.2) then
        media_Read_j3 v26 r_3 (media_Read_l0 r_3 K0_ k) K0_ out false ([(⟨12, 0⟩ : TSFeature)] : List TSFeature) v24
      else
        media_Read_j3 v26 r_3 (media_Read_l0 r_3 K0_ k) K0_ out r_4.1.Not r_4.1.Features v24
    else
      K0_ out
theorem media_Read_l0_ok {mL : Int} {Q : AExit → St → Prop} {r_3 : (List (List TSToken))} {K0_ : (List TSQuery) → Option ((List TSQuery) × Int)} {k : Nat} {out : (List TSQuery)} {v24 : (List (List TSToken))} {v26 : Int} {zout : Bool} (hzout : zout = true → out = []) {zv24 : Bool} (hzv24 : zv24 = true → v24 = []) {o : ((List TSQuery) × Int)} (h : media_Read_l0 r_3 K0_ k out v24 v26 = some o)
    (hK0 : media_Read_l0_E0 K0_ o (Q (.exit 0)))
    (hr : ∀ s, Ends a30.results 0 (media_Read_post o) .ret s → Q .ret s) :
    Sv Tryz.prog (GG mL) 0 (.loop a30_c2) Q ⟨(upd (upd (upd (upd (fun _ => none) 5 (some (lstV zout 0 2 out.length))) 24 (some (lstV zv24 1 1 v24.length))) 25 (some (I (r_3.length : Int)))) 26 (some (I v26))), (upd (upd (fun _ => none) 0 (lstB zout 2 (out.map e_TSQuery))) 1 (lstB zv24 1 (v24.map (eSl 4 e_TSToken)))), 2⟩ := by
  refine Sv.loop (I := media_Read_l0_I r_3 (media_Read_l0 r_3 K0_) o) (fun k s hI => ?_) ⟨out, v24, v26, zout, hzout, zv24, hzv24, h, rfl⟩
  clear h
  clear hzv24 hzout zv24 zout v26 v24 out
  obtain ⟨out, v24, v26, zout, hzout, zv24, hzv24, h, rfl⟩ := hI
  cases k with
  | zero => cases h
  | succ k =>
  rw [media_Read_l0] at h
  have hself : media_Read_l0_H r_3 (media_Read_l0 r_3 K0_ k) o (rnd 0 (media_Read_l0_I r_3 (media_Read_l0 r_3 K0_) o) k Q) := fun out v24 v26 zout hzout zv24 hzv24 h s hw => ⟨_, k, hw, Nat.lt_succ_self k, out, v24, v26, zout, hzout, zv24, hzv24, h, rfl⟩
  refine Sv.seq ?_
  refine Sv.region ?_
  refine un (a1 (v := (B (decide (v26 < (r_3.length : Int))))) rfl ?_)
  refine dnil ?_
  refine Sv.seq ?_
  refine Sv.cond (b := decide (v26 < (r_3.length : Int))) rfl (fun hc3 => ?_) (fun hc3 => ?_)
  · replace h := ifT hc3 h
    refine Sv.skip ?_
    refine Sv.seq ?_
    refine Sv.block ?_
    refine Sv.seq ?_
    refine Sv.region ?_
    obtain ⟨x_, hx1, h⟩ := bnd h
    refine un (a1 (v := (.c (.ref 1 1 v26.toNat 0))) (s_iaddrL rfl rfl hzv24 hx1) ?_)
    refine un (a1 (v := (.c (.ro false 4 (x_.map e_TSToken)))) (s_loadL (z := zv24) (e := (eSl 4 e_TSToken)) rfl rfl hzv24 hx1 rfl rfl) ?_)
    refine un (a1 rfl ?_)
    refine dnil ?_
    refine Sv.seq ?_
    refine Sv.region ?_
    refine un (a1 rfl ?_)
    obtain ⟨r_4, hr5, h⟩ := bnd h
    refine un (ac_pure (media_query_ok hr5) rfl rfl rfl ?_)
    refine un (a1 rfl ?_)
    refine un (a1 (v := (.agg [cB r_4.1.Not, .ro false 2 (r_4.1.Features.map e_TSFeature)])) rfl ?_)
    refine un (a1 (v := (B r_4.2)) rfl ?_)
    refine un (a2v (v := (.c (.ref 2 2 0 0))) (h' := upd _ 2 (some (.cells 2 [[cB false, .ro true 2 []]]))) (n' := 3) rfl rfl (fun h => by cases h) ?_)
    refine un (a2n (h' := upd _ 2 (some (.cells 2 [[cB r_4.1.Not, .ro false 2 (r_4.1.Features.map e_TSFeature)]]))) (n' := 3) rfl rfl (fun h => by cases h) ?_)
    refine un (a1 rfl ?_)
    refine dnil ?_
    refine Sv.seq ?_
    refine Sv.seq ?_
    refine Sv.region ?_
    refine un (a1 rfl ?_)
    refine un (a1 (v := (B (!r_4.2))) rfl ?_)
    refine dnil ?_
    refine Sv.cond (b := (!r_4.2)) rfl (fun hc4 => ?_) (fun hc4 => ?_)
    · replace h := ifT hc4 h
      refine Sv.region ?_
      refine un (a1 (v := (.agg [cI 12, cI 0])) rfl ?_)
      refine un (a2v (v := (lstV false 3 2 ([(⟨12, 0⟩ : TSFeature)] : List TSFeature).length)) (h' := upd _ 3 (lstB false 2 (([(⟨12, 0⟩ : TSFeature)] : List TSFeature).map e_TSFeature))) (n' := 4) rfl rfl (fun h => by cases h) ?_)
      refine un (a1 (v := (.agg [cB false, lstC false 3 2 ([(⟨12, 0⟩ : TSFeature)] : List TSFeature).length])) rfl ?_)
      refine un (a2n (h' := upd _ 2 (some (.cells 2 [[cB false, lstC false 3 2 ([(⟨12, 0⟩ : TSFeature)] : List TSFeature).length]]))) (n' := 4) rfl rfl (fun h => by cases h) ?_)
      refine dnil ?_
      exact Sv.weak (weak_canon [0, 2, 1] rfl (by decide) (by decide) (fun b h => absurd h (Nat.not_lt_zero _)) (.cons rfl (avAs_free rfl) (.cons rfl (avAs_free rfl) (.cons rfl (.c (lstC_ren rfl (by decide))) (.cons rfl (.c (.ref rfl (by decide))) (.cons rfl (.c (lstC_ren rfl (by decide))) .nil))))) (.row (by decide) rfl (fr_map fun _ => rfl) (.box (by decide) rfl (blkAs_cells (.cons (.same rfl) (.cons (lstC_ro (es := List.map e_TSFeature ([(⟨12, 0⟩ : TSFeature)] : List TSFeature)) rfl (List.length_map e_TSFeature).symm (map_nil_of (fun h => by cases h)) (fun b x hx => not_in (bs := [0, 2, 1]) rfl b (((.cons (by decide) (.cons (by decide) (.cons (by decide) .nil))) : HLt _ _) b x hx)) (fr_map fun _ => rfl)) .nil))) (.row (by decide) rfl (fr_map fun _ => rfl) .nil)))) (media_Read_j3_ok hzout hzv24 h hself hK0 hr)
    · replace h := ifF hc4 h
      refine Sv.skip ?_
      exact Sv.weak (weak_canon [0, 2, 1] rfl (by decide) (by decide) (fun b h => absurd h (Nat.not_lt_zero _)) (.cons rfl (avAs_free rfl) (.cons rfl (avAs_free rfl) (.cons rfl (.c (lstC_ren rfl (by decide))) (.cons rfl (.c (.ref rfl (by decide))) (.cons rfl (.c (lstC_ren rfl (by decide))) .nil))))) (.row (by decide) rfl (fr_map fun _ => rfl) (.box (by decide) rfl (blkAs_cells (.cons (.same rfl) (.cons (.same rfl) .nil))) (.row (by decide) rfl (fr_map fun _ => rfl) .nil)))) (media_Read_j3_ok hzout hzv24 h hself hK0 hr)
  · replace h := ifF hc3 h
    refine Sv.exit ?_
    exact hK0 out zout hzout h _ (weak_canon [0] rfl (by decide) (by decide) (fun b h => absurd h (Nat.not_lt_zero _)) (.cons rfl (.c (lstC_ren rfl (by decide))) .nil) (.row (by decide) rfl (fr_map fun _ => rfl) .nil))
/-- clerestory/media.Read -/
noncomputable def media_Read (s_ : (List UInt8)) : Option ((List TSQuery) × Int) :=
  if decide (400 < (s_.length : Int)) then
    some (([] : List TSQuery), 2)
  else
    (csstok_Cut s_).bind fun r_ =>
    (media_solid r_).bind fun r_1 =>
    if decide ((r_1.length : Int) = 0) then
      some (([(⟨false, ([(⟨1, 0⟩ : TSFeature)] : List TSFeature)⟩ : TSQuery)] : List TSQuery), 0)
    else
      (media_pieces r_1).bind fun r_3 =>
      limF fun kk => media_Read_l0 r_3 (fun (out1 : (List TSQuery)) => 
          some (out1, 0)) kk ([] : List TSQuery) r_3 0
theorem media_Read_ok {mL : Int} {s_ : (List UInt8)} {r : ((List TSQuery) × Int)} (h : media_Read s_ = some r) : ACalls Tryz.prog (GG mL) 30 [(S s_)] (fun _ => none) 0 (media_Read_post r) := by
  refine acalls_of_sv hmix c30 (R := media_Read_post r) ?_
  unfold media_Read at h
  refine Sv.seq ?_
  refine Sv.region ?_
  refine un (a1 rfl ?_)
  refine un (a1 rfl ?_)
  refine dnil ?_
  refine Sv.seq ?_
  refine Sv.seq ?_
  refine Sv.region ?_
  refine un (a1 rfl ?_)
  refine un (a1 (v := (I (s_.length : Int))) rfl ?_)
  refine un (a1 (v := (B (decide (400 < (s_.length : Int))))) rfl ?_)
  refine dnil ?_
  refine Sv.cond (b := decide (400 < (s_.length : Int))) rfl (fun hc1 => ?_) (fun hc1 => ?_)
  · replace h := ifT hc1 h
    refine Sv.seq ?_
    refine Sv.region ?_
    refine un (a1 rfl ?_)
    refine un (a1 rfl ?_)
    refine dnil ?_
    refine Sv.ret ?_
    replace h := Option.some.inj h
    subst h
    exact ⟨_, .refl _, _, rfl, ⟨upd (fun _ => none) 0 (some (.tup [(lstV true 0 2 ([] : List TSQuery).length), (I 2)])), (upd (fun _ => none) 0 (lstB true 2 (([] : List TSQuery).map e_TSQuery))), 1⟩, (.tup [(lstV true 0 2 ([] : List TSQuery).length), (I 2)]), weak_canon2 [1000] [0] (by decide) (by decide) (fun b h => absurd h (Nat.not_lt_zero _)) (.cons (by decide) .nil) (.cons rfl (avAs_tup (.cons (.c (.same rfl)) (.cons (avAs_free rfl) .nil))) .nil) (.non (by decide) .nil), rfl, true, (fun _ => rfl), rfl, rfl, rfl⟩
  · replace h := ifF hc1 h
    refine Sv.skip ?_
    refine Sv.seq ?_
    refine Sv.region ?_
    refine un (a1 rfl ?_)
    obtain ⟨r_, hr1, h⟩ := bnd h
    refine un (ac_gen (bs := []) («as» := [(S s_)]) (h2 := _) (h1 := (fun _ => none)) (csstok_Cut_ok hr1) rfl (.cons (avAs_free rfl) .nil) (hsub_refl _) (.nil _) (fun _ => rfl) (by decide) (by decide) (.cons (avAs_free rfl) .nil) .nil ?_)
    rintro _ _ _ hn ⟨z_, hz_, rfl, rfl, rfl⟩
    refine ⟨.inl rfl, (upd (rem [] _) 0 (lstB z_ 4 (r_.map e_TSToken))), fun hbd => (m3_cons (m3_row rfl (fr_map fun _ => rfl)) (m3_rem (in_nil _) (.cons (by decide) .nil) hbd)), (lstV z_ 0 4 r_.length), 1, (by cases z_ <;> rfl), rfl, ?_⟩
    obtain ⟨r_1, hr2, h⟩ := bnd h
    refine un (ac_gen (bs := []) («as» := [(.c (.ro false 4 (r_.map e_TSToken)))]) (h2 := (upd _ 0 none)) (h1 := (fun _ => none)) (media_solid_ok hr2) rfl (.cons (.c (lstC_ro (es := List.map e_TSToken r_) rfl (List.length_map e_TSToken).symm (map_nil_of hz_) (gone rfl) (fr_map fun _ => rfl))) .nil) (hsub_none (hsub_refl _)) (.nil _) (fun _ => rfl) (by decide) (by decide) (.cons (avAs_free rfl) .nil) .nil ?_)
    rintro _ _ _ hn ⟨z_1, hz_1, rfl, rfl, rfl⟩
    refine ⟨.inr ⟨(by cases z_1 <;> rfl), (.row (cl_map fun _ => rfl) .nil)⟩, (upd (rem [] _) 1 (lstB z_1 4 (r_1.map e_TSToken))), fun hbd => (m3_cons (m3_row rfl (fr_map fun _ => rfl)) (m3_rem (in_nil _) (.cons (by decide) .nil) hbd)), (lstV z_1 1 4 r_1.length), 2, (by cases z_1 <;> rfl), rfl, ?_⟩
    refine un (a1 rfl ?_)
    refine dnil ?_
    refine Sv.seq ?_
    refine Sv.seq ?_
    refine Sv.region ?_
    refine un (a1 rfl ?_)
    refine un (a1 (v := (I (r_1.length : Int))) (s_lenL rfl (len_nil_of hz_1)) ?_)
    refine un (a1 (v := (B (decide ((r_1.length : Int) = 0)))) rfl ?_)
    refine dnil ?_
    refine Sv.cond (b := decide ((r_1.length : Int) = 0)) rfl (fun hc2 => ?_) (fun hc2 => ?_)
    · replace h := ifT hc2 h
      refine Sv.seq ?_
      refine Sv.region ?_
      refine un (a1 (v := (.agg [cI 1, cI 0])) rfl ?_)
      refine un (a2v (v := (lstV false 2 2 ([(⟨1, 0⟩ : TSFeature)] : List TSFeature).length)) (h' := upd _ 2 (lstB false 2 (([(⟨1, 0⟩ : TSFeature)] : List TSFeature).map e_TSFeature))) (n' := 3) rfl rfl (fun h => by cases h) ?_)
      refine un (a1 (v := (.agg [cB false, lstC false 2 2 ([(⟨1, 0⟩ : TSFeature)] : List TSFeature).length])) rfl ?_)
      refine dweak (show Weak 0 _ ⟨(upd (upd (upd (upd (upd (upd (upd (upd (upd (upd (upd (upd (upd (upd (upd (upd (fun _ => none) 0 (some (S s_))) 2 (some (.c (.ro true 2 [])))) 3 (some (I 0))) 4 (some (lstV z_1 1 4 r_1.length))) 10 (some (S s_))) 11 (some (I (s_.length : Int)))) 12 (some (B (decide (400 < (s_.length : Int)))))) 13 (some (S s_))) 14 (some (lstV z_ 0 4 r_.length))) 15 (some (lstV z_1 1 4 r_1.length))) 16 (some (lstV z_1 1 4 r_1.length))) 17 (some (I (r_1.length : Int)))) 18 (some (B (decide ((r_1.length : Int) = 0))))) 19 (some (.agg [cI 1, cI 0]))) 20 (some (.c (.ro false 2 (([(⟨1, 0⟩ : TSFeature)] : List TSFeature).map e_TSFeature))))) 21 (some (.agg [cB false, .ro false 2 (([(⟨1, 0⟩ : TSFeature)] : List TSFeature).map e_TSFeature)]))), (upd (upd (fun _ => none) 0 (lstB z_ 4 (r_.map e_TSToken))) 1 (lstB z_1 4 (r_1.map e_TSToken))), 3⟩ from (weak_canon [0, 1, 1002] rfl (by decide) (by decide) (fun b h => absurd h (Nat.not_lt_zero _)) (.cons rfl (avAs_agg (.cons (.same rfl) (.cons (lstC_ro (es := List.map e_TSFeature ([(⟨1, 0⟩ : TSFeature)] : List TSFeature)) rfl (List.length_map e_TSFeature).symm (map_nil_of (fun h => by cases h)) (fun b x hx => not_in (bs := [0, 1, 1002]) rfl b (((.cons (by decide) (.cons (by decide) .nil)) : HLt _ _) b x hx)) (fr_map fun _ => rfl)) .nil))) (.cons rfl (.c (lstC_ro (es := List.map e_TSFeature ([(⟨1, 0⟩ : TSFeature)] : List TSFeature)) rfl (List.length_map e_TSFeature).symm (map_nil_of (fun h => by cases h)) (fun b x hx => not_in (bs := [0, 1, 1002]) rfl b (((.cons (by decide) (.cons (by decide) .nil)) : HLt _ _) b x hx)) (fr_map fun _ => rfl))) (.cons rfl (avAs_free rfl) (.cons rfl (avAs_free rfl) (.cons rfl (avAs_free rfl) (.cons rfl (.c (lstC_ren rfl (by decide))) (.cons rfl (.c (lstC_ren rfl (by decide))) (.cons rfl (.c (lstC_ren rfl (by decide))) (.cons rfl (avAs_free rfl) (.cons rfl (avAs_free rfl) (.cons rfl (avAs_free rfl) (.cons rfl (avAs_free rfl) (.cons rfl (.c (lstC_ren rfl (by decide))) (.cons rfl (avAs_free rfl) (.cons rfl (avAs_free rfl) (.cons rfl (avAs_free rfl) .nil)))))))))))))))) (.row (by decide) rfl (fr_map fun _ => rfl) (.row (by decide) rfl (fr_map fun _ => rfl) .nil)))) ?_
      refine un (a2v (v := (lstV false 3 2 ([(⟨false, ([(⟨1, 0⟩ : TSFeature)] : List TSFeature)⟩ : TSQuery)] : List TSQuery).length)) (h' := upd _ 3 (lstB false 2 (([(⟨false, ([(⟨1, 0⟩ : TSFeature)] : List TSFeature)⟩ : TSQuery)] : List TSQuery).map e_TSQuery))) (n' := 4) rfl rfl (fun h => by cases h) ?_)
      refine un (a1 rfl ?_)
      refine un (a1 rfl ?_)
      refine dnil ?_
      refine Sv.ret ?_
      replace h := Option.some.inj h
      subst h
      exact ⟨_, .refl _, _, rfl, ⟨upd (fun _ => none) 0 (some (.tup [(lstV false 0 2 ([(⟨false, ([(⟨1, 0⟩ : TSFeature)] : List TSFeature)⟩ : TSQuery)] : List TSQuery).length), (I 0)])), (upd (fun _ => none) 0 (lstB false 2 (([(⟨false, ([(⟨1, 0⟩ : TSFeature)] : List TSFeature)⟩ : TSQuery)] : List TSQuery).map e_TSQuery))), 1⟩, (.tup [(lstV false 0 2 ([(⟨false, ([(⟨1, 0⟩ : TSFeature)] : List TSFeature)⟩ : TSQuery)] : List TSQuery).length), (I 0)]), weak_canon2 [3] [0] (by decide) (by decide) (fun b h => absurd h (Nat.not_lt_zero _)) (.cons (by decide) .nil) (.cons rfl (avAs_tup (.cons (.c (lstC_ren rfl (by decide))) (.cons (avAs_free rfl) .nil))) .nil) (.row (by decide) rfl (fr_map fun _ => rfl) .nil), rfl, false, (fun h => by cases h), rfl, rfl, rfl⟩
    · replace h := ifF hc2 h
      refine Sv.skip ?_
      refine Sv.seq ?_
      refine Sv.region ?_
      refine un (a1 rfl ?_)
      refine dnil ?_
      refine Sv.seq ?_
      refine Sv.seq ?_
      refine Sv.region ?_
      refine un (a1 rfl ?_)
      refine dweak (show Weak 0 _ ⟨(upd (upd (upd (upd (upd (upd (upd (upd (upd (upd (upd (upd (upd (upd (upd (fun _ => none) 0 (some (S s_))) 2 (some (.c (.ro true 2 [])))) 3 (some (I 0))) 4 (some (.c (.ro false 4 (r_1.map e_TSToken))))) 5 (some (.c (.ro true 2 [])))) 10 (some (S s_))) 11 (some (I (s_.length : Int)))) 12 (some (B (decide (400 < (s_.length : Int)))))) 13 (some (S s_))) 14 (some (lstV z_ 0 4 r_.length))) 15 (some (.c (.ro false 4 (r_1.map e_TSToken))))) 16 (some (.c (.ro false 4 (r_1.map e_TSToken))))) 17 (some (I (r_1.length : Int)))) 18 (some (B (decide ((r_1.length : Int) = 0))))) 23 (some (.c (.ro false 4 (r_1.map e_TSToken))))), (upd (fun _ => none) 0 (lstB z_ 4 (r_.map e_TSToken))), 2⟩ from (weak_canon [0, 1001] rfl (by decide) (by decide) (fun b h => absurd h (Nat.not_lt_zero _)) (.cons rfl (.c (lstC_ro (es := List.map e_TSToken r_1) rfl (List.length_map e_TSToken).symm (map_nil_of hz_1) (fun b x hx => not_in (bs := [0, 1001]) rfl b (((.cons (by decide) .nil) : HLt _ _) b x hx)) (fr_map fun _ => rfl))) (.cons rfl (avAs_free rfl) (.cons rfl (avAs_free rfl) (.cons rfl (.c (lstC_ro (es := List.map e_TSToken r_1) rfl (List.length_map e_TSToken).symm (map_nil_of hz_1) (fun b x hx => not_in (bs := [0, 1001]) rfl b (((.cons (by decide) .nil) : HLt _ _) b x hx)) (fr_map fun _ => rfl))) (.cons rfl (.c (lstC_ro (es := List.map e_TSToken r_1) rfl (List.length_map e_TSToken).symm (map_nil_of hz_1) (fun b x hx => not_in (bs := [0, 1001]) rfl b (((.cons (by decide) .nil) : HLt _ _) b x hx)) (fr_map fun _ => rfl))) (.cons rfl (.c (lstC_ren rfl (by decide))) (.cons rfl (avAs_free rfl) (.cons rfl (avAs_free rfl) (.cons rfl (avAs_free rfl) (.cons rfl (avAs_free rfl) (.cons rfl (avAs_free rfl) (.cons rfl (.c (lstC_ro (es := List.map e_TSToken r_1) rfl (List.length_map e_TSToken).symm (map_nil_of hz_1) (fun b x hx => not_in (bs := [0, 1001]) rfl b (((.cons (by decide) .nil) : HLt _ _) b x hx)) (fr_map fun _ => rfl))) (.cons rfl (avAs_free rfl) (.cons rfl (avAs_free rfl) (.cons rfl (avAs_free rfl) .nil))))))))))))))) (.row (by decide) rfl (fr_map fun _ => rfl) .nil))) ?_
      obtain ⟨r_3, hr4, h⟩ := bnd h
      refine un (ac_gen (bs := []) («as» := [(.c (.ro false 4 (r_1.map e_TSToken)))]) (h2 := _) (h1 := (fun _ => none)) (media_pieces_ok hr4) rfl (.cons (avAs_free rfl) .nil) (hsub_refl _) (.nil _) (fun _ => rfl) (by decide) (by decide) (.cons (avAs_free rfl) .nil) .nil ?_)
      rintro _ _ _ hn ⟨z_3, hz_3, rfl, rfl, rfl⟩
      refine ⟨.inl rfl, (upd (rem [] _) 2 (lstB z_3 1 (r_3.map (eSl 4 e_TSToken)))), fun hbd => (m3_cons (m3_row rfl (fr_map fun _ => rfl)) (m3_rem (in_nil _) (.cons (by decide) .nil) hbd)), (lstV z_3 2 1 r_3.length), 3, (by cases z_3 <;> rfl), rfl, ?_⟩
      refine un (a1 (v := (I (r_3.length : Int))) (s_lenL rfl (len_nil_of hz_3)) ?_)
      refine un (a1 rfl ?_)
      refine dnil ?_
      refine Sv.block ?_
      obtain ⟨kk, h⟩ := limF_some h
      refine Sv.weak (weak_canon [1000, 2] rfl (by decide) (by decide) (fun b h => absurd h (Nat.not_lt_zero _)) (.cons rfl (avAs_free rfl) (.cons rfl (avAs_free rfl) (.cons rfl (.c (lstC_ren rfl (by decide))) (.cons rfl (.c (.same rfl)) .nil)))) (.row (by decide) rfl (fr_map fun _ => rfl) (.non (by decide) .nil))) (media_Read_l0_ok (fun _ => rfl) hz_3 h ?_ (fun s hs => hs))
      · intro out1 zout1 hzout1 h _ hw1
        refine Sv.weak hw1 ?_
        refine Sv.seq ?_
        refine Sv.region ?_
        refine un (a1 rfl ?_)
        refine un (a1 rfl ?_)
        refine un (a1 rfl ?_)
        refine dnil ?_
        refine Sv.ret ?_
        replace h := Option.some.inj h
        subst h
        exact ⟨_, .refl _, _, rfl, ⟨upd (fun _ => none) 0 (some (.tup [(lstV zout1 0 2 out1.length), (I 0)])), (upd (fun _ => none) 0 (lstB zout1 2 (out1.map e_TSQuery))), 1⟩, (.tup [(lstV zout1 0 2 out1.length), (I 0)]), weak_canon2 [0] [0] (by decide) (by decide) (fun b h => absurd h (Nat.not_lt_zero _)) (.cons (by decide) .nil) (.cons rfl (avAs_tup (.cons (.c (lstC_ren rfl (by decide))) (.cons (avAs_free rfl) .nil))) .nil) (.row (by decide) rfl (fr_map fun _ => rfl) .nil), rfl, zout1, hzout1, rfl, rfl, rfl⟩
def a51_c0 : ACode := (.seq (.seq (.region [⟨(some 70), (.mov (.tmp 5)), none⟩])
 (.cond (.tmp 70) (.seq (.region [⟨(some 4), (.mov (.const (.c (.val (.int .i64 1))))), none⟩])
 .ret) .skip))
 (.seq (.region [⟨(some 4), (.mov (.const (.c (.val (.int .i64 (-1)))))), none⟩])
 .ret))
def a51 : AFunc := ⟨2, [(.tmp 4)], (.seq (.region [⟨(some 2), (.box (.tmp 0)), none⟩, ⟨(some 3), (.box (.tmp 1)), none⟩, ⟨(some 4), (.mov (.const (.c (.val (.int .i64 0))))), none⟩])
 (.seq (.region [⟨(some 5), (.mov (.const (.c (.val (.bool false))))), none⟩])
 (.seq (.seq (.region [⟨(some 6), (.faddr 0 (.tmp 2)), none⟩, ⟨(some 7), (.load false 1 (.tmp 6)), none⟩])
 (.block 0 (.seq (.region [⟨(some 9), (.bin .eql (.tmp 7) (.const (.c (.val (.int .i64 1))))), none⟩, ⟨(some 8), (.mov (.tmp 9)), none⟩])
 (.cond (.tmp 8) (.region [⟨(some 5), (.mov (.const (.c (.val (.bool true))))), none⟩]) (.seq (.region [⟨(some 11), (.bin .eql (.tmp 7) (.const (.c (.val (.int .i64 2))))), none⟩, ⟨(some 10), (.mov (.tmp 11)), none⟩])
 (.cond (.tmp 10) (.region [⟨(some 12), (.faddr 3 (.tmp 3)), none⟩, ⟨(some 13), (.load false 1 (.tmp 12)), none⟩, ⟨(some 14), (.un .not (.tmp 13)), none⟩, ⟨(some 5), (.mov (.tmp 14)), none⟩]) (.seq (.region [⟨(some 16), (.bin .eql (.tmp 7) (.const (.c (.val (.int .i64 3))))), none⟩, ⟨(some 15), (.mov (.tmp 16)), none⟩])
 (.cond (.tmp 15) (.region [⟨(some 17), (.faddr 3 (.tmp 3)), none⟩, ⟨(some 18), (.load false 1 (.tmp 17)), none⟩, ⟨(some 5), (.mov (.tmp 18)), none⟩]) (.seq (.region [⟨(some 20), (.bin .eql (.tmp 7) (.const (.c (.val (.int .i64 4))))), none⟩, ⟨(some 19), (.mov (.tmp 20)), none⟩])
 (.cond (.tmp 19) (.region [⟨(some 21), (.faddr 0 (.tmp 3)), none⟩, ⟨(some 22), (.load false 1 (.tmp 21)), none⟩, ⟨(some 23), (.faddr 1 (.tmp 2)), none⟩, ⟨(some 24), (.load false 1 (.tmp 23)), none⟩, ⟨(some 25), (.bin .geq (.tmp 22) (.tmp 24)), none⟩, ⟨(some 5), (.mov (.tmp 25)), none⟩]) (.seq (.region [⟨(some 27), (.bin .eql (.tmp 7) (.const (.c (.val (.int .i64 5))))), none⟩, ⟨(some 26), (.mov (.tmp 27)), none⟩])
 (.cond (.tmp 26) (.region [⟨(some 28), (.faddr 0 (.tmp 3)), none⟩, ⟨(some 29), (.load false 1 (.tmp 28)), none⟩, ⟨(some 30), (.faddr 1 (.tmp 2)), none⟩, ⟨(some 31), (.load false 1 (.tmp 30)), none⟩, ⟨(some 32), (.bin .leq (.tmp 29) (.tmp 31)), none⟩, ⟨(some 5), (.mov (.tmp 32)), none⟩]) (.seq (.region [⟨(some 34), (.bin .eql (.tmp 7) (.const (.c (.val (.int .i64 6))))), none⟩, ⟨(some 33), (.mov (.tmp 34)), none⟩])
 (.cond (.tmp 33) (.region [⟨(some 35), (.faddr 1 (.tmp 3)), none⟩, ⟨(some 36), (.load false 1 (.tmp 35)), none⟩, ⟨(some 37), (.faddr 1 (.tmp 2)), none⟩, ⟨(some 38), (.load false 1 (.tmp 37)), none⟩, ⟨(some 39), (.bin .geq (.tmp 36) (.tmp 38)), none⟩, ⟨(some 5), (.mov (.tmp 39)), none⟩]) (.seq (.region [⟨(some 41), (.bin .eql (.tmp 7) (.const (.c (.val (.int .i64 7))))), none⟩, ⟨(some 40), (.mov (.tmp 41)), none⟩])
 (.cond (.tmp 40) (.region [⟨(some 42), (.faddr 1 (.tmp 3)), none⟩, ⟨(some 43), (.load false 1 (.tmp 42)), none⟩, ⟨(some 44), (.faddr 1 (.tmp 2)), none⟩, ⟨(some 45), (.load false 1 (.tmp 44)), none⟩, ⟨(some 46), (.bin .leq (.tmp 43) (.tmp 45)), none⟩, ⟨(some 5), (.mov (.tmp 46)), none⟩]) (.seq (.region [⟨(some 48), (.bin .eql (.tmp 7) (.const (.c (.val (.int .i64 8))))), none⟩, ⟨(some 47), (.mov (.tmp 48)), none⟩])
 (.cond (.tmp 47) (.region [⟨(some 49), (.faddr 2 (.tmp 3)), none⟩, ⟨(some 50), (.load false 1 (.tmp 49)), none⟩, ⟨(some 5), (.mov (.tmp 50)), none⟩]) (.seq (.region [⟨(some 52), (.bin .eql (.tmp 7) (.const (.c (.val (.int .i64 9))))), none⟩, ⟨(some 51), (.mov (.tmp 52)), none⟩])
 (.cond (.tmp 51) (.region [⟨(some 53), (.faddr 2 (.tmp 3)), none⟩, ⟨(some 54), (.load false 1 (.tmp 53)), none⟩, ⟨(some 55), (.un .not (.tmp 54)), none⟩, ⟨(some 5), (.mov (.tmp 55)), none⟩]) (.seq (.region [⟨(some 57), (.bin .eql (.tmp 7) (.const (.c (.val (.int .i64 10))))), none⟩, ⟨(some 56), (.mov (.tmp 57)), none⟩])
 (.cond (.tmp 56) (.region [⟨(some 58), (.faddr 1 (.tmp 3)), none⟩, ⟨(some 59), (.load false 1 (.tmp 58)), none⟩, ⟨(some 60), (.faddr 0 (.tmp 3)), none⟩, ⟨(some 61), (.load false 1 (.tmp 60)), none⟩, ⟨(some 62), (.bin .geq (.tmp 59) (.tmp 61)), none⟩, ⟨(some 5), (.mov (.tmp 62)), none⟩]) (.seq (.region [⟨(some 64), (.bin .eql (.tmp 7) (.const (.c (.val (.int .i64 11))))), none⟩, ⟨(some 63), (.mov (.tmp 64)), none⟩])
 (.cond (.tmp 63) (.region [⟨(some 65), (.faddr 1 (.tmp 3)), none⟩, ⟨(some 66), (.load false 1 (.tmp 65)), none⟩, ⟨(some 67), (.faddr 0 (.tmp 3)), none⟩, ⟨(some 68), (.load false 1 (.tmp 67)), none⟩, ⟨(some 69), (.bin .lss (.tmp 66) (.tmp 68)), none⟩, ⟨(some 5), (.mov (.tmp 69)), none⟩]) (.seq (.region [⟨(some 4), (.mov (.const (.c (.val (.int .i64 0))))), none⟩])
 .ret)))))))))))))))))))))))))
 a51_c0)))⟩
set_option maxRecDepth 100000 in
theorem c51 : compFunc Tryz.prog 51 = some a51 := by kernel_rfl
def media_so_post (r : Int) : AV → Heap → Nat → Prop := fun v h' n' => v = (I r) ∧ (h' = (fun _ => none)) ∧ n' = 0
def media_so_j1 (is_ : Bool) : Int :=
  if is_ then
    1
  else
    (-1)
theorem media_so_j1_ok {mL : Int} {is_ : Bool} {o : Int} (h : media_so_j1 is_ = o) :
    Sv Tryz.prog (GG mL) 0 a51_c0 (Ends a51.results 0 (media_so_post o)) ⟨(upd (fun _ => none) 5 (some (B is_))), (fun _ => none), 0⟩ := by
  unfold media_so_j1 at h
  refine Sv.seq ?_
  refine Sv.seq ?_
  refine Sv.region ?_
  refine un (a1 rfl ?_)
  refine dnil ?_
  refine Sv.cond (b := is_) rfl (fun hc1 => ?_) (fun hc1 => ?_)
  · replace h := ifT hc1 h
    refine Sv.seq ?_
    refine Sv.region ?_
    refine un (a1 rfl ?_)
    refine dnil ?_
    refine Sv.ret ?_
    subst h
    exact ⟨_, .refl _, _, rfl, ⟨upd (fun _ => none) 0 (some (I 1)), (fun _ => none), 0⟩, (I 1), weak_canon [] rfl List.nodup_nil (Nat.le_refl _) (fun b h => absurd h (Nat.not_lt_zero _)) (.cons rfl (avAs_free rfl) .nil) .nil, rfl, rfl, rfl, rfl⟩
  · replace h := ifF hc1 h
    refine Sv.skip ?_
    refine Sv.seq ?_
    refine Sv.region ?_
    refine un (a1 rfl ?_)
    refine dnil ?_
    refine Sv.ret ?_
    subst h
    exact ⟨_, .refl _, _, rfl, ⟨upd (fun _ => none) 0 (some (I (-1))), (fun _ => none), 0⟩, (I (-1)), weak_canon [] rfl List.nodup_nil (Nat.le_refl _) (fun b h => absurd h (Nat.not_lt_zero _)) (.cons rfl (avAs_free rfl) .nil) .nil, rfl, rfl, rfl, rfl⟩
/-- clerestory/media.so -/
def media_so (f_ : TSFeature) (env : TEnv) : Int :=
  if decide (f_.Kind = 1) then
    media_so_j1 true
  else
    if decide (f_.Kind = 2) then
      media_so_j1 (!env.Print)
    else
      if decide (f_.Kind = 3) then
        media_so_j1 env.Print
      else
        if decide (f_.Kind = 4) then
          media_so_j1 (decide (f_.Num ≤ env.Width))
        else
          if decide (f_.Kind = 5) then
            media_so_j1 (decide (env.Width ≤ f_.Num))
          else
            if decide (f_.Kind = 6) then
              media_so_j1 (decide (f_.Num ≤ env.Height))
            else
              if decide (f_.Kind = 7) then
                media_so_j1 (decide (env.Height ≤ f_.Num))
              else
                if decide (f_.Kind = 8) then
                  media_so_j1 env.Dark
                else
                  if decide (f_.Kind = 9) then
                    media_so_j1 (!env.Dark)
                  else
                    if decide (f_.Kind = 10) then
                      media_so_j1 (decide (env.Width ≤ env.Height))
                    else
                      if decide (f_.Kind = 11) then
                        media_so_j1 (decide (env.Height < env.Width))
                      else
                        0
theorem media_so_ok {mL : Int} (f_ : TSFeature) (env : TEnv) : CPure Tryz.prog (GG mL) 51 [(.agg [cI f_.Kind, cI f_.Num]), (.agg [cI env.Width, cI env.Height, cB env.Dark, cB env.Print])] (I (media_so f_ env)) := by
  generalize h : media_so f_ env = o
  refine acalls_of_sv hmix c51 (R := media_so_post o) ?_
  unfold media_so at h
  refine Sv.seq ?_
  refine Sv.region ?_
  refine un (a2v (v := (.c (.ref 0 2 0 0))) (h' := upd _ 0 (some (.cells 2 [[cI f_.Kind, cI f_.Num]]))) (n' := 1) rfl rfl (fun h => by cases h) ?_)
  refine un (a2v (v := (.c (.ref 1 4 0 0))) (h' := upd _ 1 (some (.cells 4 [[cI env.Width, cI env.Height, cB env.Dark, cB env.Print]]))) (n' := 2) rfl rfl (fun h => by cases h) ?_)
  refine un (a1 rfl ?_)
  refine dnil ?_
  refine Sv.seq ?_
  refine Sv.region ?_
  refine un (a1 rfl ?_)
  refine dnil ?_
  refine Sv.seq ?_
  refine Sv.seq ?_
  refine Sv.region ?_
  refine un (a1 (v := (.c (.ref 0 2 0 0))) rfl ?_)
  refine un (a1 (v := (I f_.Kind)) rfl ?_)
  refine dnil ?_
  refine Sv.block ?_
  refine Sv.seq ?_
  refine Sv.region ?_
  refine un (a1 (v := (B (decide (f_.Kind = 1)))) rfl ?_)
  refine un (a1 rfl ?_)
  refine dnil ?_
  refine Sv.cond (b := decide (f_.Kind = 1)) rfl (fun hc2 => ?_) (fun hc2 => ?_)
  · replace h := ifT hc2 h
    refine Sv.region ?_
    refine un (a1 rfl ?_)
    refine dnil ?_
    exact Sv.weak (weak_canon [] rfl (by decide) (by decide) (fun b h => absurd h (Nat.not_lt_zero _)) (.cons rfl (avAs_free rfl) .nil) .nil) (media_so_j1_ok h)
  · replace h := ifF hc2 h
    refine Sv.seq ?_
    refine Sv.region ?_
    refine un (a1 (v := (B (decide (f_.Kind = 2)))) rfl ?_)
    refine un (a1 rfl ?_)
    refine dnil ?_
    refine Sv.cond (b := decide (f_.Kind = 2)) rfl (fun hc3 => ?_) (fun hc3 => ?_)
    · replace h := ifT hc3 h
      refine Sv.region ?_
      refine un (a1 (v := (.c (.ref 1 4 0 3))) rfl ?_)
      refine un (a1 (v := (B env.Print)) rfl ?_)
      refine un (a1 (v := (B (!env.Print))) rfl ?_)
      refine un (a1 rfl ?_)
      refine dnil ?_
      exact Sv.weak (weak_canon [] rfl (by decide) (by decide) (fun b h => absurd h (Nat.not_lt_zero _)) (.cons rfl (avAs_free rfl) .nil) .nil) (media_so_j1_ok h)
    · replace h := ifF hc3 h
      refine Sv.seq ?_
      refine Sv.region ?_
      refine un (a1 (v := (B (decide (f_.Kind = 3)))) rfl ?_)
      refine un (a1 rfl ?_)
      refine dnil ?_
      refine Sv.cond (b := decide (f_.Kind = 3)) rfl (fun hc4 => ?_) (fun hc4 => ?_)
      · replace h := ifT hc4 h
        refine Sv.region ?_
        refine un (a1 (v := (.c (.ref 1 4 0 3))) rfl ?_)
        refine un (a1 (v := (B env.Print)) rfl ?_)
        refine un (a1 rfl ?_)
        refine dnil ?_
        exact Sv.weak (weak_canon [] rfl (by decide) (by decide) (fun b h => absurd h (Nat.not_lt_zero _)) (.cons rfl (avAs_free rfl) .nil) .nil) (media_so_j1_ok h)
      · replace h := ifF hc4 h
        refine Sv.seq ?_
        refine Sv.region ?_
        refine un (a1 (v := (B (decide (f_.Kind = 4)))) rfl ?_)
        refine un (a1 rfl ?_)
        refine dnil ?_
        refine Sv.cond (b := decide (f_.Kind = 4)) rfl (fun hc5 => ?_) (fun hc5 => ?_)
        · replace h := ifT hc5 h
          refine Sv.region ?_
          refine un (a1 (v := (.c (.ref 1 4 0 0))) rfl ?_)
          refine un (a1 (v := (I env.Width)) rfl ?_)
          refine un (a1 (v := (.c (.ref 0 2 0 1))) rfl ?_)
          refine un (a1 (v := (I f_.Num)) rfl ?_)
          refine un (a1 (v := (B (decide (f_.Num ≤ env.Width)))) rfl ?_)
          refine un (a1 rfl ?_)
          refine dnil ?_
          exact Sv.weak (weak_canon [] rfl (by decide) (by decide) (fun b h => absurd h (Nat.not_lt_zero _)) (.cons rfl (avAs_free rfl) .nil) .nil) (media_so_j1_ok h)
        · replace h := ifF hc5 h
          refine Sv.seq ?_
          refine Sv.region ?_
          refine un (a1 (v := (B (decide (f_.Kind = 5)))) rfl ?_)
          refine un (a1 rfl ?_)
          refine dnil ?_
          refine Sv.cond (b := decide (f_.Kind = 5)) rfl (fun hc6 => ?_) (fun hc6 => ?_)
          · replace h := ifT hc6 h
            refine Sv.region ?_
            refine un (a1 (v := (.c (.ref 1 4 0 0))) rfl ?_)
            refine un (a1 (v := (I env.Width)) rfl ?_)
            refine un (a1 (v := (.c (.ref 0 2 0 1))) rfl ?_)
            refine un (a1 (v := (I f_.Num)) rfl ?_)
            refine un (a1 (v := (B (decide (env.Width ≤ f_.Num)))) rfl ?_)
            refine un (a1 rfl ?_)
            refine dnil ?_
            exact Sv.weak (weak_canon [] rfl (by decide) (by decide) (fun b h => absurd h (Nat.not_lt_zero _)) (.cons rfl (avAs_free rfl) .nil) .nil) (media_so_j1_ok h)
          · replace h := ifF hc6 h
            refine Sv.seq ?_
            refine Sv.region ?_
            refine un (a1 (v := (B (decide (f_.Kind = 6)))) rfl ?_)
            refine un (a1 rfl ?_)
            refine dnil ?_
            refine Sv.cond (b := decide (f_.Kind = 6)) rfl (fun hc7 => ?_) (fun hc7 => ?_)
            · replace h := ifT hc7 h
              refine Sv.region ?_
              refine un (a1 (v := (.c (.ref 1 4 0 1))) rfl ?_)
              refine un (a1 (v := (I env.Height)) rfl ?_)
              refine un (a1 (v := (.c (.ref 0 2 0 1))) rfl ?_)
              refine un (a1 (v := (I f_.Num)) rfl ?_)
              refine un (a1 (v := (B (decide (f_.Num ≤ env.Height)))) rfl ?_)
              refine un (a1 rfl ?_)
              refine dnil ?_
              exact Sv.weak (weak_canon [] rfl (by decide) (by decide) (fun b h => absurd h (Nat.not_lt_zero _)) (.cons rfl (avAs_free rfl) .nil) .nil) (media_so_j1_ok h)
            · replace h := ifF hc7 h
              refine Sv.seq ?_
              refine Sv.region ?_
              refine un (a1 (v := (B (decide (f_.Kind = 7)))) rfl ?_)
              refine un (a1 rfl ?_)
              refine dnil ?_
              refine Sv.cond (b := decide (f_.Kind = 7)) rfl (fun hc8 => ?_) (fun hc8 => ?_)
              · replace h := ifT hc8 h
                refine Sv.region ?_
                refine un (a1 (v := (.c (.ref 1 4 0 1))) rfl ?_)
                refine un (a1 (v := (I env.Height)) rfl ?_)
                refine un (a1 (v := (.c (.ref 0 2 0 1))) rfl ?_)
                refine un (a1 (v := (I f_.Num)) rfl ?_)
                refine un (a1 (v := (B (decide (env.Height ≤ f_.Num)))) rfl ?_)
                refine un (a1 rfl ?_)
                refine dnil ?_
                exact Sv.weak (weak_canon [] rfl (by decide) (by decide) (fun b h => absurd h (Nat.not_lt_zero _)) (.cons rfl (avAs_free rfl) .nil) .nil) (media_so_j1_ok h)
              · replace h := ifF hc8 h
                refine Sv.seq ?_
                refine Sv.region ?_
                refine un (a1 (v := (B (decide (f_.Kind = 8)))) rfl ?_)
                refine un (a1 rfl ?_)
                refine dnil ?_
                refine Sv.cond (b := decide (f_.Kind = 8)) rfl (fun hc9 => ?_) (fun hc9 => ?_)
                · replace h := ifT hc9 h
                  refine Sv.region ?_
                  refine un (a1 (v := (.c (.ref 1 4 0 2))) rfl ?_)
                  refine un (a1 (v := (B env.Dark)) rfl ?_)
                  refine un (a1 rfl ?_)
                  refine dnil ?_
                  exact Sv.weak (weak_canon [] rfl (by decide) (by decide) (fun b h => absurd h (Nat.not_lt_zero _)) (.cons rfl (avAs_free rfl) .nil) .nil) (media_so_j1_ok h)
                · replace h := ifF hc9 h
                  refine Sv.seq ?_
                  refine Sv.region ?_
                  refine un (a1 (v := (B (decide (f_.Kind = 9)))) rfl ?_)
                  refine un (a1 rfl ?_)
                  refine dnil ?_
                  refine Sv.cond (b := decide (f_.Kind = 9)) rfl (fun hc10 => ?_) (fun hc10 => ?_)
                  · replace h := ifT hc10 h
                    refine Sv.region ?_
                    refine un (a1 (v := (.c (.ref 1 4 0 2))) rfl ?_)
                    refine un (a1 (v := (B env.Dark)) rfl ?_)
                    refine un (a1 (v := (B (!env.Dark))) rfl ?_)
                    refine un (a1 rfl ?_)
                    refine dnil ?_
                    exact Sv.weak (weak_canon [] rfl (by decide) (by decide) (fun b h => absurd h (Nat.not_lt_zero _)) (.cons rfl (avAs_free rfl) .nil) .nil) (media_so_j1_ok h)
                  · replace h := ifF hc10 h
                    refine Sv.seq ?_
                    refine Sv.region ?_
                    refine un (a1 (v := (B (decide (f_.Kind = 10)))) rfl ?_)
                    refine un (a1 rfl ?_)
                    refine dnil ?_
                    refine Sv.cond (b := decide (f_.Kind = 10)) rfl (fun hc11 => ?_) (fun hc11 => ?_)
                    · replace h := ifT hc11 h
                      refine Sv.region ?_
                      refine un (a1 (v := (.c (.ref 1 4 0 1))) rfl ?_)
                      refine un (a1 (v := (I env.Height)) rfl ?_)
                      refine un (a1 (v := (.c (.ref 1 4 0 0))) rfl ?_)
                      refine un (a1 (v := (I env.Width)) rfl ?_)
                      refine un (a1 (v := (B (decide (env.Width ≤ env.Height)))) rfl ?_)
                      refine un (a1 rfl ?_)
                      refine dnil ?_
                      exact Sv.weak (weak_canon [] rfl (by decide) (by decide) (fun b h => absurd h (Nat.not_lt_zero _)) (.cons rfl (avAs_free rfl) .nil) .nil) (media_so_j1_ok h)
                    · replace h := ifF hc11 h
                      refine Sv.seq ?_
                      refine Sv.region ?_
                      refine un (a1 (v := (B (decide (f_.Kind = 11)))) rfl ?_)
                      refine un (a1 rfl ?_)
                      refine dnil ?_
                      refine Sv.cond (b := decide (f_.Kind = 11)) rfl (fun hc12 => ?_) (fun hc12 => ?_)
                      · replace h := ifT hc12 h
                        refine Sv.region ?_
                        refine un (a1 (v := (.c (.ref 1 4 0 1))) rfl ?_)
                        refine un (a1 (v := (I env.Height)) rfl ?_)
                        refine un (a1 (v := (.c (.ref 1 4 0 0))) rfl ?_)
                        refine un (a1 (v := (I env.Width)) rfl ?_)
                        refine un (a1 (v := (B (decide (env.Height < env.Width)))) rfl ?_)
                        refine un (a1 rfl ?_)
                        refine dnil ?_
                        exact Sv.weak (weak_canon [] rfl (by decide) (by decide) (fun b h => absurd h (Nat.not_lt_zero _)) (.cons rfl (avAs_free rfl) .nil) .nil) (media_so_j1_ok h)
                      · replace h := ifF hc12 h
                        refine Sv.seq ?_
                        refine Sv.region ?_
                        refine un (a1 rfl ?_)
                        refine dnil ?_
                        refine Sv.ret ?_
                        subst h
                        exact ⟨_, .refl _, _, rfl, ⟨upd (fun _ => none) 0 (some (I 0)), (fun _ => none), 0⟩, (I 0), weak_canon [] rfl List.nodup_nil (Nat.le_refl _) (fun b h => absurd h (Nat.not_lt_zero _)) (.cons rfl (avAs_free rfl) .nil) .nil, rfl, rfl, rfl, rfl⟩
def a31_c0 : ACode := (.seq (.region [⟨(some 12), (.bin .lss (.tmp 11) (.tmp 10)), none⟩])
 (.seq (.cond (.tmp 12) .skip (.exit 0))
 (.seq (.block 1 (.seq (.region [⟨(some 13), (.iaddr 2 (.tmp 9) (.tmp 11)), none⟩, ⟨(some 14), (.load true 2 (.tmp 13)), none⟩, ⟨(some 7), (.box (.const (.agg [(.val (.int .i64 0)), (.val (.int .i64 0))]))), none⟩, ⟨none, (.store 2 (.tmp 7) (.tmp 14)), none⟩])
 (.region [⟨(some 15), (.mov (.tmp 5)), none⟩, ⟨(some 16), (.load true 2 (.tmp 7)), none⟩, ⟨(some 17), (.load true 4 (.tmp 3)), none⟩, ⟨(some 18), (.call 51 [(.tmp 16), (.tmp 17)]), none⟩, ⟨(some 19), (.mm false [(.tmp 15), (.tmp 18)]), none⟩, ⟨(some 5), (.mov (.tmp 19)), none⟩])))
 (.region [⟨(some 20), (.bin .add (.tmp 11) (.const (.c (.val (.int .i64 1))))), none⟩, ⟨(some 11), (.mov (.tmp 20)), none⟩]))))
def a31_c1 : ACode := (.seq (.region [⟨(some 25), (.mov (.tmp 5)), none⟩, ⟨(some 4), (.mov (.tmp 25)), none⟩])
 .ret)
def a31 : AFunc := ⟨2, [(.tmp 4)], (.seq (.region [⟨(some 2), (.box (.tmp 0)), none⟩, ⟨(some 3), (.box (.tmp 1)), none⟩, ⟨(some 4), (.mov (.const (.c (.val (.int .i64 0))))), none⟩])
 (.seq (.region [⟨(some 5), (.mov (.const (.c (.val (.int .i64 1))))), none⟩])
 (.seq (.seq (.region [⟨(some 8), (.faddr 1 (.tmp 2)), none⟩, ⟨(some 9), (.load false 1 (.tmp 8)), none⟩, ⟨(some 10), (.len (.tmp 9)), none⟩, ⟨(some 11), (.mov (.const (.c (.val (.int .i64 0))))), none⟩])
 (.block 0 (.loop a31_c0)))
 (.seq (.seq (.region [⟨(some 21), (.faddr 0 (.tmp 2)), none⟩, ⟨(some 22), (.load false 1 (.tmp 21)), none⟩])
 (.cond (.tmp 22) (.region [⟨(some 23), (.mov (.tmp 5)), none⟩, ⟨(some 24), (.un .neg (.tmp 23)), none⟩, ⟨(some 5), (.mov (.tmp 24)), none⟩]) .skip))
 a31_c1))))⟩
set_option maxRecDepth 100000 in
theorem c31 : compFunc Tryz.prog 31 = some a31 := by kernel_rfl
def media_all_post (r : Int) : AV → Heap → Nat → Prop := fun v h' n' => v = (I r) ∧ (h' = (fun _ => none)) ∧ n' = 0
abbrev media_all_l0_E0 (q_ : TSQuery) (F_ : Int → Option Int) (o : Int) (R_ : St → Prop) : Prop := ∀ (n_1 : Int), F_ n_1 = some o → ∀ s, Weak 0 s ⟨(upd (upd (fun _ => none) 2 (some (.c (.ref 0 2 0 0)))) 5 (some (I n_1))), (upd (fun _ => none) 0 (some (.cells 2 [[cB q_.Not, .ro false 2 (q_.Features.map e_TSFeature)]]))), 1⟩ → R_ s
abbrev media_all_l0_I (q_ : TSQuery) (env : TEnv) (F_ : Nat → Int → Int → Option Int) (o : Int) : Nat → St → Prop := fun k s => ∃ (n_ : Int), ∃ (v11 : Int), F_ k n_ v11 = some o ∧ s = ⟨(upd (upd (upd (upd (upd (upd (fun _ => none) 2 (some (.c (.ref 0 2 0 0)))) 3 (some (.c (.ref 1 4 0 0)))) 5 (some (I n_))) 9 (some (.c (.ro false 2 (q_.Features.map e_TSFeature))))) 10 (some (I (q_.Features.length : Int)))) 11 (some (I v11))), (upd (upd (fun _ => none) 0 (some (.cells 2 [[cB q_.Not, .ro false 2 (q_.Features.map e_TSFeature)]]))) 1 (some (.cells 4 [[cI env.Width, cI env.Height, cB env.Dark, cB env.Print]]))), 2⟩
abbrev media_all_l0_H (q_ : TSQuery) (env : TEnv) (F_ : Int → Int → Option Int) (o : Int) (R_ : St → Prop) : Prop := ∀ (n_ : Int) (v11 : Int), F_ n_ v11 = some o → ∀ s, Weak 0 s ⟨(upd (upd (upd (upd (upd (upd (fun _ => none) 2 (some (.c (.ref 0 2 0 0)))) 3 (some (.c (.ref 1 4 0 0)))) 5 (some (I n_))) 9 (some (.c (.ro false 2 (q_.Features.map e_TSFeature))))) 10 (some (I (q_.Features.length : Int)))) 11 (some (I v11))), (upd (upd (fun _ => none) 0 (some (.cells 2 [[cB q_.Not, .ro false 2 (q_.Features.map e_TSFeature)]]))) 1 (some (.cells 4 [[cI env.Width, cI env.Height, cB env.Dark, cB env.Print]]))), 2⟩ → R_ s
noncomputable def media_all_l0 (q_ : TSQuery) (env : TEnv) (K0_ : Int → Option Int) : Nat → Int → Int → Option Int
  | 0, _, _ => none
  | k + 1, n_, v11 =>
    if decide (v11 < (q_.Features.length : Int)) then
      (at? q_.Features v11).bind fun x_ =>
      (media_all_l0 q_ env K0_ k) (mn n_ (media_so x_ env)) (wi (v11 + 1))
    else
      K0_ n_
theorem media_all_l0_ok {mL : Int} {Q : AExit → St → Prop} {q_ : TSQuery} {env : TEnv} {K0_ : Int → Option Int} {k : Nat} {n_ : Int} {v11 : Int} {o : Int} (h : media_all_l0 q_ env K0_ k n_ v11 = some o)
    (hK0 : media_all_l0_E0 q_ K0_ o (Q (.exit 0)))
    (hr : ∀ s, Ends a31.results 0 (media_all_post o) .ret s → Q .ret s) :
    Sv Tryz.prog (GG mL) 0 (.loop a31_c0) Q ⟨(upd (upd (upd (upd (upd (upd (fun _ => none) 2 (some (.c (.ref 0 2 0 0)))) 3 (some (.c (.ref 1 4 0 0)))) 5 (some (I n_))) 9 (some (.c (.ro false 2 (q_.Features.map e_TSFeature))))) 10 (some (I (q_.Features.length : Int)))) 11 (some (I v11))), (upd (upd (fun _ => none) 0 (some (.cells 2 [[cB q_.Not, .ro false 2 (q_.Features.map e_TSFeature)]]))) 1 (some (.cells 4 [[cI env.Width, cI env.Height, cB env.Dark, cB env.Print]]))), 2⟩ := by
  refine Sv.loop (I := media_all_l0_I q_ env (media_all_l0 q_ env K0_) o) (fun k s hI => ?_) ⟨n_, v11, h, rfl⟩
  clear h
  clear v11 n_
  obtain ⟨n_, v11, h, rfl⟩ := hI
  cases k with
  | zero => cases h
  | succ k =>
  rw [media_all_l0] at h
  have hself : media_all_l0_H q_ env (media_all_l0 q_ env K0_ k) o (rnd 0 (media_all_l0_I q_ env (media_all_l0 q_ env K0_) o) k Q) := fun n_ v11 h s hw => ⟨_, k, hw, Nat.lt_succ_self k, n_, v11, h, rfl⟩
  refine Sv.seq ?_
  refine Sv.region ?_
  refine un (a1 (v := (B (decide (v11 < (q_.Features.length : Int))))) rfl ?_)
  refine dnil ?_
  refine Sv.seq ?_
  refine Sv.cond (b := decide (v11 < (q_.Features.length : Int))) rfl (fun hc1 => ?_) (fun hc1 => ?_)
  · replace h := ifT hc1 h
    refine Sv.skip ?_
    refine Sv.seq ?_
    refine Sv.block ?_
    refine Sv.seq ?_
    refine Sv.region ?_
    obtain ⟨x_, hx1, h⟩ := bnd h
    refine un (a1 (v := (.c (.rop [cI x_.Kind, cI x_.Num]))) (s_iaddr (e := e_TSFeature) (xs := q_.Features) rfl rfl hx1) ?_)
    refine un (a1 (v := (.agg [cI x_.Kind, cI x_.Num])) rfl ?_)
    refine un (a2v (v := (.c (.ref 2 2 0 0))) (h' := upd _ 2 (some (.cells 2 [[cI 0, cI 0]]))) (n' := 3) rfl rfl (fun h => by cases h) ?_)
    refine un (a2n (h' := upd _ 2 (some (.cells 2 [[cI x_.Kind, cI x_.Num]]))) (n' := 3) rfl rfl (fun h => by cases h) ?_)
    refine dnil ?_
    refine Sv.region ?_
    refine un (a1 rfl ?_)
    refine un (a1 (v := (.agg [cI x_.Kind, cI x_.Num])) rfl ?_)
    refine un (a1 (v := (.agg [cI env.Width, cI env.Height, cB env.Dark, cB env.Print])) rfl ?_)
    refine un (ac_pure (media_so_ok (mL := mL) x_ env) rfl rfl rfl ?_)
    refine un (a1 (v := (I (mn n_ (media_so x_ env)))) (s_mn rfl rfl) ?_)
    refine un (a1 rfl ?_)
    refine dnil ?_
    refine Sv.region ?_
    refine un (a1 (v := (I (wi (v11 + 1)))) rfl ?_)
    refine un (a1 rfl ?_)
    refine dnil ?_
    exact hself (mn n_ (media_so x_ env)) (wi (v11 + 1)) h _ (weak_canon [0, 1] rfl (by decide) (by decide) (fun b h => absurd h (Nat.not_lt_zero _)) (.cons rfl (avAs_free rfl) (.cons rfl (avAs_free rfl) (.cons rfl (avAs_free rfl) (.cons rfl (avAs_free rfl) (.cons rfl (.c (.ref rfl (by decide))) (.cons rfl (.c (.ref rfl (by decide))) .nil)))))) (.box (by decide) rfl (blkAs_cells (.cons (.same rfl) (.cons (.same rfl) (.cons (.same rfl) (.cons (.same rfl) .nil))))) (.box (by decide) rfl (blkAs_cells (.cons (.same rfl) (.cons (.same rfl) .nil))) .nil)))
  · replace h := ifF hc1 h
    refine Sv.exit ?_
    exact hK0 n_ h _ (weak_canon [0] rfl (by decide) (by decide) (fun b h => absurd h (Nat.not_lt_zero _)) (.cons rfl (avAs_free rfl) (.cons rfl (.c (.ref rfl (by decide))) .nil)) (.box (by decide) rfl (blkAs_cells (.cons (.same rfl) (.cons (.same rfl) .nil))) .nil))
noncomputable def media_all_j1 (n_2 : Int) : Option Int :=
  some n_2
theorem media_all_j1_ok {mL : Int} {n_2 : Int} {o : Int} (h : media_all_j1 n_2 = some o) :
    Sv Tryz.prog (GG mL) 0 a31_c1 (Ends a31.results 0 (media_all_post o)) ⟨(upd (fun _ => none) 5 (some (I n_2))), (fun _ => none), 0⟩ := by
  unfold media_all_j1 at h
  refine Sv.seq ?_
  refine Sv.region ?_
  refine un (a1 rfl ?_)
  refine un (a1 rfl ?_)
  refine dnil ?_
  refine Sv.ret ?_
  replace h := Option.some.inj h
  subst h
  exact ⟨_, .refl _, _, rfl, ⟨upd (fun _ => none) 0 (some (I n_2)), (fun _ => none), 0⟩, (I n_2), weak_canon [] rfl List.nodup_nil (Nat.le_refl _) (fun b h => absurd h (Nat.not_lt_zero _)) (.cons rfl (avAs_free rfl) .nil) .nil, rfl, rfl, rfl, rfl⟩
/-- clerestory/media.all -/
noncomputable def media_all (q_ : TSQuery) (env : TEnv) : Option Int :=
  limF fun kk => media_all_l0 q_ env (fun (n_1 : Int) => 
      if q_.Not then
        media_all_j1 (wi (0 - n_1))
      else
        media_all_j1 n_1) kk 1 0
theorem media_all_ok {mL : Int} {q_ : TSQuery} {env : TEnv} {r : Int} (h : media_all q_ env = some r) : CPure Tryz.prog (GG mL) 31 [(.agg [cB q_.Not, .ro false 2 (q_.Features.map e_TSFeature)]), (.agg [cI env.Width, cI env.Height, cB env.Dark, cB env.Print])] (I r) := by
  refine acalls_of_sv hmix c31 (R := media_all_post r) ?_
  unfold media_all at h
  refine Sv.seq ?_
  refine Sv.region ?_
  refine un (a2v (v := (.c (.ref 0 2 0 0))) (h' := upd _ 0 (some (.cells 2 [[cB q_.Not, .ro false 2 (q_.Features.map e_TSFeature)]]))) (n' := 1) rfl rfl (fun h => by cases h) ?_)
  refine un (a2v (v := (.c (.ref 1 4 0 0))) (h' := upd _ 1 (some (.cells 4 [[cI env.Width, cI env.Height, cB env.Dark, cB env.Print]]))) (n' := 2) rfl rfl (fun h => by cases h) ?_)
  refine un (a1 rfl ?_)
  refine dnil ?_
  refine Sv.seq ?_
  refine Sv.region ?_
  refine un (a1 rfl ?_)
  refine dnil ?_
  refine Sv.seq ?_
  refine Sv.seq ?_
  refine Sv.region ?_
  refine un (a1 (v := (.c (.ref 0 2 0 1))) rfl ?_)
  refine un (a1 (v := (.c (.ro false 2 (q_.Features.map e_TSFeature)))) rfl ?_)
  refine un (a1 (v := (I (q_.Features.length : Int))) (s_len (e := e_TSFeature) (xs := q_.Features) rfl) ?_)
  refine un (a1 rfl ?_)
  refine dnil ?_
  refine Sv.block ?_
  obtain ⟨kk, h⟩ := limF_some h
  refine Sv.weak (weak_canon [0, 1] rfl (by decide) (by decide) (fun b h => absurd h (Nat.not_lt_zero _)) (.cons rfl (avAs_free rfl) (.cons rfl (avAs_free rfl) (.cons rfl (avAs_free rfl) (.cons rfl (avAs_free rfl) (.cons rfl (.c (.ref rfl (by decide))) (.cons rfl (.c (.ref rfl (by decide))) .nil)))))) (.box (by decide) rfl (blkAs_cells (.cons (.same rfl) (.cons (.same rfl) (.cons (.same rfl) (.cons (.same rfl) .nil))))) (.box (by decide) rfl (blkAs_cells (.cons (.same rfl) (.cons (.same rfl) .nil))) .nil))) (media_all_l0_ok h ?_ (fun s hs => hs))
  · intro n_1 h _ hw1
    refine Sv.weak hw1 ?_
    refine Sv.seq ?_
    refine Sv.seq ?_
    refine Sv.region ?_
    refine un (a1 (v := (.c (.ref 0 2 0 0))) rfl ?_)
    refine un (a1 (v := (B q_.Not)) rfl ?_)
    refine dnil ?_
    refine Sv.cond (b := q_.Not) rfl (fun hc2 => ?_) (fun hc2 => ?_)
    · replace h := ifT hc2 h
      refine Sv.region ?_
      refine un (a1 rfl ?_)
      refine un (a1 (v := (I (wi (0 - n_1)))) rfl ?_)
      refine un (a1 rfl ?_)
      refine dnil ?_
      exact Sv.weak (weak_canon [] rfl (by decide) (by decide) (fun b h => absurd h (Nat.not_lt_zero _)) (.cons rfl (avAs_free rfl) .nil) .nil) (media_all_j1_ok h)
    · replace h := ifF hc2 h
      refine Sv.skip ?_
      exact Sv.weak (weak_canon [] rfl (by decide) (by decide) (fun b h => absurd h (Nat.not_lt_zero _)) (.cons rfl (avAs_free rfl) .nil) .nil) (media_all_j1_ok h)
def a18_c0 : ACode := (.seq (.region [⟨(some 39), (.bin .lss (.tmp 38) (.tmp 37)), none⟩])
 (.seq (.cond (.tmp 39) .skip (.exit 0))
 (.seq (.block 1 (.seq (.region [⟨(some 40), (.iaddr 2 (.tmp 36) (.tmp 38)), none⟩, ⟨(some 41), (.load true 2 (.tmp 40)), none⟩, ⟨(some 9), (.box (.const (.agg [(.val (.bool false)), (.ro true 2 [])]))), none⟩, ⟨none, (.store 2 (.tmp 9) (.tmp 41)), none⟩])
 (.seq (.region [⟨(some 42), (.load true 2 (.tmp 9)), none⟩, ⟨(some 43), (.load true 4 (.tmp 3)), none⟩, ⟨(some 44), (.call 31 [(.tmp 42), (.tmp 43)]), none⟩, ⟨(some 45), (.bin .eql (.tmp 44) (.const (.c (.val (.int .i64 1))))), none⟩])
 (.cond (.tmp 45) (.seq (.region [⟨(some 4), (.mov (.const (.c (.val (.bool true))))), none⟩, ⟨(some 5), (.mov (.const (.c (.val (.int .i64 0))))), none⟩])
 .ret) .skip))))
 (.region [⟨(some 46), (.bin .add (.tmp 38) (.const (.c (.val (.int .i64 1))))), none⟩, ⟨(some 38), (.mov (.tmp 46)), none⟩]))))
def a18 : AFunc := ⟨2, [(.tmp 4), (.tmp 5)], (.seq (.region [⟨(some 3), (.box (.tmp 1)), none⟩, ⟨(some 4), (.mov (.const (.c (.val (.bool false))))), none⟩, ⟨(some 5), (.mov (.const (.c (.val (.int .i64 0))))), none⟩])
 (.seq (.region [⟨(some 11), (.mov (.tmp 0)), none⟩, ⟨(some 12), (.call 30 [(.tmp 11)]), none⟩, ⟨(some 10), (.mov (.tmp 12)), none⟩, ⟨(some 13), (.ext (.tmp 10) 0), none⟩, ⟨(some 14), (.ext (.tmp 10) 1), none⟩, ⟨(some 6), (.mov (.tmp 13)), none⟩, ⟨(some 7), (.mov (.tmp 14)), none⟩])
 (.seq (.seq (.region [⟨(some 15), (.mov (.tmp 7)), none⟩, ⟨(some 16), (.bin .neq (.tmp 15) (.const (.c (.val (.int .i64 0))))), none⟩])
 (.cond (.tmp 16) (.seq (.region [⟨(some 17), (.mov (.tmp 7)), none⟩, ⟨(some 4), (.mov (.const (.c (.val (.bool false))))), none⟩, ⟨(some 5), (.mov (.tmp 17)), none⟩])
 .ret) .skip))
 (.seq (.seq (.region [⟨(some 18), (.faddr 0 (.tmp 3)), none⟩, ⟨(some 19), (.load false 1 (.tmp 18)), none⟩, ⟨(some 20), (.bin .lss (.tmp 19) (.const (.c (.val (.int .i64 1))))), none⟩, ⟨(some 21), (.mov (.tmp 20)), none⟩, ⟨(some 22), (.faddr 0 (.tmp 3)), (some (21, false))⟩, ⟨(some 23), (.load false 1 (.tmp 22)), (some (21, false))⟩, ⟨(some 24), (.bin .gtr (.tmp 23) (.const (.c (.val (.int .i64 4000))))), (some (21, false))⟩, ⟨(some 25), (.pick (.tmp 21) (.const (.c (.val (.bool true)))) (.tmp 24)), none⟩, ⟨(some 26), (.mov (.tmp 25)), none⟩, ⟨(some 27), (.faddr 1 (.tmp 3)), (some (26, false))⟩, ⟨(some 28), (.load false 1 (.tmp 27)), (some (26, false))⟩, ⟨(some 29), (.bin .lss (.tmp 28) (.const (.c (.val (.int .i64 1))))), (some (26, false))⟩, ⟨(some 30), (.pick (.tmp 26) (.const (.c (.val (.bool true)))) (.tmp 29)), none⟩, ⟨(some 31), (.mov (.tmp 30)), none⟩, ⟨(some 32), (.faddr 1 (.tmp 3)), (some (31, false))⟩, ⟨(some 33), (.load false 1 (.tmp 32)), (some (31, false))⟩, ⟨(some 34), (.bin .gtr (.tmp 33) (.const (.c (.val (.int .i64 4000))))), (some (31, false))⟩, ⟨(some 35), (.pick (.tmp 31) (.const (.c (.val (.bool true)))) (.tmp 34)), none⟩])
 (.cond (.tmp 35) (.seq (.region [⟨(some 4), (.mov (.const (.c (.val (.bool false))))), none⟩, ⟨(some 5), (.mov (.const (.c (.val (.int .i64 1))))), none⟩])
 .ret) .skip))
 (.seq (.seq (.region [⟨(some 36), (.mov (.tmp 6)), none⟩, ⟨(some 37), (.len (.tmp 36)), none⟩, ⟨(some 38), (.mov (.const (.c (.val (.int .i64 0))))), none⟩])
 (.block 0 (.loop a18_c0)))
 (.seq (.region [⟨(some 4), (.mov (.const (.c (.val (.bool false))))), none⟩, ⟨(some 5), (.mov (.const (.c (.val (.int .i64 0))))), none⟩])
 .ret))))))⟩
set_option maxRecDepth 100000 in
theorem c18 : compFunc Tryz.prog 18 = some a18 := by kernel_rfl
def media_Holds_post (r : (Bool × Int)) : AV → Heap → Nat → Prop := fun v h' n' => v = (.tup [(B r.1), (I r.2)]) ∧ (h' = (fun _ => none)) ∧ n' = 0
abbrev media_Holds_l0_E0 (F_ : Unit → Option (Bool × Int)) (o : (Bool × Int)) (R_ : St → Prop) : Prop := ∀ (_ : Unit), F_ () = some o → ∀ s, Weak 0 s ⟨(fun _ => none), (fun _ => none), 0⟩ → R_ s
abbrev media_Holds_l0_I (r_ : ((List TSQuery) × Int)) (env : TEnv) (F_ : Nat → (List TSQuery) → Int → Option (Bool × Int)) (o : (Bool × Int)) : Nat → St → Prop := fun k s => ∃ (v36 : (List TSQuery)), ∃ (v38 : Int), ∃ (zv36 : Bool), (zv36 = true → v36 = []) ∧ F_ k v36 v38 = some o ∧ s = ⟨(upd (upd (upd (upd (fun _ => none) 3 (some (.c (.ref 0 4 0 0)))) 36 (some (lstV zv36 1 2 v36.length))) 37 (some (I (r_.1.length : Int)))) 38 (some (I v38))), (upd (upd (fun _ => none) 0 (some (.cells 4 [[cI env.Width, cI env.Height, cB env.Dark, cB env.Print]]))) 1 (lstB zv36 2 (v36.map e_TSQuery))), 2⟩
abbrev media_Holds_l0_H (r_ : ((List TSQuery) × Int)) (env : TEnv) (F_ : (List TSQuery) → Int → Option (Bool × Int)) (o : (Bool × Int)) (R_ : St → Prop) : Prop := ∀ (v36 : (List TSQuery)) (v38 : Int) (zv36 : Bool) (_ : zv36 = true → v36 = []), F_ v36 v38 = some o → ∀ s, Weak 0 s ⟨(upd (upd (upd (upd (fun _ => none) 3 (some (.c (.ref 0 4 0 0)))) 36 (some (lstV zv36 1 2 v36.length))) 37 (some (I (r_.1.length : Int)))) 38 (some (I v38))), (upd (upd (fun _ => none) 0 (some (.cells 4 [[cI env.Width, cI env.Height, cB env.Dark, cB env.Print]]))) 1 (lstB zv36 2 (v36.map e_TSQuery))), 2⟩ → R_ s
noncomputable def media_Holds_l0 (r_ : ((List TSQuery) × Int)) (env : TEnv) (K0_ : Unit → Option (Bool × Int)) : Nat → (List TSQuery) → Int → Option (Bool × Int)
  | 0, _, _ => none
  | k + 1, v36, v38 =>
    if decide (v38 < (r_.1.length : Int)) then
      (at? v36 v38).bind fun x_ =>
      (media_all x_ env).bind fun r_1 =>
      if decide (r_1 = 1) then
        some (true, 0)
      else
        (media_Holds_l0 r_ env K0_ k) v36 (wi (v38 + 1))
    else
      K0_ ()
theorem media_Holds_l0_ok {mL : Int} {Q : AExit → St → Prop} {r_ : ((List TSQuery) × Int)} {env : TEnv} {K0_ : Unit → Option (Bool × Int)} {k : Nat} {v36 : (List TSQuery)} {v38 : Int} {zv36 : Bool} (hzv36 : zv36 = true → v36 = []) {o : (Bool × Int)} (h : media_Holds_l0 r_ env K0_ k v36 v38 = some o)
    (hK0 : media_Holds_l0_E0 K0_ o (Q (.exit 0)))
    (hr : ∀ s, Ends a18.results 0 (media_Holds_post o) .ret s → Q .ret s) :
    Sv Tryz.prog (GG mL) 0 (.loop a18_c0) Q ⟨(upd (upd (upd (upd (fun _ => none) 3 (some (.c (.ref 0 4 0 0)))) 36 (some (lstV zv36 1 2 v36.length))) 37 (some (I (r_.1.length : Int)))) 38 (some (I v38))), (upd (upd (fun _ => none) 0 (some (.cells 4 [[cI env.Width, cI env.Height, cB env.Dark, cB env.Print]]))) 1 (lstB zv36 2 (v36.map e_TSQuery))), 2⟩ := by
  refine Sv.loop (I := media_Holds_l0_I r_ env (media_Holds_l0 r_ env K0_) o) (fun k s hI => ?_) ⟨v36, v38, zv36, hzv36, h, rfl⟩
  clear h
  clear hzv36 zv36 v38 v36
  obtain ⟨v36, v38, zv36, hzv36, h, rfl⟩ := hI
  cases k with
  | zero => cases h
  | succ k =>
  rw [media_Holds_l0] at h
  have hself : media_Holds_l0_H r_ env (media_Holds_l0 r_ env K0_ k) o (rnd 0 (media_Holds_l0_I r_ env (media_Holds_l0 r_ env K0_) o) k Q) := fun v36 v38 zv36 hzv36 h s hw => ⟨_, k, hw, Nat.lt_succ_self k, v36, v38, zv36, hzv36, h, rfl⟩
  refine Sv.seq ?_
  refine Sv.region ?_
  refine un (a1 (v := (B (decide (v38 < (r_.1.length : Int))))) rfl ?_)
  refine dnil ?_
  refine Sv.seq ?_
  refine Sv.cond (b := decide (v38 < (r_.1.length : Int))) rfl (fun hc6 => ?_) (fun hc6 => ?_)
  · replace h := ifT hc6 h
    refine Sv.skip ?_
    refine Sv.seq ?_
    refine Sv.block ?_
    refine Sv.seq ?_
    refine Sv.region ?_
    obtain ⟨x_, hx1, h⟩ := bnd h
    refine un (a1 (v := (.c (.ref 1 2 v38.toNat 0))) (s_iaddrL rfl rfl hzv36 hx1) ?_)
    refine un (a1 (v := (.agg [cB x_.Not, .ro false 2 (x_.Features.map e_TSFeature)])) (s_loadL (z := zv36) (e := e_TSQuery) rfl rfl hzv36 hx1 rfl rfl) ?_)
    refine un (a2v (v := (.c (.ref 2 2 0 0))) (h' := upd _ 2 (some (.cells 2 [[cB false, .ro true 2 []]]))) (n' := 3) rfl rfl (fun h => by cases h) ?_)
    refine un (a2n (h' := upd _ 2 (some (.cells 2 [[cB x_.Not, .ro false 2 (x_.Features.map e_TSFeature)]]))) (n' := 3) rfl rfl (fun h => by cases h) ?_)
    refine dnil ?_
    refine Sv.seq ?_
    refine Sv.region ?_
    refine un (a1 (v := (.agg [cB x_.Not, .ro false 2 (x_.Features.map e_TSFeature)])) rfl ?_)
    refine un (a1 (v := (.agg [cI env.Width, cI env.Height, cB env.Dark, cB env.Print])) rfl ?_)
    obtain ⟨r_1, hr2, h⟩ := bnd h
    refine un (ac_pure (media_all_ok hr2) rfl rfl rfl ?_)
    refine un (a1 (v := (B (decide (r_1 = 1)))) rfl ?_)
    refine dnil ?_
    refine Sv.cond (b := decide (r_1 = 1)) rfl (fun hc7 => ?_) (fun hc7 => ?_)
    · replace h := ifT hc7 h
      refine Sv.seq ?_
      refine Sv.region ?_
      refine un (a1 rfl ?_)
      refine un (a1 rfl ?_)
      refine dnil ?_
      refine Sv.ret ?_
      replace h := Option.some.inj h
      subst h
      exact hr _ ⟨_, .refl _, _, rfl, ⟨upd (fun _ => none) 0 (some (.tup [(B true), (I 0)])), (fun _ => none), 0⟩, (.tup [(B true), (I 0)]), weak_canon [] rfl List.nodup_nil (Nat.le_refl _) (fun b h => absurd h (Nat.not_lt_zero _)) (.cons rfl (avAs_tup (.cons (avAs_free rfl) (.cons (avAs_free rfl) .nil))) .nil) .nil, rfl, rfl, rfl, rfl⟩
    · replace h := ifF hc7 h
      refine Sv.skip ?_
      refine Sv.region ?_
      refine un (a1 (v := (I (wi (v38 + 1)))) rfl ?_)
      refine un (a1 rfl ?_)
      refine dnil ?_
      exact hself v36 (wi (v38 + 1)) zv36 hzv36 h _ (weak_canon [0, 1] rfl (by decide) (by decide) (fun b h => absurd h (Nat.not_lt_zero _)) (.cons rfl (avAs_free rfl) (.cons rfl (avAs_free rfl) (.cons rfl (.c (lstC_ren rfl (by decide))) (.cons rfl (.c (.ref rfl (by decide))) .nil)))) (.row (by decide) rfl (fr_map fun _ => rfl) (.box (by decide) rfl (blkAs_cells (.cons (.same rfl) (.cons (.same rfl) (.cons (.same rfl) (.cons (.same rfl) .nil))))) .nil)))
  · replace h := ifF hc6 h
    refine Sv.exit ?_
    exact hK0 () h _ (weak_canon [] rfl (by decide) (by decide) (fun b h => absurd h (Nat.not_lt_zero _)) .nil .nil)
/-- clerestory/media.Holds -/
noncomputable def media_Holds (s_ : (List UInt8)) (env : TEnv) : Option (Bool × Int) :=
  (media_Read s_).bind fun r_ =>
  if (!decide (r_.2 = 0)) then
    some (false, r_.2)
  else
    if ((((decide (env.Width < 1)) || (decide (4000 < env.Width))) || (decide (env.Height < 1))) || (decide (4000 < env.Height))) then
      some (false, 1)
    else
      limF fun kk => media_Holds_l0 r_ env (fun (_ : Unit) => 
          some (false, 0)) kk r_.1 0
theorem media_Holds_ok {mL : Int} {s_ : (List UInt8)} {env : TEnv} {r : (Bool × Int)} (h : media_Holds s_ env = some r) : CPure Tryz.prog (GG mL) 18 [(S s_), (.agg [cI env.Width, cI env.Height, cB env.Dark, cB env.Print])] (.tup [(B r.1), (I r.2)]) := by
  refine acalls_of_sv hmix c18 (R := media_Holds_post r) ?_
  unfold media_Holds at h
  refine Sv.seq ?_
  refine Sv.region ?_
  refine un (a2v (v := (.c (.ref 0 4 0 0))) (h' := upd _ 0 (some (.cells 4 [[cI env.Width, cI env.Height, cB env.Dark, cB env.Print]]))) (n' := 1) rfl rfl (fun h => by cases h) ?_)
  refine un (a1 rfl ?_)
  refine un (a1 rfl ?_)
  refine dnil ?_
  refine Sv.seq ?_
  refine Sv.region ?_
  refine un (a1 rfl ?_)
  obtain ⟨r_, hr1, h⟩ := bnd h
  refine un (ac_gen (bs := []) («as» := [(S s_)]) (h2 := _) (h1 := (fun _ => none)) (media_Read_ok hr1) rfl (.cons (avAs_free rfl) .nil) (hsub_refl _) (.nil _) (fun _ => rfl) (by decide) (by decide) (.cons (avAs_free rfl) .nil) .nil ?_)
  rintro _ _ _ hn ⟨z_, hz_, rfl, rfl, rfl⟩
  refine ⟨.inl rfl, (upd (rem [] _) 1 (lstB z_ 2 (r_.1.map e_TSQuery))), fun hbd => (m3_cons (m3_row rfl (fr_map fun _ => rfl)) (m3_rem (in_nil _) (.cons (by decide) .nil) hbd)), (.tup [(lstV z_ 1 2 r_.1.length), (I r_.2)]), 2, (by cases z_ <;> rfl), rfl, ?_⟩
  refine un (a1 rfl ?_)
  refine un (a1 (v := (lstV z_ 1 2 r_.1.length)) rfl ?_)
  refine un (a1 (v := (I r_.2)) rfl ?_)
  refine un (a1 rfl ?_)
  refine un (a1 rfl ?_)
  refine dnil ?_
  refine Sv.seq ?_
  refine Sv.seq ?_
  refine Sv.region ?_
  refine un (a1 rfl ?_)
  refine un (a1 (v := (B (!decide (r_.2 = 0)))) rfl ?_)
  refine dnil ?_
  refine Sv.cond (b := (!decide (r_.2 = 0))) rfl (fun hc1 => ?_) (fun hc1 => ?_)
  · replace h := ifT hc1 h
    refine Sv.seq ?_
    refine Sv.region ?_
    refine un (a1 rfl ?_)
    refine un (a1 rfl ?_)
    refine un (a1 rfl ?_)
    refine dnil ?_
    refine Sv.ret ?_
    replace h := Option.some.inj h
    subst h
    exact ⟨_, .refl _, _, rfl, ⟨upd (fun _ => none) 0 (some (.tup [(B false), (I r_.2)])), (fun _ => none), 0⟩, (.tup [(B false), (I r_.2)]), weak_canon [] rfl List.nodup_nil (Nat.le_refl _) (fun b h => absurd h (Nat.not_lt_zero _)) (.cons rfl (avAs_tup (.cons (avAs_free rfl) (.cons (avAs_free rfl) .nil))) .nil) .nil, rfl, rfl, rfl, rfl⟩
  · replace h := ifF hc1 h
    refine Sv.skip ?_
    refine Sv.seq ?_
    refine Sv.seq ?_
    refine Sv.region ?_
    refine un (a1 (v := (.c (.ref 0 4 0 0))) rfl ?_)
    refine un (a1 (v := (I env.Width)) rfl ?_)
    refine un (a1 (v := (B (decide (env.Width < 1)))) rfl ?_)
    refine un (a1 rfl ?_)
    refine gjoin 4 (d := 25) (v := (B ((decide (env.Width < 1)) || (decide (4000 < env.Width))))) (fun X hX => ?_) ?_
    · refine split2 (fun hc2 => ?_) (fun hc2 => ?_)
      · refine gs rfl rfl ?_
        refine gs rfl rfl ?_
        refine gs rfl rfl ?_
        refine un (a1 (v := (B true)) rfl ?_)
        refine dnil ?_
        exact hX _ (.putEq (by rw [hc2]; rfl) (.skip _ _ (.skip _ _ (.skip _ _ (.putEq (by rw [hc2]) (.refl _)) rfl) rfl) rfl))
      · refine gt rfl (a1 (v := (.c (.ref 0 4 0 0))) rfl ?_)
        refine gt rfl (a1 (v := (I env.Width)) rfl ?_)
        refine gt rfl (a1 (v := (B (decide (4000 < env.Width)))) rfl ?_)
        refine un (a1 (v := (B (decide (4000 < env.Width)))) rfl ?_)
        refine dnil ?_
        exact hX _ (.putEq (by rw [hc2]; rfl) (.skip _ _ (.skip _ _ (.skip _ _ (.putEq (by rw [hc2]) (.refl _)) rfl) rfl) rfl))
    refine un (a1 rfl ?_)
    refine gjoin 4 (d := 30) (v := (B (((decide (env.Width < 1)) || (decide (4000 < env.Width))) || (decide (env.Height < 1))))) (fun X hX => ?_) ?_
    · refine split2 (fun hc3 => ?_) (fun hc3 => ?_)
      · refine gs rfl rfl ?_
        refine gs rfl rfl ?_
        refine gs rfl rfl ?_
        refine un (a1 (v := (B true)) rfl ?_)
        refine dnil ?_
        exact hX _ (.putEq (by rw [hc3]; rfl) (.skip _ _ (.skip _ _ (.skip _ _ (.putEq (by rw [hc3]) (.refl _)) rfl) rfl) rfl))
      · refine gt rfl (a1 (v := (.c (.ref 0 4 0 1))) rfl ?_)
        refine gt rfl (a1 (v := (I env.Height)) rfl ?_)
        refine gt rfl (a1 (v := (B (decide (env.Height < 1)))) rfl ?_)
        refine un (a1 (v := (B (decide (env.Height < 1)))) rfl ?_)
        refine dnil ?_
        exact hX _ (.putEq (by rw [hc3]; rfl) (.skip _ _ (.skip _ _ (.skip _ _ (.putEq (by rw [hc3]) (.refl _)) rfl) rfl) rfl))
    refine un (a1 rfl ?_)
    refine gjoin 4 (d := 35) (v := (B ((((decide (env.Width < 1)) || (decide (4000 < env.Width))) || (decide (env.Height < 1))) || (decide (4000 < env.Height))))) (fun X hX => ?_) ?_
    · refine split2 (fun hc4 => ?_) (fun hc4 => ?_)
      · refine gs rfl rfl ?_
        refine gs rfl rfl ?_
        refine gs rfl rfl ?_
        refine un (a1 (v := (B true)) rfl ?_)
        refine dnil ?_
        exact hX _ (.putEq (by rw [hc4]; rfl) (.skip _ _ (.skip _ _ (.skip _ _ (.putEq (by rw [hc4]) (.refl _)) rfl) rfl) rfl))
      · refine gt rfl (a1 (v := (.c (.ref 0 4 0 1))) rfl ?_)
        refine gt rfl (a1 (v := (I env.Height)) rfl ?_)
        refine gt rfl (a1 (v := (B (decide (4000 < env.Height)))) rfl ?_)
        refine un (a1 (v := (B (decide (4000 < env.Height)))) rfl ?_)
        refine dnil ?_
        exact hX _ (.putEq (by rw [hc4]; rfl) (.skip _ _ (.skip _ _ (.skip _ _ (.putEq (by rw [hc4]) (.refl _)) rfl) rfl) rfl))
    refine dnil ?_
    refine Sv.cond (b := ((((decide (env.Width < 1)) || (decide (4000 < env.Width))) || (decide (env.Height < 1))) || (decide (4000 < env.Height)))) rfl (fun hc5 => ?_) (fun hc5 => ?_)
    · replace h := ifT hc5 h
      refine Sv.seq ?_
      refine Sv.region ?_
      refine un (a1 rfl ?_)
      refine un (a1 rfl ?_)
      refine dnil ?_
      refine Sv.ret ?_
      replace h := Option.some.inj h
      subst h
      exact ⟨_, .refl _, _, rfl, ⟨upd (fun _ => none) 0 (some (.tup [(B false), (I 1)])), (fun _ => none), 0⟩, (.tup [(B false), (I 1)]), weak_canon [] rfl List.nodup_nil (Nat.le_refl _) (fun b h => absurd h (Nat.not_lt_zero _)) (.cons rfl (avAs_tup (.cons (avAs_free rfl) (.cons (avAs_free rfl) .nil))) .nil) .nil, rfl, rfl, rfl, rfl⟩
    · replace h := ifF hc5 h
      refine Sv.skip ?_
      refine Sv.seq ?_
      refine Sv.seq ?_
      refine Sv.region ?_
      refine un (a1 rfl ?_)
      refine un (a1 (v := (I (r_.1.length : Int))) (s_lenL rfl (len_nil_of hz_)) ?_)
      refine un (a1 rfl ?_)
      refine dnil ?_
      refine Sv.block ?_
      obtain ⟨kk, h⟩ := limF_some h
      refine Sv.weak (weak_canon [0, 1] rfl (by decide) (by decide) (fun b h => absurd h (Nat.not_lt_zero _)) (.cons rfl (avAs_free rfl) (.cons rfl (avAs_free rfl) (.cons rfl (.c (lstC_ren rfl (by decide))) (.cons rfl (.c (.ref rfl (by decide))) .nil)))) (.row (by decide) rfl (fr_map fun _ => rfl) (.box (by decide) rfl (blkAs_cells (.cons (.same rfl) (.cons (.same rfl) (.cons (.same rfl) (.cons (.same rfl) .nil))))) .nil))) (media_Holds_l0_ok hz_ h ?_ (fun s hs => hs))
      · intro _ h _ hw1
        refine Sv.weak hw1 ?_
        refine Sv.seq ?_
        refine Sv.region ?_
        refine un (a1 rfl ?_)
        refine un (a1 rfl ?_)
        refine dnil ?_
        refine Sv.ret ?_
        replace h := Option.some.inj h
        subst h
        exact ⟨_, .refl _, _, rfl, ⟨upd (fun _ => none) 0 (some (.tup [(B false), (I 0)])), (fun _ => none), 0⟩, (.tup [(B false), (I 0)]), weak_canon [] rfl List.nodup_nil (Nat.le_refl _) (fun b h => absurd h (Nat.not_lt_zero _)) (.cons rfl (avAs_tup (.cons (avAs_free rfl) (.cons (avAs_free rfl) .nil))) .nil) .nil, rfl, rfl, rfl, rfl⟩
def a9 : AFunc := ⟨0, [(.tmp 0)], (.seq (.region [⟨(some 0), (.mov (.const (.c (.val (.bool false))))), none⟩])
 (.seq (.region [⟨(some 4), (.build [(.val (.int .i64 0)), (.val (.int .i64 0)), (.val (.bool false)), (.val (.bool false))] [(0, (1, (.const (.c (.val (.int .i64 600)))))), (1, (1, (.const (.c (.val (.int .i64 1))))))]), none⟩, ⟨(some 5), (.call 18 [(.const (.c (.str [40, 109, 105, 110, 45, 119, 105, 100, 116, 104, 58, 32, 54, 48, 48, 112, 120, 41]))), (.tmp 4)]), none⟩, ⟨(some 3), (.mov (.tmp 5)), none⟩, ⟨(some 6), (.ext (.tmp 3) 0), none⟩, ⟨(some 7), (.ext (.tmp 3) 1), none⟩, ⟨(some 1), (.mov (.tmp 6)), none⟩, ⟨(some 2), (.mov (.tmp 7)), none⟩])
 (.seq (.region [⟨(some 8), (.mov (.tmp 1)), none⟩, ⟨(some 9), (.mov (.tmp 8)), none⟩, ⟨(some 10), (.mov (.tmp 2)), (some (9, true))⟩, ⟨(some 11), (.bin .eql (.tmp 10) (.const (.c (.val (.int .i64 0))))), (some (9, true))⟩, ⟨(some 12), (.pick (.tmp 9) (.tmp 11) (.const (.c (.val (.bool false))))), none⟩, ⟨(some 0), (.mov (.tmp 12)), none⟩])
 .ret)))⟩
set_option maxRecDepth 100000 in
theorem c9 : compFunc Tryz.prog 9 = some a9 := by kernel_rfl
def clerestorylaw2_wide_post (r : Bool) : AV → Heap → Nat → Prop := fun v h' n' => v = (B r) ∧ (h' = (fun _ => none)) ∧ n' = 0
/-- clerestory/clerestorylaw2.wide -/
noncomputable def clerestorylaw2_wide : Option Bool :=
  (media_Holds [40, 109, 105, 110, 45, 119, 105, 100, 116, 104, 58, 32, 54, 48, 48, 112, 120, 41] (⟨600, 1, false, false⟩ : TEnv)).bind fun r_ =>
  some (r_.1 && (decide (r_.2 = 0)))
theorem clerestorylaw2_wide_ok {mL : Int} {r : Bool} (h : clerestorylaw2_wide = some r) : CPure Tryz.prog (GG mL) 9 [] (B r) := by
  refine acalls_of_sv hmix c9 (R := clerestorylaw2_wide_post r) ?_
  unfold clerestorylaw2_wide at h
  refine Sv.seq ?_
  refine Sv.region ?_
  refine un (a1 rfl ?_)
  refine dnil ?_
  refine Sv.seq ?_
  refine Sv.region ?_
  refine un (a1 (v := (.agg [cI 600, cI 1, cB false, cB false])) rfl ?_)
  obtain ⟨r_, hr1, h⟩ := bnd h
  refine un (ac_pure (media_Holds_ok hr1) rfl rfl rfl ?_)
  refine un (a1 rfl ?_)
  refine un (a1 (v := (B r_.1)) rfl ?_)
  refine un (a1 (v := (I r_.2)) rfl ?_)
  refine un (a1 rfl ?_)
  refine un (a1 rfl ?_)
  refine dnil ?_
  refine Sv.seq ?_
  refine Sv.region ?_
  refine un (a1 rfl ?_)
  refine un (a1 rfl ?_)
  refine gjoin 3 (d := 12) (v := (B (r_.1 && (decide (r_.2 = 0))))) (fun X hX => ?_) ?_
  · refine split2 (fun hc1 => ?_) (fun hc1 => ?_)
    · refine gt rfl (a1 rfl ?_)
      refine gt rfl (a1 (v := (B (decide (r_.2 = 0)))) rfl ?_)
      refine un (a1 (v := (B (decide (r_.2 = 0)))) rfl ?_)
      refine dnil ?_
      exact hX _ (.putEq (by rw [hc1]; rfl) (.skip _ _ (.skip _ _ (.putEq (by rw [hc1]) (.refl _)) rfl) rfl))
    · refine gs rfl rfl ?_
      refine gs rfl rfl ?_
      refine un (a1 (v := (B false)) rfl ?_)
      refine dnil ?_
      exact hX _ (.putEq (by rw [hc1]; rfl) (.skip _ _ (.skip _ _ (.putEq (by rw [hc1]) (.refl _)) rfl) rfl))
  refine un (a1 rfl ?_)
  refine dnil ?_
  refine Sv.ret ?_
  replace h := Option.some.inj h
  subst h
  exact ⟨_, .refl _, _, rfl, ⟨upd (fun _ => none) 0 (some (B (r_.1 && (decide (r_.2 = 0))))), (fun _ => none), 0⟩, (B (r_.1 && (decide (r_.2 = 0)))), weak_canon [] rfl List.nodup_nil (Nat.le_refl _) (fun b h => absurd h (Nat.not_lt_zero _)) (.cons rfl (avAs_free rfl) .nil) .nil, rfl, rfl, rfl, rfl⟩
noncomputable abbrev strconv_Itoa (i_ : Int) : Option (List UInt8) := itoa? i_
/-- strconv.Itoa, by the contract of the shelf -/
theorem strconv_Itoa_ok {mL : Int} {i_ : Int} {r : (List UInt8)} (h : strconv_Itoa i_ = some r) : CPure Tryz.prog (GG mL) 32 [(I i_)] (S r) := itoa_ok (g := 4) Tryz.laysM171 (by kernel_rfl) (by kernel_rfl) h
noncomputable abbrev strings_Count (s_ : (List UInt8)) (substr_ : (List UInt8)) : Option Int := count1? s_ substr_
/-- strings.Count, by the contract of the shelf -/
theorem strings_Count_ok {mL : Int} {s_ : (List UInt8)} {substr_ : (List UInt8)} {r : Int} (h : strings_Count s_ substr_ = some r) : CPure Tryz.prog (GG mL) 53 [(S s_), (S substr_)] (I r) := count1_ok Tryz.lays138 h
noncomputable abbrev strings_Builder_Grow (l : List UInt8) (x0 : Int) : Option (List UInt8) := bGrow? x0
/-- (*strings.Builder).Grow, by my own walk of it -/
theorem strings_Builder_Grow_ok {mL : Int} {z : Bool} {l : List UInt8} {x0 : Int} {r : List UInt8} (hz : z = true → l = []) (h : strings_Builder_Grow l x0 = some r) : ACalls Tryz.prog (GG mL) 34 [.c (.ref 0 2 0 0), (I x0)] (bldH 76 5 true []) 2 (bPost 76 5 (.tup []) r) := bGrow_ok blays bL4 b165 h
noncomputable abbrev strings_Builder_WriteString (l : List UInt8) (x0 : (List UInt8)) : Option (List UInt8) := bWriteString? l x0
/-- (*strings.Builder).WriteString, by my own walk of it -/
theorem strings_Builder_WriteString_ok {mL : Int} {z : Bool} {l : List UInt8} {x0 : (List UInt8)} {r : List UInt8} (hz : z = true → l = []) (h : strings_Builder_WriteString l x0 = some r) : ACalls Tryz.prog (GG mL) 35 [.c (.ref 0 2 0 0), (S x0)] (bldH 76 5 z l) 2 (bPost 76 5 (.tup [.c (.val (.int .i64 (x0.length : Int))), .c (.val .nilIface)]) r) := bWriteString_ok blays b166 hz h
end Go.Proofs.YtaejmblphhjccabGreatDoorBv
