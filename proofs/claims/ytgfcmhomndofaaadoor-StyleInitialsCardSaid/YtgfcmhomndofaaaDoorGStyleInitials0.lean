/- Printed by a program of mine (bgen.py): plain functions, and the walks that show that the code comes to what they answer. -/
import Derived.Test.YtgfcmhomndofaaaDoorRows
import Derived.Test.YtgfcmhomndofaaaDoorBv22
namespace Go.Proofs.YtgfcmhomndofaaaDoorBv
open Go
set_option linter.unusedVariables false
set_option maxRecDepth 100000
theorem hmix : Tryd.prog.follows .mixedOrders = true := by kernel_rfl
structure TVal where
  Kind : Int
  N : Int
def e_TVal (x : TVal) : List Cel := [cI x.Kind, cI x.N]
def g0_c : List Cel := [cI 1, cI 1, cI 1, cI 0, cI 1, cI 0, cI 1, cI 0, cI 1, cI 0, cI 6, cI 0, cI 6, cI 0, cI 6, cI 0, cI 6, cI 0, cI 6, cI 0, cI 6, cI 0, cI 2, cI 0, cI 2, cI 0, cI 2, cI 0, cI 2, cI 0, cI 2, cI 0, cI 2, cI 0, cI 2, cI 0, cI 2, cI 0, cI 2, cI 0, cI 2, cI 0, cI 2, cI 0, cI 2, cI 0, cI 5, cI 255, cI 5, cI 255, cI 5, cI 255, cI 5, cI 255, cI 6, cI 0, cI 6, cI 0, cI 6, cI 0, cI 6, cI 0, cI 6, cI 0, cI 1, cI 0, cI 1, cI 0, cI 4, cI 1000, cI 5, cI 255, cI 5, cI 0, cI 2, cI 1024, cI 6, cI 0, cI 1, cI 0, cI 2, cI 0, cI 1, cI 0, cI 1, cI 0, cI 1, cI 0, cI 6, cI 0, cI 1, cI 0, cI 1, cI 0, cI 1, cI 0, cI 1, cI 6, cI 6, cI 0, cI 4, cI 0, cI 4, cI 1000, cI 6, cI 0, cI 4, cI 0, cI 2, cI 0, cI 1, cI 0, cI 2, cI 0, cI 1, cI 1, cI 1, cI 0]
/-- what the listed package variables hold -/
def GG : Glob := fun g => if g = 0 then g0_c else []
def a6 : AFunc := ⟨1, [(.cell true 2 2)], (.seq (.region [⟨(some 2), (.box (.const (.agg [(.val (.int .i64 0)), (.val (.int .i64 0))]))), none⟩])
 (.seq (.seq (.region [⟨(some 3), (.mov (.tmp 0)), none⟩, ⟨(some 4), (.bin .lss (.tmp 3) (.const (.c (.val (.int .i64 0))))), none⟩, ⟨(some 5), (.mov (.tmp 4)), none⟩, ⟨(some 6), (.mov (.tmp 0)), (some (5, false))⟩, ⟨(some 7), (.bin .geq (.tmp 6) (.const (.c (.val (.int .i64 59))))), (some (5, false))⟩, ⟨(some 8), (.pick (.tmp 5) (.const (.c (.val (.bool true)))) (.tmp 7)), none⟩])
 (.cond (.tmp 8) (.seq (.region [⟨(some 9), (.build [(.val (.int .i64 0)), (.val (.int .i64 0))] []), none⟩, ⟨none, (.store 2 (.tmp 2) (.tmp 9)), none⟩])
 .ret) .skip))
 (.seq (.region [⟨(some 10), (.mov (.tmp 0)), none⟩, ⟨(some 11), (.iaddrA 59 2 (.glob 0) (.tmp 10)), none⟩, ⟨(some 12), (.load true 2 (.tmp 11)), none⟩, ⟨none, (.store 2 (.tmp 2) (.tmp 12)), none⟩])
 .ret)))⟩
set_option maxRecDepth 100000 in
theorem c6 : compFunc Tryd.prog 6 = some a6 := by kernel_rfl
def style_Initial_post (r : TVal) : AV → Heap → Nat → Prop := fun v h' n' => v = (.agg [cI r.Kind, cI r.N]) ∧ (h' = (fun _ => none)) ∧ n' = 0
def style_Initial_t0 : List TVal := [(⟨1, 1⟩ : TVal), (⟨1, 0⟩ : TVal), (⟨1, 0⟩ : TVal), (⟨1, 0⟩ : TVal), (⟨1, 0⟩ : TVal), (⟨6, 0⟩ : TVal), (⟨6, 0⟩ : TVal), (⟨6, 0⟩ : TVal), (⟨6, 0⟩ : TVal), (⟨6, 0⟩ : TVal), (⟨6, 0⟩ : TVal), (⟨2, 0⟩ : TVal), (⟨2, 0⟩ : TVal), (⟨2, 0⟩ : TVal), (⟨2, 0⟩ : TVal), (⟨2, 0⟩ : TVal), (⟨2, 0⟩ : TVal), (⟨2, 0⟩ : TVal), (⟨2, 0⟩ : TVal), (⟨2, 0⟩ : TVal), (⟨2, 0⟩ : TVal), (⟨2, 0⟩ : TVal), (⟨2, 0⟩ : TVal), (⟨5, 255⟩ : TVal), (⟨5, 255⟩ : TVal), (⟨5, 255⟩ : TVal), (⟨5, 255⟩ : TVal), (⟨6, 0⟩ : TVal), (⟨6, 0⟩ : TVal), (⟨6, 0⟩ : TVal), (⟨6, 0⟩ : TVal), (⟨6, 0⟩ : TVal), (⟨1, 0⟩ : TVal), (⟨1, 0⟩ : TVal), (⟨4, 1000⟩ : TVal), (⟨5, 255⟩ : TVal), (⟨5, 0⟩ : TVal), (⟨2, 1024⟩ : TVal), (⟨6, 0⟩ : TVal), (⟨1, 0⟩ : TVal), (⟨2, 0⟩ : TVal), (⟨1, 0⟩ : TVal), (⟨1, 0⟩ : TVal), (⟨1, 0⟩ : TVal), (⟨6, 0⟩ : TVal), (⟨1, 0⟩ : TVal), (⟨1, 0⟩ : TVal), (⟨1, 0⟩ : TVal), (⟨1, 6⟩ : TVal), (⟨6, 0⟩ : TVal), (⟨4, 0⟩ : TVal), (⟨4, 1000⟩ : TVal), (⟨6, 0⟩ : TVal), (⟨4, 0⟩ : TVal), (⟨2, 0⟩ : TVal), (⟨1, 0⟩ : TVal), (⟨2, 0⟩ : TVal), (⟨1, 1⟩ : TVal), (⟨1, 0⟩ : TVal)]
/-- clerestory/style.Initial -/
noncomputable def style_Initial (p_ : Int) : Option TVal :=
  if ((decide (p_ < 0)) || (decide (59 ≤ p_))) then
    some (⟨0, 0⟩ : TVal)
  else
    (at? style_Initial_t0 p_).bind fun x_ =>
    some x_
theorem style_Initial_ok {p_ : Int} {r : TVal} (h : style_Initial p_ = some r) : CPure Tryd.prog GG 6 [(I p_)] (.agg [cI r.Kind, cI r.N]) := by
  refine acalls_of_sv hmix c6 (R := style_Initial_post r) ?_
  unfold style_Initial at h
  refine Sv.seq ?_
  refine Sv.region ?_
  refine un (a2v (v := (.c (.ref 0 2 0 0))) (h' := upd _ 0 (some (.cells 2 [[cI 0, cI 0]]))) (n' := 1) rfl rfl (fun h => by cases h) ?_)
  refine dnil ?_
  refine Sv.seq ?_
  refine Sv.seq ?_
  refine Sv.region ?_
  refine un (a1 rfl ?_)
  refine un (a1 (v := (B (decide (p_ < 0)))) rfl ?_)
  refine un (a1 rfl ?_)
  refine gjoin 3 (d := 8) (v := (B ((decide (p_ < 0)) || (decide (59 ≤ p_))))) (fun X hX => ?_) ?_
  · refine split2 (fun hc1 => ?_) (fun hc1 => ?_)
    · refine gs rfl rfl ?_
      refine gs rfl rfl ?_
      refine un (a1 (v := (B true)) rfl ?_)
      refine dnil ?_
      exact hX _ (.putEq (by rw [hc1]; rfl) (.skip _ _ (.skip _ _ (.putEq (by rw [hc1]) (.refl _)) rfl) rfl))
    · refine gt rfl (a1 rfl ?_)
      refine gt rfl (a1 (v := (B (decide (59 ≤ p_)))) rfl ?_)
      refine un (a1 (v := (B (decide (59 ≤ p_)))) rfl ?_)
      refine dnil ?_
      exact hX _ (.putEq (by rw [hc1]; rfl) (.skip _ _ (.skip _ _ (.putEq (by rw [hc1]) (.refl _)) rfl) rfl))
  refine dnil ?_
  refine Sv.cond (b := ((decide (p_ < 0)) || (decide (59 ≤ p_)))) rfl (fun hc2 => ?_) (fun hc2 => ?_)
  · replace h := ifT hc2 h
    refine Sv.seq ?_
    refine Sv.region ?_
    refine un (a1 (v := (.agg [cI 0, cI 0])) rfl ?_)
    refine un (a2n (h' := upd _ 0 (some (.cells 2 [[cI 0, cI 0]]))) (n' := 1) rfl rfl (fun h => by cases h) ?_)
    refine dnil ?_
    refine Sv.ret ?_
    replace h := Option.some.inj h
    subst h
    exact ⟨_, .refl _, _, rfl, ⟨upd (fun _ => none) 0 (some (.agg [cI 0, cI 0])), (fun _ => none), 0⟩, (.agg [cI 0, cI 0]), weak_canon [] rfl List.nodup_nil (Nat.le_refl _) (fun b h => absurd h (Nat.not_lt_zero _)) (.cons rfl (avAs_free rfl) .nil) .nil, rfl, rfl, rfl, rfl⟩
  · replace h := ifF hc2 h
    refine Sv.skip ?_
    refine Sv.seq ?_
    refine Sv.region ?_
    refine un (a1 rfl ?_)
    obtain ⟨x_, hx1, h⟩ := bnd h
    refine un (a1 (v := (.c (.rop (List.drop (p_.toNat * 2) g0_c)))) (s_iaddrAr (L := style_Initial_t0) rfl rfl rfl hx1) ?_)
    refine un (a1 (v := (.agg [cI x_.Kind, cI x_.N])) (s_loadAr (o2 := 0) (v := fun q => (.agg [cI q.Kind, cI q.N])) rfl (.cons rfl (.cons rfl (.cons rfl (.cons rfl (.cons rfl (.cons rfl (.cons rfl (.cons rfl (.cons rfl (.cons rfl (.cons rfl (.cons rfl (.cons rfl (.cons rfl (.cons rfl (.cons rfl (.cons rfl (.cons rfl (.cons rfl (.cons rfl (.cons rfl (.cons rfl (.cons rfl (.cons rfl (.cons rfl (.cons rfl (.cons rfl (.cons rfl (.cons rfl (.cons rfl (.cons rfl (.cons rfl (.cons rfl (.cons rfl (.cons rfl (.cons rfl (.cons rfl (.cons rfl (.cons rfl (.cons rfl (.cons rfl (.cons rfl (.cons rfl (.cons rfl (.cons rfl (.cons rfl (.cons rfl (.cons rfl (.cons rfl (.cons rfl (.cons rfl (.cons rfl (.cons rfl (.cons rfl (.cons rfl (.cons rfl (.cons rfl (.cons rfl (.cons rfl .nil))))))))))))))))))))))))))))))))))))))))))))))))))))))))))) hx1) ?_)
    refine un (a2n (h' := upd _ 0 (some (.cells 2 [[cI x_.Kind, cI x_.N]]))) (n' := 1) rfl rfl (fun h => by cases h) ?_)
    refine dnil ?_
    refine Sv.ret ?_
    replace h := Option.some.inj h
    subst h
    exact ⟨_, .refl _, _, rfl, ⟨upd (fun _ => none) 0 (some (.agg [cI x_.Kind, cI x_.N])), (fun _ => none), 0⟩, (.agg [cI x_.Kind, cI x_.N]), weak_canon [] rfl List.nodup_nil (Nat.le_refl _) (fun b h => absurd h (Nat.not_lt_zero _)) (.cons rfl (avAs_free rfl) .nil) .nil, rfl, rfl, rfl, rfl⟩
def a21 : AFunc := ⟨0, [(.tmp 0)], (.seq (.region [⟨(some 0), (.mov (.const (.c (.ro true 1 [])))), none⟩])
 (.seq (.region [⟨(some 1), (.bslice 1 [(.str [])] 59 [(0, (.const (.c (.str [107])))), (1, (.const (.c (.str [107])))), (2, (.const (.c (.str [107])))), (3, (.const (.c (.str [107])))), (4, (.const (.c (.str [107])))), (5, (.const (.c (.str [108, 112, 97, 48])))), (6, (.const (.c (.str [108, 112, 97, 48])))), (7, (.const (.c (.str [108, 112, 97, 48])))), (8, (.const (.c (.str [108, 112, 97, 48])))), (9, (.const (.c (.str [108, 112, 97, 48])))), (10, (.const (.c (.str [108, 112, 97, 48])))), (11, (.const (.c (.str [108, 112, 97])))), (12, (.const (.c (.str [108, 112, 97])))), (13, (.const (.c (.str [108, 112, 97])))), (14, (.const (.c (.str [108, 112, 97])))), (15, (.const (.c (.str [108, 112, 48])))), (16, (.const (.c (.str [108, 112, 48])))), (17, (.const (.c (.str [108, 112, 48])))), (18, (.const (.c (.str [108, 112, 48])))), (19, (.const (.c (.str [108, 48])))), (20, (.const (.c (.str [108, 48])))), (21, (.const (.c (.str [108, 48])))), (22, (.const (.c (.str [108, 48])))), (23, (.const (.c (.str [99])))), (24, (.const (.c (.str [99])))), (25, (.const (.c (.str [99])))), (26, (.const (.c (.str [99])))), (27, (.const (.c (.str [108, 112, 97])))), (28, (.const (.c (.str [108, 112, 97])))), (29, (.const (.c (.str [108, 112, 97])))), (30, (.const (.c (.str [108, 112, 97])))), (31, (.const (.c (.str [110, 97])))), (32, (.const (.c (.str [107])))), (33, (.const (.c (.str [107])))), (34, (.const (.c (.str [110, 48])))), (35, (.const (.c (.str [99])))), (36, (.const (.c (.str [99])))), (37, (.const (.c (.str [108, 48])))), (38, (.const (.c (.str [108, 110, 97, 48])))), (39, (.const (.c (.str [107])))), (40, (.const (.c (.str [108, 112])))), (41, (.const (.c (.str [107])))), (42, (.const (.c (.str [107, 108])))), (43, (.const (.c (.str [107])))), (44, (.const (.c (.str [108, 97])))), (45, (.const (.c (.str [107])))), (46, (.const (.c (.str [107])))), (47, (.const (.c (.str [107])))), (48, (.const (.c (.str [107])))), (49, (.const (.c (.str [107, 97])))), (50, (.const (.c (.str [110, 48])))), (51, (.const (.c (.str [110, 48])))), (52, (.const (.c (.str [108, 112, 97, 48])))), (53, (.const (.c (.str [110])))), (54, (.const (.c (.str [108, 48])))), (55, (.const (.c (.str [107])))), (56, (.const (.c (.str [108, 48])))), (57, (.const (.c (.str [107])))), (58, (.const (.c (.str [107]))))]), none⟩, ⟨(some 0), (.mov (.tmp 1)), none⟩])
 .ret))⟩
set_option maxRecDepth 100000 in
theorem c21 : compFunc Tryd.prog 21 = some a21 := by kernel_rfl
def clerestoryref2_PropKinds_post (r : (List (List UInt8))) : AV → Heap → Nat → Prop := fun v h' n' => ∃ z0 : Bool, (z0 = true → r = []) ∧ v = (lstV z0 0 1 r.length) ∧ (h' = (upd (fun _ => none) 0 (lstB z0 1 (r.map eStr)))) ∧ n' = 1
def clerestoryref2_PropKinds_t0 : List (List UInt8) := [[107], [107], [107], [107], [107], [108, 112, 97, 48], [108, 112, 97, 48], [108, 112, 97, 48], [108, 112, 97, 48], [108, 112, 97, 48], [108, 112, 97, 48], [108, 112, 97], [108, 112, 97], [108, 112, 97], [108, 112, 97], [108, 112, 48], [108, 112, 48], [108, 112, 48], [108, 112, 48], [108, 48], [108, 48], [108, 48], [108, 48], [99], [99], [99], [99], [108, 112, 97], [108, 112, 97], [108, 112, 97], [108, 112, 97], [110, 97], [107], [107], [110, 48], [99], [99], [108, 48], [108, 110, 97, 48], [107], [108, 112], [107], [107, 108], [107], [108, 97], [107], [107], [107], [107], [107, 97], [110, 48], [110, 48], [108, 112, 97, 48], [110], [108, 48], [107], [108, 48], [107], [107]]
/-- clerestory/clerestoryref2.PropKinds -/
noncomputable def clerestoryref2_PropKinds : Option (List (List UInt8)) :=
  some clerestoryref2_PropKinds_t0
theorem clerestoryref2_PropKinds_ok {r : (List (List UInt8))} (h : clerestoryref2_PropKinds = some r) : ACalls Tryd.prog GG 21 [] (fun _ => none) 0 (clerestoryref2_PropKinds_post r) := by
  refine acalls_of_sv hmix c21 (R := clerestoryref2_PropKinds_post r) ?_
  unfold clerestoryref2_PropKinds at h
  refine Sv.seq ?_
  refine Sv.region ?_
  refine un (a1 rfl ?_)
  refine dnil ?_
  refine Sv.seq ?_
  refine Sv.region ?_
  refine un (a2v (v := (lstV false 0 1 clerestoryref2_PropKinds_t0.length)) (h' := upd _ 0 (lstB false 1 (clerestoryref2_PropKinds_t0.map eStr))) (n' := 1) rfl rfl (fun h => by cases h) ?_)
  refine un (a1 rfl ?_)
  refine dnil ?_
  refine Sv.ret ?_
  replace h := Option.some.inj h
  subst h
  exact ⟨_, .refl _, _, rfl, ⟨upd (fun _ => none) 0 (some (lstV false 0 1 clerestoryref2_PropKinds_t0.length)), (upd (fun _ => none) 0 (lstB false 1 (clerestoryref2_PropKinds_t0.map eStr))), 1⟩, (lstV false 0 1 clerestoryref2_PropKinds_t0.length), weak_canon2 [0] [0] (by decide) (by decide) (fun b h => absurd h (Nat.not_lt_zero _)) (.cons (by decide) .nil) (.cons rfl (.c (lstC_ren rfl (by decide))) .nil) (.row (by decide) rfl (fr_map fun _ => rfl) .nil), rfl, false, (fun h => by cases h), rfl, rfl, rfl⟩
def a22_c0 : ACode := (.seq (.seq (.region [⟨(some 6), (.mov (.tmp 5)), none⟩, ⟨(some 7), (.mov (.tmp 0)), none⟩, ⟨(some 8), (.lenS (.tmp 7)), none⟩, ⟨(some 9), (.bin .lss (.tmp 6) (.tmp 8)), none⟩])
 (.cond (.tmp 9) .skip (.exit 0)))
 (.seq (.block 1 (.seq (.region [⟨(some 12), (.mov (.tmp 0)), none⟩, ⟨(some 13), (.mov (.tmp 5)), none⟩, ⟨(some 14), (.idxS (.tmp 12) (.tmp 13)), none⟩, ⟨(some 15), (.mov (.tmp 1)), none⟩, ⟨(some 16), (.bin .eql (.tmp 14) (.tmp 15)), none⟩])
 (.cond (.tmp 16) (.seq (.region [⟨(some 4), (.mov (.const (.c (.val (.bool true))))), none⟩])
 .ret) .skip)))
 (.region [⟨(some 10), (.mov (.tmp 5)), none⟩, ⟨(some 11), (.bin .add (.tmp 10) (.const (.c (.val (.int .i64 1))))), none⟩, ⟨(some 5), (.mov (.tmp 11)), none⟩])))
def a22 : AFunc := ⟨2, [(.tmp 4)], (.seq (.region [⟨(some 4), (.mov (.const (.c (.val (.bool false))))), none⟩])
 (.seq (.seq (.region [⟨(some 5), (.mov (.const (.c (.val (.int .i64 0))))), none⟩])
 (.block 0 (.loop a22_c0)))
 (.seq (.region [⟨(some 4), (.mov (.const (.c (.val (.bool false))))), none⟩])
 .ret)))⟩
set_option maxRecDepth 100000 in
theorem c22 : compFunc Tryd.prog 22 = some a22 := by kernel_rfl
def clerestoryref2_hasByte_post (r : Bool) : AV → Heap → Nat → Prop := fun v h' n' => v = (B r) ∧ (h' = (fun _ => none)) ∧ n' = 0
noncomputable def clerestoryref2_hasByte_l0 (s_ : (List UInt8)) (c_ : Int) (K0_ : Unit → Option Bool) : Nat → Int → Option Bool
  | 0, _ => none
  | k + 1, i_ =>
    if decide (i_ < (s_.length : Int)) then
      (at? s_ i_).bind fun c_1 =>
      if decide ((c_1.toNat : Int) = c_) then
        some true
      else
        (clerestoryref2_hasByte_l0 s_ c_ K0_ k) (wi (i_ + 1))
    else
      K0_ ()
theorem clerestoryref2_hasByte_l0_ok {Q : AExit → St → Prop} {s_ : (List UInt8)} {c_ : Int} {K0_ : Unit → Option Bool} {k : Nat} {i_ : Int} {o : Bool} (h : clerestoryref2_hasByte_l0 s_ c_ K0_ k i_ = some o)
    (hK0 : ∀ (_ : Unit), K0_ () = some o → ∀ s, Weak 0 s ⟨(fun _ => none), (fun _ => none), 0⟩ → Q (.exit 0) s)
    (hr : ∀ s, Ends a22.results 0 (clerestoryref2_hasByte_post o) .ret s → Q .ret s) :
    Sv Tryd.prog GG 0 (.loop a22_c0) Q ⟨(upd (upd (upd (fun _ => none) 0 (some (S s_))) 1 (some (.c (.val (.int .u8 c_))))) 5 (some (I i_))), (fun _ => none), 0⟩ := by
  refine Sv.loop (I := fun k s => ∃ (i_ : Int), clerestoryref2_hasByte_l0 s_ c_ K0_ k i_ = some o ∧ s = ⟨(upd (upd (upd (fun _ => none) 0 (some (S s_))) 1 (some (.c (.val (.int .u8 c_))))) 5 (some (I i_))), (fun _ => none), 0⟩) (fun k s hI => ?_) ⟨i_, h, rfl⟩
  clear h
  clear i_
  obtain ⟨i_, h, rfl⟩ := hI
  cases k with
  | zero => cases h
  | succ k =>
  rw [clerestoryref2_hasByte_l0] at h
  have hself : ∀ (i_ : Int), (clerestoryref2_hasByte_l0 s_ c_ K0_ k) i_ = some o → ∀ s, Weak 0 s ⟨(upd (upd (upd (fun _ => none) 0 (some (S s_))) 1 (some (.c (.val (.int .u8 c_))))) 5 (some (I i_))), (fun _ => none), 0⟩ → (AThen (fun s' => ∃ s'' k', Weak 0 s' s'' ∧ k' < k + 1 ∧ (fun k s => ∃ (i_ : Int), clerestoryref2_hasByte_l0 s_ c_ K0_ k i_ = some o ∧ s = ⟨(upd (upd (upd (fun _ => none) 0 (some (S s_))) 1 (some (.c (.val (.int .u8 c_))))) 5 (some (I i_))), (fun _ => none), 0⟩) k' s'') Q) .normal s := fun i_ h s hw => ⟨_, k, hw, Nat.lt_succ_self k, i_, h, rfl⟩
  refine Sv.seq ?_
  refine Sv.seq ?_
  refine Sv.region ?_
  refine un (a1 rfl ?_)
  refine un (a1 rfl ?_)
  refine un (a1 (v := (I (s_.length : Int))) rfl ?_)
  refine un (a1 (v := (B (decide (i_ < (s_.length : Int))))) rfl ?_)
  refine dnil ?_
  refine Sv.cond (b := decide (i_ < (s_.length : Int))) rfl (fun hc1 => ?_) (fun hc1 => ?_)
  · replace h := ifT hc1 h
    refine Sv.skip ?_
    refine Sv.seq ?_
    refine Sv.block ?_
    refine Sv.seq ?_
    refine Sv.region ?_
    refine un (a1 rfl ?_)
    refine un (a1 rfl ?_)
    obtain ⟨c_1, hx1, h⟩ := bnd h
    refine un (a1 (v := (.c (.val (.int .u8 (c_1.toNat : Int))))) (s_idxS rfl rfl hx1) ?_)
    refine un (a1 rfl ?_)
    refine un (a1 (v := (B (decide ((c_1.toNat : Int) = c_)))) rfl ?_)
    refine dnil ?_
    refine Sv.cond (b := decide ((c_1.toNat : Int) = c_)) rfl (fun hc2 => ?_) (fun hc2 => ?_)
    · replace h := ifT hc2 h
      refine Sv.seq ?_
      refine Sv.region ?_
      refine un (a1 rfl ?_)
      refine dnil ?_
      refine Sv.ret ?_
      replace h := Option.some.inj h
      subst h
      exact hr _ ⟨_, .refl _, _, rfl, ⟨upd (fun _ => none) 0 (some (B true)), (fun _ => none), 0⟩, (B true), weak_canon [] rfl List.nodup_nil (Nat.le_refl _) (fun b h => absurd h (Nat.not_lt_zero _)) (.cons rfl (avAs_free rfl) .nil) .nil, rfl, rfl, rfl, rfl⟩
    · replace h := ifF hc2 h
      refine Sv.skip ?_
      refine Sv.region ?_
      refine un (a1 rfl ?_)
      refine un (a1 (v := (I (wi (i_ + 1)))) rfl ?_)
      refine un (a1 rfl ?_)
      refine dnil ?_
      exact hself (wi (i_ + 1)) h _ (weak_canon [] rfl (by decide) (by decide) (fun b h => absurd h (Nat.not_lt_zero _)) (.cons rfl (avAs_free rfl) (.cons rfl (avAs_free rfl) (.cons rfl (avAs_free rfl) .nil))) .nil)
  · replace h := ifF hc1 h
    refine Sv.exit ?_
    exact hK0 () h _ (weak_canon [] rfl (by decide) (by decide) (fun b h => absurd h (Nat.not_lt_zero _)) .nil .nil)
/-- clerestory/clerestoryref2.hasByte -/
noncomputable def clerestoryref2_hasByte (s_ : (List UInt8)) (c_ : Int) : Option Bool :=
  lim fun kk => clerestoryref2_hasByte_l0 s_ c_ (fun (_ : Unit) => 
      some false) kk 0
theorem clerestoryref2_hasByte_ok {s_ : (List UInt8)} {c_ : Int} {r : Bool} (h : clerestoryref2_hasByte s_ c_ = some r) : CPure Tryd.prog GG 22 [(S s_), (.c (.val (.int .u8 c_)))] (B r) := by
  refine acalls_of_sv hmix c22 (R := clerestoryref2_hasByte_post r) ?_
  unfold clerestoryref2_hasByte at h
  refine Sv.seq ?_
  refine Sv.region ?_
  refine un (a1 rfl ?_)
  refine dnil ?_
  refine Sv.seq ?_
  refine Sv.seq ?_
  refine Sv.region ?_
  refine un (a1 rfl ?_)
  refine dnil ?_
  refine Sv.block ?_
  obtain ⟨kk, h⟩ := lim_some h
  refine Sv.weak (weak_canon [] rfl (by decide) (by decide) (fun b h => absurd h (Nat.not_lt_zero _)) (.cons rfl (avAs_free rfl) (.cons rfl (avAs_free rfl) (.cons rfl (avAs_free rfl) .nil))) .nil) (clerestoryref2_hasByte_l0_ok h ?_ (fun s hs => hs))
  · intro _ h _ hw1
    refine Sv.weak hw1 ?_
    refine Sv.seq ?_
    refine Sv.region ?_
    refine un (a1 rfl ?_)
    refine dnil ?_
    refine Sv.ret ?_
    replace h := Option.some.inj h
    subst h
    exact ⟨_, .refl _, _, rfl, ⟨upd (fun _ => none) 0 (some (B false)), (fun _ => none), 0⟩, (B false), weak_canon [] rfl List.nodup_nil (Nat.le_refl _) (fun b h => absurd h (Nat.not_lt_zero _)) (.cons rfl (avAs_free rfl) .nil) .nil, rfl, rfl, rfl, rfl⟩
def a7 : AFunc := ⟨1, [(.cell true 2 2)], (.seq (.region [⟨(some 2), (.box (.const (.agg [(.val (.int .i64 0)), (.val (.int .i64 0))]))), none⟩])
 (.seq (.seq (.region [⟨(some 4), (.mov (.tmp 0)), none⟩, ⟨(some 5), (.bin .lss (.tmp 4) (.const (.c (.val (.int .i64 0))))), none⟩, ⟨(some 6), (.mov (.tmp 5)), none⟩, ⟨(some 7), (.mov (.tmp 0)), (some (6, false))⟩, ⟨(some 8), (.bin .geq (.tmp 7) (.const (.c (.val (.int .i64 59))))), (some (6, false))⟩, ⟨(some 9), (.pick (.tmp 6) (.const (.c (.val (.bool true)))) (.tmp 8)), none⟩])
 (.cond (.tmp 9) (.seq (.region [⟨(some 10), (.build [(.val (.int .i64 0)), (.val (.int .i64 0))] []), none⟩, ⟨none, (.store 2 (.tmp 2) (.tmp 10)), none⟩])
 .ret) .skip))
 (.seq (.region [⟨(some 11), (.call 21 []), none⟩, ⟨(some 12), (.mov (.tmp 0)), none⟩, ⟨(some 13), (.iaddr 1 (.tmp 11) (.tmp 12)), none⟩, ⟨(some 14), (.load false 1 (.tmp 13)), none⟩, ⟨(some 3), (.mov (.tmp 14)), none⟩])
 (.seq (.seq (.region [⟨(some 15), (.mov (.tmp 0)), none⟩, ⟨(some 16), (.bin .eql (.tmp 15) (.const (.c (.val (.int .i64 37))))), none⟩])
 (.cond (.tmp 16) (.seq (.region [⟨(some 17), (.build [(.val (.int .i64 0)), (.val (.int .i64 0))] [(0, (1, (.const (.c (.val (.int .i64 2)))))), (1, (1, (.const (.c (.val (.int .i64 1024))))))]), none⟩, ⟨none, (.store 2 (.tmp 2) (.tmp 17)), none⟩])
 .ret) .skip))
 (.seq (.seq (.region [⟨(some 18), (.mov (.tmp 0)), none⟩, ⟨(some 19), (.bin .geq (.tmp 18) (.const (.c (.val (.int .i64 11))))), none⟩, ⟨(some 20), (.mov (.tmp 19)), none⟩, ⟨(some 21), (.mov (.tmp 0)), (some (20, true))⟩, ⟨(some 22), (.bin .leq (.tmp 21) (.const (.c (.val (.int .i64 14))))), (some (20, true))⟩, ⟨(some 23), (.pick (.tmp 20) (.tmp 22) (.const (.c (.val (.bool false))))), none⟩])
 (.cond (.tmp 23) (.seq (.region [⟨(some 24), (.build [(.val (.int .i64 0)), (.val (.int .i64 0))] [(0, (1, (.const (.c (.val (.int .i64 2))))))]), none⟩, ⟨none, (.store 2 (.tmp 2) (.tmp 24)), none⟩])
 .ret) .skip))
 (.seq (.seq (.region [⟨(some 25), (.mov (.tmp 3)), none⟩, ⟨(some 26), (.call 22 [(.tmp 25), (.const (.c (.val (.int .u8 97))))]), none⟩])
 (.cond (.tmp 26) (.seq (.region [⟨(some 27), (.build [(.val (.int .i64 0)), (.val (.int .i64 0))] [(0, (1, (.const (.c (.val (.int .i64 6))))))]), none⟩, ⟨none, (.store 2 (.tmp 2) (.tmp 27)), none⟩])
 .ret) .skip))
 (.seq (.seq (.region [⟨(some 28), (.mov (.tmp 0)), none⟩, ⟨(some 29), (.bin .eql (.tmp 28) (.const (.c (.val (.int .i64 0))))), none⟩, ⟨(some 30), (.mov (.tmp 29)), none⟩, ⟨(some 31), (.mov (.tmp 0)), (some (30, false))⟩, ⟨(some 32), (.bin .eql (.tmp 31) (.const (.c (.val (.int .i64 57))))), (some (30, false))⟩, ⟨(some 33), (.pick (.tmp 30) (.const (.c (.val (.bool true)))) (.tmp 32)), none⟩])
 (.cond (.tmp 33) (.seq (.region [⟨(some 34), (.build [(.val (.int .i64 0)), (.val (.int .i64 0))] [(0, (1, (.const (.c (.val (.int .i64 1)))))), (1, (1, (.const (.c (.val (.int .i64 1))))))]), none⟩, ⟨none, (.store 2 (.tmp 2) (.tmp 34)), none⟩])
 .ret) .skip))
 (.seq (.seq (.region [⟨(some 35), (.mov (.tmp 0)), none⟩, ⟨(some 36), (.bin .eql (.tmp 35) (.const (.c (.val (.int .i64 48))))), none⟩])
 (.cond (.tmp 36) (.seq (.region [⟨(some 37), (.build [(.val (.int .i64 0)), (.val (.int .i64 0))] [(0, (1, (.const (.c (.val (.int .i64 1)))))), (1, (1, (.const (.c (.val (.int .i64 6))))))]), none⟩, ⟨none, (.store 2 (.tmp 2) (.tmp 37)), none⟩])
 .ret) .skip))
 (.seq (.seq (.region [⟨(some 38), (.mov (.tmp 3)), none⟩, ⟨(some 39), (.call 22 [(.tmp 38), (.const (.c (.val (.int .u8 107))))]), none⟩])
 (.cond (.tmp 39) (.seq (.region [⟨(some 40), (.build [(.val (.int .i64 0)), (.val (.int .i64 0))] [(0, (1, (.const (.c (.val (.int .i64 1))))))]), none⟩, ⟨none, (.store 2 (.tmp 2) (.tmp 40)), none⟩])
 .ret) .skip))
 (.seq (.seq (.region [⟨(some 41), (.mov (.tmp 0)), none⟩, ⟨(some 42), (.bin .eql (.tmp 41) (.const (.c (.val (.int .i64 36))))), none⟩])
 (.cond (.tmp 42) (.seq (.region [⟨(some 43), (.build [(.val (.int .i64 0)), (.val (.int .i64 0))] [(0, (1, (.const (.c (.val (.int .i64 5))))))]), none⟩, ⟨none, (.store 2 (.tmp 2) (.tmp 43)), none⟩])
 .ret) .skip))
 (.seq (.seq (.region [⟨(some 44), (.mov (.tmp 3)), none⟩, ⟨(some 45), (.call 22 [(.tmp 44), (.const (.c (.val (.int .u8 99))))]), none⟩])
 (.cond (.tmp 45) (.seq (.region [⟨(some 46), (.build [(.val (.int .i64 0)), (.val (.int .i64 0))] [(0, (1, (.const (.c (.val (.int .i64 5)))))), (1, (1, (.const (.c (.val (.int .i64 255))))))]), none⟩, ⟨none, (.store 2 (.tmp 2) (.tmp 46)), none⟩])
 .ret) .skip))
 (.seq (.seq (.region [⟨(some 47), (.mov (.tmp 0)), none⟩, ⟨(some 48), (.bin .eql (.tmp 47) (.const (.c (.val (.int .i64 34))))), none⟩, ⟨(some 49), (.mov (.tmp 48)), none⟩, ⟨(some 50), (.mov (.tmp 0)), (some (49, false))⟩, ⟨(some 51), (.bin .eql (.tmp 50) (.const (.c (.val (.int .i64 51))))), (some (49, false))⟩, ⟨(some 52), (.pick (.tmp 49) (.const (.c (.val (.bool true)))) (.tmp 51)), none⟩])
 (.cond (.tmp 52) (.seq (.region [⟨(some 53), (.build [(.val (.int .i64 0)), (.val (.int .i64 0))] [(0, (1, (.const (.c (.val (.int .i64 4)))))), (1, (1, (.const (.c (.val (.int .i64 1000))))))]), none⟩, ⟨none, (.store 2 (.tmp 2) (.tmp 53)), none⟩])
 .ret) .skip))
 (.seq (.seq (.region [⟨(some 54), (.mov (.tmp 3)), none⟩, ⟨(some 55), (.call 22 [(.tmp 54), (.const (.c (.val (.int .u8 110))))]), none⟩])
 (.cond (.tmp 55) (.seq (.region [⟨(some 56), (.build [(.val (.int .i64 0)), (.val (.int .i64 0))] [(0, (1, (.const (.c (.val (.int .i64 4))))))]), none⟩, ⟨none, (.store 2 (.tmp 2) (.tmp 56)), none⟩])
 .ret) .skip))
 (.seq (.region [⟨(some 57), (.build [(.val (.int .i64 0)), (.val (.int .i64 0))] [(0, (1, (.const (.c (.val (.int .i64 2))))))]), none⟩, ⟨none, (.store 2 (.tmp 2) (.tmp 57)), none⟩])
 .ret))))))))))))))⟩
set_option maxRecDepth 100000 in
theorem c7 : compFunc Tryd.prog 7 = some a7 := by kernel_rfl
def clerestoryref2_InitialOf_post (r : TVal) : AV → Heap → Nat → Prop := fun v h' n' => v = (.agg [cI r.Kind, cI r.N]) ∧ (h' = (fun _ => none)) ∧ n' = 0
/-- clerestory/clerestoryref2.InitialOf -/
noncomputable def clerestoryref2_InitialOf (p_ : Int) : Option TVal :=
  if ((decide (p_ < 0)) || (decide (59 ≤ p_))) then
    some (⟨0, 0⟩ : TVal)
  else
    (clerestoryref2_PropKinds).bind fun r_ =>
    (at? r_ p_).bind fun x_ =>
    if decide (p_ = 37) then
      some (⟨2, 1024⟩ : TVal)
    else
      if ((decide (11 ≤ p_)) && (decide (p_ ≤ 14))) then
        some (⟨2, 0⟩ : TVal)
      else
        (clerestoryref2_hasByte x_ 97).bind fun r_1 =>
        if r_1 then
          some (⟨6, 0⟩ : TVal)
        else
          if ((decide (p_ = 0)) || (decide (p_ = 57))) then
            some (⟨1, 1⟩ : TVal)
          else
            if decide (p_ = 48) then
              some (⟨1, 6⟩ : TVal)
            else
              (clerestoryref2_hasByte x_ 107).bind fun r_2 =>
              if r_2 then
                some (⟨1, 0⟩ : TVal)
              else
                if decide (p_ = 36) then
                  some (⟨5, 0⟩ : TVal)
                else
                  (clerestoryref2_hasByte x_ 99).bind fun r_3 =>
                  if r_3 then
                    some (⟨5, 255⟩ : TVal)
                  else
                    if ((decide (p_ = 34)) || (decide (p_ = 51))) then
                      some (⟨4, 1000⟩ : TVal)
                    else
                      (clerestoryref2_hasByte x_ 110).bind fun r_4 =>
                      if r_4 then
                        some (⟨4, 0⟩ : TVal)
                      else
                        some (⟨2, 0⟩ : TVal)
theorem clerestoryref2_InitialOf_ok {p_ : Int} {r : TVal} (h : clerestoryref2_InitialOf p_ = some r) : CPure Tryd.prog GG 7 [(I p_)] (.agg [cI r.Kind, cI r.N]) := by
  refine acalls_of_sv hmix c7 (R := clerestoryref2_InitialOf_post r) ?_
  unfold clerestoryref2_InitialOf at h
  refine Sv.seq ?_
  refine Sv.region ?_
  refine un (a2v (v := (.c (.ref 0 2 0 0))) (h' := upd _ 0 (some (.cells 2 [[cI 0, cI 0]]))) (n' := 1) rfl rfl (fun h => by cases h) ?_)
  refine dnil ?_
  refine Sv.seq ?_
  refine Sv.seq ?_
  refine Sv.region ?_
  refine un (a1 rfl ?_)
  refine un (a1 (v := (B (decide (p_ < 0)))) rfl ?_)
  refine un (a1 rfl ?_)
  refine gjoin 3 (d := 9) (v := (B ((decide (p_ < 0)) || (decide (59 ≤ p_))))) (fun X hX => ?_) ?_
  · refine split2 (fun hc1 => ?_) (fun hc1 => ?_)
    · refine gs rfl rfl ?_
      refine gs rfl rfl ?_
      refine un (a1 (v := (B true)) rfl ?_)
      refine dnil ?_
      exact hX _ (.putEq (by rw [hc1]; rfl) (.skip _ _ (.skip _ _ (.putEq (by rw [hc1]) (.refl _)) rfl) rfl))
    · refine gt rfl (a1 rfl ?_)
      refine gt rfl (a1 (v := (B (decide (59 ≤ p_)))) rfl ?_)
      refine un (a1 (v := (B (decide (59 ≤ p_)))) rfl ?_)
      refine dnil ?_
      exact hX _ (.putEq (by rw [hc1]; rfl) (.skip _ _ (.skip _ _ (.putEq (by rw [hc1]) (.refl _)) rfl) rfl))
  refine dnil ?_
  refine Sv.cond (b := ((decide (p_ < 0)) || (decide (59 ≤ p_)))) rfl (fun hc2 => ?_) (fun hc2 => ?_)
  · replace h := ifT hc2 h
    refine Sv.seq ?_
    refine Sv.region ?_
    refine un (a1 (v := (.agg [cI 0, cI 0])) rfl ?_)
    refine un (a2n (h' := upd _ 0 (some (.cells 2 [[cI 0, cI 0]]))) (n' := 1) rfl rfl (fun h => by cases h) ?_)
    refine dnil ?_
    refine Sv.ret ?_
    replace h := Option.some.inj h
    subst h
    exact ⟨_, .refl _, _, rfl, ⟨upd (fun _ => none) 0 (some (.agg [cI 0, cI 0])), (fun _ => none), 0⟩, (.agg [cI 0, cI 0]), weak_canon [] rfl List.nodup_nil (Nat.le_refl _) (fun b h => absurd h (Nat.not_lt_zero _)) (.cons rfl (avAs_free rfl) .nil) .nil, rfl, rfl, rfl, rfl⟩
  · replace h := ifF hc2 h
    refine Sv.skip ?_
    refine Sv.seq ?_
    refine Sv.region ?_
    obtain ⟨r_, hr1, h⟩ := bnd h
    refine un (ac_gen (bs := []) («as» := []) (h2 := _) (h1 := (fun _ => none)) (clerestoryref2_PropKinds_ok hr1) rfl .nil (hsub_refl _) (.nil _) (fun _ => rfl) (by decide) (by decide) .nil .nil ?_)
    rintro _ _ _ hn ⟨z_, hz_, rfl, rfl, rfl⟩
    refine ⟨.inl rfl, (upd (rem [] _) 1 (lstB z_ 1 (r_.map eStr))), fun hbd => (m3_cons (m3_row rfl (fr_map fun _ => rfl)) (m3_rem (in_nil _) (.cons (by decide) .nil) hbd)), (lstV z_ 1 1 r_.length), 2, (by cases z_ <;> rfl), rfl, ?_⟩
    refine un (a1 rfl ?_)
    obtain ⟨x_, hx1, h⟩ := bnd h
    refine un (a1 (v := (.c (.ref 1 1 p_.toNat 0))) (s_iaddrL rfl rfl hz_ hx1) ?_)
    refine un (a1 (v := (S x_)) (s_loadL (e := eStr) rfl rfl hz_ hx1 rfl rfl) ?_)
    refine un (a1 rfl ?_)
    refine dnil ?_
    refine Sv.seq ?_
    refine Sv.seq ?_
    refine Sv.region ?_
    refine un (a1 rfl ?_)
    refine un (a1 (v := (B (decide (p_ = 37)))) rfl ?_)
    refine dnil ?_
    refine Sv.cond (b := decide (p_ = 37)) rfl (fun hc3 => ?_) (fun hc3 => ?_)
    · replace h := ifT hc3 h
      refine Sv.seq ?_
      refine Sv.region ?_
      refine un (a1 (v := (.agg [cI 2, cI 1024])) rfl ?_)
      refine un (a2n (h' := upd _ 0 (some (.cells 2 [[cI 2, cI 1024]]))) (n' := 2) rfl rfl (fun h => by cases h) ?_)
      refine dnil ?_
      refine Sv.ret ?_
      replace h := Option.some.inj h
      subst h
      exact ⟨_, .refl _, _, rfl, ⟨upd (fun _ => none) 0 (some (.agg [cI 2, cI 1024])), (fun _ => none), 0⟩, (.agg [cI 2, cI 1024]), weak_canon [] rfl List.nodup_nil (Nat.le_refl _) (fun b h => absurd h (Nat.not_lt_zero _)) (.cons rfl (avAs_free rfl) .nil) .nil, rfl, rfl, rfl, rfl⟩
    · replace h := ifF hc3 h
      refine Sv.skip ?_
      refine Sv.seq ?_
      refine Sv.seq ?_
      refine Sv.region ?_
      refine un (a1 rfl ?_)
      refine un (a1 (v := (B (decide (11 ≤ p_)))) rfl ?_)
      refine un (a1 rfl ?_)
      refine gjoin 3 (d := 23) (v := (B ((decide (11 ≤ p_)) && (decide (p_ ≤ 14))))) (fun X hX => ?_) ?_
      · refine split2 (fun hc4 => ?_) (fun hc4 => ?_)
        · refine gt rfl (a1 rfl ?_)
          refine gt rfl (a1 (v := (B (decide (p_ ≤ 14)))) rfl ?_)
          refine un (a1 (v := (B (decide (p_ ≤ 14)))) rfl ?_)
          refine dnil ?_
          exact hX _ (.putEq (by rw [hc4]; rfl) (.skip _ _ (.skip _ _ (.putEq (by rw [hc4]) (.refl _)) rfl) rfl))
        · refine gs rfl rfl ?_
          refine gs rfl rfl ?_
          refine un (a1 (v := (B false)) rfl ?_)
          refine dnil ?_
          exact hX _ (.putEq (by rw [hc4]; rfl) (.skip _ _ (.skip _ _ (.putEq (by rw [hc4]) (.refl _)) rfl) rfl))
      refine dnil ?_
      refine Sv.cond (b := ((decide (11 ≤ p_)) && (decide (p_ ≤ 14)))) rfl (fun hc5 => ?_) (fun hc5 => ?_)
      · replace h := ifT hc5 h
        refine Sv.seq ?_
        refine Sv.region ?_
        refine un (a1 (v := (.agg [cI 2, cI 0])) rfl ?_)
        refine un (a2n (h' := upd _ 0 (some (.cells 2 [[cI 2, cI 0]]))) (n' := 2) rfl rfl (fun h => by cases h) ?_)
        refine dnil ?_
        refine Sv.ret ?_
        replace h := Option.some.inj h
        subst h
        exact ⟨_, .refl _, _, rfl, ⟨upd (fun _ => none) 0 (some (.agg [cI 2, cI 0])), (fun _ => none), 0⟩, (.agg [cI 2, cI 0]), weak_canon [] rfl List.nodup_nil (Nat.le_refl _) (fun b h => absurd h (Nat.not_lt_zero _)) (.cons rfl (avAs_free rfl) .nil) .nil, rfl, rfl, rfl, rfl⟩
      · replace h := ifF hc5 h
        refine Sv.skip ?_
        refine Sv.seq ?_
        refine Sv.seq ?_
        refine Sv.region ?_
        refine un (a1 rfl ?_)
        obtain ⟨r_1, hr2, h⟩ := bnd h
        refine un (ac_pure (clerestoryref2_hasByte_ok hr2) rfl rfl rfl ?_)
        refine dnil ?_
        refine Sv.cond (b := r_1) rfl (fun hc6 => ?_) (fun hc6 => ?_)
        · replace h := ifT hc6 h
          refine Sv.seq ?_
          refine Sv.region ?_
          refine un (a1 (v := (.agg [cI 6, cI 0])) rfl ?_)
          refine un (a2n (h' := upd _ 0 (some (.cells 2 [[cI 6, cI 0]]))) (n' := 2) rfl rfl (fun h => by cases h) ?_)
          refine dnil ?_
          refine Sv.ret ?_
          replace h := Option.some.inj h
          subst h
          exact ⟨_, .refl _, _, rfl, ⟨upd (fun _ => none) 0 (some (.agg [cI 6, cI 0])), (fun _ => none), 0⟩, (.agg [cI 6, cI 0]), weak_canon [] rfl List.nodup_nil (Nat.le_refl _) (fun b h => absurd h (Nat.not_lt_zero _)) (.cons rfl (avAs_free rfl) .nil) .nil, rfl, rfl, rfl, rfl⟩
        · replace h := ifF hc6 h
          refine Sv.skip ?_
          refine Sv.seq ?_
          refine Sv.seq ?_
          refine Sv.region ?_
          refine un (a1 rfl ?_)
          refine un (a1 (v := (B (decide (p_ = 0)))) rfl ?_)
          refine un (a1 rfl ?_)
          refine gjoin 3 (d := 33) (v := (B ((decide (p_ = 0)) || (decide (p_ = 57))))) (fun X hX => ?_) ?_
          · refine split2 (fun hc7 => ?_) (fun hc7 => ?_)
            · refine gs rfl rfl ?_
              refine gs rfl rfl ?_
              refine un (a1 (v := (B true)) rfl ?_)
              refine dnil ?_
              exact hX _ (.putEq (by rw [hc7]; rfl) (.skip _ _ (.skip _ _ (.putEq (by rw [hc7]) (.refl _)) rfl) rfl))
            · refine gt rfl (a1 rfl ?_)
              refine gt rfl (a1 (v := (B (decide (p_ = 57)))) rfl ?_)
              refine un (a1 (v := (B (decide (p_ = 57)))) rfl ?_)
              refine dnil ?_
              exact hX _ (.putEq (by rw [hc7]; rfl) (.skip _ _ (.skip _ _ (.putEq (by rw [hc7]) (.refl _)) rfl) rfl))
          refine dnil ?_
          refine Sv.cond (b := ((decide (p_ = 0)) || (decide (p_ = 57)))) rfl (fun hc8 => ?_) (fun hc8 => ?_)
          · replace h := ifT hc8 h
            refine Sv.seq ?_
            refine Sv.region ?_
            refine un (a1 (v := (.agg [cI 1, cI 1])) rfl ?_)
            refine un (a2n (h' := upd _ 0 (some (.cells 2 [[cI 1, cI 1]]))) (n' := 2) rfl rfl (fun h => by cases h) ?_)
            refine dnil ?_
            refine Sv.ret ?_
            replace h := Option.some.inj h
            subst h
            exact ⟨_, .refl _, _, rfl, ⟨upd (fun _ => none) 0 (some (.agg [cI 1, cI 1])), (fun _ => none), 0⟩, (.agg [cI 1, cI 1]), weak_canon [] rfl List.nodup_nil (Nat.le_refl _) (fun b h => absurd h (Nat.not_lt_zero _)) (.cons rfl (avAs_free rfl) .nil) .nil, rfl, rfl, rfl, rfl⟩
          · replace h := ifF hc8 h
            refine Sv.skip ?_
            refine Sv.seq ?_
            refine Sv.seq ?_
            refine Sv.region ?_
            refine un (a1 rfl ?_)
            refine un (a1 (v := (B (decide (p_ = 48)))) rfl ?_)
            refine dnil ?_
            refine Sv.cond (b := decide (p_ = 48)) rfl (fun hc9 => ?_) (fun hc9 => ?_)
            · replace h := ifT hc9 h
              refine Sv.seq ?_
              refine Sv.region ?_
              refine un (a1 (v := (.agg [cI 1, cI 6])) rfl ?_)
              refine un (a2n (h' := upd _ 0 (some (.cells 2 [[cI 1, cI 6]]))) (n' := 2) rfl rfl (fun h => by cases h) ?_)
              refine dnil ?_
              refine Sv.ret ?_
              replace h := Option.some.inj h
              subst h
              exact ⟨_, .refl _, _, rfl, ⟨upd (fun _ => none) 0 (some (.agg [cI 1, cI 6])), (fun _ => none), 0⟩, (.agg [cI 1, cI 6]), weak_canon [] rfl List.nodup_nil (Nat.le_refl _) (fun b h => absurd h (Nat.not_lt_zero _)) (.cons rfl (avAs_free rfl) .nil) .nil, rfl, rfl, rfl, rfl⟩
            · replace h := ifF hc9 h
              refine Sv.skip ?_
              refine Sv.seq ?_
              refine Sv.seq ?_
              refine Sv.region ?_
              refine un (a1 rfl ?_)
              obtain ⟨r_2, hr3, h⟩ := bnd h
              refine un (ac_pure (clerestoryref2_hasByte_ok hr3) rfl rfl rfl ?_)
              refine dnil ?_
              refine Sv.cond (b := r_2) rfl (fun hc10 => ?_) (fun hc10 => ?_)
              · replace h := ifT hc10 h
                refine Sv.seq ?_
                refine Sv.region ?_
                refine un (a1 (v := (.agg [cI 1, cI 0])) rfl ?_)
                refine un (a2n (h' := upd _ 0 (some (.cells 2 [[cI 1, cI 0]]))) (n' := 2) rfl rfl (fun h => by cases h) ?_)
                refine dnil ?_
                refine Sv.ret ?_
                replace h := Option.some.inj h
                subst h
                exact ⟨_, .refl _, _, rfl, ⟨upd (fun _ => none) 0 (some (.agg [cI 1, cI 0])), (fun _ => none), 0⟩, (.agg [cI 1, cI 0]), weak_canon [] rfl List.nodup_nil (Nat.le_refl _) (fun b h => absurd h (Nat.not_lt_zero _)) (.cons rfl (avAs_free rfl) .nil) .nil, rfl, rfl, rfl, rfl⟩
              · replace h := ifF hc10 h
                refine Sv.skip ?_
                refine Sv.seq ?_
                refine Sv.seq ?_
                refine Sv.region ?_
                refine un (a1 rfl ?_)
                refine un (a1 (v := (B (decide (p_ = 36)))) rfl ?_)
                refine dnil ?_
                refine Sv.cond (b := decide (p_ = 36)) rfl (fun hc11 => ?_) (fun hc11 => ?_)
                · replace h := ifT hc11 h
                  refine Sv.seq ?_
                  refine Sv.region ?_
                  refine un (a1 (v := (.agg [cI 5, cI 0])) rfl ?_)
                  refine un (a2n (h' := upd _ 0 (some (.cells 2 [[cI 5, cI 0]]))) (n' := 2) rfl rfl (fun h => by cases h) ?_)
                  refine dnil ?_
                  refine Sv.ret ?_
                  replace h := Option.some.inj h
                  subst h
                  exact ⟨_, .refl _, _, rfl, ⟨upd (fun _ => none) 0 (some (.agg [cI 5, cI 0])), (fun _ => none), 0⟩, (.agg [cI 5, cI 0]), weak_canon [] rfl List.nodup_nil (Nat.le_refl _) (fun b h => absurd h (Nat.not_lt_zero _)) (.cons rfl (avAs_free rfl) .nil) .nil, rfl, rfl, rfl, rfl⟩
                · replace h := ifF hc11 h
                  refine Sv.skip ?_
                  refine Sv.seq ?_
                  refine Sv.seq ?_
                  refine Sv.region ?_
                  refine un (a1 rfl ?_)
                  obtain ⟨r_3, hr4, h⟩ := bnd h
                  refine un (ac_pure (clerestoryref2_hasByte_ok hr4) rfl rfl rfl ?_)
                  refine dnil ?_
                  refine Sv.cond (b := r_3) rfl (fun hc12 => ?_) (fun hc12 => ?_)
                  · replace h := ifT hc12 h
                    refine Sv.seq ?_
                    refine Sv.region ?_
                    refine un (a1 (v := (.agg [cI 5, cI 255])) rfl ?_)
                    refine un (a2n (h' := upd _ 0 (some (.cells 2 [[cI 5, cI 255]]))) (n' := 2) rfl rfl (fun h => by cases h) ?_)
                    refine dnil ?_
                    refine Sv.ret ?_
                    replace h := Option.some.inj h
                    subst h
                    exact ⟨_, .refl _, _, rfl, ⟨upd (fun _ => none) 0 (some (.agg [cI 5, cI 255])), (fun _ => none), 0⟩, (.agg [cI 5, cI 255]), weak_canon [] rfl List.nodup_nil (Nat.le_refl _) (fun b h => absurd h (Nat.not_lt_zero _)) (.cons rfl (avAs_free rfl) .nil) .nil, rfl, rfl, rfl, rfl⟩
                  · replace h := ifF hc12 h
                    refine Sv.skip ?_
                    refine Sv.seq ?_
                    refine Sv.seq ?_
                    refine Sv.region ?_
                    refine un (a1 rfl ?_)
                    refine un (a1 (v := (B (decide (p_ = 34)))) rfl ?_)
                    refine un (a1 rfl ?_)
                    refine gjoin 3 (d := 52) (v := (B ((decide (p_ = 34)) || (decide (p_ = 51))))) (fun X hX => ?_) ?_
                    · refine split2 (fun hc13 => ?_) (fun hc13 => ?_)
                      · refine gs rfl rfl ?_
                        refine gs rfl rfl ?_
                        refine un (a1 (v := (B true)) rfl ?_)
                        refine dnil ?_
                        exact hX _ (.putEq (by rw [hc13]; rfl) (.skip _ _ (.skip _ _ (.putEq (by rw [hc13]) (.refl _)) rfl) rfl))
                      · refine gt rfl (a1 rfl ?_)
                        refine gt rfl (a1 (v := (B (decide (p_ = 51)))) rfl ?_)
                        refine un (a1 (v := (B (decide (p_ = 51)))) rfl ?_)
                        refine dnil ?_
                        exact hX _ (.putEq (by rw [hc13]; rfl) (.skip _ _ (.skip _ _ (.putEq (by rw [hc13]) (.refl _)) rfl) rfl))
                    refine dnil ?_
                    refine Sv.cond (b := ((decide (p_ = 34)) || (decide (p_ = 51)))) rfl (fun hc14 => ?_) (fun hc14 => ?_)
                    · replace h := ifT hc14 h
                      refine Sv.seq ?_
                      refine Sv.region ?_
                      refine un (a1 (v := (.agg [cI 4, cI 1000])) rfl ?_)
                      refine un (a2n (h' := upd _ 0 (some (.cells 2 [[cI 4, cI 1000]]))) (n' := 2) rfl rfl (fun h => by cases h) ?_)
                      refine dnil ?_
                      refine Sv.ret ?_
                      replace h := Option.some.inj h
                      subst h
                      exact ⟨_, .refl _, _, rfl, ⟨upd (fun _ => none) 0 (some (.agg [cI 4, cI 1000])), (fun _ => none), 0⟩, (.agg [cI 4, cI 1000]), weak_canon [] rfl List.nodup_nil (Nat.le_refl _) (fun b h => absurd h (Nat.not_lt_zero _)) (.cons rfl (avAs_free rfl) .nil) .nil, rfl, rfl, rfl, rfl⟩
                    · replace h := ifF hc14 h
                      refine Sv.skip ?_
                      refine Sv.seq ?_
                      refine Sv.seq ?_
                      refine Sv.region ?_
                      refine un (a1 rfl ?_)
                      obtain ⟨r_4, hr5, h⟩ := bnd h
                      refine un (ac_pure (clerestoryref2_hasByte_ok hr5) rfl rfl rfl ?_)
                      refine dnil ?_
                      refine Sv.cond (b := r_4) rfl (fun hc15 => ?_) (fun hc15 => ?_)
                      · replace h := ifT hc15 h
                        refine Sv.seq ?_
                        refine Sv.region ?_
                        refine un (a1 (v := (.agg [cI 4, cI 0])) rfl ?_)
                        refine un (a2n (h' := upd _ 0 (some (.cells 2 [[cI 4, cI 0]]))) (n' := 2) rfl rfl (fun h => by cases h) ?_)
                        refine dnil ?_
                        refine Sv.ret ?_
                        replace h := Option.some.inj h
                        subst h
                        exact ⟨_, .refl _, _, rfl, ⟨upd (fun _ => none) 0 (some (.agg [cI 4, cI 0])), (fun _ => none), 0⟩, (.agg [cI 4, cI 0]), weak_canon [] rfl List.nodup_nil (Nat.le_refl _) (fun b h => absurd h (Nat.not_lt_zero _)) (.cons rfl (avAs_free rfl) .nil) .nil, rfl, rfl, rfl, rfl⟩
                      · replace h := ifF hc15 h
                        refine Sv.skip ?_
                        refine Sv.seq ?_
                        refine Sv.region ?_
                        refine un (a1 (v := (.agg [cI 2, cI 0])) rfl ?_)
                        refine un (a2n (h' := upd _ 0 (some (.cells 2 [[cI 2, cI 0]]))) (n' := 2) rfl rfl (fun h => by cases h) ?_)
                        refine dnil ?_
                        refine Sv.ret ?_
                        replace h := Option.some.inj h
                        subst h
                        exact ⟨_, .refl _, _, rfl, ⟨upd (fun _ => none) 0 (some (.agg [cI 2, cI 0])), (fun _ => none), 0⟩, (.agg [cI 2, cI 0]), weak_canon [] rfl List.nodup_nil (Nat.le_refl _) (fun b h => absurd h (Nat.not_lt_zero _)) (.cons rfl (avAs_free rfl) .nil) .nil, rfl, rfl, rfl, rfl⟩
def a8_c0 : ACode := (.cond (.tmp 4) (.seq (.region [⟨(some 2), (.mov (.const (.c (.val (.bool true))))), none⟩])
 .ret) .skip)
def a8_c1 : ACode := (.seq (.region [⟨(some 2), (.mov (.const (.c (.val (.bool false))))), none⟩])
 .ret)
def a8 : AFunc := ⟨1, [(.tmp 2)], (.seq (.region [⟨(some 2), (.mov (.const (.c (.val (.bool false))))), none⟩])
 (.seq (.seq (.region [⟨(some 3), (.mov (.tmp 0)), none⟩])
 (.block 0 (.seq (.seq (.region [⟨(some 5), (.bin .eql (.tmp 3) (.const (.c (.val (.int .i64 33))))), none⟩, ⟨(some 4), (.mov (.tmp 5)), none⟩])
 (.cond (.tmp 4) .skip (.seq (.region [⟨(some 6), (.bin .eql (.tmp 3) (.const (.c (.val (.int .i64 35))))), none⟩, ⟨(some 4), (.mov (.tmp 6)), none⟩])
 (.cond (.tmp 4) .skip (.seq (.region [⟨(some 7), (.bin .eql (.tmp 3) (.const (.c (.val (.int .i64 37))))), none⟩, ⟨(some 4), (.mov (.tmp 7)), none⟩])
 (.cond (.tmp 4) .skip (.seq (.region [⟨(some 8), (.bin .eql (.tmp 3) (.const (.c (.val (.int .i64 38))))), none⟩, ⟨(some 4), (.mov (.tmp 8)), none⟩])
 (.cond (.tmp 4) .skip (.seq (.region [⟨(some 9), (.bin .eql (.tmp 3) (.const (.c (.val (.int .i64 39))))), none⟩, ⟨(some 4), (.mov (.tmp 9)), none⟩])
 (.cond (.tmp 4) .skip (.seq (.region [⟨(some 10), (.bin .eql (.tmp 3) (.const (.c (.val (.int .i64 40))))), none⟩, ⟨(some 4), (.mov (.tmp 10)), none⟩])
 (.cond (.tmp 4) .skip (.seq (.region [⟨(some 11), (.bin .eql (.tmp 3) (.const (.c (.val (.int .i64 41))))), none⟩, ⟨(some 4), (.mov (.tmp 11)), none⟩])
 (.cond (.tmp 4) .skip (.seq (.region [⟨(some 12), (.bin .eql (.tmp 3) (.const (.c (.val (.int .i64 43))))), none⟩, ⟨(some 4), (.mov (.tmp 12)), none⟩])
 (.cond (.tmp 4) .skip (.seq (.region [⟨(some 13), (.bin .eql (.tmp 3) (.const (.c (.val (.int .i64 44))))), none⟩, ⟨(some 4), (.mov (.tmp 13)), none⟩])
 (.cond (.tmp 4) .skip (.seq (.region [⟨(some 14), (.bin .eql (.tmp 3) (.const (.c (.val (.int .i64 56))))), none⟩, ⟨(some 4), (.mov (.tmp 14)), none⟩])
 (.cond (.tmp 4) .skip (.seq (.region [⟨(some 15), (.bin .eql (.tmp 3) (.const (.c (.val (.int .i64 57))))), none⟩, ⟨(some 4), (.mov (.tmp 15)), none⟩])
 (.cond (.tmp 4) .skip (.region [⟨(some 16), (.bin .eql (.tmp 3) (.const (.c (.val (.int .i64 58))))), none⟩, ⟨(some 4), (.mov (.tmp 16)), none⟩])))))))))))))))))))))))
 a8_c0)))
 a8_c1))⟩
set_option maxRecDepth 100000 in
theorem c8 : compFunc Tryd.prog 8 = some a8 := by kernel_rfl
def style_Inherits_post (r : Bool) : AV → Heap → Nat → Prop := fun v h' n' => v = (B r) ∧ (h' = (fun _ => none)) ∧ n' = 0
abbrev style_Inherits_q0 (o : Bool) : AExit → St → Prop := AThen (Sv Tryd.prog GG 0 a8_c1 (Ends a8.results 0 (style_Inherits_post o))) (Ends a8.results 0 (style_Inherits_post o))
abbrev style_Inherits_q1 (o : Bool) : AExit → St → Prop := ABlock 0 (style_Inherits_q0 o)
def style_Inherits_j1 (v4 : Bool) : Bool :=
  if v4 then
    true
  else
    false
theorem style_Inherits_j1_ok {v4 : Bool} {o : Bool} (h : style_Inherits_j1 v4 = o) :
    Sv Tryd.prog GG 0 a8_c0 (style_Inherits_q1 o) ⟨(upd (fun _ => none) 4 (some (B v4))), (fun _ => none), 0⟩ := by
  unfold style_Inherits_j1 at h
  refine Sv.cond (b := v4) rfl (fun hc1 => ?_) (fun hc1 => ?_)
  · replace h := ifT hc1 h
    refine Sv.seq ?_
    refine Sv.region ?_
    refine un (a1 rfl ?_)
    refine dnil ?_
    refine Sv.ret ?_
    subst h
    exact ⟨_, .refl _, _, rfl, ⟨upd (fun _ => none) 0 (some (B true)), (fun _ => none), 0⟩, (B true), weak_canon [] rfl List.nodup_nil (Nat.le_refl _) (fun b h => absurd h (Nat.not_lt_zero _)) (.cons rfl (avAs_free rfl) .nil) .nil, rfl, rfl, rfl, rfl⟩
  · replace h := ifF hc1 h
    refine Sv.skip ?_
    refine Sv.seq ?_
    refine Sv.region ?_
    refine un (a1 rfl ?_)
    refine dnil ?_
    refine Sv.ret ?_
    subst h
    exact ⟨_, .refl _, _, rfl, ⟨upd (fun _ => none) 0 (some (B false)), (fun _ => none), 0⟩, (B false), weak_canon [] rfl List.nodup_nil (Nat.le_refl _) (fun b h => absurd h (Nat.not_lt_zero _)) (.cons rfl (avAs_free rfl) .nil) .nil, rfl, rfl, rfl, rfl⟩
/-- clerestory/style.Inherits -/
def style_Inherits (p_ : Int) : Bool :=
  if decide (p_ = 33) then
    style_Inherits_j1 (decide (p_ = 33))
  else
    if decide (p_ = 35) then
      style_Inherits_j1 (decide (p_ = 35))
    else
      if decide (p_ = 37) then
        style_Inherits_j1 (decide (p_ = 37))
      else
        if decide (p_ = 38) then
          style_Inherits_j1 (decide (p_ = 38))
        else
          if decide (p_ = 39) then
            style_Inherits_j1 (decide (p_ = 39))
          else
            if decide (p_ = 40) then
              style_Inherits_j1 (decide (p_ = 40))
            else
              if decide (p_ = 41) then
                style_Inherits_j1 (decide (p_ = 41))
              else
                if decide (p_ = 43) then
                  style_Inherits_j1 (decide (p_ = 43))
                else
                  if decide (p_ = 44) then
                    style_Inherits_j1 (decide (p_ = 44))
                  else
                    if decide (p_ = 56) then
                      style_Inherits_j1 (decide (p_ = 56))
                    else
                      if decide (p_ = 57) then
                        style_Inherits_j1 (decide (p_ = 57))
                      else
                        style_Inherits_j1 (decide (p_ = 58))
theorem style_Inherits_ok (p_ : Int) : CPure Tryd.prog GG 8 [(I p_)] (B (style_Inherits p_)) := by
  generalize h : style_Inherits p_ = o
  refine acalls_of_sv hmix c8 (R := style_Inherits_post o) ?_
  unfold style_Inherits at h
  refine Sv.seq ?_
  refine Sv.region ?_
  refine un (a1 rfl ?_)
  refine dnil ?_
  refine Sv.seq ?_
  refine Sv.seq ?_
  refine Sv.region ?_
  refine un (a1 rfl ?_)
  refine dnil ?_
  refine Sv.block ?_
  refine Sv.seq ?_
  refine Sv.seq ?_
  refine Sv.region ?_
  refine un (a1 (v := (B (decide (p_ = 33)))) rfl ?_)
  refine un (a1 rfl ?_)
  refine dnil ?_
  refine Sv.cond (b := decide (p_ = 33)) rfl (fun hc2 => ?_) (fun hc2 => ?_)
  · replace h := ifT hc2 h
    refine Sv.skip ?_
    exact Sv.weak (weak_canon [] rfl (by decide) (by decide) (fun b h => absurd h (Nat.not_lt_zero _)) (.cons rfl (avAs_free rfl) .nil) .nil) (style_Inherits_j1_ok h)
  · replace h := ifF hc2 h
    refine Sv.seq ?_
    refine Sv.region ?_
    refine un (a1 (v := (B (decide (p_ = 35)))) rfl ?_)
    refine un (a1 rfl ?_)
    refine dnil ?_
    refine Sv.cond (b := decide (p_ = 35)) rfl (fun hc3 => ?_) (fun hc3 => ?_)
    · replace h := ifT hc3 h
      refine Sv.skip ?_
      exact Sv.weak (weak_canon [] rfl (by decide) (by decide) (fun b h => absurd h (Nat.not_lt_zero _)) (.cons rfl (avAs_free rfl) .nil) .nil) (style_Inherits_j1_ok h)
    · replace h := ifF hc3 h
      refine Sv.seq ?_
      refine Sv.region ?_
      refine un (a1 (v := (B (decide (p_ = 37)))) rfl ?_)
      refine un (a1 rfl ?_)
      refine dnil ?_
      refine Sv.cond (b := decide (p_ = 37)) rfl (fun hc4 => ?_) (fun hc4 => ?_)
      · replace h := ifT hc4 h
        refine Sv.skip ?_
        exact Sv.weak (weak_canon [] rfl (by decide) (by decide) (fun b h => absurd h (Nat.not_lt_zero _)) (.cons rfl (avAs_free rfl) .nil) .nil) (style_Inherits_j1_ok h)
      · replace h := ifF hc4 h
        refine Sv.seq ?_
        refine Sv.region ?_
        refine un (a1 (v := (B (decide (p_ = 38)))) rfl ?_)
        refine un (a1 rfl ?_)
        refine dnil ?_
        refine Sv.cond (b := decide (p_ = 38)) rfl (fun hc5 => ?_) (fun hc5 => ?_)
        · replace h := ifT hc5 h
          refine Sv.skip ?_
          exact Sv.weak (weak_canon [] rfl (by decide) (by decide) (fun b h => absurd h (Nat.not_lt_zero _)) (.cons rfl (avAs_free rfl) .nil) .nil) (style_Inherits_j1_ok h)
        · replace h := ifF hc5 h
          refine Sv.seq ?_
          refine Sv.region ?_
          refine un (a1 (v := (B (decide (p_ = 39)))) rfl ?_)
          refine un (a1 rfl ?_)
          refine dnil ?_
          refine Sv.cond (b := decide (p_ = 39)) rfl (fun hc6 => ?_) (fun hc6 => ?_)
          · replace h := ifT hc6 h
            refine Sv.skip ?_
            exact Sv.weak (weak_canon [] rfl (by decide) (by decide) (fun b h => absurd h (Nat.not_lt_zero _)) (.cons rfl (avAs_free rfl) .nil) .nil) (style_Inherits_j1_ok h)
          · replace h := ifF hc6 h
            refine Sv.seq ?_
            refine Sv.region ?_
            refine un (a1 (v := (B (decide (p_ = 40)))) rfl ?_)
            refine un (a1 rfl ?_)
            refine dnil ?_
            refine Sv.cond (b := decide (p_ = 40)) rfl (fun hc7 => ?_) (fun hc7 => ?_)
            · replace h := ifT hc7 h
              refine Sv.skip ?_
              exact Sv.weak (weak_canon [] rfl (by decide) (by decide) (fun b h => absurd h (Nat.not_lt_zero _)) (.cons rfl (avAs_free rfl) .nil) .nil) (style_Inherits_j1_ok h)
            · replace h := ifF hc7 h
              refine Sv.seq ?_
              refine Sv.region ?_
              refine un (a1 (v := (B (decide (p_ = 41)))) rfl ?_)
              refine un (a1 rfl ?_)
              refine dnil ?_
              refine Sv.cond (b := decide (p_ = 41)) rfl (fun hc8 => ?_) (fun hc8 => ?_)
              · replace h := ifT hc8 h
                refine Sv.skip ?_
                exact Sv.weak (weak_canon [] rfl (by decide) (by decide) (fun b h => absurd h (Nat.not_lt_zero _)) (.cons rfl (avAs_free rfl) .nil) .nil) (style_Inherits_j1_ok h)
              · replace h := ifF hc8 h
                refine Sv.seq ?_
                refine Sv.region ?_
                refine un (a1 (v := (B (decide (p_ = 43)))) rfl ?_)
                refine un (a1 rfl ?_)
                refine dnil ?_
                refine Sv.cond (b := decide (p_ = 43)) rfl (fun hc9 => ?_) (fun hc9 => ?_)
                · replace h := ifT hc9 h
                  refine Sv.skip ?_
                  exact Sv.weak (weak_canon [] rfl (by decide) (by decide) (fun b h => absurd h (Nat.not_lt_zero _)) (.cons rfl (avAs_free rfl) .nil) .nil) (style_Inherits_j1_ok h)
                · replace h := ifF hc9 h
                  refine Sv.seq ?_
                  refine Sv.region ?_
                  refine un (a1 (v := (B (decide (p_ = 44)))) rfl ?_)
                  refine un (a1 rfl ?_)
                  refine dnil ?_
                  refine Sv.cond (b := decide (p_ = 44)) rfl (fun hc10 => ?_) (fun hc10 => ?_)
                  · replace h := ifT hc10 h
                    refine Sv.skip ?_
                    exact Sv.weak (weak_canon [] rfl (by decide) (by decide) (fun b h => absurd h (Nat.not_lt_zero _)) (.cons rfl (avAs_free rfl) .nil) .nil) (style_Inherits_j1_ok h)
                  · replace h := ifF hc10 h
                    refine Sv.seq ?_
                    refine Sv.region ?_
                    refine un (a1 (v := (B (decide (p_ = 56)))) rfl ?_)
                    refine un (a1 rfl ?_)
                    refine dnil ?_
                    refine Sv.cond (b := decide (p_ = 56)) rfl (fun hc11 => ?_) (fun hc11 => ?_)
                    · replace h := ifT hc11 h
                      refine Sv.skip ?_
                      exact Sv.weak (weak_canon [] rfl (by decide) (by decide) (fun b h => absurd h (Nat.not_lt_zero _)) (.cons rfl (avAs_free rfl) .nil) .nil) (style_Inherits_j1_ok h)
                    · replace h := ifF hc11 h
                      refine Sv.seq ?_
                      refine Sv.region ?_
                      refine un (a1 (v := (B (decide (p_ = 57)))) rfl ?_)
                      refine un (a1 rfl ?_)
                      refine dnil ?_
                      refine Sv.cond (b := decide (p_ = 57)) rfl (fun hc12 => ?_) (fun hc12 => ?_)
                      · replace h := ifT hc12 h
                        refine Sv.skip ?_
                        exact Sv.weak (weak_canon [] rfl (by decide) (by decide) (fun b h => absurd h (Nat.not_lt_zero _)) (.cons rfl (avAs_free rfl) .nil) .nil) (style_Inherits_j1_ok h)
                      · replace h := ifF hc12 h
                        refine Sv.region ?_
                        refine un (a1 (v := (B (decide (p_ = 58)))) rfl ?_)
                        refine un (a1 rfl ?_)
                        refine dnil ?_
                        exact Sv.weak (weak_canon [] rfl (by decide) (by decide) (fun b h => absurd h (Nat.not_lt_zero _)) (.cons rfl (avAs_free rfl) .nil) .nil) (style_Inherits_j1_ok h)
def a24 : AFunc := ⟨0, [(.tmp 0)], (.seq (.region [⟨(some 0), (.mov (.const (.c (.ro true 1 [])))), none⟩])
 (.seq (.region [⟨(some 1), (.bslice 1 [(.str [])] 59 [(0, (.const (.c (.str [100, 105, 115, 112, 108, 97, 121])))), (1, (.const (.c (.str [112, 111, 115, 105, 116, 105, 111, 110])))), (2, (.const (.c (.str [102, 108, 111, 97, 116])))), (3, (.const (.c (.str [99, 108, 101, 97, 114])))), (4, (.const (.c (.str [98, 111, 120, 45, 115, 105, 122, 105, 110, 103])))), (5, (.const (.c (.str [119, 105, 100, 116, 104])))), (6, (.const (.c (.str [104, 101, 105, 103, 104, 116])))), (7, (.const (.c (.str [109, 105, 110, 45, 119, 105, 100, 116, 104])))), (8, (.const (.c (.str [109, 105, 110, 45, 104, 101, 105, 103, 104, 116])))), (9, (.const (.c (.str [109, 97, 120, 45, 119, 105, 100, 116, 104])))), (10, (.const (.c (.str [109, 97, 120, 45, 104, 101, 105, 103, 104, 116])))), (11, (.const (.c (.str [109, 97, 114, 103, 105, 110, 45, 116, 111, 112])))), (12, (.const (.c (.str [109, 97, 114, 103, 105, 110, 45, 114, 105, 103, 104, 116])))), (13, (.const (.c (.str [109, 97, 114, 103, 105, 110, 45, 98, 111, 116, 116, 111, 109])))), (14, (.const (.c (.str [109, 97, 114, 103, 105, 110, 45, 108, 101, 102, 116])))), (15, (.const (.c (.str [112, 97, 100, 100, 105, 110, 103, 45, 116, 111, 112])))), (16, (.const (.c (.str [112, 97, 100, 100, 105, 110, 103, 45, 114, 105, 103, 104, 116])))), (17, (.const (.c (.str [112, 97, 100, 100, 105, 110, 103, 45, 98, 111, 116, 116, 111, 109])))), (18, (.const (.c (.str [112, 97, 100, 100, 105, 110, 103, 45, 108, 101, 102, 116])))), (19, (.const (.c (.str [98, 111, 114, 100, 101, 114, 45, 116, 111, 112, 45, 119, 105, 100, 116, 104])))), (20, (.const (.c (.str [98, 111, 114, 100, 101, 114, 45, 114, 105, 103, 104, 116, 45, 119, 105, 100, 116, 104])))), (21, (.const (.c (.str [98, 111, 114, 100, 101, 114, 45, 98, 111, 116, 116, 111, 109, 45, 119, 105, 100, 116, 104])))), (22, (.const (.c (.str [98, 111, 114, 100, 101, 114, 45, 108, 101, 102, 116, 45, 119, 105, 100, 116, 104])))), (23, (.const (.c (.str [98, 111, 114, 100, 101, 114, 45, 116, 111, 112, 45, 99, 111, 108, 111, 114])))), (24, (.const (.c (.str [98, 111, 114, 100, 101, 114, 45, 114, 105, 103, 104, 116, 45, 99, 111, 108, 111, 114])))), (25, (.const (.c (.str [98, 111, 114, 100, 101, 114, 45, 98, 111, 116, 116, 111, 109, 45, 99, 111, 108, 111, 114])))), (26, (.const (.c (.str [98, 111, 114, 100, 101, 114, 45, 108, 101, 102, 116, 45, 99, 111, 108, 111, 114])))), (27, (.const (.c (.str [116, 111, 112])))), (28, (.const (.c (.str [114, 105, 103, 104, 116])))), (29, (.const (.c (.str [98, 111, 116, 116, 111, 109])))), (30, (.const (.c (.str [108, 101, 102, 116])))), (31, (.const (.c (.str [122, 45, 105, 110, 100, 101, 120])))), (32, (.const (.c (.str [111, 118, 101, 114, 102, 108, 111, 119])))), (33, (.const (.c (.str [118, 105, 115, 105, 98, 105, 108, 105, 116, 121])))), (34, (.const (.c (.str [111, 112, 97, 99, 105, 116, 121])))), (35, (.const (.c (.str [99, 111, 108, 111, 114])))), (36, (.const (.c (.str [98, 97, 99, 107, 103, 114, 111, 117, 110, 100, 45, 99, 111, 108, 111, 114])))), (37, (.const (.c (.str [102, 111, 110, 116, 45, 115, 105, 122, 101])))), (38, (.const (.c (.str [108, 105, 110, 101, 45, 104, 101, 105, 103, 104, 116])))), (39, (.const (.c (.str [116, 101, 120, 116, 45, 97, 108, 105, 103, 110])))), (40, (.const (.c (.str [116, 101, 120, 116, 45, 105, 110, 100, 101, 110, 116])))), (41, (.const (.c (.str [119, 104, 105, 116, 101, 45, 115, 112, 97, 99, 101])))), (42, (.const (.c (.str [118, 101, 114, 116, 105, 99, 97, 108, 45, 97, 108, 105, 103, 110])))), (43, (.const (.c (.str [116, 101, 120, 116, 45, 116, 114, 97, 110, 115, 102, 111, 114, 109])))), (44, (.const (.c (.str [108, 101, 116, 116, 101, 114, 45, 115, 112, 97, 99, 105, 110, 103])))), (45, (.const (.c (.str [102, 108, 101, 120, 45, 100, 105, 114, 101, 99, 116, 105, 111, 110])))), (46, (.const (.c (.str [102, 108, 101, 120, 45, 119, 114, 97, 112])))), (47, (.const (.c (.str [106, 117, 115, 116, 105, 102, 121, 45, 99, 111, 110, 116, 101, 110, 116])))), (48, (.const (.c (.str [97, 108, 105, 103, 110, 45, 105, 116, 101, 109, 115])))), (49, (.const (.c (.str [97, 108, 105, 103, 110, 45, 115, 101, 108, 102])))), (50, (.const (.c (.str [102, 108, 101, 120, 45, 103, 114, 111, 119])))), (51, (.const (.c (.str [102, 108, 101, 120, 45, 115, 104, 114, 105, 110, 107])))), (52, (.const (.c (.str [102, 108, 101, 120, 45, 98, 97, 115, 105, 115])))), (53, (.const (.c (.str [111, 114, 100, 101, 114])))), (54, (.const (.c (.str [103, 97, 112])))), (55, (.const (.c (.str [116, 97, 98, 108, 101, 45, 108, 97, 121, 111, 117, 116])))), (56, (.const (.c (.str [98, 111, 114, 100, 101, 114, 45, 115, 112, 97, 99, 105, 110, 103])))), (57, (.const (.c (.str [108, 105, 115, 116, 45, 115, 116, 121, 108, 101, 45, 116, 121, 112, 101])))), (58, (.const (.c (.str [112, 111, 105, 110, 116, 101, 114, 45, 101, 118, 101, 110, 116, 115]))))]), none⟩, ⟨(some 0), (.mov (.tmp 1)), none⟩])
 .ret))⟩
set_option maxRecDepth 100000 in
theorem c24 : compFunc Tryd.prog 24 = some a24 := by kernel_rfl
def clerestoryref2_PropNames_post (r : (List (List UInt8))) : AV → Heap → Nat → Prop := fun v h' n' => ∃ z0 : Bool, (z0 = true → r = []) ∧ v = (lstV z0 0 1 r.length) ∧ (h' = (upd (fun _ => none) 0 (lstB z0 1 (r.map eStr)))) ∧ n' = 1
def clerestoryref2_PropNames_t0 : List (List UInt8) := [[100, 105, 115, 112, 108, 97, 121], [112, 111, 115, 105, 116, 105, 111, 110], [102, 108, 111, 97, 116], [99, 108, 101, 97, 114], [98, 111, 120, 45, 115, 105, 122, 105, 110, 103], [119, 105, 100, 116, 104], [104, 101, 105, 103, 104, 116], [109, 105, 110, 45, 119, 105, 100, 116, 104], [109, 105, 110, 45, 104, 101, 105, 103, 104, 116], [109, 97, 120, 45, 119, 105, 100, 116, 104], [109, 97, 120, 45, 104, 101, 105, 103, 104, 116], [109, 97, 114, 103, 105, 110, 45, 116, 111, 112], [109, 97, 114, 103, 105, 110, 45, 114, 105, 103, 104, 116], [109, 97, 114, 103, 105, 110, 45, 98, 111, 116, 116, 111, 109], [109, 97, 114, 103, 105, 110, 45, 108, 101, 102, 116], [112, 97, 100, 100, 105, 110, 103, 45, 116, 111, 112], [112, 97, 100, 100, 105, 110, 103, 45, 114, 105, 103, 104, 116], [112, 97, 100, 100, 105, 110, 103, 45, 98, 111, 116, 116, 111, 109], [112, 97, 100, 100, 105, 110, 103, 45, 108, 101, 102, 116], [98, 111, 114, 100, 101, 114, 45, 116, 111, 112, 45, 119, 105, 100, 116, 104], [98, 111, 114, 100, 101, 114, 45, 114, 105, 103, 104, 116, 45, 119, 105, 100, 116, 104], [98, 111, 114, 100, 101, 114, 45, 98, 111, 116, 116, 111, 109, 45, 119, 105, 100, 116, 104], [98, 111, 114, 100, 101, 114, 45, 108, 101, 102, 116, 45, 119, 105, 100, 116, 104], [98, 111, 114, 100, 101, 114, 45, 116, 111, 112, 45, 99, 111, 108, 111, 114], [98, 111, 114, 100, 101, 114, 45, 114, 105, 103, 104, 116, 45, 99, 111, 108, 111, 114], [98, 111, 114, 100, 101, 114, 45, 98, 111, 116, 116, 111, 109, 45, 99, 111, 108, 111, 114], [98, 111, 114, 100, 101, 114, 45, 108, 101, 102, 116, 45, 99, 111, 108, 111, 114], [116, 111, 112], [114, 105, 103, 104, 116], [98, 111, 116, 116, 111, 109], [108, 101, 102, 116], [122, 45, 105, 110, 100, 101, 120], [111, 118, 101, 114, 102, 108, 111, 119], [118, 105, 115, 105, 98, 105, 108, 105, 116, 121], [111, 112, 97, 99, 105, 116, 121], [99, 111, 108, 111, 114], [98, 97, 99, 107, 103, 114, 111, 117, 110, 100, 45, 99, 111, 108, 111, 114], [102, 111, 110, 116, 45, 115, 105, 122, 101], [108, 105, 110, 101, 45, 104, 101, 105, 103, 104, 116], [116, 101, 120, 116, 45, 97, 108, 105, 103, 110], [116, 101, 120, 116, 45, 105, 110, 100, 101, 110, 116], [119, 104, 105, 116, 101, 45, 115, 112, 97, 99, 101], [118, 101, 114, 116, 105, 99, 97, 108, 45, 97, 108, 105, 103, 110], [116, 101, 120, 116, 45, 116, 114, 97, 110, 115, 102, 111, 114, 109], [108, 101, 116, 116, 101, 114, 45, 115, 112, 97, 99, 105, 110, 103], [102, 108, 101, 120, 45, 100, 105, 114, 101, 99, 116, 105, 111, 110], [102, 108, 101, 120, 45, 119, 114, 97, 112], [106, 117, 115, 116, 105, 102, 121, 45, 99, 111, 110, 116, 101, 110, 116], [97, 108, 105, 103, 110, 45, 105, 116, 101, 109, 115], [97, 108, 105, 103, 110, 45, 115, 101, 108, 102], [102, 108, 101, 120, 45, 103, 114, 111, 119], [102, 108, 101, 120, 45, 115, 104, 114, 105, 110, 107], [102, 108, 101, 120, 45, 98, 97, 115, 105, 115], [111, 114, 100, 101, 114], [103, 97, 112], [116, 97, 98, 108, 101, 45, 108, 97, 121, 111, 117, 116], [98, 111, 114, 100, 101, 114, 45, 115, 112, 97, 99, 105, 110, 103], [108, 105, 115, 116, 45, 115, 116, 121, 108, 101, 45, 116, 121, 112, 101], [112, 111, 105, 110, 116, 101, 114, 45, 101, 118, 101, 110, 116, 115]]
/-- clerestory/clerestoryref2.PropNames -/
noncomputable def clerestoryref2_PropNames : Option (List (List UInt8)) :=
  some clerestoryref2_PropNames_t0
theorem clerestoryref2_PropNames_ok {r : (List (List UInt8))} (h : clerestoryref2_PropNames = some r) : ACalls Tryd.prog GG 24 [] (fun _ => none) 0 (clerestoryref2_PropNames_post r) := by
  refine acalls_of_sv hmix c24 (R := clerestoryref2_PropNames_post r) ?_
  unfold clerestoryref2_PropNames at h
  refine Sv.seq ?_
  refine Sv.region ?_
  refine un (a1 rfl ?_)
  refine dnil ?_
  refine Sv.seq ?_
  refine Sv.region ?_
  refine un (a2v (v := (lstV false 0 1 clerestoryref2_PropNames_t0.length)) (h' := upd _ 0 (lstB false 1 (clerestoryref2_PropNames_t0.map eStr))) (n' := 1) rfl rfl (fun h => by cases h) ?_)
  refine un (a1 rfl ?_)
  refine dnil ?_
  refine Sv.ret ?_
  replace h := Option.some.inj h
  subst h
  exact ⟨_, .refl _, _, rfl, ⟨upd (fun _ => none) 0 (some (lstV false 0 1 clerestoryref2_PropNames_t0.length)), (upd (fun _ => none) 0 (lstB false 1 (clerestoryref2_PropNames_t0.map eStr))), 1⟩, (lstV false 0 1 clerestoryref2_PropNames_t0.length), weak_canon2 [0] [0] (by decide) (by decide) (fun b h => absurd h (Nat.not_lt_zero _)) (.cons (by decide) .nil) (.cons rfl (.c (lstC_ren rfl (by decide))) .nil) (.row (by decide) rfl (fr_map fun _ => rfl) .nil), rfl, false, (fun h => by cases h), rfl, rfl, rfl⟩
def a23_c0 : ACode := (.seq (.seq (.region [⟨(some 6), (.mov (.tmp 5)), none⟩, ⟨(some 7), (.mov (.tmp 0)), none⟩, ⟨(some 8), (.len (.tmp 7)), none⟩, ⟨(some 9), (.bin .lss (.tmp 6) (.tmp 8)), none⟩])
 (.cond (.tmp 9) .skip (.exit 0)))
 (.seq (.block 1 (.seq (.region [⟨(some 12), (.mov (.tmp 0)), none⟩, ⟨(some 13), (.mov (.tmp 5)), none⟩, ⟨(some 14), (.iaddr 1 (.tmp 12) (.tmp 13)), none⟩, ⟨(some 15), (.load false 1 (.tmp 14)), none⟩, ⟨(some 16), (.mov (.tmp 1)), none⟩, ⟨(some 17), (.bin .eql (.tmp 15) (.tmp 16)), none⟩])
 (.cond (.tmp 17) (.seq (.region [⟨(some 4), (.mov (.const (.c (.val (.bool true))))), none⟩])
 .ret) .skip)))
 (.region [⟨(some 10), (.mov (.tmp 5)), none⟩, ⟨(some 11), (.bin .add (.tmp 10) (.const (.c (.val (.int .i64 1))))), none⟩, ⟨(some 5), (.mov (.tmp 11)), none⟩])))
def a23 : AFunc := ⟨2, [(.tmp 4)], (.seq (.region [⟨(some 4), (.mov (.const (.c (.val (.bool false))))), none⟩])
 (.seq (.seq (.region [⟨(some 5), (.mov (.const (.c (.val (.int .i64 0))))), none⟩])
 (.block 0 (.loop a23_c0)))
 (.seq (.region [⟨(some 4), (.mov (.const (.c (.val (.bool false))))), none⟩])
 .ret)))⟩
set_option maxRecDepth 100000 in
theorem c23 : compFunc Tryd.prog 23 = some a23 := by kernel_rfl
def clerestoryref2_In_post (r : Bool) : AV → Heap → Nat → Prop := fun v h' n' => v = (B r) ∧ (h' = (fun _ => none)) ∧ n' = 0
noncomputable def clerestoryref2_In_l0 (l_ : (List (List UInt8))) (s_ : (List UInt8)) (K0_ : Unit → Option Bool) : Nat → Int → Option Bool
  | 0, _ => none
  | k + 1, i_ =>
    if decide (i_ < (l_.length : Int)) then
      (at? l_ i_).bind fun x_ =>
      if decide (x_ = s_) then
        some true
      else
        (clerestoryref2_In_l0 l_ s_ K0_ k) (wi (i_ + 1))
    else
      K0_ ()
theorem clerestoryref2_In_l0_ok {Q : AExit → St → Prop} {l_ : (List (List UInt8))} {s_ : (List UInt8)} {K0_ : Unit → Option Bool} {k : Nat} {i_ : Int} {o : Bool} (h : clerestoryref2_In_l0 l_ s_ K0_ k i_ = some o)
    (hK0 : ∀ (_ : Unit), K0_ () = some o → ∀ s, Weak 0 s ⟨(fun _ => none), (fun _ => none), 0⟩ → Q (.exit 0) s)
    (hr : ∀ s, Ends a23.results 0 (clerestoryref2_In_post o) .ret s → Q .ret s) :
    Sv Tryd.prog GG 0 (.loop a23_c0) Q ⟨(upd (upd (upd (fun _ => none) 0 (some (.c (.ro false 1 (l_.map eStr))))) 1 (some (S s_))) 5 (some (I i_))), (fun _ => none), 0⟩ := by
  refine Sv.loop (I := fun k s => ∃ (i_ : Int), clerestoryref2_In_l0 l_ s_ K0_ k i_ = some o ∧ s = ⟨(upd (upd (upd (fun _ => none) 0 (some (.c (.ro false 1 (l_.map eStr))))) 1 (some (S s_))) 5 (some (I i_))), (fun _ => none), 0⟩) (fun k s hI => ?_) ⟨i_, h, rfl⟩
  clear h
  clear i_
  obtain ⟨i_, h, rfl⟩ := hI
  cases k with
  | zero => cases h
  | succ k =>
  rw [clerestoryref2_In_l0] at h
  have hself : ∀ (i_ : Int), (clerestoryref2_In_l0 l_ s_ K0_ k) i_ = some o → ∀ s, Weak 0 s ⟨(upd (upd (upd (fun _ => none) 0 (some (.c (.ro false 1 (l_.map eStr))))) 1 (some (S s_))) 5 (some (I i_))), (fun _ => none), 0⟩ → (AThen (fun s' => ∃ s'' k', Weak 0 s' s'' ∧ k' < k + 1 ∧ (fun k s => ∃ (i_ : Int), clerestoryref2_In_l0 l_ s_ K0_ k i_ = some o ∧ s = ⟨(upd (upd (upd (fun _ => none) 0 (some (.c (.ro false 1 (l_.map eStr))))) 1 (some (S s_))) 5 (some (I i_))), (fun _ => none), 0⟩) k' s'') Q) .normal s := fun i_ h s hw => ⟨_, k, hw, Nat.lt_succ_self k, i_, h, rfl⟩
  refine Sv.seq ?_
  refine Sv.seq ?_
  refine Sv.region ?_
  refine un (a1 rfl ?_)
  refine un (a1 rfl ?_)
  refine un (a1 (v := (I (l_.length : Int))) (s_len (e := eStr) (xs := l_) rfl) ?_)
  refine un (a1 (v := (B (decide (i_ < (l_.length : Int))))) rfl ?_)
  refine dnil ?_
  refine Sv.cond (b := decide (i_ < (l_.length : Int))) rfl (fun hc1 => ?_) (fun hc1 => ?_)
  · replace h := ifT hc1 h
    refine Sv.skip ?_
    refine Sv.seq ?_
    refine Sv.block ?_
    refine Sv.seq ?_
    refine Sv.region ?_
    refine un (a1 rfl ?_)
    refine un (a1 rfl ?_)
    obtain ⟨x_, hx1, h⟩ := bnd h
    refine un (a1 (v := (.c (.rop [.str x_]))) (s_iaddr (e := eStr) (xs := l_) rfl rfl hx1) ?_)
    refine un (a1 (v := (S x_)) rfl ?_)
    refine un (a1 rfl ?_)
    refine un (a1 (v := (B (decide (x_ = s_)))) rfl ?_)
    refine dnil ?_
    refine Sv.cond (b := decide (x_ = s_)) rfl (fun hc2 => ?_) (fun hc2 => ?_)
    · replace h := ifT hc2 h
      refine Sv.seq ?_
      refine Sv.region ?_
      refine un (a1 rfl ?_)
      refine dnil ?_
      refine Sv.ret ?_
      replace h := Option.some.inj h
      subst h
      exact hr _ ⟨_, .refl _, _, rfl, ⟨upd (fun _ => none) 0 (some (B true)), (fun _ => none), 0⟩, (B true), weak_canon [] rfl List.nodup_nil (Nat.le_refl _) (fun b h => absurd h (Nat.not_lt_zero _)) (.cons rfl (avAs_free rfl) .nil) .nil, rfl, rfl, rfl, rfl⟩
    · replace h := ifF hc2 h
      refine Sv.skip ?_
      refine Sv.region ?_
      refine un (a1 rfl ?_)
      refine un (a1 (v := (I (wi (i_ + 1)))) rfl ?_)
      refine un (a1 rfl ?_)
      refine dnil ?_
      exact hself (wi (i_ + 1)) h _ (weak_canon [] rfl (by decide) (by decide) (fun b h => absurd h (Nat.not_lt_zero _)) (.cons rfl (avAs_free rfl) (.cons rfl (avAs_free rfl) (.cons rfl (avAs_free rfl) .nil))) .nil)
  · replace h := ifF hc1 h
    refine Sv.exit ?_
    exact hK0 () h _ (weak_canon [] rfl (by decide) (by decide) (fun b h => absurd h (Nat.not_lt_zero _)) .nil .nil)
/-- clerestory/clerestoryref2.In -/
noncomputable def clerestoryref2_In (l_ : (List (List UInt8))) (s_ : (List UInt8)) : Option Bool :=
  lim fun kk => clerestoryref2_In_l0 l_ s_ (fun (_ : Unit) => 
      some false) kk 0
theorem clerestoryref2_In_ok {l_ : (List (List UInt8))} {s_ : (List UInt8)} {r : Bool} (h : clerestoryref2_In l_ s_ = some r) : CPure Tryd.prog GG 23 [(.c (.ro false 1 (l_.map eStr))), (S s_)] (B r) := by
  refine acalls_of_sv hmix c23 (R := clerestoryref2_In_post r) ?_
  unfold clerestoryref2_In at h
  refine Sv.seq ?_
  refine Sv.region ?_
  refine un (a1 rfl ?_)
  refine dnil ?_
  refine Sv.seq ?_
  refine Sv.seq ?_
  refine Sv.region ?_
  refine un (a1 rfl ?_)
  refine dnil ?_
  refine Sv.block ?_
  obtain ⟨kk, h⟩ := lim_some h
  refine Sv.weak (weak_canon [] rfl (by decide) (by decide) (fun b h => absurd h (Nat.not_lt_zero _)) (.cons rfl (avAs_free rfl) (.cons rfl (avAs_free rfl) (.cons rfl (avAs_free rfl) .nil))) .nil) (clerestoryref2_In_l0_ok h ?_ (fun s hs => hs))
  · intro _ h _ hw1
    refine Sv.weak hw1 ?_
    refine Sv.seq ?_
    refine Sv.region ?_
    refine un (a1 rfl ?_)
    refine dnil ?_
    refine Sv.ret ?_
    replace h := Option.some.inj h
    subst h
    exact ⟨_, .refl _, _, rfl, ⟨upd (fun _ => none) 0 (some (B false)), (fun _ => none), 0⟩, (B false), weak_canon [] rfl List.nodup_nil (Nat.le_refl _) (fun b h => absurd h (Nat.not_lt_zero _)) (.cons rfl (avAs_free rfl) .nil) .nil, rfl, rfl, rfl, rfl⟩
def a9_c0 : ACode := .ret
def a9 : AFunc := ⟨1, [(.tmp 2)], (.seq (.region [⟨(some 2), (.mov (.const (.c (.val (.bool false))))), none⟩])
 (.seq (.region [⟨(some 3), (.mov (.tmp 0)), none⟩, ⟨(some 4), (.bin .geq (.tmp 3) (.const (.c (.val (.int .i64 0))))), none⟩, ⟨(some 5), (.mov (.tmp 4)), none⟩, ⟨(some 6), (.mov (.tmp 0)), (some (5, true))⟩, ⟨(some 7), (.bin .lss (.tmp 6) (.const (.c (.val (.int .i64 59))))), (some (5, true))⟩, ⟨(some 8), (.pick (.tmp 5) (.tmp 7) (.const (.c (.val (.bool false))))), none⟩, ⟨(some 9), (.mov (.tmp 8)), none⟩, ⟨(some 10), (.bslice 1 [(.str [])] 12 [(0, (.const (.c (.str [118, 105, 115, 105, 98, 105, 108, 105, 116, 121])))), (1, (.const (.c (.str [99, 111, 108, 111, 114])))), (2, (.const (.c (.str [102, 111, 110, 116, 45, 115, 105, 122, 101])))), (3, (.const (.c (.str [108, 105, 110, 101, 45, 104, 101, 105, 103, 104, 116])))), (4, (.const (.c (.str [116, 101, 120, 116, 45, 97, 108, 105, 103, 110])))), (5, (.const (.c (.str [116, 101, 120, 116, 45, 105, 110, 100, 101, 110, 116])))), (6, (.const (.c (.str [119, 104, 105, 116, 101, 45, 115, 112, 97, 99, 101])))), (7, (.const (.c (.str [116, 101, 120, 116, 45, 116, 114, 97, 110, 115, 102, 111, 114, 109])))), (8, (.const (.c (.str [108, 101, 116, 116, 101, 114, 45, 115, 112, 97, 99, 105, 110, 103])))), (9, (.const (.c (.str [98, 111, 114, 100, 101, 114, 45, 115, 112, 97, 99, 105, 110, 103])))), (10, (.const (.c (.str [108, 105, 115, 116, 45, 115, 116, 121, 108, 101, 45, 116, 121, 112, 101])))), (11, (.const (.c (.str [112, 111, 105, 110, 116, 101, 114, 45, 101, 118, 101, 110, 116, 115]))))]), (some (9, true))⟩, ⟨(some 11), (.call 24 []), (some (9, true))⟩, ⟨(some 12), (.mov (.tmp 0)), (some (9, true))⟩, ⟨(some 13), (.iaddr 1 (.tmp 11) (.tmp 12)), (some (9, true))⟩, ⟨(some 14), (.load false 1 (.tmp 13)), (some (9, true))⟩, ⟨(some 15), (.call 23 [(.tmp 10), (.tmp 14)]), (some (9, true))⟩, ⟨(some 16), (.pick (.tmp 9) (.tmp 15) (.const (.c (.val (.bool false))))), none⟩, ⟨(some 2), (.mov (.tmp 16)), none⟩])
 a9_c0))⟩
set_option maxRecDepth 100000 in
theorem c9 : compFunc Tryd.prog 9 = some a9 := by kernel_rfl
def clerestoryref2_InheritsOf_post (r : Bool) : AV → Heap → Nat → Prop := fun v h' n' => v = (B r) ∧ (h' = (fun _ => none)) ∧ n' = 0
def clerestoryref2_InheritsOf_t0 : List (List UInt8) := [[118, 105, 115, 105, 98, 105, 108, 105, 116, 121], [99, 111, 108, 111, 114], [102, 111, 110, 116, 45, 115, 105, 122, 101], [108, 105, 110, 101, 45, 104, 101, 105, 103, 104, 116], [116, 101, 120, 116, 45, 97, 108, 105, 103, 110], [116, 101, 120, 116, 45, 105, 110, 100, 101, 110, 116], [119, 104, 105, 116, 101, 45, 115, 112, 97, 99, 101], [116, 101, 120, 116, 45, 116, 114, 97, 110, 115, 102, 111, 114, 109], [108, 101, 116, 116, 101, 114, 45, 115, 112, 97, 99, 105, 110, 103], [98, 111, 114, 100, 101, 114, 45, 115, 112, 97, 99, 105, 110, 103], [108, 105, 115, 116, 45, 115, 116, 121, 108, 101, 45, 116, 121, 112, 101], [112, 111, 105, 110, 116, 101, 114, 45, 101, 118, 101, 110, 116, 115]]
noncomputable def clerestoryref2_InheritsOf_j1 (v2 : Bool) : Option Bool :=
  some v2
theorem clerestoryref2_InheritsOf_j1_ok {v2 : Bool} {o : Bool} (h : clerestoryref2_InheritsOf_j1 v2 = some o) :
    Sv Tryd.prog GG 0 a9_c0 (Ends a9.results 0 (clerestoryref2_InheritsOf_post o)) ⟨(upd (fun _ => none) 2 (some (B v2))), (fun _ => none), 0⟩ := by
  unfold clerestoryref2_InheritsOf_j1 at h
  refine Sv.ret ?_
  replace h := Option.some.inj h
  subst h
  exact ⟨_, .refl _, _, rfl, ⟨upd (fun _ => none) 0 (some (B v2)), (fun _ => none), 0⟩, (B v2), weak_canon [] rfl List.nodup_nil (Nat.le_refl _) (fun b h => absurd h (Nat.not_lt_zero _)) (.cons rfl (avAs_free rfl) .nil) .nil, rfl, rfl, rfl, rfl⟩
/-- clerestory/clerestoryref2.InheritsOf -/
noncomputable def clerestoryref2_InheritsOf (p_ : Int) : Option Bool :=
  if ((decide (0 ≤ p_)) && (decide (p_ < 59))) then
    (clerestoryref2_PropNames).bind fun r_ =>
    (at? r_ p_).bind fun x_ =>
    (clerestoryref2_In clerestoryref2_InheritsOf_t0 x_).bind fun r_1 =>
    clerestoryref2_InheritsOf_j1 r_1
  else
    clerestoryref2_InheritsOf_j1 false
theorem clerestoryref2_InheritsOf_ok {p_ : Int} {r : Bool} (h : clerestoryref2_InheritsOf p_ = some r) : CPure Tryd.prog GG 9 [(I p_)] (B r) := by
  refine acalls_of_sv hmix c9 (R := clerestoryref2_InheritsOf_post r) ?_
  unfold clerestoryref2_InheritsOf at h
  refine Sv.seq ?_
  refine Sv.region ?_
  refine un (a1 rfl ?_)
  refine dnil ?_
  refine Sv.seq ?_
  refine Sv.region ?_
  refine un (a1 rfl ?_)
  refine un (a1 (v := (B (decide (0 ≤ p_)))) rfl ?_)
  refine un (a1 rfl ?_)
  refine gjoin 3 (d := 8) (v := (B ((decide (0 ≤ p_)) && (decide (p_ < 59))))) (fun X hX => ?_) ?_
  · refine split2 (fun hc1 => ?_) (fun hc1 => ?_)
    · refine gt rfl (a1 rfl ?_)
      refine gt rfl (a1 (v := (B (decide (p_ < 59)))) rfl ?_)
      refine un (a1 (v := (B (decide (p_ < 59)))) rfl ?_)
      refine dnil ?_
      exact hX _ (.putEq (by rw [hc1]; rfl) (.skip _ _ (.skip _ _ (.putEq (by rw [hc1]) (.refl _)) rfl) rfl))
    · refine gs rfl rfl ?_
      refine gs rfl rfl ?_
      refine un (a1 (v := (B false)) rfl ?_)
      refine dnil ?_
      exact hX _ (.putEq (by rw [hc1]; rfl) (.skip _ _ (.skip _ _ (.putEq (by rw [hc1]) (.refl _)) rfl) rfl))
  refine un (a1 rfl ?_)
  refine split2 (fun hc2 => ?_) (fun hc2 => ?_)
  · replace h := ifT hc2 h
    refine gt rfl (a2v (v := (lstV false 0 1 clerestoryref2_InheritsOf_t0.length)) (h' := upd _ 0 (lstB false 1 (clerestoryref2_InheritsOf_t0.map eStr))) (n' := 1) rfl rfl (fun h => by cases h) ?_)
    obtain ⟨r_, hr1, h⟩ := bnd h
    refine gt rfl (ac_gen (bs := []) («as» := []) (h2 := _) (h1 := (fun _ => none)) (clerestoryref2_PropNames_ok hr1) rfl .nil (hsub_refl _) (.nil _) (fun _ => rfl) (by decide) (by decide) .nil .nil ?_)
    rintro _ _ _ hn ⟨z_, hz_, rfl, rfl, rfl⟩
    refine ⟨.inl rfl, (upd (rem [] _) 1 (lstB z_ 1 (r_.map eStr))), fun hbd => (m3_cons (m3_row rfl (fr_map fun _ => rfl)) (m3_rem (in_nil _) (.cons (by decide) .nil) hbd)), (lstV z_ 1 1 r_.length), 2, (by cases z_ <;> rfl), rfl, ?_⟩
    refine gt rfl (a1 rfl ?_)
    obtain ⟨x_, hx1, h⟩ := bnd h
    refine gt rfl (a1 (v := (.c (.ref 1 1 p_.toNat 0))) (s_iaddrL rfl rfl hz_ hx1) ?_)
    refine gt rfl (a1 (v := (S x_)) (s_loadL (e := eStr) rfl rfl hz_ hx1 rfl rfl) ?_)
    obtain ⟨r_1, hr2, h⟩ := bnd h
    refine gt rfl (ac_lend (h2 := (upd _ 0 none)) (clerestoryref2_In_ok hr2) rfl (.cons (.c (lstC_ro (es := List.map eStr clerestoryref2_InheritsOf_t0) rfl (List.length_map eStr).symm (map_nil_of (fun h => by cases h)) (gone rfl) (fr_map fun _ => rfl))) (.cons (avAs_free rfl) .nil)) (hsub_none (hsub_refl _)) rfl rfl (.inr rfl) ?_)
    refine un (a1 (v := (B r_1)) rfl ?_)
    refine un (a1 rfl ?_)
    refine dnil ?_
    exact Sv.weak (weak_canon [] rfl (by decide) (by decide) (fun b h => absurd h (Nat.not_lt_zero _)) (.cons rfl (avAs_free rfl) .nil) .nil) (clerestoryref2_InheritsOf_j1_ok h)
  · replace h := ifF hc2 h
    refine gs rfl rfl ?_
    refine gs rfl rfl ?_
    refine gs rfl rfl ?_
    refine gs rfl rfl ?_
    refine gs rfl rfl ?_
    refine gs rfl rfl ?_
    refine un (a1 (v := (B false)) rfl ?_)
    refine un (a1 rfl ?_)
    refine dnil ?_
    exact Sv.weak (weak_canon [] rfl (by decide) (by decide) (fun b h => absurd h (Nat.not_lt_zero _)) (.cons rfl (avAs_free rfl) .nil) .nil) (clerestoryref2_InheritsOf_j1_ok h)
def a3_c0 : ACode := .ret
def a3 : AFunc := ⟨1, [(.tmp 2)], (.seq (.region [⟨(some 2), (.mov (.const (.c (.val (.bool false))))), none⟩])
 (.seq (.region [⟨(some 4), (.call 6 [(.const (.c (.val (.int .i64 37))))]), none⟩, ⟨(some 5), (.build [(.val (.int .i64 0)), (.val (.int .i64 0))] [(0, (1, (.const (.c (.val (.int .i64 2)))))), (1, (1, (.const (.c (.val (.int .i64 1024))))))]), none⟩, ⟨(some 6), (.eqs false true [.i, .i] (.tmp 4) (.tmp 5)), none⟩, ⟨(some 3), (.mov (.tmp 6)), none⟩])
 (.seq (.region [⟨(some 7), (.mov (.tmp 3)), none⟩, ⟨(some 8), (.mov (.tmp 7)), none⟩, ⟨(some 9), (.mov (.tmp 0)), (some (8, true))⟩, ⟨(some 10), (.call 6 [(.tmp 9)]), (some (8, true))⟩, ⟨(some 11), (.mov (.tmp 0)), (some (8, true))⟩, ⟨(some 12), (.call 7 [(.tmp 11)]), (some (8, true))⟩, ⟨(some 13), (.eqs false true [.i, .i] (.tmp 10) (.tmp 12)), (some (8, true))⟩, ⟨(some 14), (.pick (.tmp 8) (.tmp 13) (.const (.c (.val (.bool false))))), none⟩, ⟨(some 15), (.mov (.tmp 14)), none⟩, ⟨(some 16), (.mov (.tmp 0)), (some (15, true))⟩, ⟨(some 17), (.call 8 [(.tmp 16)]), (some (15, true))⟩, ⟨(some 18), (.mov (.tmp 0)), (some (15, true))⟩, ⟨(some 19), (.call 9 [(.tmp 18)]), (some (15, true))⟩, ⟨(some 20), (.eqs false false [.b] (.tmp 17) (.tmp 19)), (some (15, true))⟩, ⟨(some 21), (.pick (.tmp 15) (.tmp 20) (.const (.c (.val (.bool false))))), none⟩, ⟨(some 2), (.mov (.tmp 21)), none⟩])
 a3_c0)))⟩
set_option maxRecDepth 100000 in
theorem c3 : compFunc Tryd.prog 3 = some a3 := by kernel_rfl
def clerestorylaw2_StyleInitials_post (r : Bool) : AV → Heap → Nat → Prop := fun v h' n' => v = (B r) ∧ (h' = (fun _ => none)) ∧ n' = 0
noncomputable def clerestorylaw2_StyleInitials_j1 (v2 : Bool) : Option Bool :=
  some v2
theorem clerestorylaw2_StyleInitials_j1_ok {v2 : Bool} {o : Bool} (h : clerestorylaw2_StyleInitials_j1 v2 = some o) :
    Sv Tryd.prog GG 0 a3_c0 (Ends a3.results 0 (clerestorylaw2_StyleInitials_post o)) ⟨(upd (fun _ => none) 2 (some (B v2))), (fun _ => none), 0⟩ := by
  unfold clerestorylaw2_StyleInitials_j1 at h
  refine Sv.ret ?_
  replace h := Option.some.inj h
  subst h
  exact ⟨_, .refl _, _, rfl, ⟨upd (fun _ => none) 0 (some (B v2)), (fun _ => none), 0⟩, (B v2), weak_canon [] rfl List.nodup_nil (Nat.le_refl _) (fun b h => absurd h (Nat.not_lt_zero _)) (.cons rfl (avAs_free rfl) .nil) .nil, rfl, rfl, rfl, rfl⟩
/-- clerestory/clerestorylaw2.StyleInitials -/
noncomputable def clerestorylaw2_StyleInitials (p_ : Int) : Option Bool :=
  (style_Initial 37).bind fun r_ =>
  if (decide (r_.Kind = 2) && (decide (r_.N = 1024) && true)) then
    (style_Initial p_).bind fun r_1 =>
    (clerestoryref2_InitialOf p_).bind fun r_2 =>
    if (decide (r_1.Kind = r_2.Kind) && (decide (r_1.N = r_2.N) && true)) then
      (clerestoryref2_InheritsOf p_).bind fun r_3 =>
      clerestorylaw2_StyleInitials_j1 (((style_Inherits p_) == r_3) && true)
    else
      clerestorylaw2_StyleInitials_j1 false
  else
    clerestorylaw2_StyleInitials_j1 false
theorem clerestorylaw2_StyleInitials_ok {p_ : Int} {r : Bool} (h : clerestorylaw2_StyleInitials p_ = some r) : CPure Tryd.prog GG 3 [(I p_)] (B r) := by
  refine acalls_of_sv hmix c3 (R := clerestorylaw2_StyleInitials_post r) ?_
  unfold clerestorylaw2_StyleInitials at h
  refine Sv.seq ?_
  refine Sv.region ?_
  refine un (a1 rfl ?_)
  refine dnil ?_
  refine Sv.seq ?_
  refine Sv.region ?_
  obtain ⟨r_, hr1, h⟩ := bnd h
  refine un (ac_pure (style_Initial_ok hr1) rfl rfl rfl ?_)
  refine un (a1 (v := (.agg [cI 2, cI 1024])) rfl ?_)
  refine un (a1 (v := (B (decide (r_.Kind = 2) && (decide (r_.N = 1024) && true)))) rfl ?_)
  refine un (a1 rfl ?_)
  refine dnil ?_
  refine Sv.seq ?_
  refine Sv.region ?_
  refine un (a1 rfl ?_)
  refine un (a1 rfl ?_)
  refine split2 (fun hc1 => ?_) (fun hc1 => ?_)
  · replace h := ifT hc1 h
    refine gt rfl (a1 rfl ?_)
    obtain ⟨r_1, hr2, h⟩ := bnd h
    refine gt rfl (ac_pure (style_Initial_ok hr2) rfl rfl rfl ?_)
    refine gt rfl (a1 rfl ?_)
    obtain ⟨r_2, hr3, h⟩ := bnd h
    refine gt rfl (ac_pure (clerestoryref2_InitialOf_ok hr3) rfl rfl rfl ?_)
    refine gt rfl (a1 (v := (B (decide (r_1.Kind = r_2.Kind) && (decide (r_1.N = r_2.N) && true)))) rfl ?_)
    refine un (a1 (v := (B (decide (r_1.Kind = r_2.Kind) && (decide (r_1.N = r_2.N) && true)))) rfl ?_)
    refine un (a1 rfl ?_)
    refine split2 (fun hc2 => ?_) (fun hc2 => ?_)
    · replace h := ifT hc2 h
      refine gt rfl (a1 rfl ?_)
      refine gt rfl (ac_pure (style_Inherits_ok p_) rfl rfl rfl ?_)
      refine gt rfl (a1 rfl ?_)
      obtain ⟨r_3, hr4, h⟩ := bnd h
      refine gt rfl (ac_pure (clerestoryref2_InheritsOf_ok hr4) rfl rfl rfl ?_)
      refine gt rfl (a1 (v := (B (((style_Inherits p_) == r_3) && true))) rfl ?_)
      refine un (a1 (v := (B (((style_Inherits p_) == r_3) && true))) rfl ?_)
      refine un (a1 rfl ?_)
      refine dnil ?_
      exact Sv.weak (weak_canon [] rfl (by decide) (by decide) (fun b h => absurd h (Nat.not_lt_zero _)) (.cons rfl (avAs_free rfl) .nil) .nil) (clerestorylaw2_StyleInitials_j1_ok h)
    · replace h := ifF hc2 h
      refine gs rfl rfl ?_
      refine gs rfl rfl ?_
      refine gs rfl rfl ?_
      refine gs rfl rfl ?_
      refine gs rfl rfl ?_
      refine un (a1 (v := (B false)) rfl ?_)
      refine un (a1 rfl ?_)
      refine dnil ?_
      exact Sv.weak (weak_canon [] rfl (by decide) (by decide) (fun b h => absurd h (Nat.not_lt_zero _)) (.cons rfl (avAs_free rfl) .nil) .nil) (clerestorylaw2_StyleInitials_j1_ok h)
  · replace h := ifF hc1 h
    refine gs rfl rfl ?_
    refine gs rfl rfl ?_
    refine gs rfl rfl ?_
    refine gs rfl rfl ?_
    refine gs rfl rfl ?_
    refine un (a1 (v := (B false)) rfl ?_)
    refine un (a1 rfl ?_)
    refine gs rfl rfl ?_
    refine gs rfl rfl ?_
    refine gs rfl rfl ?_
    refine gs rfl rfl ?_
    refine gs rfl rfl ?_
    refine un (a1 (v := (B false)) rfl ?_)
    refine un (a1 rfl ?_)
    refine dnil ?_
    exact Sv.weak (weak_canon [] rfl (by decide) (by decide) (fun b h => absurd h (Nat.not_lt_zero _)) (.cons rfl (avAs_free rfl) .nil) .nil) (clerestorylaw2_StyleInitials_j1_ok h)
end Go.Proofs.YtgfcmhomndofaaaDoorBv
