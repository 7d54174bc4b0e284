/- Printed by a program of mine (bgen.py): plain functions, and the walks that show that the code comes to what they answer. -/
import Derived.Test.YtjicgjhhiallkaaGreatDoorGUrlResolves1
namespace Go.Proofs.YtjicgjhhiallkaaGreatDoorBv
open Go
set_option linter.unusedVariables false
set_option linter.unusedSimpArgs false
set_option maxRecDepth 100000
def a113_c0 : ACode := (.seq (.seq (.region [(mV 11 5), (mV 12 0), (oP 13 (.lenS (.tmp 12))), (oP 14 (.bin .lss (.tmp 11) (.tmp 13)))])
 (.cond (.tmp 14) .skip (.exit 0)))
 (.seq (.block 1 (.seq (.region [(mV 17 0), (mV 18 5), (oP 19 (.idxS (.tmp 17) (.tmp 18))), (mV 6 19)])
 (.seq (.seq (.region [(mV 20 6), ⟨(some 21), (.bin .geq (.tmp 20) (.const (.c (.val (.int .u8 128))))), none⟩])
 (.cond (.tmp 21) (.seq (.region [⟨(some 3), (.mov (.const (.c (.val (.bool false))))), none⟩])
 (.exit 0)) .skip))
 (.region [(mV 22 4), (mV 23 22), ⟨(some 24), (.mov (.tmp 6)), (some (23, false))⟩, ⟨(some 25), (.bin .leq (.const (.c (.val (.int .u8 65)))) (.tmp 24)), (some (23, false))⟩, ⟨(some 26), (.mov (.tmp 25)), (some (23, false))⟩, ⟨(some 27), (.mov (.tmp 6)), (some (26, true))⟩, ⟨(some 28), (.bin .leq (.tmp 27) (.const (.c (.val (.int .u8 90))))), (some (26, true))⟩, ⟨(some 29), (.pick (.tmp 26) (.tmp 28) (.const (.c (.val (.bool false))))), (some (23, false))⟩, ⟨(some 30), (.pick (.tmp 23) (.const (.c (.val (.bool true)))) (.tmp 29)), none⟩, (mV 4 30)]))))
 (.region [(mV 15 5), ⟨(some 16), (.bin .add (.tmp 15) (kI 1)), none⟩, (mV 5 16)])))
def a113_c1 : ACode := (.seq (.region [(mV 63 10), (oP 64 (.call 87 [(.tmp 7), (.tmp 63)]))])
 (.region [(mV 65 9), ⟨(some 66), (.bin .add (.tmp 65) (kI 1)), none⟩, (mV 8 66)]))
def a113_c2 : ACode := (.region [(mV 42 9), ⟨(some 43), (.bin .add (.tmp 42) (kI 1)), none⟩, (mV 9 43)])
def a113_c3 : ACode := (.seq (.seq (.region [(mV 38 9), (mV 39 0), (oP 40 (.lenS (.tmp 39))), (oP 41 (.bin .lss (.tmp 38) (.tmp 40)))])
 (.cond (.tmp 41) .skip (.exit 2)))
 (.seq (.block 3 (.seq (.region [(mV 44 0), (mV 45 9), (oP 46 (.idxS (.tmp 44) (.tmp 45))), (mV 10 46)])
 (.seq (.region [(mV 47 10), ⟨(some 48), (.bin .leq (.const (.c (.val (.int .u8 65)))) (.tmp 47)), none⟩, (mV 49 48), ⟨(some 50), (.mov (.tmp 10)), (some (49, true))⟩, ⟨(some 51), (.bin .leq (.tmp 50) (.const (.c (.val (.int .u8 90))))), (some (49, true))⟩, ⟨(some 52), (.pick (.tmp 49) (.tmp 51) (.const (.c (.val (.bool false))))), none⟩])
 (.cond (.tmp 52) (.seq (.region [(mV 53 10), ⟨(some 54), (.bin .add (.tmp 53) (.const (.c (.val (.int .u8 32))))), none⟩, (mV 10 54)])
 (.seq (.seq (.region [(mV 55 8), (mV 56 9), (oP 57 (.bin .lss (.tmp 55) (.tmp 56)))])
 (.cond (.tmp 57) (.region [(mV 58 0), (mV 59 8), (mV 60 9), (oP 61 (.slStr (.tmp 58) (some (.tmp 59)) (some (.tmp 60)))), (oP 62 (.call 64 [(.tmp 7), (.tmp 61)]))]) .skip))
 a113_c1)) .skip))))
 a113_c2))
def a113_c4 : ACode := (.seq (.region [(oP 75 (.call 66 [(.tmp 7)])), (mV 2 75)])
 .ret)
def a113_c5 : ACode := (.seq (.region [(mV 76 0), ⟨(some 77), (.call 70 [(.const (.c (.fn (.func 130) [] []))), (.tmp 76)]), none⟩, (mV 2 77)])
 .ret)
def a113 : AFunc := ⟨1, [(.tmp 2)], (.seq (.region [⟨(some 2), (.mov (.const (.c (.str [])))), none⟩])
 (.seq (.region [⟨(some 3), (.mov (.const (.c (.val (.bool true))))), none⟩, ⟨(some 4), (.mov (.const (.c (.val (.bool false))))), none⟩])
 (.seq (.seq (.region [⟨(some 5), (.mov (kI 0)), none⟩])
 (.block 0 (.loop a113_c0)))
 (.seq (.seq (.region [(mV 31 3)])
 (.cond (.tmp 31) (.seq (.seq (.region [(mV 32 4), (oP 33 (.un .not (.tmp 32)))])
 (.cond (.tmp 33) (.seq (.region [(mV 34 0), (mV 2 34)])
 .ret) .skip))
 (.seq (.region [(oP 7 (.boxB 76))])
 (.seq (.region [⟨(some 8), (.mov (kI 0)), none⟩])
 (.seq (.region [(mV 35 0), (oP 36 (.lenS (.tmp 35))), (oP 37 (.call 97 [(.tmp 7), (.tmp 36)]))])
 (.seq (.seq (.region [⟨(some 9), (.mov (kI 0)), none⟩])
 (.block 2 (.loop a113_c3)))
 (.seq (.seq (.region [(mV 67 8), (mV 68 0), (oP 69 (.lenS (.tmp 68))), (oP 70 (.bin .lss (.tmp 67) (.tmp 69)))])
 (.cond (.tmp 70) (.region [(mV 71 0), (mV 72 8), (oP 73 (.slStr (.tmp 71) (some (.tmp 72)) none)), (oP 74 (.call 64 [(.tmp 7), (.tmp 73)]))]) .skip))
 a113_c4)))))) .skip))
 a113_c5))))⟩
set_option maxRecDepth 100000 in
theorem c113 : compFunc Tryz.prog 113 = some a113 := by kernel_rfl
def strings_ToLower_post (r : Tx) : AV → Heap → Nat → Prop := fun v h' n' => v = (S r) ∧ (h' = e0) ∧ n' = 0
noncomputable def strings_ToLower_l0 (s_ : Tx) (K0_ : Bool → Bool → Option Tx) : Nat → Bool → Int → Option Tx
 | 0, _, _ => none
 | k + 1, hasUpper, i_ =>
  if decide (i_ < (s_.length : Int)) then
   (at? s_ i_).bind fun c_ =>
   if decide (128 ≤ (c_.toNat : Int)) then
    K0_ false hasUpper
   else
    (strings_ToLower_l0 s_ K0_ k) (hasUpper || ((decide (65 ≤ (c_.toNat : Int))) && (decide ((c_.toNat : Int) ≤ 90)))) (wi (i_ + 1))
  else
   K0_ true hasUpper
theorem strings_ToLower_l0_ok {mL : Int} {Q : AExit → St → Prop} {s_ : Tx} {K0_ : Bool → Bool → Option Tx} {k : Nat} {hasUpper : Bool} {i_ : Int} {o : Tx} (h : strings_ToLower_l0 s_ K0_ k hasUpper i_ = some o)
  (hK0 : ∀ (isASCII : Bool) (hasUpper1 : Bool), K0_ isASCII hasUpper1 = some o → ∀ s, Weak 0 s ⟨(upd (upd (upd e0 0 (some (S s_))) 3 (some (B isASCII))) 4 (some (B hasUpper1))), e0, 0⟩ → Q (.exit 0) s)
  (hr : ∀ s, Ends a113.results 0 (strings_ToLower_post o) .ret s → Q .ret s) :
  Sv Tryz.prog (GG mL) 0 (.loop a113_c0) Q ⟨(upd (upd (upd (upd e0 0 (some (S s_))) 3 (some (B true))) 4 (some (B hasUpper))) 5 (some (I i_))), e0, 0⟩ := by
 refine Sv.loop (I := fun k s => ∃ (hasUpper : Bool), ∃ (i_ : Int), strings_ToLower_l0 s_ K0_ k hasUpper i_ = some o ∧ s = ⟨(upd (upd (upd (upd e0 0 (some (S s_))) 3 (some (B true))) 4 (some (B hasUpper))) 5 (some (I i_))), e0, 0⟩) (fun k s hI => ?_) ⟨hasUpper, i_, h, rfl⟩
 clear h
 clear i_ hasUpper
 obtain ⟨hasUpper, i_, h, rfl⟩ := hI
 cases k with
 | zero => cases h
 | succ k =>
 rw [strings_ToLower_l0] at h
 have hself : ∀ (hasUpper : Bool) (i_ : Int), (strings_ToLower_l0 s_ K0_ k) hasUpper i_ = some o → ∀ s, Weak 0 s ⟨(upd (upd (upd (upd e0 0 (some (S s_))) 3 (some (B true))) 4 (some (B hasUpper))) 5 (some (I i_))), e0, 0⟩ → (AThen (fun s' => ∃ s'' k', Weak 0 s' s'' ∧ k' < k + 1 ∧ (fun k s => ∃ (hasUpper : Bool), ∃ (i_ : Int), strings_ToLower_l0 s_ K0_ k hasUpper i_ = some o ∧ s = ⟨(upd (upd (upd (upd e0 0 (some (S s_))) 3 (some (B true))) 4 (some (B hasUpper))) 5 (some (I i_))), e0, 0⟩) k' s'') Q) .normal s := fun hasUpper i_ h s hw => ⟨_, k, hw, Nat.lt_succ_self k, hasUpper, i_, h, rfl⟩
 refine Sv.seq <| ssr <| un1 rfl <| un1 rfl <| un1 (v := (I (s_.length : Int))) rfl <| un1 (v := (B (decide (i_ < (s_.length : Int))))) rfl <| dnil ?_
 refine Sv.cond (b := decide (i_ < (s_.length : Int))) rfl (fun hc1 => ?_) (fun hc1 => ?_)
 ·replace h := ifT hc1 h
  refine Sv.skip <| Sv.seq <| Sv.block <| ssr <| un1 rfl <| un1 rfl ?_
  obtain ⟨c_, hx1, h⟩ := bnd h
  refine un1 (v := (.c (.val (.int .u8 (c_.toNat : Int))))) (s_idxS rfl rfl hx1) <| un1 rfl <| dnil <| Sv.seq <| ssr <| un1 rfl <| un1 (v := (B (decide (128 ≤ (c_.toNat : Int))))) rfl <| dnil ?_
  refine Sv.cond (b := decide (128 ≤ (c_.toNat : Int))) rfl (fun hc2 => ?_) (fun hc2 => ?_)
  ·replace h := ifT hc2 h
   refine ssr <| un1 rfl <| dnil <| Sv.exit ?_
   exact hK0 false hasUpper h _ (wcn [] rfl (.cf rfl rfl (.cf rfl rfl (.cf rfl rfl .nil))) .nil)
  ·replace h := ifF hc2 h
   refine Sv.skip <| srg <| un1 rfl <| un1 rfl ?_
   refine gjoin 7 (d := 30) (v := (B (hasUpper || ((decide (65 ≤ (c_.toNat : Int))) && (decide ((c_.toNat : Int) ≤ 90)))))) (fun X hX => ?_) ?_
   ·refine split2 (fun hc4 => ?_) (fun hc4 => ?_)
    ·refine gs rfl rfl <| gs rfl rfl <| gs rfl rfl <| gu rfl <| gu rfl <| gs rfl rfl <| un1 (v := (B true)) rfl <| dnil ?_
     exact hX _ (.putEq (by rw [hc4]; rfl) (.skip _ _ (.skip _ _ (.skip _ _ (.skip _ _ (.skip _ _ (.skip _ _ (.putEq (by rw [hc4]) (.refl _)) rfl) rfl) rfl) rfl) rfl) rfl))
    ·refine gt rfl <| a1 rfl <| gt rfl <| a1 (v := (B (decide (65 ≤ (c_.toNat : Int))))) rfl <| gt rfl <| a1 rfl ?_
     refine gjoin 3 (d := 29) (v := (B ((decide (65 ≤ (c_.toNat : Int))) && (decide ((c_.toNat : Int) ≤ 90))))) (fun X hX => ?_) ?_
     ·refine split2 (fun hc3 => ?_) (fun hc3 => ?_)
      ·refine gt rfl <| a1 rfl <| gt rfl <| a1 (v := (B (decide ((c_.toNat : Int) ≤ 90)))) rfl <| gt rfl <| a1 (v := (B (decide ((c_.toNat : Int) ≤ 90)))) rfl <| dnil ?_
       exact hX _ (.putEq (by rw [hc3]; rfl) (.skip _ _ (.skip _ _ (.putEq (by rw [hc3]) (.refl _)) rfl) rfl))
      ·refine gs rfl rfl <| gs rfl rfl <| gt rfl <| a1 (v := (B false)) rfl <| dnil ?_
       exact hX _ (.putEq (by rw [hc3]; rfl) (.skip _ _ (.skip _ _ (.putEq (by rw [hc3]) (.refl _)) rfl) rfl))
     refine un1 (v := (B ((decide (65 ≤ (c_.toNat : Int))) && (decide ((c_.toNat : Int) ≤ 90))))) rfl <| dnil ?_
     exact hX _ (.putEq (by rw [hc4]; rfl) (.skip _ _ (.skip _ _ (.skip _ _ (.skip _ _ (.putEq (by rw [hc4]) (.refl _)) rfl) rfl) rfl) rfl))
   refine un1 rfl <| dnil <| srg <| un1 rfl <| un1 (v := (I (wi (i_ + 1)))) rfl <| un1 rfl <| dnil ?_
   exact hself (hasUpper || ((decide (65 ≤ (c_.toNat : Int))) && (decide ((c_.toNat : Int) ≤ 90)))) (wi (i_ + 1)) h _ (wcn [] rfl (.cf rfl rfl (.cf rfl rfl (.cf rfl rfl (.cf rfl rfl .nil)))) .nil)
 ·replace h := ifF hc1 h
  refine Sv.exit ?_
  exact hK0 true hasUpper h _ (wcn [] rfl (.cf rfl rfl (.cf rfl rfl (.cf rfl rfl .nil))) .nil)
noncomputable def strings_ToLower_j11 (i_1 : Int) (s_ : Tx) (self : Tx → Int → Int → Option Tx) (K2_ : Tx → Int → Option Tx) (b_2 : Tx) (pos_2 : Int) : Option Tx :=
 self b_2 pos_2 (wi (i_1 + 1))
theorem strings_ToLower_j11_ok {mL : Int} {Q : AExit → St → Prop} {i_1 : Int} {s_ : Tx} {self : Tx → Int → Int → Option Tx} {K2_ : Tx → Int → Option Tx} {b_2 : Tx} {pos_2 : Int} {zb_2 : Bool} (hzb_2 : zb_2 = true → b_2 = []) {o : Tx} (h : strings_ToLower_j11 i_1 s_ self K2_ b_2 pos_2 = some o)
  (hself : ∀ (b_ : Tx) (pos_ : Int) (i_1 : Int) (zb : Bool) (_ : zb = true → b_ = []), self b_ pos_ i_1 = some o → ∀ s, Weak 0 s ⟨(upd (upd (upd (upd e0 0 (some (S s_))) 7 (some (.c (.ref 0 2 0 0)))) 8 (some (I pos_))) 9 (some (I i_1))), (upd (upd e0 0 (some (.bld 76 zb 1 b_.length))) 1 (bufB zb 5 b_)), 2⟩ → (Q) .normal s)
  (hK2 : ∀ (b_1 : Tx) (pos_1 : Int) (zb_1 : Bool) (_ : zb_1 = true → b_1 = []), K2_ b_1 pos_1 = some o → ∀ s, Weak 0 s ⟨(upd (upd (upd e0 0 (some (S s_))) 7 (some (.c (.ref 0 2 0 0)))) 8 (some (I pos_1))), (upd (upd e0 0 (some (.bld 76 zb_1 1 b_1.length))) 1 (bufB zb_1 5 b_1)), 2⟩ → Q (.exit 2) s)
  (hr : ∀ s, Ends a113.results 0 (strings_ToLower_post o) .ret s → Q .ret s) :
  Sv Tryz.prog (GG mL) 0 a113_c2 Q ⟨(upd (upd (upd (upd e0 0 (some (S s_))) 7 (some (.c (.ref 0 2 0 0)))) 8 (some (I pos_2))) 9 (some (I i_1))), (upd (upd e0 0 (some (.bld 76 zb_2 1 b_2.length))) 1 (bufB zb_2 5 b_2)), 2⟩ := by
 unfold strings_ToLower_j11 at h
 refine srg <| un1 rfl <| un1 (v := (I (wi (i_1 + 1)))) rfl <| un1 rfl <| dnil ?_
 exact hself b_2 pos_2 (wi (i_1 + 1)) zb_2 hzb_2 h _ (wcn [0, 1] rfl (.cf rfl rfl (.cf rfl rfl (.cons rfl (.c (.ref rfl (by decide))) (.cf rfl rfl .nil)))) (.buf (by decide) rfl (.box (by decide) rfl (.bld rfl (by decide)) .nil)))
abbrev strings_ToLower_q0 (mL : Int) (Q : AExit → St → Prop) : AExit → St → Prop := AThen (Sv Tryz.prog (GG mL) 0 a113_c2 Q) Q
abbrev strings_ToLower_q1 (mL : Int) (Q : AExit → St → Prop) : AExit → St → Prop := ABlock 3 (strings_ToLower_q0 mL Q)
noncomputable def strings_ToLower_j12 (c_1 : UInt8) (i_1 : Int) (s_ : Tx) (self : Tx → Int → Int → Option Tx) (K2_ : Tx → Int → Option Tx) (b_3 : Tx) : Option Tx :=
 (sb_WriteByte b_3 (wr .u8 ((c_1.toNat : Int) + 32))).bind fun r_1 =>
 strings_ToLower_j11 i_1 s_ self K2_ r_1 (wi (i_1 + 1))
theorem strings_ToLower_j12_ok {mL : Int} {Q : AExit → St → Prop} {c_1 : UInt8} {i_1 : Int} {s_ : Tx} {self : Tx → Int → Int → Option Tx} {K2_ : Tx → Int → Option Tx} {b_3 : Tx} {zb_3 : Bool} (hzb_3 : zb_3 = true → b_3 = []) {o : Tx} (h : strings_ToLower_j12 c_1 i_1 s_ self K2_ b_3 = some o)
  (hself : ∀ (b_ : Tx) (pos_ : Int) (i_1 : Int) (zb : Bool) (_ : zb = true → b_ = []), self b_ pos_ i_1 = some o → ∀ s, Weak 0 s ⟨(upd (upd (upd (upd e0 0 (some (S s_))) 7 (some (.c (.ref 0 2 0 0)))) 8 (some (I pos_))) 9 (some (I i_1))), (upd (upd e0 0 (some (.bld 76 zb 1 b_.length))) 1 (bufB zb 5 b_)), 2⟩ → (Q) .normal s)
  (hK2 : ∀ (b_1 : Tx) (pos_1 : Int) (zb_1 : Bool) (_ : zb_1 = true → b_1 = []), K2_ b_1 pos_1 = some o → ∀ s, Weak 0 s ⟨(upd (upd (upd e0 0 (some (S s_))) 7 (some (.c (.ref 0 2 0 0)))) 8 (some (I pos_1))), (upd (upd e0 0 (some (.bld 76 zb_1 1 b_1.length))) 1 (bufB zb_1 5 b_1)), 2⟩ → Q (.exit 2) s)
  (hr : ∀ s, Ends a113.results 0 (strings_ToLower_post o) .ret s → Q .ret s) :
  Sv Tryz.prog (GG mL) 0 a113_c1 (strings_ToLower_q1 mL Q) ⟨(upd (upd (upd (upd e0 0 (some (S s_))) 7 (some (.c (.ref 0 2 0 0)))) 9 (some (I i_1))) 10 (some (.c (.val (.int .u8 (wr .u8 ((c_1.toNat : Int) + 32))))))), (upd (upd e0 0 (some (.bld 76 zb_3 1 b_3.length))) 1 (bufB zb_3 5 b_3)), 2⟩ := by
 unfold strings_ToLower_j12 at h
 refine ssr <| un1 rfl ?_
 obtain ⟨r_1, hr2, h⟩ := bnd h
 refine un <| ac_gen (bs := [0, 1]) («as» := [(.c (.ref 0 2 0 0)), (.c (.val (.int .u8 (wr .u8 ((c_1.toNat : Int) + 32)))))]) (h2 := _) (h1 := (upd (upd e0 0 (some (.bld 76 zb_3 1 b_3.length))) 1 (bufB zb_3 5 b_3))) (sb_WriteByte_ok (z := zb_3) (l := b_3) hzb_3 hr2) rfl (.cons (.c (.ref rfl (by decide))) (.cons (avAs_free rfl) .nil)) (hsub_refl _) (.cons rfl (.cons rfl (.nil _))) (fun h => by cases h) (by decide) (by decide) (.cons (.c (.ref rfl (by decide))) (.cons (avAs_free rfl) .nil)) (.buf (by decide) rfl (.box (by decide) rfl (.bld rfl (by decide)) .nil)) ?_
 rintro _ _ _ hn ⟨z_1, hz_1, rfl, rfl, rfl⟩
 refine ⟨.inl rfl, (upd (upd (rem [0, 1] _) 0 (some (.bld 76 z_1 2 r_1.length))) 2 (bufB z_1 5 r_1)), fun hbd => (m3_cons (m3_buf rfl) (m3_cons (m3_box rfl rfl) (m3_rem (in_cons (by decide) (in_cons (by decide) (in_nil _))) (.cons (by decide) (.cons (by decide) .nil)) hbd))), (.c (.val .nilIface)), 3, (by cases z_1 <;> rfl), rfl, ?_⟩
 refine dnil <| srg <| un1 rfl <| un1 (v := (I (wi (i_1 + 1)))) rfl <| un1 rfl <| dnil ?_
 exact Sv.weak (wcn [0, 2] rfl (.cf rfl rfl (.cf rfl rfl (.cons rfl (.c (.ref rfl (by decide))) (.cf rfl rfl .nil)))) (.buf (by decide) rfl (.box (by decide) rfl (.bld rfl (by decide)) .nil))) (strings_ToLower_j11_ok hz_1 h hself hK2 hr)
noncomputable def strings_ToLower_l1 (s_ : Tx) (K2_ : Tx → Int → Option Tx) : Nat → Tx → Int → Int → Option Tx
 | 0, _, _, _ => none
 | k + 1, b_, pos_, i_1 =>
  if decide (i_1 < (s_.length : Int)) then
   (at? s_ i_1).bind fun c_1 =>
   if ((decide (65 ≤ (c_1.toNat : Int))) && (decide ((c_1.toNat : Int) ≤ 90))) then
    if decide (pos_ < i_1) then
     (sub? s_ pos_ i_1).bind fun r_2 =>
     (sb_WriteString b_ r_2).bind fun r_3 =>
     strings_ToLower_j12 c_1 i_1 s_ (strings_ToLower_l1 s_ K2_ k) K2_ r_3
    else
     strings_ToLower_j12 c_1 i_1 s_ (strings_ToLower_l1 s_ K2_ k) K2_ b_
   else
    strings_ToLower_j11 i_1 s_ (strings_ToLower_l1 s_ K2_ k) K2_ b_ pos_
  else
   K2_ b_ pos_
theorem strings_ToLower_l1_ok {mL : Int} {Q : AExit → St → Prop} {s_ : Tx} {K2_ : Tx → Int → Option Tx} {k : Nat} {b_ : Tx} {pos_ : Int} {i_1 : Int} {zb : Bool} (hzb : zb = true → b_ = []) {o : Tx} (h : strings_ToLower_l1 s_ K2_ k b_ pos_ i_1 = some o)
  (hK2 : ∀ (b_1 : Tx) (pos_1 : Int) (zb_1 : Bool) (_ : zb_1 = true → b_1 = []), K2_ b_1 pos_1 = some o → ∀ s, Weak 0 s ⟨(upd (upd (upd e0 0 (some (S s_))) 7 (some (.c (.ref 0 2 0 0)))) 8 (some (I pos_1))), (upd (upd e0 0 (some (.bld 76 zb_1 1 b_1.length))) 1 (bufB zb_1 5 b_1)), 2⟩ → Q (.exit 2) s)
  (hr : ∀ s, Ends a113.results 0 (strings_ToLower_post o) .ret s → Q .ret s) :
  Sv Tryz.prog (GG mL) 0 (.loop a113_c3) Q ⟨(upd (upd (upd (upd e0 0 (some (S s_))) 7 (some (.c (.ref 0 2 0 0)))) 8 (some (I pos_))) 9 (some (I i_1))), (upd (upd e0 0 (some (.bld 76 zb 1 b_.length))) 1 (bufB zb 5 b_)), 2⟩ := by
 refine Sv.loop (I := fun k s => ∃ (b_ : Tx), ∃ (pos_ : Int), ∃ (i_1 : Int), ∃ (zb : Bool), (zb = true → b_ = []) ∧ strings_ToLower_l1 s_ K2_ k b_ pos_ i_1 = some o ∧ s = ⟨(upd (upd (upd (upd e0 0 (some (S s_))) 7 (some (.c (.ref 0 2 0 0)))) 8 (some (I pos_))) 9 (some (I i_1))), (upd (upd e0 0 (some (.bld 76 zb 1 b_.length))) 1 (bufB zb 5 b_)), 2⟩) (fun k s hI => ?_) ⟨b_, pos_, i_1, zb, hzb, h, rfl⟩
 clear h
 clear hzb zb i_1 pos_ b_
 obtain ⟨b_, pos_, i_1, zb, hzb, h, rfl⟩ := hI
 cases k with
 | zero => cases h
 | succ k =>
 rw [strings_ToLower_l1] at h
 have hself : ∀ (b_ : Tx) (pos_ : Int) (i_1 : Int) (zb : Bool) (_ : zb = true → b_ = []), (strings_ToLower_l1 s_ K2_ k) b_ pos_ i_1 = some o → ∀ s, Weak 0 s ⟨(upd (upd (upd (upd e0 0 (some (S s_))) 7 (some (.c (.ref 0 2 0 0)))) 8 (some (I pos_))) 9 (some (I i_1))), (upd (upd e0 0 (some (.bld 76 zb 1 b_.length))) 1 (bufB zb 5 b_)), 2⟩ → (AThen (fun s' => ∃ s'' k', Weak 0 s' s'' ∧ k' < k + 1 ∧ (fun k s => ∃ (b_ : Tx), ∃ (pos_ : Int), ∃ (i_1 : Int), ∃ (zb : Bool), (zb = true → b_ = []) ∧ strings_ToLower_l1 s_ K2_ k b_ pos_ i_1 = some o ∧ s = ⟨(upd (upd (upd (upd e0 0 (some (S s_))) 7 (some (.c (.ref 0 2 0 0)))) 8 (some (I pos_))) 9 (some (I i_1))), (upd (upd e0 0 (some (.bld 76 zb 1 b_.length))) 1 (bufB zb 5 b_)), 2⟩) k' s'') Q) .normal s := fun b_ pos_ i_1 zb hzb h s hw => ⟨_, k, hw, Nat.lt_succ_self k, b_, pos_, i_1, zb, hzb, h, rfl⟩
 refine Sv.seq <| ssr <| un1 rfl <| un1 rfl <| un1 (v := (I (s_.length : Int))) rfl <| un1 (v := (B (decide (i_1 < (s_.length : Int))))) rfl <| dnil ?_
 refine Sv.cond (b := decide (i_1 < (s_.length : Int))) rfl (fun hc7 => ?_) (fun hc7 => ?_)
 ·replace h := ifT hc7 h
  refine Sv.skip <| Sv.seq <| Sv.block <| ssr <| un1 rfl <| un1 rfl ?_
  obtain ⟨c_1, hx2, h⟩ := bnd h
  refine un1 (v := (.c (.val (.int .u8 (c_1.toNat : Int))))) (s_idxS rfl rfl hx2) <| un1 rfl <| dnil <| ssr <| un1 rfl <| un1 (v := (B (decide (65 ≤ (c_1.toNat : Int))))) rfl <| un1 rfl ?_
  refine gjoin 3 (d := 52) (v := (B ((decide (65 ≤ (c_1.toNat : Int))) && (decide ((c_1.toNat : Int) ≤ 90))))) (fun X hX => ?_) ?_
  ·refine split2 (fun hc8 => ?_) (fun hc8 => ?_)
   ·refine gt rfl <| a1 rfl <| gt rfl <| a1 (v := (B (decide ((c_1.toNat : Int) ≤ 90)))) rfl <| un1 (v := (B (decide ((c_1.toNat : Int) ≤ 90)))) rfl <| dnil ?_
    exact hX _ (.putEq (by rw [hc8]; rfl) (.skip _ _ (.skip _ _ (.putEq (by rw [hc8]) (.refl _)) rfl) rfl))
   ·refine gs rfl rfl <| gs rfl rfl <| un1 (v := (B false)) rfl <| dnil ?_
    exact hX _ (.putEq (by rw [hc8]; rfl) (.skip _ _ (.skip _ _ (.putEq (by rw [hc8]) (.refl _)) rfl) rfl))
  refine dnil ?_
  refine Sv.cond (b := ((decide (65 ≤ (c_1.toNat : Int))) && (decide ((c_1.toNat : Int) ≤ 90)))) rfl (fun hc9 => ?_) (fun hc9 => ?_)
  ·replace h := ifT hc9 h
   refine ssr <| un1 rfl <| un1 (v := (.c (.val (.int .u8 (wr .u8 ((c_1.toNat : Int) + 32)))))) rfl <| un1 rfl <| dnil <| Sv.seq <| ssr <| un1 rfl <| un1 rfl <| un1 (v := (B (decide (pos_ < i_1)))) rfl <| dnil ?_
   refine Sv.cond (b := decide (pos_ < i_1)) rfl (fun hc10 => ?_) (fun hc10 => ?_)
   ·replace h := ifT hc10 h
    refine srg <| un1 rfl <| un1 rfl <| un1 rfl ?_
    obtain ⟨r_2, hx3, h⟩ := bnd h
    refine un1 (v := (S r_2)) (s_slStr rfl rfl rfl hx3) ?_
    obtain ⟨r_3, hr3, h⟩ := bnd h
    refine un <| ac_gen (bs := [0, 1]) («as» := [(.c (.ref 0 2 0 0)), (S r_2)]) (h2 := _) (h1 := (upd (upd e0 0 (some (.bld 76 zb 1 b_.length))) 1 (bufB zb 5 b_))) (sb_WriteString_ok (z := zb) (l := b_) hzb hr3) rfl (.cons (.c (.ref rfl (by decide))) (.cons (avAs_free rfl) .nil)) (hsub_refl _) (.cons rfl (.cons rfl (.nil _))) (fun h => by cases h) (by decide) (by decide) (.cons (.c (.ref rfl (by decide))) (.cons (avAs_free rfl) .nil)) (.buf (by decide) rfl (.box (by decide) rfl (.bld rfl (by decide)) .nil)) ?_
    rintro _ _ _ hn ⟨z_2, hz_2, rfl, rfl, rfl⟩
    refine ⟨.inl rfl, (upd (upd (rem [0, 1] _) 0 (some (.bld 76 z_2 2 r_3.length))) 2 (bufB z_2 5 r_3)), fun hbd => (m3_cons (m3_buf rfl) (m3_cons (m3_box rfl rfl) (m3_rem (in_cons (by decide) (in_cons (by decide) (in_nil _))) (.cons (by decide) (.cons (by decide) .nil)) hbd))), (.tup [(I (r_2.length : Int)), (.c (.val .nilIface))]), 3, (by cases z_2 <;> rfl), rfl, ?_⟩
    refine dnil ?_
    exact Sv.weak (wcn [0, 2] rfl (.cf rfl rfl (.cf rfl rfl (.cons rfl (.c (.ref rfl (by decide))) (.cf rfl rfl .nil)))) (.buf (by decide) rfl (.box (by decide) rfl (.bld rfl (by decide)) .nil))) (strings_ToLower_j12_ok hz_2 h hself hK2 hr)
   ·replace h := ifF hc10 h
    refine Sv.skip ?_
    exact Sv.weak (wcn [0, 1] rfl (.cf rfl rfl (.cf rfl rfl (.cons rfl (.c (.ref rfl (by decide))) (.cf rfl rfl .nil)))) (.buf (by decide) rfl (.box (by decide) rfl (.bld rfl (by decide)) .nil))) (strings_ToLower_j12_ok hzb h hself hK2 hr)
  ·replace h := ifF hc9 h
   refine Sv.skip ?_
   exact Sv.weak (wcn [0, 1] rfl (.cf rfl rfl (.cf rfl rfl (.cons rfl (.c (.ref rfl (by decide))) (.cf rfl rfl .nil)))) (.buf (by decide) rfl (.box (by decide) rfl (.bld rfl (by decide)) .nil))) (strings_ToLower_j11_ok hzb h hself hK2 hr)
 ·replace h := ifF hc7 h
  refine Sv.exit ?_
  exact hK2 b_ pos_ zb hzb h _ (wcn [0, 1] rfl (.cf rfl rfl (.cons rfl (.c (.ref rfl (by decide))) (.cf rfl rfl .nil))) (.buf (by decide) rfl (.box (by decide) rfl (.bld rfl (by decide)) .nil)))
abbrev strings_ToLower_q2 (mL : Int) (o : Tx) : AExit → St → Prop := AThen (Sv Tryz.prog (GG mL) 0 a113_c5 (Ends a113.results 0 (strings_ToLower_post o))) (Ends a113.results 0 (strings_ToLower_post o))
noncomputable def strings_ToLower_j13 (b_4 : Tx) : Option Tx :=
 some b_4
theorem strings_ToLower_j13_ok {mL : Int} {b_4 : Tx} {zb_4 : Bool} (hzb_4 : zb_4 = true → b_4 = []) {o : Tx} (h : strings_ToLower_j13 b_4 = some o) :
  Sv Tryz.prog (GG mL) 0 a113_c4 (strings_ToLower_q2 mL o) ⟨(upd e0 7 (some (.c (.ref 0 2 0 0)))), (upd (upd e0 0 (some (.bld 76 zb_4 1 b_4.length))) 1 (bufB zb_4 5 b_4)), 2⟩ := by
 unfold strings_ToLower_j13 at h
 refine ssr <| un <| ac_gen (bs := [0, 1]) («as» := [(.c (.ref 0 2 0 0))]) (h2 := _) (h1 := (upd (upd e0 0 (some (.bld 76 zb_4 1 b_4.length))) 1 (bufB zb_4 5 b_4))) (sb_String_ok (z := zb_4) (l := b_4) hzb_4) rfl (.cons (.c (.ref rfl (by decide))) .nil) (hsub_refl _) (.cons rfl (.cons rfl (.nil _))) (fun h => by cases h) (by decide) (by decide) (.cons (.c (.ref rfl (by decide))) .nil) (.buf (by decide) rfl (.box (by decide) rfl (.bld rfl (by decide)) .nil)) ?_
 rintro _ _ _ hn ⟨rfl, rfl, rfl⟩
 refine ⟨.inl rfl, (rem [0, 1] _), fun hbd => (m3_rem (in_cons (by decide) (in_cons (by decide) (in_nil _))) (.nil) hbd), (S b_4), 2, rfl, rfl, ?_⟩
 refine un1 rfl <| dnil <| Sv.ret ?_
 replace h := Option.some.inj h
 subst h
 exact ⟨_, .refl _, _, rfl, ⟨upd e0 0 (some (S b_4)), e0, 0⟩, (S b_4), weak_canon [] rfl List.nodup_nil (Nat.le_refl _) nlz (.cf rfl rfl .nil) .nil, rfl, rfl, rfl, rfl⟩
/-- strings.ToLower -/
noncomputable def strings_ToLower (s_ : Tx) : Option Tx :=
 lim fun kk1 => strings_ToLower_l0 s_ (fun (isASCII : Bool) (hasUpper1 : Bool) => 
   if isASCII then
    if (!hasUpper1) then
     some s_
    else
     (sb_Grow ([] : List UInt8) (s_.length : Int)).bind fun r_ =>
     lim fun kk => strings_ToLower_l1 s_ (fun (b_1 : Tx) (pos_1 : Int) => 
       if decide (pos_1 < (s_.length : Int)) then
        (sub? s_ pos_1 (s_.length : Int)).bind fun r_4 =>
        (sb_WriteString b_1 r_4).bind fun r_5 =>
        strings_ToLower_j13 r_5
       else
        strings_ToLower_j13 b_1) kk r_ 0 0
   else
    none) kk1 false 0
theorem strings_ToLower_ok {mL : Int} {s_ : Tx} {r : Tx} (h : strings_ToLower s_ = some r) : CPure Tryz.prog (GG mL) 113 [(S s_)] (S r) := by
 refine acalls_of_sv hmix c113 (R := strings_ToLower_post r) ?_
 unfold strings_ToLower at h
 refine ssr <| un1 rfl <| dnil <| ssr <| un1 rfl <| un1 rfl <| dnil <| Sv.seq <| ssr <| un1 rfl <| dnil <| Sv.block ?_
 obtain ⟨kk1, h⟩ := lim_some h
 refine Sv.weak (wcn [] rfl (.cf rfl rfl (.cf rfl rfl (.cf rfl rfl (.cf rfl rfl .nil)))) .nil) (strings_ToLower_l0_ok h ?_ (fun s hs => hs))
 ·intro isASCII hasUpper1 h _ hw1
  refine Sv.weak hw1 <| Sv.seq <| ssr <| un1 rfl <| dnil ?_
  refine Sv.cond (b := isASCII) rfl (fun hc5 => ?_) (fun hc5 => ?_)
  ·replace h := ifT hc5 h
   refine Sv.seq <| ssr <| un1 rfl <| un1 (v := (B (!hasUpper1))) rfl <| dnil ?_
   refine Sv.cond (b := (!hasUpper1)) rfl (fun hc6 => ?_) (fun hc6 => ?_)
   ·replace h := ifT hc6 h
    refine ssr <| un1 rfl <| un1 rfl <| dnil <| Sv.ret ?_
    replace h := Option.some.inj h
    subst h
    exact ⟨_, .refl _, _, rfl, ⟨upd e0 0 (some (S s_)), e0, 0⟩, (S s_), weak_canon [] rfl List.nodup_nil (Nat.le_refl _) nlz (.cf rfl rfl .nil) .nil, rfl, rfl, rfl, rfl⟩
   ·replace h := ifF hc6 h
    refine Sv.skip <| ssr <| un <| a2v (v := (.c (.ref 1 2 0 0))) (h' := upd _ 1 (some (.bld 76 true 0 ([] : List UInt8).length))) (n' := 2) rfl rfl (fun h => by cases h) <| dnil <| ssr <| un1 rfl <| dnil <| ssr <| un1 rfl <| un1 (v := (I (s_.length : Int))) rfl ?_
    obtain ⟨r_, hr1, h⟩ := bnd h
    refine un <| ac_gen (bs := [1, 0]) («as» := [(.c (.ref 1 2 0 0)), (I (s_.length : Int))]) (h2 := _) (h1 := (upd e0 1 (some (.bld 76 true 0 ([] : List UInt8).length)))) (sb_Grow_ok (z := true) (l := ([] : List UInt8)) (fun _ => rfl) hr1) rfl (.cons (.c (.ref rfl (by decide))) (.cons (avAs_free rfl) .nil)) (hsub_refl _) (.cons rfl (.nil _)) (fun h => by cases h) (by decide) (by decide) (.cons (.c (.ref rfl (by decide))) (.cons (avAs_free rfl) .nil)) (.nonB (by decide) (.box (by decide) rfl (.bldN (by decide)) .nil)) ?_
    rintro _ _ _ hn ⟨z_, hz_, rfl, rfl, rfl⟩
    refine ⟨.inl rfl, (upd (upd (rem [1, 0] _) 1 (some (.bld 76 z_ 2 r_.length))) 2 (bufB z_ 5 r_)), fun hbd => (m3_cons (m3_buf rfl) (m3_cons (m3_box rfl rfl) (m3_rem (in_cons (by decide) (in_nil _)) (.cons (by decide) (.cons (by decide) .nil)) hbd))), (.tup []), 3, (by cases z_ <;> rfl), rfl, ?_⟩
    refine dnil <| Sv.seq <| ssr <| un1 rfl <| dnil <| Sv.block ?_
    obtain ⟨kk, h⟩ := lim_some h
    refine Sv.weak (wcn [1, 2] rfl (.cf rfl rfl (.cf rfl rfl (.cons rfl (.c (.ref rfl (by decide))) (.cf rfl rfl .nil)))) (.buf (by decide) rfl (.box (by decide) rfl (.bld rfl (by decide)) .nil))) (strings_ToLower_l1_ok hz_ h ?_ (fun s hs => hs))
    ·intro b_1 pos_1 zb_1 hzb_1 h _ hw2
     refine Sv.weak hw2 <| Sv.seq <| ssr <| un1 rfl <| un1 rfl <| un1 (v := (I (s_.length : Int))) rfl <| un1 (v := (B (decide (pos_1 < (s_.length : Int))))) rfl <| dnil ?_
     refine Sv.cond (b := decide (pos_1 < (s_.length : Int))) rfl (fun hc11 => ?_) (fun hc11 => ?_)
     ·replace h := ifT hc11 h
      refine srg <| un1 rfl <| un1 rfl ?_
      obtain ⟨r_4, hx4, h⟩ := bnd h
      refine un1 (v := (S r_4)) (s_slStr rfl rfl rfl hx4) ?_
      obtain ⟨r_5, hr4, h⟩ := bnd h
      refine un <| ac_gen (bs := [0, 1]) («as» := [(.c (.ref 0 2 0 0)), (S r_4)]) (h2 := _) (h1 := (upd (upd e0 0 (some (.bld 76 zb_1 1 b_1.length))) 1 (bufB zb_1 5 b_1))) (sb_WriteString_ok (z := zb_1) (l := b_1) hzb_1 hr4) rfl (.cons (.c (.ref rfl (by decide))) (.cons (avAs_free rfl) .nil)) (hsub_refl _) (.cons rfl (.cons rfl (.nil _))) (fun h => by cases h) (by decide) (by decide) (.cons (.c (.ref rfl (by decide))) (.cons (avAs_free rfl) .nil)) (.buf (by decide) rfl (.box (by decide) rfl (.bld rfl (by decide)) .nil)) ?_
      rintro _ _ _ hn ⟨z_3, hz_3, rfl, rfl, rfl⟩
      refine ⟨.inl rfl, (upd (upd (rem [0, 1] _) 0 (some (.bld 76 z_3 2 r_5.length))) 2 (bufB z_3 5 r_5)), fun hbd => (m3_cons (m3_buf rfl) (m3_cons (m3_box rfl rfl) (m3_rem (in_cons (by decide) (in_cons (by decide) (in_nil _))) (.cons (by decide) (.cons (by decide) .nil)) hbd))), (.tup [(I (r_4.length : Int)), (.c (.val .nilIface))]), 3, (by cases z_3 <;> rfl), rfl, ?_⟩
      refine dnil ?_
      exact Sv.weak (wcn [0, 2] rfl (.cons rfl (.c (.ref rfl (by decide))) .nil) (.buf (by decide) rfl (.box (by decide) rfl (.bld rfl (by decide)) .nil))) (strings_ToLower_j13_ok hz_3 h)
     ·replace h := ifF hc11 h
      refine Sv.skip ?_
      exact Sv.weak (wcn [0, 1] rfl (.cons rfl (.c (.ref rfl (by decide))) .nil) (.buf (by decide) rfl (.box (by decide) rfl (.bld rfl (by decide)) .nil))) (strings_ToLower_j13_ok hzb_1 h)
  ·replace h := ifF hc5 h
   refine Sv.skip <| ssr <| un1 rfl ?_
   cases h
def a112 : AFunc := ⟨1, [(.tmp 2)], (.seq (.region [⟨(some 2), (.mov (kI 0)), none⟩])
 (.seq (.region [(mV 3 0), (oP 4 (.bslice 1 [(.val (.int .u8 0))] 1 [(0, (.tmp 3))])), (oP 5 (.ofBytes (.tmp 4))), (oP 6 (.call 113 [(.tmp 5)])), ⟨(some 7), (.call 58 [(.const (.c (.str [48, 49, 50, 51, 52, 53, 54, 55, 56, 57, 97, 98, 99, 100, 101, 102]))), (.tmp 6)]), none⟩, (mV 2 7)])
 .ret))⟩
set_option maxRecDepth 100000 in
theorem c112 : compFunc Tryz.prog 112 = some a112 := by kernel_rfl
def r4_units_fn1_post (r : Int) : AV → Heap → Nat → Prop := fun v h' n' => v = (I r) ∧ (h' = e0) ∧ n' = 0
/-- clerestory/clerestoryref4.units$1 -/
noncomputable def r4_units_fn1 (c_ : Int) : Option Int :=
 (strings_ToLower (byts [c_])).bind fun r_ =>
 (strings_Index [48, 49, 50, 51, 52, 53, 54, 55, 56, 57, 97, 98, 99, 100, 101, 102] r_).bind fun r_1 =>
 some r_1
theorem r4_units_fn1_ok {mL : Int} {c_ : Int} {r : Int} (h : r4_units_fn1 c_ = some r) : CPure Tryz.prog (GG mL) 112 [(.c (.val (.int .u8 c_)))] (I r) := by
 refine acalls_of_sv hmix c112 (R := r4_units_fn1_post r) ?_
 unfold r4_units_fn1 at h
 refine ssr <| un1 rfl <| dnil <| ssr <| un1 rfl <| un <| a2v (v := (lstV false 0 1 [c_].length)) (h' := upd _ 0 (lstB false 1 ([c_].map (eK .u8)))) (n' := 1) rfl rfl (fun h => by cases h) <| un1 (v := (S (byts [c_]))) (s_ofBytes (xs := [c_]) rfl (slc_lst rfl (List.length_map _).symm (map_nil_of (fun h => by cases h)))) ?_
 obtain ⟨r_, hr1, h⟩ := bnd h
 refine un <| ac_pure (strings_ToLower_ok hr1) rfl rfl rfl ?_
 obtain ⟨r_1, hr2, h⟩ := bnd h
 refine un <| ac_pure (strings_Index_ok hr2) rfl rfl rfl <| un1 rfl <| dnil <| Sv.ret ?_
 replace h := Option.some.inj h
 subst h
 exact ⟨_, .refl _, _, rfl, ⟨upd e0 0 (some (I r_1)), e0, 0⟩, (I r_1), weak_canon [] rfl List.nodup_nil (Nat.le_refl _) nlz (.cf rfl rfl .nil) .nil, rfl, rfl, rfl, rfl⟩
def a91_c0 : ACode := (.cond (.tmp 60) (.seq (.region [⟨(some 2), (.mov (.const (.c (.ro true 2 [])))), none⟩, ⟨(some 3), (.mov (.const (.c (.val (.bool false))))), none⟩])
 .ret) .skip)
def a91_c2 : ACode := (.seq (.drawn (.fin [((mV 61 4), (0, 0)), ((mV 62 5), (0, 1)), ((mV 63 0), (0, 2)), ((mV 64 6), (0, 3)), (⟨(some 65), (.bin .add (.tmp 64) (kI 1)), none⟩, (0, 4)), ((oP 66 (.idxS (.tmp 63) (.tmp 65))), (0, 5)), ((mV 69 5), (0, 8)), ((mV 70 0), (0, 9)), ((mV 71 6), (0, 10)), (⟨(some 72), (.bin .add (.tmp 71) (kI 2)), none⟩, (0, 11)), ((oP 73 (.idxS (.tmp 70) (.tmp 72))), (0, 12)), ((oP 67 (.callv (.tmp 62) [(.tmp 66)])), (2, 6)), (⟨(some 68), (.bin .mul (kI 16) (.tmp 67)), none⟩, (0, 7)), ((oP 74 (.callv (.tmp 69) [(.tmp 73)])), (2, 13)), ((oP 75 (.bin .add (.tmp 68) (.tmp 74))), (0, 14)), ((oP 76 (.conv .u8 (.tmp 75))), (0, 15)), (⟨(some 77), (.build [(.val (.int .u8 0)), (.val (.bool false))] [(0, (1, (.tmp 76))), (1, (1, (.const (.c (.val (.bool true))))))]), none⟩, (0, 16)), ((oP 78 (.bslice 2 [(.val (.int .u8 0)), (.val (.bool false))] 1 [(0, (.tmp 77))])), (2, 17)), ((oP 79 (.app 2 2 (.tmp 61) (.tmp 78))), (2, 18)), ((mV 4 79), (0, 19))]))
 (.region [(mV 80 6), ⟨(some 81), (.bin .add (.tmp 80) (kI 2)), none⟩, (mV 6 81)]))
def a91_c1 : ACode := (.region [(mV 11 6), ⟨(some 12), (.bin .add (.tmp 11) (kI 1)), none⟩, (mV 6 12)])
def a91_c3 : ACode := (.seq (.seq (.region [(mV 7 6), (mV 8 0), (oP 9 (.lenS (.tmp 8))), (oP 10 (.bin .lss (.tmp 7) (.tmp 9)))])
 (.cond (.tmp 10) .skip (.exit 0)))
 (.seq (.block 1 (.seq (.seq (.region [(mV 13 0), (mV 14 6), (oP 15 (.idxS (.tmp 13) (.tmp 14))), ⟨(some 16), (.bin .neq (.tmp 15) (.const (.c (.val (.int .u8 37))))), none⟩])
 (.cond (.tmp 16) (.seq (.region [(mV 17 4), (mV 18 0), (mV 19 6), (oP 20 (.idxS (.tmp 18) (.tmp 19))), ⟨(some 21), (.build [(.val (.int .u8 0)), (.val (.bool false))] [(0, (1, (.tmp 20))), (1, (1, (.const (.c (.val (.bool false))))))]), none⟩, (oP 22 (.bslice 2 [(.val (.int .u8 0)), (.val (.bool false))] 1 [(0, (.tmp 21))])), (oP 23 (.app 2 2 (.tmp 17) (.tmp 22))), (mV 4 23)])
 (.exit 1)) .skip))
 (.seq (.seq (.region [(mV 24 6), ⟨(some 25), (.bin .add (.tmp 24) (kI 2)), none⟩, (mV 26 0), (oP 27 (.lenS (.tmp 26))), (oP 28 (.bin .geq (.tmp 25) (.tmp 27))), (mV 29 28), ⟨(some 30), (.mov (.tmp 0)), (some (29, false))⟩, ⟨(some 31), (.mov (.tmp 6)), (some (29, false))⟩, ⟨(some 32), (.bin .add (.tmp 31) (kI 1)), (some (29, false))⟩, ⟨(some 33), (.idxS (.tmp 30) (.tmp 32)), (some (29, false))⟩, ⟨(some 34), (.bin .gtr (.tmp 33) (.const (.c (.val (.int .u8 127))))), (some (29, false))⟩, ⟨(some 35), (.pick (.tmp 29) (.const (.c (.val (.bool true)))) (.tmp 34)), none⟩, (mV 36 35), ⟨(some 37), (.mov (.tmp 0)), (some (36, false))⟩, ⟨(some 38), (.mov (.tmp 6)), (some (36, false))⟩, ⟨(some 39), (.bin .add (.tmp 38) (kI 2)), (some (36, false))⟩, ⟨(some 40), (.idxS (.tmp 37) (.tmp 39)), (some (36, false))⟩, ⟨(some 41), (.bin .gtr (.tmp 40) (.const (.c (.val (.int .u8 127))))), (some (36, false))⟩, ⟨(some 42), (.pick (.tmp 36) (.const (.c (.val (.bool true)))) (.tmp 41)), none⟩, (mV 43 42), ⟨(some 44), (.mov (.tmp 5)), (some (43, false))⟩, ⟨(some 45), (.mov (.tmp 0)), (some (43, false))⟩, ⟨(some 46), (.mov (.tmp 6)), (some (43, false))⟩, ⟨(some 47), (.bin .add (.tmp 46) (kI 1)), (some (43, false))⟩, ⟨(some 48), (.idxS (.tmp 45) (.tmp 47)), (some (43, false))⟩, ⟨(some 49), (.callv (.tmp 44) [(.tmp 48)]), (some (43, false))⟩, ⟨(some 50), (.bin .lss (.tmp 49) (kI 0)), (some (43, false))⟩, ⟨(some 51), (.pick (.tmp 43) (.const (.c (.val (.bool true)))) (.tmp 50)), none⟩, (mV 52 51), ⟨(some 53), (.mov (.tmp 5)), (some (52, false))⟩, ⟨(some 54), (.mov (.tmp 0)), (some (52, false))⟩, ⟨(some 55), (.mov (.tmp 6)), (some (52, false))⟩, ⟨(some 56), (.bin .add (.tmp 55) (kI 2)), (some (52, false))⟩, ⟨(some 57), (.idxS (.tmp 54) (.tmp 56)), (some (52, false))⟩, ⟨(some 58), (.callv (.tmp 53) [(.tmp 57)]), (some (52, false))⟩, ⟨(some 59), (.bin .lss (.tmp 58) (kI 0)), (some (52, false))⟩, ⟨(some 60), (.pick (.tmp 52) (.const (.c (.val (.bool true)))) (.tmp 59)), none⟩])
 a91_c0)
 a91_c2)))
 a91_c1))
def a91 : AFunc := ⟨1, [(.tmp 2), (.tmp 3)], (.seq (.region [⟨(some 2), (.mov (.const (.c (.ro true 2 [])))), none⟩, ⟨(some 3), (.mov (.const (.c (.val (.bool false))))), none⟩])
 (.seq (.region [⟨(some 4), (.mov (.const (.c (.ro true 2 [])))), none⟩])
 (.seq (.region [⟨(some 5), (.mov (.const (.c (.fn (.func 112) [] [])))), none⟩])
 (.seq (.seq (.region [⟨(some 6), (.mov (kI 0)), none⟩])
 (.block 0 (.loop a91_c3)))
 (.seq (.region [(mV 82 4), (mV 2 82), ⟨(some 3), (.mov (.const (.c (.val (.bool true))))), none⟩])
 .ret)))))⟩
set_option maxRecDepth 100000 in
theorem c91 : compFunc Tryz.prog 91 = some a91 := by kernel_rfl
def r4_units_post (r : ((List Tunit) × Bool)) : AV → Heap → Nat → Prop := fun v h' n' => ∃ z0 : Bool, (z0 = true → r.1 = []) ∧ v = (.tup [(lstV z0 0 2 r.1.length), (B r.2)]) ∧ (h' = (upd e0 0 (lstB z0 2 (r.1.map e_Tunit)))) ∧ n' = 1
noncomputable def r4_units_j11 (s_ : Tx) (self : (List Tunit) → Int → Option ((List Tunit) × Bool)) (K0_ : (List Tunit) → Option ((List Tunit) × Bool)) (out2 : (List Tunit)) (k_1 : Int) : Option ((List Tunit) × Bool) :=
 self out2 (wi (k_1 + 1))
theorem r4_units_j11_ok {mL : Int} {Q : AExit → St → Prop} {s_ : Tx} {self : (List Tunit) → Int → Option ((List Tunit) × Bool)} {K0_ : (List Tunit) → Option ((List Tunit) × Bool)} {out2 : (List Tunit)} {k_1 : Int} {zout2 : Bool} (hzout2 : zout2 = true → out2 = []) {o : ((List Tunit) × Bool)} (h : r4_units_j11 s_ self K0_ out2 k_1 = some o)
  (hself : ∀ (out : (List Tunit)) (k_ : Int) (zout : Bool) (_ : zout = true → out = []), self out k_ = some o → ∀ s, Weak 0 s ⟨(upd (upd (upd (upd e0 0 (some (S s_))) 4 (some (lstV zout 0 2 out.length))) 5 (some (.c (.fn (.func 112) [] [])))) 6 (some (I k_))), (upd e0 0 (lstB zout 2 (out.map e_Tunit))), 1⟩ → (Q) .normal s)
  (hK0 : ∀ (out1 : (List Tunit)) (zout1 : Bool) (_ : zout1 = true → out1 = []), K0_ out1 = some o → ∀ s, Weak 0 s ⟨(upd e0 4 (some (lstV zout1 0 2 out1.length))), (upd e0 0 (lstB zout1 2 (out1.map e_Tunit))), 1⟩ → Q (.exit 0) s)
  (hr : ∀ s, Ends a91.results 0 (r4_units_post o) .ret s → Q .ret s) :
  Sv Tryz.prog (GG mL) 0 a91_c1 Q ⟨(upd (upd (upd (upd e0 0 (some (S s_))) 4 (some (lstV zout2 0 2 out2.length))) 5 (some (.c (.fn (.func 112) [] [])))) 6 (some (I k_1))), (upd e0 0 (lstB zout2 2 (out2.map e_Tunit))), 1⟩ := by
 unfold r4_units_j11 at h
 refine srg <| un1 rfl <| un1 (v := (I (wi (k_1 + 1)))) rfl <| un1 rfl <| dnil ?_
 exact hself out2 (wi (k_1 + 1)) zout2 hzout2 h _ (wcn [0] rfl (.cf rfl rfl (.cf rfl rfl (.cons rfl (.c (lstC_ren rfl (by decide))) (.cf rfl rfl .nil)))) (.row (by decide) rfl (fr_map fun _ => rfl) .nil))
abbrev r4_units_q0 (mL : Int) (Q : AExit → St → Prop) : AExit → St → Prop := AThen (Sv Tryz.prog (GG mL) 0 a91_c1 Q) Q
abbrev r4_units_q1 (mL : Int) (Q : AExit → St → Prop) : AExit → St → Prop := ABlock 1 (r4_units_q0 mL Q)
abbrev r4_units_q2 (mL : Int) (Q : AExit → St → Prop) : AExit → St → Prop := AThen (Sv Tryz.prog (GG mL) 0 a91_c2 (r4_units_q1 mL Q)) (r4_units_q1 mL Q)
noncomputable def r4_units_j12 (s_ : Tx) (k_ : Int) (self : (List Tunit) → Int → Option ((List Tunit) × Bool)) (K0_ : (List Tunit) → Option ((List Tunit) × Bool)) (out3 : (List Tunit)) (v60 : Bool) : Option ((List Tunit) × Bool) :=
 if v60 then
  some (([] : List Tunit), false)
 else
  (at? s_ (wi (k_ + 1))).bind fun c_2 =>
  (at? s_ (wi (k_ + 2))).bind fun c_3 =>
  (r4_units_fn1 (c_2.toNat : Int)).bind fun r_1 =>
  (r4_units_fn1 (c_3.toNat : Int)).bind fun r_2 =>
  (app? 2 out3 [(⟨(wr .u8 (wi ((wi (16 * r_1)) + r_2))), true⟩ : Tunit)]).bind fun r_3 =>
  r4_units_j11 s_ self K0_ r_3 (wi (k_ + 2))
theorem r4_units_j12_ok {mL : Int} {Q : AExit → St → Prop} {s_ : Tx} {k_ : Int} {self : (List Tunit) → Int → Option ((List Tunit) × Bool)} {K0_ : (List Tunit) → Option ((List Tunit) × Bool)} {out3 : (List Tunit)} {v60 : Bool} {zout3 : Bool} (hzout3 : zout3 = true → out3 = []) {o : ((List Tunit) × Bool)} (h : r4_units_j12 s_ k_ self K0_ out3 v60 = some o)
  (hself : ∀ (out : (List Tunit)) (k_ : Int) (zout : Bool) (_ : zout = true → out = []), self out k_ = some o → ∀ s, Weak 0 s ⟨(upd (upd (upd (upd e0 0 (some (S s_))) 4 (some (lstV zout 0 2 out.length))) 5 (some (.c (.fn (.func 112) [] [])))) 6 (some (I k_))), (upd e0 0 (lstB zout 2 (out.map e_Tunit))), 1⟩ → (Q) .normal s)
  (hK0 : ∀ (out1 : (List Tunit)) (zout1 : Bool) (_ : zout1 = true → out1 = []), K0_ out1 = some o → ∀ s, Weak 0 s ⟨(upd e0 4 (some (lstV zout1 0 2 out1.length))), (upd e0 0 (lstB zout1 2 (out1.map e_Tunit))), 1⟩ → Q (.exit 0) s)
  (hr : ∀ s, Ends a91.results 0 (r4_units_post o) .ret s → Q .ret s) :
  Sv Tryz.prog (GG mL) 0 a91_c0 (r4_units_q2 mL Q) ⟨(upd (upd (upd (upd (upd e0 0 (some (S s_))) 4 (some (lstV zout3 0 2 out3.length))) 5 (some (.c (.fn (.func 112) [] [])))) 6 (some (I k_))) 60 (some (B v60))), (upd e0 0 (lstB zout3 2 (out3.map e_Tunit))), 1⟩ := by
 unfold r4_units_j12 at h
 refine Sv.cond (b := v60) rfl (fun hc3 => ?_) (fun hc3 => ?_)
 ·replace h := ifT hc3 h
  refine ssr <| un1 rfl <| un1 rfl <| dnil <| Sv.ret ?_
  replace h := Option.some.inj h
  subst h
  exact hr _ ⟨_, .refl _, _, rfl, ⟨upd e0 0 (some (.tup [(lstV true 0 2 ([] : List Tunit).length), (B false)])), (upd e0 0 (lstB true 2 (([] : List Tunit).map e_Tunit))), 1⟩, (.tup [(lstV true 0 2 ([] : List Tunit).length), (B false)]), weak_canon2 [1000] [0] (by decide) (by decide) nlz (.cons (by decide) .nil) (.cons rfl (avAs_tup (.cons (.c (.same rfl)) (.cons (avAs_free rfl) .nil))) .nil) (.non (by decide) .nil), rfl, true, (fun _ => rfl), rfl, rfl, rfl⟩
 ·replace h := ifF hc3 h
  refine Sv.skip <| Sv.seq <| Sv.drawn <| un1 rfl <| un1 rfl <| un1 rfl <| un1 rfl <| un1 (v := (I (wi (k_ + 1)))) rfl ?_
  obtain ⟨c_2, hx3, h⟩ := bnd h
  refine un1 (v := (.c (.val (.int .u8 (c_2.toNat : Int))))) (s_idxS rfl rfl hx3) <| un1 rfl <| un1 rfl <| un1 rfl <| un1 (v := (I (wi (k_ + 2)))) rfl ?_
  obtain ⟨c_3, hx4, h⟩ := bnd h
  refine un1 (v := (.c (.val (.int .u8 (c_3.toNat : Int))))) (s_idxS rfl rfl hx4) ?_
  obtain ⟨r_1, hr2, h⟩ := bnd h
  refine un <| acv_gen (bs := []) («as» := [(.c (.val (.int .u8 (c_2.toNat : Int))))]) (h2 := _) (h1 := e0) rfl (by kernel_rfl) (r4_units_fn1_ok hr2) rfl (.cons (avAs_free rfl) .nil) (hsub_refl _) (.nil _) (fun _ => rfl) (by decide) (by decide) (.cons (avAs_free rfl) .nil) .nil ?_
  rintro _ _ _ hn ⟨rfl, rfl, rfl⟩
  refine ⟨.inl rfl, (rem [] _), fun hbd => (m3_rem (in_nil _) (.nil) hbd), (I r_1), 1, rfl, rfl, ?_⟩
  refine un1 (v := (I (wi (16 * r_1)))) rfl ?_
  obtain ⟨r_2, hr3, h⟩ := bnd h
  refine un <| acv_gen (bs := []) («as» := [(.c (.val (.int .u8 (c_3.toNat : Int))))]) (h2 := _) (h1 := e0) rfl (by kernel_rfl) (r4_units_fn1_ok hr3) rfl (.cons (avAs_free rfl) .nil) (hsub_refl _) (.nil _) (fun _ => rfl) (by decide) (by decide) (.cons (avAs_free rfl) .nil) .nil ?_
  rintro _ _ _ hn ⟨rfl, rfl, rfl⟩
  refine ⟨.inl rfl, (rem [] _), fun hbd => (m3_rem (in_nil _) (.nil) hbd), (I r_2), 1, rfl, rfl, ?_⟩
  refine un1 (v := (I (wi ((wi (16 * r_1)) + r_2)))) rfl <| un1 (v := (.c (.val (.int .u8 (wr .u8 (wi ((wi (16 * r_1)) + r_2))))))) rfl <| un1 (v := (.agg [.val (.int .u8 (wr .u8 (wi ((wi (16 * r_1)) + r_2)))), cB true])) rfl <| un <| a2v (v := (lstV false 1 2 [(⟨(wr .u8 (wi ((wi (16 * r_1)) + r_2))), true⟩ : Tunit)].length)) (h' := upd _ 1 (lstB false 2 ([(⟨(wr .u8 (wi ((wi (16 * r_1)) + r_2))), true⟩ : Tunit)].map e_Tunit))) (n' := 2) rfl rfl (fun h => by cases h) ?_
  obtain ⟨r_3, hr4, h⟩ := bnd h
  have hz2 : (zout3 && [(⟨(wr .u8 (wi ((wi (16 * r_1)) + r_2))), true⟩ : Tunit)].isEmpty) = true → r_3 = [] := app_nil (z := zout3) (ys := [(⟨(wr .u8 (wi ((wi (16 * r_1)) + r_2))), true⟩ : Tunit)]) hzout3 hr4
  refine un <| a2v rfl (s_app (xs := out3) (ys := [(⟨(wr .u8 (wi ((wi (16 * r_1)) + r_2))), true⟩ : Tunit)]) (e := e_Tunit) (z := zout3) (b := 0) rfl rfl hzout3 rfl rfl (slc_lst rfl (List.length_map _).symm (map_nil_of (fun h => by cases h))) hr4) (fun h => by cases h) <| un1 rfl <| dnil <| srg <| un1 rfl <| un1 (v := (I (wi (k_ + 2)))) rfl <| un1 rfl <| dnil ?_
  exact Sv.weak (wcn [2] rfl (.cf rfl rfl (.cf rfl rfl (.cons rfl (.c (lstC_ren rfl (by decide))) (.cf rfl rfl .nil)))) (.row (by decide) rfl (fr_map fun _ => rfl) .nil)) (r4_units_j11_ok hz2 h hself hK0 hr)
noncomputable def r4_units_l0 (s_ : Tx) (K0_ : (List Tunit) → Option ((List Tunit) × Bool)) : Nat → (List Tunit) → Int → Option ((List Tunit) × Bool)
 | 0, _, _ => none
 | k + 1, out, k_ =>
  if decide (k_ < (s_.length : Int)) then
   (at? s_ k_).bind fun c_ =>
   if (!decide ((c_.toNat : Int) = 37)) then
    (at? s_ k_).bind fun c_1 =>
    (app? 2 out [(⟨(c_1.toNat : Int), false⟩ : Tunit)]).bind fun r_ =>
    r4_units_j11 s_ (r4_units_l0 s_ K0_ k) K0_ r_ k_
   else
    if decide ((s_.length : Int) ≤ (wi (k_ + 2))) then
     r4_units_j12 s_ k_ (r4_units_l0 s_ K0_ k) K0_ out true
    else
     (at? s_ (wi (k_ + 1))).bind fun c_4 =>
     if decide (127 < (c_4.toNat : Int)) then
      r4_units_j12 s_ k_ (r4_units_l0 s_ K0_ k) K0_ out true
     else
      (at? s_ (wi (k_ + 2))).bind fun c_5 =>
      if decide (127 < (c_5.toNat : Int)) then
       r4_units_j12 s_ k_ (r4_units_l0 s_ K0_ k) K0_ out true
      else
       (at? s_ (wi (k_ + 1))).bind fun c_6 =>
       (r4_units_fn1 (c_6.toNat : Int)).bind fun r_4 =>
       if decide (r_4 < 0) then
        r4_units_j12 s_ k_ (r4_units_l0 s_ K0_ k) K0_ out true
       else
        (at? s_ (wi (k_ + 2))).bind fun c_7 =>
        (r4_units_fn1 (c_7.toNat : Int)).bind fun r_5 =>
        r4_units_j12 s_ k_ (r4_units_l0 s_ K0_ k) K0_ out (decide (r_5 < 0))
  else
   K0_ out
theorem r4_units_l0_ok {mL : Int} {Q : AExit → St → Prop} {s_ : Tx} {K0_ : (List Tunit) → Option ((List Tunit) × Bool)} {k : Nat} {out : (List Tunit)} {k_ : Int} {zout : Bool} (hzout : zout = true → out = []) {o : ((List Tunit) × Bool)} (h : r4_units_l0 s_ K0_ k out k_ = some o)
  (hK0 : ∀ (out1 : (List Tunit)) (zout1 : Bool) (_ : zout1 = true → out1 = []), K0_ out1 = some o → ∀ s, Weak 0 s ⟨(upd e0 4 (some (lstV zout1 0 2 out1.length))), (upd e0 0 (lstB zout1 2 (out1.map e_Tunit))), 1⟩ → Q (.exit 0) s)
  (hr : ∀ s, Ends a91.results 0 (r4_units_post o) .ret s → Q .ret s) :
  Sv Tryz.prog (GG mL) 0 (.loop a91_c3) Q ⟨(upd (upd (upd (upd e0 0 (some (S s_))) 4 (some (lstV zout 0 2 out.length))) 5 (some (.c (.fn (.func 112) [] [])))) 6 (some (I k_))), (upd e0 0 (lstB zout 2 (out.map e_Tunit))), 1⟩ := by
 refine Sv.loop (I := fun k s => ∃ (out : (List Tunit)), ∃ (k_ : Int), ∃ (zout : Bool), (zout = true → out = []) ∧ r4_units_l0 s_ K0_ k out k_ = some o ∧ s = ⟨(upd (upd (upd (upd e0 0 (some (S s_))) 4 (some (lstV zout 0 2 out.length))) 5 (some (.c (.fn (.func 112) [] [])))) 6 (some (I k_))), (upd e0 0 (lstB zout 2 (out.map e_Tunit))), 1⟩) (fun k s hI => ?_) ⟨out, k_, zout, hzout, h, rfl⟩
 clear h
 clear hzout zout k_ out
 obtain ⟨out, k_, zout, hzout, h, rfl⟩ := hI
 cases k with
 | zero => cases h
 | succ k =>
 rw [r4_units_l0] at h
 have hself : ∀ (out : (List Tunit)) (k_ : Int) (zout : Bool) (_ : zout = true → out = []), (r4_units_l0 s_ K0_ k) out k_ = some o → ∀ s, Weak 0 s ⟨(upd (upd (upd (upd e0 0 (some (S s_))) 4 (some (lstV zout 0 2 out.length))) 5 (some (.c (.fn (.func 112) [] [])))) 6 (some (I k_))), (upd e0 0 (lstB zout 2 (out.map e_Tunit))), 1⟩ → (AThen (fun s' => ∃ s'' k', Weak 0 s' s'' ∧ k' < k + 1 ∧ (fun k s => ∃ (out : (List Tunit)), ∃ (k_ : Int), ∃ (zout : Bool), (zout = true → out = []) ∧ r4_units_l0 s_ K0_ k out k_ = some o ∧ s = ⟨(upd (upd (upd (upd e0 0 (some (S s_))) 4 (some (lstV zout 0 2 out.length))) 5 (some (.c (.fn (.func 112) [] [])))) 6 (some (I k_))), (upd e0 0 (lstB zout 2 (out.map e_Tunit))), 1⟩) k' s'') Q) .normal s := fun out k_ zout hzout h s hw => ⟨_, k, hw, Nat.lt_succ_self k, out, k_, zout, hzout, h, rfl⟩
 refine Sv.seq <| ssr <| un1 rfl <| un1 rfl <| un1 (v := (I (s_.length : Int))) rfl <| un1 (v := (B (decide (k_ < (s_.length : Int))))) rfl <| dnil ?_
 refine Sv.cond (b := decide (k_ < (s_.length : Int))) rfl (fun hc1 => ?_) (fun hc1 => ?_)
 ·replace h := ifT hc1 h
  refine Sv.skip <| Sv.seq <| Sv.block <| Sv.seq <| ssr <| un1 rfl <| un1 rfl ?_
  obtain ⟨c_, hx1, h⟩ := bnd h
  refine un1 (v := (.c (.val (.int .u8 (c_.toNat : Int))))) (s_idxS rfl rfl hx1) <| un1 (v := (B (!decide ((c_.toNat : Int) = 37)))) rfl <| dnil ?_
  refine Sv.cond (b := (!decide ((c_.toNat : Int) = 37))) rfl (fun hc2 => ?_) (fun hc2 => ?_)
  ·replace h := ifT hc2 h
   refine ssr <| un1 rfl <| un1 rfl <| un1 rfl ?_
   obtain ⟨c_1, hx2, h⟩ := bnd h
   refine un1 (v := (.c (.val (.int .u8 (c_1.toNat : Int))))) (s_idxS rfl rfl hx2) <| un1 (v := (.agg [.val (.int .u8 (c_1.toNat : Int)), cB false])) rfl <| un <| a2v (v := (lstV false 1 2 [(⟨(c_1.toNat : Int), false⟩ : Tunit)].length)) (h' := upd _ 1 (lstB false 2 ([(⟨(c_1.toNat : Int), false⟩ : Tunit)].map e_Tunit))) (n' := 2) rfl rfl (fun h => by cases h) ?_
   obtain ⟨r_, hr1, h⟩ := bnd h
   have hz1 : (zout && [(⟨(c_1.toNat : Int), false⟩ : Tunit)].isEmpty) = true → r_ = [] := app_nil (z := zout) (ys := [(⟨(c_1.toNat : Int), false⟩ : Tunit)]) hzout hr1
   refine un <| a2v rfl (s_app (xs := out) (ys := [(⟨(c_1.toNat : Int), false⟩ : Tunit)]) (e := e_Tunit) (z := zout) (b := 0) rfl rfl hzout rfl rfl (slc_lst rfl (List.length_map _).symm (map_nil_of (fun h => by cases h))) hr1) (fun h => by cases h) <| un1 rfl <| dnil <| Sv.exit ?_
   exact Sv.weak (wcn [2] rfl (.cf rfl rfl (.cf rfl rfl (.cons rfl (.c (lstC_ren rfl (by decide))) (.cf rfl rfl .nil)))) (.row (by decide) rfl (fr_map fun _ => rfl) .nil)) (r4_units_j11_ok hz1 h hself hK0 hr)
  ·replace h := ifF hc2 h
   refine Sv.skip <| Sv.seq <| ssr <| un1 rfl <| un1 (v := (I (wi (k_ + 2)))) rfl <| un1 rfl <| un1 (v := (I (s_.length : Int))) rfl <| un1 (v := (B (decide ((s_.length : Int) ≤ (wi (k_ + 2)))))) rfl <| un1 rfl ?_
   refine split2 (fun hc4 => ?_) (fun hc4 => ?_)
   ·replace h := ifT hc4 h
    refine gs rfl rfl <| gs rfl rfl <| gs rfl rfl <| gs rfl rfl <| gs rfl rfl <| un1 (v := (B true)) rfl <| un1 rfl <| gs rfl rfl <| gs rfl rfl <| gs rfl rfl <| gs rfl rfl <| gs rfl rfl <| un1 (v := (B true)) rfl <| un1 rfl <| gs rfl rfl <| gs rfl rfl <| gs rfl rfl <| gs rfl rfl <| gs rfl rfl <| gs rfl rfl <| gs rfl rfl <| un1 (v := (B true)) rfl <| un1 rfl <| gs rfl rfl <| gs rfl rfl <| gs rfl rfl <| gs rfl rfl <| gs rfl rfl <| gs rfl rfl <| gs rfl rfl <| un1 (v := (B true)) rfl <| dnil ?_
    exact Sv.weak (wcn [0] rfl (.cf rfl rfl (.cf rfl rfl (.cf rfl rfl (.cons rfl (.c (lstC_ren rfl (by decide))) (.cf rfl rfl .nil))))) (.row (by decide) rfl (fr_map fun _ => rfl) .nil)) (r4_units_j12_ok hzout h hself hK0 hr)
   ·replace h := ifF hc4 h
    refine gt rfl <| a1 rfl <| gt rfl <| a1 rfl <| gt rfl <| a1 (v := (I (wi (k_ + 1)))) rfl ?_
    obtain ⟨c_4, hx5, h⟩ := bnd h
    refine gt rfl <| a1 (v := (.c (.val (.int .u8 (c_4.toNat : Int))))) (s_idxS rfl rfl hx5) <| gt rfl <| a1 (v := (B (decide (127 < (c_4.toNat : Int))))) rfl <| un1 (v := (B (decide (127 < (c_4.toNat : Int))))) rfl <| un1 rfl ?_
    refine split2 (fun hc5 => ?_) (fun hc5 => ?_)
    ·replace h := ifT hc5 h
     refine gs rfl rfl <| gs rfl rfl <| gs rfl rfl <| gs rfl rfl <| gs rfl rfl <| un1 (v := (B true)) rfl <| un1 rfl <| gs rfl rfl <| gs rfl rfl <| gs rfl rfl <| gs rfl rfl <| gs rfl rfl <| gs rfl rfl <| gs rfl rfl <| un1 (v := (B true)) rfl <| un1 rfl <| gs rfl rfl <| gs rfl rfl <| gs rfl rfl <| gs rfl rfl <| gs rfl rfl <| gs rfl rfl <| gs rfl rfl <| un1 (v := (B true)) rfl <| dnil ?_
     exact Sv.weak (wcn [0] rfl (.cf rfl rfl (.cf rfl rfl (.cf rfl rfl (.cons rfl (.c (lstC_ren rfl (by decide))) (.cf rfl rfl .nil))))) (.row (by decide) rfl (fr_map fun _ => rfl) .nil)) (r4_units_j12_ok hzout h hself hK0 hr)
    ·replace h := ifF hc5 h
     refine gt rfl <| a1 rfl <| gt rfl <| a1 rfl <| gt rfl <| a1 (v := (I (wi (k_ + 2)))) rfl ?_
     obtain ⟨c_5, hx6, h⟩ := bnd h
     refine gt rfl <| a1 (v := (.c (.val (.int .u8 (c_5.toNat : Int))))) (s_idxS rfl rfl hx6) <| gt rfl <| a1 (v := (B (decide (127 < (c_5.toNat : Int))))) rfl <| un1 (v := (B (decide (127 < (c_5.toNat : Int))))) rfl <| un1 rfl ?_
     refine split2 (fun hc6 => ?_) (fun hc6 => ?_)
     ·replace h := ifT hc6 h
      refine gs rfl rfl <| gs rfl rfl <| gs rfl rfl <| gs rfl rfl <| gs rfl rfl <| gs rfl rfl <| gs rfl rfl <| un1 (v := (B true)) rfl <| un1 rfl <| gs rfl rfl <| gs rfl rfl <| gs rfl rfl <| gs rfl rfl <| gs rfl rfl <| gs rfl rfl <| gs rfl rfl <| un1 (v := (B true)) rfl <| dnil ?_
      exact Sv.weak (wcn [0] rfl (.cf rfl rfl (.cf rfl rfl (.cf rfl rfl (.cons rfl (.c (lstC_ren rfl (by decide))) (.cf rfl rfl .nil))))) (.row (by decide) rfl (fr_map fun _ => rfl) .nil)) (r4_units_j12_ok hzout h hself hK0 hr)
     ·replace h := ifF hc6 h
      refine gt rfl <| a1 rfl <| gt rfl <| a1 rfl <| gt rfl <| a1 rfl <| gt rfl <| a1 (v := (I (wi (k_ + 1)))) rfl ?_
      obtain ⟨c_6, hx7, h⟩ := bnd h
      refine gt rfl <| a1 (v := (.c (.val (.int .u8 (c_6.toNat : Int))))) (s_idxS rfl rfl hx7) ?_
      obtain ⟨r_4, hr5, h⟩ := bnd h
      refine gt rfl <| acv_gen (bs := []) («as» := [(.c (.val (.int .u8 (c_6.toNat : Int))))]) (h2 := _) (h1 := e0) rfl (by kernel_rfl) (r4_units_fn1_ok hr5) rfl (.cons (avAs_free rfl) .nil) (hsub_refl _) (.nil _) (fun _ => rfl) (by decide) (by decide) (.cons (avAs_free rfl) .nil) .nil ?_
      rintro _ _ _ hn ⟨rfl, rfl, rfl⟩
      refine ⟨.inl rfl, (rem [] _), fun hbd => (m3_rem (in_nil _) (.nil) hbd), (I r_4), 1, rfl, rfl, ?_⟩
      refine gt rfl <| a1 (v := (B (decide (r_4 < 0)))) rfl <| un1 (v := (B (decide (r_4 < 0)))) rfl <| un1 rfl ?_
      refine split2 (fun hc7 => ?_) (fun hc7 => ?_)
      ·replace h := ifT hc7 h
       refine gs rfl rfl <| gs rfl rfl <| gs rfl rfl <| gs rfl rfl <| gs rfl rfl <| gs rfl rfl <| gs rfl rfl <| un1 (v := (B true)) rfl <| dnil ?_
       exact Sv.weak (wcn [0] rfl (.cf rfl rfl (.cf rfl rfl (.cf rfl rfl (.cons rfl (.c (lstC_ren rfl (by decide))) (.cf rfl rfl .nil))))) (.row (by decide) rfl (fr_map fun _ => rfl) .nil)) (r4_units_j12_ok hzout h hself hK0 hr)
      ·replace h := ifF hc7 h
       refine gt rfl <| a1 rfl <| gt rfl <| a1 rfl <| gt rfl <| a1 rfl <| gt rfl <| a1 (v := (I (wi (k_ + 2)))) rfl ?_
       obtain ⟨c_7, hx8, h⟩ := bnd h
       refine gt rfl <| a1 (v := (.c (.val (.int .u8 (c_7.toNat : Int))))) (s_idxS rfl rfl hx8) ?_
       obtain ⟨r_5, hr6, h⟩ := bnd h
       refine gt rfl <| acv_gen (bs := []) («as» := [(.c (.val (.int .u8 (c_7.toNat : Int))))]) (h2 := _) (h1 := e0) rfl (by kernel_rfl) (r4_units_fn1_ok hr6) rfl (.cons (avAs_free rfl) .nil) (hsub_refl _) (.nil _) (fun _ => rfl) (by decide) (by decide) (.cons (avAs_free rfl) .nil) .nil ?_
       rintro _ _ _ hn ⟨rfl, rfl, rfl⟩
       refine ⟨.inl rfl, (rem [] _), fun hbd => (m3_rem (in_nil _) (.nil) hbd), (I r_5), 1, rfl, rfl, ?_⟩
       refine gt rfl <| a1 (v := (B (decide (r_5 < 0)))) rfl <| un1 (v := (B (decide (r_5 < 0)))) rfl <| dnil ?_
       exact Sv.weak (wcn [0] rfl (.cf rfl rfl (.cf rfl rfl (.cf rfl rfl (.cons rfl (.c (lstC_ren rfl (by decide))) (.cf rfl rfl .nil))))) (.row (by decide) rfl (fr_map fun _ => rfl) .nil)) (r4_units_j12_ok hzout h hself hK0 hr)
 ·replace h := ifF hc1 h
  refine Sv.exit ?_
  exact hK0 out zout hzout h _ (wcn [0] rfl (.cons rfl (.c (lstC_ren rfl (by decide))) .nil) (.row (by decide) rfl (fr_map fun _ => rfl) .nil))
/-- clerestory/clerestoryref4.units -/
noncomputable def r4_units (s_ : Tx) : Option ((List Tunit) × Bool) :=
 lim fun kk => r4_units_l0 s_ (fun (out1 : (List Tunit)) => 
   some (out1, true)) kk ([] : List Tunit) 0
theorem r4_units_ok {mL : Int} {s_ : Tx} {r : ((List Tunit) × Bool)} (h : r4_units s_ = some r) : ACalls Tryz.prog (GG mL) 91 [(S s_)] e0 0 (r4_units_post r) := by
 refine acalls_of_sv hmix c91 (R := r4_units_post r) ?_
 unfold r4_units at h
 refine ssr <| un1 rfl <| un1 rfl <| dnil <| ssr <| un1 rfl <| dnil <| ssr <| un1 rfl <| dnil <| Sv.seq <| ssr <| un1 rfl <| dnil <| Sv.block ?_
 obtain ⟨kk, h⟩ := lim_some h
 refine Sv.weak (wcn [1000] rfl (.cf rfl rfl (.cf rfl rfl (.cons rfl (.c (.same rfl)) (.cf rfl rfl .nil)))) (.non (by decide) .nil)) (r4_units_l0_ok (fun _ => rfl) h ?_ (fun s hs => hs))
 ·intro out1 zout1 hzout1 h _ hw1
  refine Sv.weak hw1 <| ssr <| un1 rfl <| un1 rfl <| un1 rfl <| dnil <| Sv.ret ?_
  replace h := Option.some.inj h
  subst h
  exact ⟨_, .refl _, _, rfl, ⟨upd e0 0 (some (.tup [(lstV zout1 0 2 out1.length), (B true)])), (upd e0 0 (lstB zout1 2 (out1.map e_Tunit))), 1⟩, (.tup [(lstV zout1 0 2 out1.length), (B true)]), weak_canon2 [0] [0] (by decide) (by decide) nlz (.cons (by decide) .nil) (.cons rfl (avAs_tup (.cons (.c (lstC_ren rfl (by decide))) (.cons (avAs_free rfl) .nil))) .nil) (.row (by decide) rfl (fr_map fun _ => rfl) .nil), rfl, zout1, hzout1, rfl, rfl, rfl⟩
def a68 : AFunc := ⟨1, [(.tmp 2)], (.seq (.region [⟨(some 2), (.mov (.const (.c (.val (.bool false))))), none⟩])
 (.seq (.region [(mV 3 0), (oP 4 (.bslice 1 [(.val (.int .u8 0))] 1 [(0, (.tmp 3))])), (oP 5 (.ofBytes (.tmp 4))), ⟨(some 6), (.call 60 [(.const (.c (.str [97, 98, 99, 100, 101, 102, 103, 104, 105, 106, 107, 108, 109, 110, 111, 112, 113, 114, 115, 116, 117, 118, 119, 120, 121, 122, 65, 66, 67, 68, 69, 70, 71, 72, 73, 74, 75, 76, 77, 78, 79, 80, 81, 82, 83, 84, 85, 86, 87, 88, 89, 90, 48, 49, 50, 51, 52, 53, 54, 55, 56, 57, 45, 46, 95, 126]))), (.tmp 5)]), none⟩, (mV 7 6), ⟨(some 8), (.mov (.tmp 0)), (some (7, true))⟩, ⟨(some 9), (.bin .lss (.tmp 8) (.const (.c (.val (.int .u8 128))))), (some (7, true))⟩, ⟨(some 10), (.pick (.tmp 7) (.tmp 9) (.const (.c (.val (.bool false))))), none⟩, (mV 2 10)])
 .ret))⟩
set_option maxRecDepth 100000 in
theorem c68 : compFunc Tryz.prog 68 = some a68 := by kernel_rfl
def r4_isPlain_post (r : Bool) : AV → Heap → Nat → Prop := fun v h' n' => v = (B r) ∧ (h' = e0) ∧ n' = 0
/-- clerestory/clerestoryref4.isPlain -/
noncomputable def r4_isPlain (c_ : Int) : Option Bool :=
 (strings_Contains [97, 98, 99, 100, 101, 102, 103, 104, 105, 106, 107, 108, 109, 110, 111, 112, 113, 114, 115, 116, 117, 118, 119, 120, 121, 122, 65, 66, 67, 68, 69, 70, 71, 72, 73, 74, 75, 76, 77, 78, 79, 80, 81, 82, 83, 84, 85, 86, 87, 88, 89, 90, 48, 49, 50, 51, 52, 53, 54, 55, 56, 57, 45, 46, 95, 126] (byts [c_])).bind fun r_ =>
 some (r_ && (decide (c_ < 128)))
theorem r4_isPlain_ok {mL : Int} {c_ : Int} {r : Bool} (h : r4_isPlain c_ = some r) : CPure Tryz.prog (GG mL) 68 [(.c (.val (.int .u8 c_)))] (B r) := by
 refine acalls_of_sv hmix c68 (R := r4_isPlain_post r) ?_
 unfold r4_isPlain at h
 refine ssr <| un1 rfl <| dnil <| ssr <| un1 rfl <| un <| a2v (v := (lstV false 0 1 [c_].length)) (h' := upd _ 0 (lstB false 1 ([c_].map (eK .u8)))) (n' := 1) rfl rfl (fun h => by cases h) <| un1 (v := (S (byts [c_]))) (s_ofBytes (xs := [c_]) rfl (slc_lst rfl (List.length_map _).symm (map_nil_of (fun h => by cases h)))) ?_
 obtain ⟨r_, hr1, h⟩ := bnd h
 refine un <| ac_pure (strings_Contains_ok hr1) rfl rfl rfl <| un1 rfl ?_
 refine gjoin 3 (d := 10) (v := (B (r_ && (decide (c_ < 128))))) (fun X hX => ?_) ?_
 ·refine split2 (fun hc1 => ?_) (fun hc1 => ?_)
  ·refine gt rfl <| a1 rfl <| gt rfl <| a1 (v := (B (decide (c_ < 128)))) rfl <| un1 (v := (B (decide (c_ < 128)))) rfl <| dnil ?_
   exact hX _ (.putEq (by rw [hc1]; rfl) (.skip _ _ (.skip _ _ (.putEq (by rw [hc1]) (.refl _)) rfl) rfl))
  ·refine gs rfl rfl <| gs rfl rfl <| un1 (v := (B false)) rfl <| dnil ?_
   exact hX _ (.putEq (by rw [hc1]; rfl) (.skip _ _ (.skip _ _ (.putEq (by rw [hc1]) (.refl _)) rfl) rfl))
 refine un1 rfl <| dnil <| Sv.ret ?_
 replace h := Option.some.inj h
 subst h
 exact ⟨_, .refl _, _, rfl, ⟨upd e0 0 (some (B (r_ && (decide (c_ < 128))))), e0, 0⟩, (B (r_ && (decide (c_ < 128)))), weak_canon [] rfl List.nodup_nil (Nat.le_refl _) nlz (.cf rfl rfl .nil) .nil, rfl, rfl, rfl, rfl⟩
def a39_c0 : ACode := (.region [⟨(some 39), (.bin .add (.tmp 10) (kI 1)), none⟩, (mV 10 39)])
def a39_c1 : ACode := (.seq (.region [(oP 11 (.bin .lss (.tmp 10) (.tmp 9)))])
 (.seq (.cond (.tmp 11) .skip (.exit 0))
 (.seq (.block 1 (.seq (.region [(oP 12 (.iaddr 1 (.tmp 8) (.tmp 10))), (oP 13 (.load false 1 (.tmp 12))), (mV 5 13)])
 (.seq (.region [(mV 14 5), (oP 15 (.call 68 [(.tmp 14)]))])
 (.cond (.tmp 15) (.region [(mV 16 3), (mV 17 5), (oP 18 (.bslice 1 [(.val (.int .u8 0))] 1 [(0, (.tmp 17))])), (oP 19 (.ofBytes (.tmp 18))), (oP 20 (.bin .add (.tmp 16) (.tmp 19))), (mV 3 20)]) (.seq (.region [⟨(some 6), (.mov (.const (.c (.str [48, 49, 50, 51, 52, 53, 54, 55, 56, 57, 65, 66, 67, 68, 69, 70])))), none⟩])
 (.drawn (.fin [((mV 21 3), (0, 0)), ((mV 22 6), (0, 1)), ((mV 23 5), (0, 2)), (⟨(some 24), (.bin .quo (.tmp 23) (.const (.c (.val (.int .u8 16))))), none⟩, (0, 3)), ((mV 25 5), (0, 4)), (⟨(some 26), (.bin .quo (.tmp 25) (.const (.c (.val (.int .u8 16))))), none⟩, (0, 5)), (⟨(some 27), (.bin .add (.tmp 26) (.const (.c (.val (.int .u8 1))))), none⟩, (0, 6)), ((oP 28 (.slStr (.tmp 22) (some (.tmp 24)) (some (.tmp 27)))), (0, 7)), (⟨(some 29), (.bin .add (.const (.c (.str [37]))) (.tmp 28)), none⟩, (0, 8)), ((mV 30 6), (0, 9)), ((mV 31 5), (0, 10)), (⟨(some 32), (.bin .rem (.tmp 31) (.const (.c (.val (.int .u8 16))))), none⟩, (0, 11)), ((mV 33 5), (0, 12)), (⟨(some 34), (.bin .rem (.tmp 33) (.const (.c (.val (.int .u8 16))))), none⟩, (0, 13)), (⟨(some 35), (.bin .add (.tmp 34) (.const (.c (.val (.int .u8 1))))), none⟩, (0, 14)), ((oP 36 (.slStr (.tmp 30) (some (.tmp 32)) (some (.tmp 35)))), (0, 15)), ((oP 37 (.bin .add (.tmp 29) (.tmp 36))), (0, 16)), ((oP 38 (.bin .add (.tmp 21) (.tmp 37))), (0, 17)), ((mV 3 38), (0, 18))])))))))
 a39_c0)))
def a39 : AFunc := ⟨1, [(.tmp 2)], (.seq (.region [⟨(some 2), (.mov (.const (.c (.str [])))), none⟩])
 (.seq (.region [⟨(some 3), (.mov (.const (.c (.str [])))), none⟩])
 (.seq (.seq (.region [(mV 7 0), (oP 8 (.toBytes (.tmp 7))), (oP 9 (.len (.tmp 8))), ⟨(some 10), (.mov (kI 0)), none⟩])
 (.block 0 (.loop a39_c1)))
 (.seq (.region [(mV 40 3), (mV 2 40)])
 .ret))))⟩
set_option maxRecDepth 100000 in
theorem c39 : compFunc Tryz.prog 39 = some a39 := by kernel_rfl
def r4_Encoded_post (r : Tx) : AV → Heap → Nat → Prop := fun v h' n' => v = (S r) ∧ (h' = e0) ∧ n' = 0
noncomputable def r4_Encoded_j3 (v10 : Int) (s_ : Tx) (self : Tx → (List Int) → Int → Option Tx) (K0_ : Tx → Option Tx) (out2 : Tx) (v81 : (List Int)) : Option Tx :=
 self out2 v81 (wi (v10 + 1))
theorem r4_Encoded_j3_ok {mL : Int} {Q : AExit → St → Prop} {v10 : Int} {s_ : Tx} {self : Tx → (List Int) → Int → Option Tx} {K0_ : Tx → Option Tx} {out2 : Tx} {v81 : (List Int)} {zv81 : Bool} (hzv81 : zv81 = true → v81 = []) {o : Tx} (h : r4_Encoded_j3 v10 s_ self K0_ out2 v81 = some o)
  (hself : ∀ (out : Tx) (v8 : (List Int)) (v10 : Int) (zv8 : Bool) (_ : zv8 = true → v8 = []), self out v8 v10 = some o → ∀ s, Weak 0 s ⟨(upd (upd (upd (upd e0 3 (some (S out))) 8 (some (lstV zv8 0 1 v8.length))) 9 (some (I ((ints s_).length : Int)))) 10 (some (I v10))), (upd e0 0 (lstB zv8 1 (v8.map (eK .u8)))), 1⟩ → (Q) .normal s)
  (hK0 : ∀ (out1 : Tx), K0_ out1 = some o → ∀ s, Weak 0 s ⟨(upd e0 3 (some (S out1))), e0, 0⟩ → Q (.exit 0) s)
  (hr : ∀ s, Ends a39.results 0 (r4_Encoded_post o) .ret s → Q .ret s) :
  Sv Tryz.prog (GG mL) 0 a39_c0 Q ⟨(upd (upd (upd (upd e0 3 (some (S out2))) 8 (some (lstV zv81 0 1 v81.length))) 9 (some (I ((ints s_).length : Int)))) 10 (some (I v10))), (upd e0 0 (lstB zv81 1 (v81.map (eK .u8)))), 1⟩ := by
 unfold r4_Encoded_j3 at h
 refine srg <| un1 (v := (I (wi (v10 + 1)))) rfl <| un1 rfl <| dnil ?_
 exact hself out2 v81 (wi (v10 + 1)) zv81 hzv81 h _ (wcn [0] rfl (.cf rfl rfl (.cf rfl rfl (.cons rfl (.c (lstC_ren rfl (by decide))) (.cf rfl rfl .nil)))) (.row (by decide) rfl (fr_map fun _ => rfl) .nil))
noncomputable def r4_Encoded_l0 (s_ : Tx) (K0_ : Tx → Option Tx) : Nat → Tx → (List Int) → Int → Option Tx
 | 0, _, _, _ => none
 | k + 1, out, v8, v10 =>
  if decide (v10 < ((ints s_).length : Int)) then
   (at? v8 v10).bind fun x_ =>
   (r4_isPlain x_).bind fun r_ =>
   if r_ then
    (cat? out (byts [x_])).bind fun r_1 =>
    r4_Encoded_j3 v10 s_ (r4_Encoded_l0 s_ K0_ k) K0_ r_1 v8
   else
    (sub? [48, 49, 50, 51, 52, 53, 54, 55, 56, 57, 65, 66, 67, 68, 69, 70] (wr .u8 (x_.tdiv 16)) (wr .u8 ((wr .u8 (x_.tdiv 16)) + 1))).bind fun r_2 =>
    (cat? [37] r_2).bind fun r_3 =>
    (sub? [48, 49, 50, 51, 52, 53, 54, 55, 56, 57, 65, 66, 67, 68, 69, 70] (x_.tmod 16) (wr .u8 ((x_.tmod 16) + 1))).bind fun r_4 =>
    (cat? r_3 r_4).bind fun r_5 =>
    (cat? out r_5).bind fun r_6 =>
    r4_Encoded_j3 v10 s_ (r4_Encoded_l0 s_ K0_ k) K0_ r_6 v8
  else
   K0_ out
theorem r4_Encoded_l0_ok {mL : Int} {Q : AExit → St → Prop} {s_ : Tx} {K0_ : Tx → Option Tx} {k : Nat} {out : Tx} {v8 : (List Int)} {v10 : Int} {zv8 : Bool} (hzv8 : zv8 = true → v8 = []) {o : Tx} (h : r4_Encoded_l0 s_ K0_ k out v8 v10 = some o)
  (hK0 : ∀ (out1 : Tx), K0_ out1 = some o → ∀ s, Weak 0 s ⟨(upd e0 3 (some (S out1))), e0, 0⟩ → Q (.exit 0) s)
  (hr : ∀ s, Ends a39.results 0 (r4_Encoded_post o) .ret s → Q .ret s) :
  Sv Tryz.prog (GG mL) 0 (.loop a39_c1) Q ⟨(upd (upd (upd (upd e0 3 (some (S out))) 8 (some (lstV zv8 0 1 v8.length))) 9 (some (I ((ints s_).length : Int)))) 10 (some (I v10))), (upd e0 0 (lstB zv8 1 (v8.map (eK .u8)))), 1⟩ := by
 refine Sv.loop (I := fun k s => ∃ (out : Tx), ∃ (v8 : (List Int)), ∃ (v10 : Int), ∃ (zv8 : Bool), (zv8 = true → v8 = []) ∧ r4_Encoded_l0 s_ K0_ k out v8 v10 = some o ∧ s = ⟨(upd (upd (upd (upd e0 3 (some (S out))) 8 (some (lstV zv8 0 1 v8.length))) 9 (some (I ((ints s_).length : Int)))) 10 (some (I v10))), (upd e0 0 (lstB zv8 1 (v8.map (eK .u8)))), 1⟩) (fun k s hI => ?_) ⟨out, v8, v10, zv8, hzv8, h, rfl⟩
 clear h
 clear hzv8 zv8 v10 v8 out
 obtain ⟨out, v8, v10, zv8, hzv8, h, rfl⟩ := hI
 cases k with
 | zero => cases h
 | succ k =>
 rw [r4_Encoded_l0] at h
 have hself : ∀ (out : Tx) (v8 : (List Int)) (v10 : Int) (zv8 : Bool) (_ : zv8 = true → v8 = []), (r4_Encoded_l0 s_ K0_ k) out v8 v10 = some o → ∀ s, Weak 0 s ⟨(upd (upd (upd (upd e0 3 (some (S out))) 8 (some (lstV zv8 0 1 v8.length))) 9 (some (I ((ints s_).length : Int)))) 10 (some (I v10))), (upd e0 0 (lstB zv8 1 (v8.map (eK .u8)))), 1⟩ → (AThen (fun s' => ∃ s'' k', Weak 0 s' s'' ∧ k' < k + 1 ∧ (fun k s => ∃ (out : Tx), ∃ (v8 : (List Int)), ∃ (v10 : Int), ∃ (zv8 : Bool), (zv8 = true → v8 = []) ∧ r4_Encoded_l0 s_ K0_ k out v8 v10 = some o ∧ s = ⟨(upd (upd (upd (upd e0 3 (some (S out))) 8 (some (lstV zv8 0 1 v8.length))) 9 (some (I ((ints s_).length : Int)))) 10 (some (I v10))), (upd e0 0 (lstB zv8 1 (v8.map (eK .u8)))), 1⟩) k' s'') Q) .normal s := fun out v8 v10 zv8 hzv8 h s hw => ⟨_, k, hw, Nat.lt_succ_self k, out, v8, v10, zv8, hzv8, h, rfl⟩
 refine ssr <| un1 (v := (B (decide (v10 < ((ints s_).length : Int))))) rfl <| dnil <| Sv.seq ?_
 refine Sv.cond (b := decide (v10 < ((ints s_).length : Int))) rfl (fun hc1 => ?_) (fun hc1 => ?_)
 ·replace h := ifT hc1 h
  refine Sv.skip <| Sv.seq <| Sv.block <| ssr ?_
  obtain ⟨x_, hx1, h⟩ := bnd h
  refine un1 (v := (.c (.ref 0 1 v10.toNat 0))) (s_iaddrL rfl rfl hzv8 hx1) <| un1 (v := (.c (.val (.int .u8 x_)))) (s_loadL (z := zv8) (e := (eK .u8)) rfl rfl hzv8 hx1 rfl rfl) <| un1 rfl <| dnil <| ssr <| un1 rfl ?_
  obtain ⟨r_, hr1, h⟩ := bnd h
  refine un <| ac_pure (r4_isPlain_ok hr1) rfl rfl rfl <| dnil ?_
  refine Sv.cond (b := r_) rfl (fun hc2 => ?_) (fun hc2 => ?_)
  ·replace h := ifT hc2 h
   refine srg <| un1 rfl <| un1 rfl <| un <| a2v (v := (lstV false 1 1 [x_].length)) (h' := upd _ 1 (lstB false 1 ([x_].map (eK .u8)))) (n' := 2) rfl rfl (fun h => by cases h) <| un1 (v := (S (byts [x_]))) (s_ofBytes (xs := [x_]) rfl (slc_lst rfl (List.length_map _).symm (map_nil_of (fun h => by cases h)))) ?_
   obtain ⟨r_1, hx2, h⟩ := bnd h
   refine un1 (v := (S r_1)) (s_cat rfl rfl hx2) <| un1 rfl <| dnil ?_
   exact Sv.weak (wcn [0] rfl (.cf rfl rfl (.cf rfl rfl (.cons rfl (.c (lstC_ren rfl (by decide))) (.cf rfl rfl .nil)))) (.row (by decide) rfl (fr_map fun _ => rfl) .nil)) (r4_Encoded_j3_ok hzv8 h hself hK0 hr)
  ·replace h := ifF hc2 h
   refine ssr <| un1 rfl <| dnil <| Sv.drawn <| un1 rfl <| un1 rfl <| un1 rfl <| un1 (v := (.c (.val (.int .u8 (wr .u8 (x_.tdiv 16)))))) rfl <| un1 rfl <| un1 (v := (.c (.val (.int .u8 (wr .u8 (x_.tdiv 16)))))) rfl <| un1 (v := (.c (.val (.int .u8 (wr .u8 ((wr .u8 (x_.tdiv 16)) + 1)))))) rfl ?_
   obtain ⟨r_2, hx3, h⟩ := bnd h
   refine un1 (v := (S r_2)) (s_slStr rfl rfl rfl hx3) ?_
   obtain ⟨r_3, hx4, h⟩ := bnd h
   refine un1 (v := (S r_3)) (s_cat rfl rfl hx4) <| un1 rfl <| un1 rfl <| un1 (v := (.c (.val (.int .u8 (x_.tmod 16))))) rfl <| un1 rfl <| un1 (v := (.c (.val (.int .u8 (x_.tmod 16))))) rfl <| un1 (v := (.c (.val (.int .u8 (wr .u8 ((x_.tmod 16) + 1)))))) rfl ?_
   obtain ⟨r_4, hx5, h⟩ := bnd h
   refine un1 (v := (S r_4)) (s_slStr rfl rfl rfl hx5) ?_
   obtain ⟨r_5, hx6, h⟩ := bnd h
   refine un1 (v := (S r_5)) (s_cat rfl rfl hx6) ?_
   obtain ⟨r_6, hx7, h⟩ := bnd h
   refine un1 (v := (S r_6)) (s_cat rfl rfl hx7) <| un1 rfl <| dnil ?_
   exact Sv.weak (wcn [0] rfl (.cf rfl rfl (.cf rfl rfl (.cons rfl (.c (lstC_ren rfl (by decide))) (.cf rfl rfl .nil)))) (.row (by decide) rfl (fr_map fun _ => rfl) .nil)) (r4_Encoded_j3_ok hzv8 h hself hK0 hr)
 ·replace h := ifF hc1 h
  refine Sv.exit ?_
  exact hK0 out h _ (wcn [] rfl (.cf rfl rfl .nil) .nil)
/-- clerestory/clerestoryref4.Encoded -/
noncomputable def r4_Encoded (s_ : Tx) : Option Tx :=
 lim fun kk => r4_Encoded_l0 s_ (fun (out1 : Tx) => 
   some out1) kk [] (ints s_) 0
theorem r4_Encoded_ok {mL : Int} {s_ : Tx} {r : Tx} (h : r4_Encoded s_ = some r) : CPure Tryz.prog (GG mL) 39 [(S s_)] (S r) := by
 refine acalls_of_sv hmix c39 (R := r4_Encoded_post r) ?_
 unfold r4_Encoded at h
 refine ssr <| un1 rfl <| dnil <| ssr <| un1 rfl <| dnil <| Sv.seq <| ssr <| un1 rfl <| un <| a2v (v := (lstV false 0 1 (ints s_).length)) (h' := upd _ 0 (lstB false 1 ((ints s_).map (eK .u8)))) (n' := 1) rfl (s_toBytes rfl) (fun h => by cases h) <| un1 (v := (I ((ints s_).length : Int))) (s_lenL rfl (len_nil_of (fun h => by cases h))) <| un1 rfl <| dnil <| Sv.block ?_
 obtain ⟨kk, h⟩ := lim_some h
 refine Sv.weak (wcn [0] rfl (.cf rfl rfl (.cf rfl rfl (.cons rfl (.c (lstC_ren rfl (by decide))) (.cf rfl rfl .nil)))) (.row (by decide) rfl (fr_map fun _ => rfl) .nil)) (r4_Encoded_l0_ok (fun h => by cases h) h ?_ (fun s hs => hs))
 ·intro out1 h _ hw1
  refine Sv.weak hw1 <| ssr <| un1 rfl <| un1 rfl <| dnil <| Sv.ret ?_
  replace h := Option.some.inj h
  subst h
  exact ⟨_, .refl _, _, rfl, ⟨upd e0 0 (some (S out1)), e0, 0⟩, (S out1), weak_canon [] rfl List.nodup_nil (Nat.le_refl _) nlz (.cf rfl rfl .nil) .nil, rfl, rfl, rfl, rfl⟩
def a61_c0 : ACode := (.cond (.tmp 42) (.region [(mV 43 6), (mV 44 9), (oP 45 (.bin .add (.tmp 43) (.tmp 44))), (mV 6 45)]) (.region [(mV 46 6), (mV 47 9), (oP 48 (.call 39 [(.tmp 47)])), (oP 49 (.bin .add (.tmp 46) (.tmp 48))), (mV 6 49)]))
def a61_c1 : ACode := (.region [⟨(some 50), (.bin .add (.tmp 17) (kI 1)), none⟩, (mV 17 50)])
def a61_c2 : ACode := (.seq (.region [(oP 18 (.bin .lss (.tmp 17) (.tmp 16)))])
 (.seq (.cond (.tmp 18) .skip (.exit 0))
 (.seq (.block 1 (.seq (.region [(oP 19 (.iaddr 2 (.tmp 15) (.tmp 17))), (oP 20 (.load true 2 (.tmp 19))), ⟨(some 8), (.box (.const (.agg [(.val (.int .u8 0)), (.val (.bool false))]))), none⟩, ⟨none, (.store 2 (.tmp 8) (.tmp 20)), none⟩])
 (.seq (.region [(oP 21 (.faddr 0 (.tmp 8))), (oP 22 (.load false 1 (.tmp 21))), (oP 23 (.bslice 1 [(.val (.int .u8 0))] 1 [(0, (.tmp 22))])), (oP 24 (.ofBytes (.tmp 23))), (mV 9 24)])
 (.seq (.region [(oP 25 (.faddr 0 (.tmp 8))), (oP 26 (.load false 1 (.tmp 25))), (oP 27 (.call 68 [(.tmp 26)])), (oP 28 (.un .not (.tmp 27))), (mV 29 28), ⟨(some 30), (.faddr 1 (.tmp 8)), (some (29, true))⟩, ⟨(some 31), (.load false 1 (.tmp 30)), (some (29, true))⟩, ⟨(some 32), (.un .not (.tmp 31)), (some (29, true))⟩, ⟨(some 33), (.pick (.tmp 29) (.tmp 32) (.const (.c (.val (.bool false))))), none⟩, (mV 34 33), ⟨(some 35), (.faddr 0 (.tmp 8)), (some (34, true))⟩, ⟨(some 36), (.load false 1 (.tmp 35)), (some (34, true))⟩, ⟨(some 37), (.bin .lss (.tmp 36) (.const (.c (.val (.int .u8 128))))), (some (34, true))⟩, ⟨(some 38), (.pick (.tmp 34) (.tmp 37) (.const (.c (.val (.bool false))))), none⟩, (mV 39 38), ⟨(some 40), (.mov (.tmp 9)), (some (39, true))⟩, ⟨(some 41), (.call 60 [(.const (.c (.str [33, 36, 38, 39, 40, 41, 42, 43, 44, 59, 61, 58, 64, 47, 63]))), (.tmp 40)]), (some (39, true))⟩, ⟨(some 42), (.pick (.tmp 39) (.tmp 41) (.const (.c (.val (.bool false))))), none⟩])
 a61_c0))))
 a61_c1)))
def a61 : AFunc := ⟨1, [(.tmp 2), (.tmp 3)], (.seq (.region [⟨(some 2), (.mov (.const (.c (.str [])))), none⟩, ⟨(some 3), (.mov (.const (.c (.val (.bool false))))), none⟩])
 (.seq (.region [(mV 11 0), (oP 12 (.call 91 [(.tmp 11)])), (mV 10 12), (oP 13 (.ext (.tmp 10) 0)), (oP 14 (.ext (.tmp 10) 1)), (mV 4 13), (mV 5 14)])
 (.seq (.region [⟨(some 6), (.mov (.const (.c (.str [])))), none⟩])
 (.seq (.seq (.region [(mV 15 4), (oP 16 (.len (.tmp 15))), ⟨(some 17), (.mov (kI 0)), none⟩])
 (.block 0 (.loop a61_c2)))
 (.seq (.region [(mV 51 6), (mV 52 5), (mV 2 51), (mV 3 52)])
 .ret)))))⟩
set_option maxRecDepth 100000 in
theorem c61 : compFunc Tryz.prog 61 = some a61 := by kernel_rfl
def r4_Cleaned_post (r : (Tx × Bool)) : AV → Heap → Nat → Prop := fun v h' n' => v = (.tup [(S r.1), (B r.2)]) ∧ (h' = e0) ∧ n' = 0
noncomputable def r4_Cleaned_j11 (v17 : Int) (r_ : ((List Tunit) × Bool)) (self : Tx → (List Tunit) → Int → Option (Tx × Bool)) (K0_ : Tx → Option (Tx × Bool)) (out2 : Tx) (v151 : (List Tunit)) : Option (Tx × Bool) :=
 self out2 v151 (wi (v17 + 1))
theorem r4_Cleaned_j11_ok {mL : Int} {Q : AExit → St → Prop} {v17 : Int} {r_ : ((List Tunit) × Bool)} {self : Tx → (List Tunit) → Int → Option (Tx × Bool)} {K0_ : Tx → Option (Tx × Bool)} {out2 : Tx} {v151 : (List Tunit)} {zv151 : Bool} (hzv151 : zv151 = true → v151 = []) {o : (Tx × Bool)} (h : r4_Cleaned_j11 v17 r_ self K0_ out2 v151 = some o)
  (hself : ∀ (out : Tx) (v15 : (List Tunit)) (v17 : Int) (zv15 : Bool) (_ : zv15 = true → v15 = []), self out v15 v17 = some o → ∀ s, Weak 0 s ⟨(upd (upd (upd (upd (upd e0 5 (some (B r_.2))) 6 (some (S out))) 15 (some (lstV zv15 0 2 v15.length))) 16 (some (I (r_.1.length : Int)))) 17 (some (I v17))), (upd e0 0 (lstB zv15 2 (v15.map e_Tunit))), 1⟩ → (Q) .normal s)
  (hK0 : ∀ (out1 : Tx), K0_ out1 = some o → ∀ s, Weak 0 s ⟨(upd (upd e0 5 (some (B r_.2))) 6 (some (S out1))), e0, 0⟩ → Q (.exit 0) s)
  (hr : ∀ s, Ends a61.results 0 (r4_Cleaned_post o) .ret s → Q .ret s) :
  Sv Tryz.prog (GG mL) 0 a61_c1 Q ⟨(upd (upd (upd (upd (upd e0 5 (some (B r_.2))) 6 (some (S out2))) 15 (some (lstV zv151 0 2 v151.length))) 16 (some (I (r_.1.length : Int)))) 17 (some (I v17))), (upd e0 0 (lstB zv151 2 (v151.map e_Tunit))), 1⟩ := by
 unfold r4_Cleaned_j11 at h
 refine srg <| un1 (v := (I (wi (v17 + 1)))) rfl <| un1 rfl <| dnil ?_
 exact hself out2 v151 (wi (v17 + 1)) zv151 hzv151 h _ (wcn [0] rfl (.cf rfl rfl (.cf rfl rfl (.cons rfl (.c (lstC_ren rfl (by decide))) (.cf rfl rfl (.cf rfl rfl .nil))))) (.row (by decide) rfl (fr_map fun _ => rfl) .nil))
abbrev r4_Cleaned_q0 (mL : Int) (Q : AExit → St → Prop) : AExit → St → Prop := AThen (Sv Tryz.prog (GG mL) 0 a61_c1 Q) Q
abbrev r4_Cleaned_q1 (mL : Int) (Q : AExit → St → Prop) : AExit → St → Prop := ABlock 1 (r4_Cleaned_q0 mL Q)
noncomputable def r4_Cleaned_j12 (out : Tx) (x_ : Tunit) (v17 : Int) (r_ : ((List Tunit) × Bool)) (self : Tx → (List Tunit) → Int → Option (Tx × Bool)) (K0_ : Tx → Option (Tx × Bool)) (v152 : (List Tunit)) (v42 : Bool) : Option (Tx × Bool) :=
 if v42 then
  (cat? out (byts [x_.f_c])).bind fun r_1 =>
  r4_Cleaned_j11 v17 r_ self K0_ r_1 v152
 else
  (r4_Encoded (byts [x_.f_c])).bind fun r_2 =>
  (cat? out r_2).bind fun r_3 =>
  r4_Cleaned_j11 v17 r_ self K0_ r_3 v152
theorem r4_Cleaned_j12_ok {mL : Int} {Q : AExit → St → Prop} {out : Tx} {x_ : Tunit} {v17 : Int} {r_ : ((List Tunit) × Bool)} {self : Tx → (List Tunit) → Int → Option (Tx × Bool)} {K0_ : Tx → Option (Tx × Bool)} {v152 : (List Tunit)} {v42 : Bool} {zv152 : Bool} (hzv152 : zv152 = true → v152 = []) {o : (Tx × Bool)} (h : r4_Cleaned_j12 out x_ v17 r_ self K0_ v152 v42 = some o)
  (hself : ∀ (out : Tx) (v15 : (List Tunit)) (v17 : Int) (zv15 : Bool) (_ : zv15 = true → v15 = []), self out v15 v17 = some o → ∀ s, Weak 0 s ⟨(upd (upd (upd (upd (upd e0 5 (some (B r_.2))) 6 (some (S out))) 15 (some (lstV zv15 0 2 v15.length))) 16 (some (I (r_.1.length : Int)))) 17 (some (I v17))), (upd e0 0 (lstB zv15 2 (v15.map e_Tunit))), 1⟩ → (Q) .normal s)
  (hK0 : ∀ (out1 : Tx), K0_ out1 = some o → ∀ s, Weak 0 s ⟨(upd (upd e0 5 (some (B r_.2))) 6 (some (S out1))), e0, 0⟩ → Q (.exit 0) s)
  (hr : ∀ s, Ends a61.results 0 (r4_Cleaned_post o) .ret s → Q .ret s) :
  Sv Tryz.prog (GG mL) 0 a61_c0 (r4_Cleaned_q1 mL Q) ⟨(upd (upd (upd (upd (upd (upd (upd e0 5 (some (B r_.2))) 6 (some (S out))) 9 (some (S (byts [x_.f_c])))) 15 (some (lstV zv152 0 2 v152.length))) 16 (some (I (r_.1.length : Int)))) 17 (some (I v17))) 42 (some (B v42))), (upd e0 0 (lstB zv152 2 (v152.map e_Tunit))), 1⟩ := by
 unfold r4_Cleaned_j12 at h
 refine Sv.cond (b := v42) rfl (fun hc2 => ?_) (fun hc2 => ?_)
 ·replace h := ifT hc2 h
  refine srg <| un1 rfl <| un1 rfl ?_
  obtain ⟨r_1, hx2, h⟩ := bnd h
  refine un1 (v := (S r_1)) (s_cat rfl rfl hx2) <| un1 rfl <| dnil ?_
  exact Sv.weak (wcn [0] rfl (.cf rfl rfl (.cf rfl rfl (.cons rfl (.c (lstC_ren rfl (by decide))) (.cf rfl rfl (.cf rfl rfl .nil))))) (.row (by decide) rfl (fr_map fun _ => rfl) .nil)) (r4_Cleaned_j11_ok hzv152 h hself hK0 hr)
 ·replace h := ifF hc2 h
  refine srg <| un1 rfl <| un1 rfl ?_
  obtain ⟨r_2, hr2, h⟩ := bnd h
  refine un <| ac_pure (r4_Encoded_ok hr2) rfl rfl rfl ?_
  obtain ⟨r_3, hx3, h⟩ := bnd h
  refine un1 (v := (S r_3)) (s_cat rfl rfl hx3) <| un1 rfl <| dnil ?_
  exact Sv.weak (wcn [0] rfl (.cf rfl rfl (.cf rfl rfl (.cons rfl (.c (lstC_ren rfl (by decide))) (.cf rfl rfl (.cf rfl rfl .nil))))) (.row (by decide) rfl (fr_map fun _ => rfl) .nil)) (r4_Cleaned_j11_ok hzv152 h hself hK0 hr)
noncomputable def r4_Cleaned_l0 (r_ : ((List Tunit) × Bool)) (K0_ : Tx → Option (Tx × Bool)) : Nat → Tx → (List Tunit) → Int → Option (Tx × Bool)
 | 0, _, _, _ => none
 | k + 1, out, v15, v17 =>
  if decide (v17 < (r_.1.length : Int)) then
   (at? v15 v17).bind fun x_ =>
   (r4_isPlain x_.f_c).bind fun r_4 =>
   if (((!r_4) && (!x_.f_triple)) && (decide (x_.f_c < 128))) then
    (strings_Contains [33, 36, 38, 39, 40, 41, 42, 43, 44, 59, 61, 58, 64, 47, 63] (byts [x_.f_c])).bind fun r_5 =>
    r4_Cleaned_j12 out x_ v17 r_ (r4_Cleaned_l0 r_ K0_ k) K0_ v15 r_5
   else
    r4_Cleaned_j12 out x_ v17 r_ (r4_Cleaned_l0 r_ K0_ k) K0_ v15 false
  else
   K0_ out
theorem r4_Cleaned_l0_ok {mL : Int} {Q : AExit → St → Prop} {r_ : ((List Tunit) × Bool)} {K0_ : Tx → Option (Tx × Bool)} {k : Nat} {out : Tx} {v15 : (List Tunit)} {v17 : Int} {zv15 : Bool} (hzv15 : zv15 = true → v15 = []) {o : (Tx × Bool)} (h : r4_Cleaned_l0 r_ K0_ k out v15 v17 = some o)
  (hK0 : ∀ (out1 : Tx), K0_ out1 = some o → ∀ s, Weak 0 s ⟨(upd (upd e0 5 (some (B r_.2))) 6 (some (S out1))), e0, 0⟩ → Q (.exit 0) s)
  (hr : ∀ s, Ends a61.results 0 (r4_Cleaned_post o) .ret s → Q .ret s) :
  Sv Tryz.prog (GG mL) 0 (.loop a61_c2) Q ⟨(upd (upd (upd (upd (upd e0 5 (some (B r_.2))) 6 (some (S out))) 15 (some (lstV zv15 0 2 v15.length))) 16 (some (I (r_.1.length : Int)))) 17 (some (I v17))), (upd e0 0 (lstB zv15 2 (v15.map e_Tunit))), 1⟩ := by
 refine Sv.loop (I := fun k s => ∃ (out : Tx), ∃ (v15 : (List Tunit)), ∃ (v17 : Int), ∃ (zv15 : Bool), (zv15 = true → v15 = []) ∧ r4_Cleaned_l0 r_ K0_ k out v15 v17 = some o ∧ s = ⟨(upd (upd (upd (upd (upd e0 5 (some (B r_.2))) 6 (some (S out))) 15 (some (lstV zv15 0 2 v15.length))) 16 (some (I (r_.1.length : Int)))) 17 (some (I v17))), (upd e0 0 (lstB zv15 2 (v15.map e_Tunit))), 1⟩) (fun k s hI => ?_) ⟨out, v15, v17, zv15, hzv15, h, rfl⟩
 clear h
 clear hzv15 zv15 v17 v15 out
 obtain ⟨out, v15, v17, zv15, hzv15, h, rfl⟩ := hI
 cases k with
 | zero => cases h
 | succ k =>
 rw [r4_Cleaned_l0] at h
 have hself : ∀ (out : Tx) (v15 : (List Tunit)) (v17 : Int) (zv15 : Bool) (_ : zv15 = true → v15 = []), (r4_Cleaned_l0 r_ K0_ k) out v15 v17 = some o → ∀ s, Weak 0 s ⟨(upd (upd (upd (upd (upd e0 5 (some (B r_.2))) 6 (some (S out))) 15 (some (lstV zv15 0 2 v15.length))) 16 (some (I (r_.1.length : Int)))) 17 (some (I v17))), (upd e0 0 (lstB zv15 2 (v15.map e_Tunit))), 1⟩ → (AThen (fun s' => ∃ s'' k', Weak 0 s' s'' ∧ k' < k + 1 ∧ (fun k s => ∃ (out : Tx), ∃ (v15 : (List Tunit)), ∃ (v17 : Int), ∃ (zv15 : Bool), (zv15 = true → v15 = []) ∧ r4_Cleaned_l0 r_ K0_ k out v15 v17 = some o ∧ s = ⟨(upd (upd (upd (upd (upd e0 5 (some (B r_.2))) 6 (some (S out))) 15 (some (lstV zv15 0 2 v15.length))) 16 (some (I (r_.1.length : Int)))) 17 (some (I v17))), (upd e0 0 (lstB zv15 2 (v15.map e_Tunit))), 1⟩) k' s'') Q) .normal s := fun out v15 v17 zv15 hzv15 h s hw => ⟨_, k, hw, Nat.lt_succ_self k, out, v15, v17, zv15, hzv15, h, rfl⟩
 refine ssr <| un1 (v := (B (decide (v17 < (r_.1.length : Int))))) rfl <| dnil <| Sv.seq ?_
 refine Sv.cond (b := decide (v17 < (r_.1.length : Int))) rfl (fun hc1 => ?_) (fun hc1 => ?_)
 ·replace h := ifT hc1 h
  refine Sv.skip <| Sv.seq <| Sv.block <| ssr ?_
  obtain ⟨x_, hx1, h⟩ := bnd h
  refine un1 (v := (.c (.ref 0 2 v17.toNat 0))) (s_iaddrL rfl rfl hzv15 hx1) <| un1 (v := (.agg [.val (.int .u8 x_.f_c), cB x_.f_triple])) (s_loadL (z := zv15) (e := e_Tunit) rfl rfl hzv15 hx1 rfl rfl) <| un <| a2v (v := (.c (.ref 1 2 0 0))) (h' := upd _ 1 (some (.cells 2 [[.val (.int .u8 0), cB false]]))) (n' := 2) rfl rfl (fun h => by cases h) <| un <| a2n (h' := upd _ 1 (some (.cells 2 [[.val (.int .u8 x_.f_c), cB x_.f_triple]]))) (n' := 2) rfl rfl (fun h => by cases h) <| dnil <| ssr <| un1 (v := (.c (.ref 1 2 0 0))) rfl <| un1 (v := (.c (.val (.int .u8 x_.f_c)))) rfl <| un <| a2v (v := (lstV false 2 1 [x_.f_c].length)) (h' := upd _ 2 (lstB false 1 ([x_.f_c].map (eK .u8)))) (n' := 3) rfl rfl (fun h => by cases h) <| un1 (v := (S (byts [x_.f_c]))) (s_ofBytes (xs := [x_.f_c]) rfl (slc_lst rfl (List.length_map _).symm (map_nil_of (fun h => by cases h)))) <| un1 rfl <| dnil <| ssr <| un1 (v := (.c (.ref 1 2 0 0))) rfl <| un1 (v := (.c (.val (.int .u8 x_.f_c)))) rfl ?_
  obtain ⟨r_4, hr3, h⟩ := bnd h
  refine un <| ac_pure (r4_isPlain_ok hr3) rfl rfl rfl <| un1 (v := (B (!r_4))) rfl <| un1 rfl ?_
  refine gjoin 4 (d := 33) (v := (B ((!r_4) && (!x_.f_triple)))) (fun X hX => ?_) ?_
  ·refine split2 (fun hc3 => ?_) (fun hc3 => ?_)
   ·refine gt rfl <| a1 (v := (.c (.ref 1 2 0 1))) rfl <| gt rfl <| a1 (v := (B x_.f_triple)) rfl <| gt rfl <| a1 (v := (B (!x_.f_triple))) rfl <| un1 (v := (B (!x_.f_triple))) rfl <| dnil ?_
    exact hX _ (.putEq (by rw [hc3]; rfl) (.skip _ _ (.skip _ _ (.skip _ _ (.putEq (by rw [hc3]) (.refl _)) rfl) rfl) rfl))
   ·refine gs rfl rfl <| gs rfl rfl <| gs rfl rfl <| un1 (v := (B false)) rfl <| dnil ?_
    exact hX _ (.putEq (by rw [hc3]; rfl) (.skip _ _ (.skip _ _ (.skip _ _ (.putEq (by rw [hc3]) (.refl _)) rfl) rfl) rfl))
  refine un1 rfl ?_
  refine gjoin 4 (d := 38) (v := (B (((!r_4) && (!x_.f_triple)) && (decide (x_.f_c < 128))))) (fun X hX => ?_) ?_
  ·refine split2 (fun hc4 => ?_) (fun hc4 => ?_)
   ·refine gt rfl <| a1 (v := (.c (.ref 1 2 0 0))) rfl <| gt rfl <| a1 (v := (.c (.val (.int .u8 x_.f_c)))) rfl <| gt rfl <| a1 (v := (B (decide (x_.f_c < 128)))) rfl <| un1 (v := (B (decide (x_.f_c < 128)))) rfl <| dnil ?_
    exact hX _ (.putEq (by rw [hc4]; rfl) (.skip _ _ (.skip _ _ (.skip _ _ (.putEq (by rw [hc4]) (.refl _)) rfl) rfl) rfl))
   ·refine gs rfl rfl <| gs rfl rfl <| gs rfl rfl <| un1 (v := (B false)) rfl <| dnil ?_
    exact hX _ (.putEq (by rw [hc4]; rfl) (.skip _ _ (.skip _ _ (.skip _ _ (.putEq (by rw [hc4]) (.refl _)) rfl) rfl) rfl))
  refine un1 rfl ?_
  refine split2 (fun hc5 => ?_) (fun hc5 => ?_)
  ·replace h := ifT hc5 h
   refine gt rfl <| a1 rfl ?_
   obtain ⟨r_5, hr4, h⟩ := bnd h
   refine gt rfl <| ac_pure (strings_Contains_ok hr4) rfl rfl rfl <| un1 (v := (B r_5)) rfl <| dnil ?_
   exact Sv.weak (wcn [0] rfl (.cf rfl rfl (.cf rfl rfl (.cf rfl rfl (.cons rfl (.c (lstC_ren rfl (by decide))) (.cf rfl rfl (.cf rfl rfl (.cf rfl rfl .nil))))))) (.row (by decide) rfl (fr_map fun _ => rfl) .nil)) (r4_Cleaned_j12_ok hzv15 h hself hK0 hr)
  ·replace h := ifF hc5 h
   refine gs rfl rfl <| gs rfl rfl <| un1 (v := (B false)) rfl <| dnil ?_
   exact Sv.weak (wcn [0] rfl (.cf rfl rfl (.cf rfl rfl (.cf rfl rfl (.cons rfl (.c (lstC_ren rfl (by decide))) (.cf rfl rfl (.cf rfl rfl (.cf rfl rfl .nil))))))) (.row (by decide) rfl (fr_map fun _ => rfl) .nil)) (r4_Cleaned_j12_ok hzv15 h hself hK0 hr)
 ·replace h := ifF hc1 h
  refine Sv.exit ?_
  exact hK0 out h _ (wcn [] rfl (.cf rfl rfl (.cf rfl rfl .nil)) .nil)
/-- clerestory/clerestoryref4.Cleaned -/
noncomputable def r4_Cleaned (s_ : Tx) : Option (Tx × Bool) :=
 (r4_units s_).bind fun r_ =>
 lim fun kk => r4_Cleaned_l0 r_ (fun (out1 : Tx) => 
   some (out1, r_.2)) kk [] r_.1 0
theorem r4_Cleaned_ok {mL : Int} {s_ : Tx} {r : (Tx × Bool)} (h : r4_Cleaned s_ = some r) : CPure Tryz.prog (GG mL) 61 [(S s_)] (.tup [(S r.1), (B r.2)]) := by
 refine acalls_of_sv hmix c61 (R := r4_Cleaned_post r) ?_
 unfold r4_Cleaned at h
 refine ssr <| un1 rfl <| un1 rfl <| dnil <| ssr <| un1 rfl ?_
 obtain ⟨r_, hr1, h⟩ := bnd h
 refine un <| ac_gen (bs := []) («as» := [(S s_)]) (h2 := _) (h1 := e0) (r4_units_ok hr1) rfl (.cons (avAs_free rfl) .nil) (hsub_refl _) (.nil _) (fun _ => rfl) (by decide) (by decide) (.cons (avAs_free rfl) .nil) .nil ?_
 rintro _ _ _ hn ⟨z_, hz_, rfl, rfl, rfl⟩
 refine ⟨.inl rfl, (upd (rem [] _) 0 (lstB z_ 2 (r_.1.map e_Tunit))), fun hbd => (m3_cons (m3_row rfl (fr_map fun _ => rfl)) (m3_rem (in_nil _) (.cons (by decide) .nil) hbd)), (.tup [(lstV z_ 0 2 r_.1.length), (B r_.2)]), 1, (by cases z_ <;> rfl), rfl, ?_⟩
 refine un1 rfl <| un1 (v := (lstV z_ 0 2 r_.1.length)) rfl <| un1 (v := (B r_.2)) rfl <| un1 rfl <| un1 rfl <| dnil <| ssr <| un1 rfl <| dnil <| Sv.seq <| ssr <| un1 rfl <| un1 (v := (I (r_.1.length : Int))) (s_lenL rfl (len_nil_of hz_)) <| un1 rfl <| dnil <| Sv.block ?_
 obtain ⟨kk, h⟩ := lim_some h
 refine Sv.weak (wcn [0] rfl (.cf rfl rfl (.cf rfl rfl (.cons rfl (.c (lstC_ren rfl (by decide))) (.cf rfl rfl (.cf rfl rfl .nil))))) (.row (by decide) rfl (fr_map fun _ => rfl) .nil)) (r4_Cleaned_l0_ok hz_ h ?_ (fun s hs => hs))
 ·intro out1 h _ hw1
  refine Sv.weak hw1 <| ssr <| un1 rfl <| un1 rfl <| un1 rfl <| un1 rfl <| dnil <| Sv.ret ?_
  replace h := Option.some.inj h
  subst h
  exact ⟨_, .refl _, _, rfl, ⟨upd e0 0 (some (.tup [(S out1), (B r_.2)])), e0, 0⟩, (.tup [(S out1), (B r_.2)]), weak_canon [] rfl List.nodup_nil (Nat.le_refl _) nlz (.cons rfl (avAs_tup (.cons (avAs_free rfl) (.cons (avAs_free rfl) .nil))) .nil) .nil, rfl, rfl, rfl, rfl⟩
def a33 : AFunc := ⟨2, [(.tmp 4), (.tmp 5)], (.seq (.region [⟨(some 4), (.mov (.const (.c (.str [])))), none⟩, ⟨(some 5), (.mov (.const (.c (.val (.bool false))))), none⟩])
 (.seq (.region [(mV 13 1), ⟨(some 14), (.call 29 [(.tmp 13), (.const (.c (.str [35])))]), none⟩, (mV 12 14), (oP 15 (.ext (.tmp 12) 0)), (oP 16 (.ext (.tmp 12) 1)), (mV 6 15), (mV 7 16)])
 (.seq (.region [(mV 18 6), ⟨(some 19), (.call 29 [(.tmp 18), (.const (.c (.str [63])))]), none⟩, (mV 17 19), (oP 20 (.ext (.tmp 17) 0)), (oP 21 (.ext (.tmp 17) 1)), (mV 8 20), (mV 9 21)])
 (.seq (.region [(mV 22 0), (mV 23 0), (mV 24 9), ⟨(some 25), (.bin .neq (.tmp 24) (.const (.c (.str [])))), none⟩, (mV 26 7), ⟨(some 27), (.bin .neq (.tmp 26) (.const (.c (.str [])))), none⟩, (oP 28 (.nilc (.tmp 22))), (oP 29 (.faddr 5 (.tmp 28))), ⟨none, (.store 1 (.tmp 29) (.tmp 25)), none⟩, (oP 30 (.nilc (.tmp 23))), (oP 31 (.faddr 7 (.tmp 30))), ⟨none, (.store 1 (.tmp 31) (.tmp 27)), none⟩])
 (.seq (.region [⟨(some 10), (.mov (.const (.c (.val (.bool false))))), none⟩, ⟨(some 11), (.mov (.const (.c (.val (.bool false))))), none⟩])
 (.seq (.region [(mV 33 0), (mV 34 9), ⟨(some 35), (.call 23 [(.tmp 34), (.const (.c (.str [63])))]), none⟩, (oP 36 (.call 61 [(.tmp 35)])), (mV 32 36), (oP 37 (.ext (.tmp 32) 0)), (oP 38 (.ext (.tmp 32) 1)), (oP 39 (.nilc (.tmp 33))), (oP 40 (.faddr 4 (.tmp 39))), ⟨none, (.store 1 (.tmp 40) (.tmp 37)), none⟩, (mV 10 38)])
 (.seq (.region [(mV 42 0), (mV 43 7), ⟨(some 44), (.call 23 [(.tmp 43), (.const (.c (.str [35])))]), none⟩, (oP 45 (.call 61 [(.tmp 44)])), (mV 41 45), (oP 46 (.ext (.tmp 41) 0)), (oP 47 (.ext (.tmp 41) 1)), (oP 48 (.nilc (.tmp 42))), (oP 49 (.faddr 6 (.tmp 48))), ⟨none, (.store 1 (.tmp 49) (.tmp 46)), none⟩, (mV 11 47)])
 (.seq (.region [(mV 50 8), (mV 51 10), (mV 52 51), ⟨(some 53), (.mov (.tmp 11)), (some (52, true))⟩, ⟨(some 54), (.pick (.tmp 52) (.tmp 53) (.const (.c (.val (.bool false))))), none⟩, (mV 4 50), (mV 5 54)])
 .ret))))))))⟩
set_option maxRecDepth 100000 in
theorem c33 : compFunc Tryz.prog 33 = some a33 := by kernel_rfl
def r4_TailOf_post (r : (Tx × Bool × TJUrl)) : AV → Heap → Nat → Prop := fun v h' n' => v = (.tup [(S r.1), (B r.2.1)]) ∧ (h' = (upd e0 0 (some (.cells 8 [[.str r.2.2.Scheme, .str r.2.2.Host, cI r.2.2.Port, .ro false 1 (r.2.2.Path.map eStr), .str r.2.2.Query, cB r.2.2.Asks, .str r.2.2.Fragment, cB r.2.2.Points]])))) ∧ n' = 1
/-- clerestory/clerestoryref4.TailOf -/
noncomputable def r4_TailOf (u_ : TJUrl) (s_ : Tx) : Option (Tx × Bool × TJUrl) :=
 (r4_parted s_ [35]).bind fun r_ =>
 (r4_parted r_.1 [63]).bind fun r_1 =>
 (strings_TrimPrefix r_1.2 [63]).bind fun r_2 =>
 (r4_Cleaned r_2).bind fun r_3 =>
 (strings_TrimPrefix r_.2 [35]).bind fun r_4 =>
 (r4_Cleaned r_4).bind fun r_5 =>
 some (r_1.1, (r_3.2 && r_5.2), (⟨u_.Scheme, u_.Host, u_.Port, u_.Path, r_3.1, (!decide (r_1.2 = [])), r_5.1, (!decide (r_.2 = []))⟩ : TJUrl))
theorem r4_TailOf_ok {mL : Int} {u_ : TJUrl} {s_ : Tx} {r : (Tx × Bool × TJUrl)} (h : r4_TailOf u_ s_ = some r) : ACalls Tryz.prog (GG mL) 33 [(.c (.ref 0 8 0 0)), (S s_)] (upd e0 0 (some (.cells 8 [[.str u_.Scheme, .str u_.Host, cI u_.Port, .ro false 1 (u_.Path.map eStr), .str u_.Query, cB u_.Asks, .str u_.Fragment, cB u_.Points]]))) 1 (r4_TailOf_post r) := by
 refine acalls_of_sv hmix c33 (R := r4_TailOf_post r) ?_
 unfold r4_TailOf at h
 refine ssr <| un1 rfl <| un1 rfl <| dnil <| ssr <| un1 rfl ?_
 obtain ⟨r_, hr1, h⟩ := bnd h
 refine un <| ac_pure (r4_parted_ok hr1) rfl rfl rfl <| un1 rfl <| un1 (v := (S r_.1)) rfl <| un1 (v := (S r_.2)) rfl <| un1 rfl <| un1 rfl <| dnil <| ssr <| un1 rfl ?_
 obtain ⟨r_1, hr2, h⟩ := bnd h
 refine un <| ac_pure (r4_parted_ok hr2) rfl rfl rfl <| un1 rfl <| un1 (v := (S r_1.1)) rfl <| un1 (v := (S r_1.2)) rfl <| un1 rfl <| un1 rfl <| dnil <| ssr <| un1 rfl <| un1 rfl <| un1 rfl <| un1 (v := (B (!decide (r_1.2 = [])))) rfl <| un1 rfl <| un1 (v := (B (!decide (r_.2 = [])))) rfl <| un1 (v := (.c (.ref 0 8 0 0))) rfl <| un1 (v := (.c (.ref 0 8 0 5))) rfl <| un <| a2n (h' := upd _ 0 (some (.cells 8 [[.str u_.Scheme, .str u_.Host, cI u_.Port, .ro false 1 (u_.Path.map eStr), .str u_.Query, cB (!decide (r_1.2 = [])), .str u_.Fragment, cB u_.Points]]))) (n' := 1) rfl rfl (fun h => by cases h) <| un1 (v := (.c (.ref 0 8 0 0))) rfl <| un1 (v := (.c (.ref 0 8 0 7))) rfl <| un <| a2n (h' := upd _ 0 (some (.cells 8 [[.str u_.Scheme, .str u_.Host, cI u_.Port, .ro false 1 (u_.Path.map eStr), .str u_.Query, cB (!decide (r_1.2 = [])), .str u_.Fragment, cB (!decide (r_.2 = []))]]))) (n' := 1) rfl rfl (fun h => by cases h) <| dnil <| ssr <| un1 rfl <| un1 rfl <| dnil <| ssr <| un1 rfl <| un1 rfl ?_
 obtain ⟨r_2, hr3, h⟩ := bnd h
 refine un <| ac_pure (strings_TrimPrefix_ok hr3) rfl rfl rfl ?_
 obtain ⟨r_3, hr4, h⟩ := bnd h
 refine un <| ac_pure (r4_Cleaned_ok hr4) rfl rfl rfl <| un1 rfl <| un1 (v := (S r_3.1)) rfl <| un1 (v := (B r_3.2)) rfl <| un1 (v := (.c (.ref 0 8 0 0))) rfl <| un1 (v := (.c (.ref 0 8 0 4))) rfl <| un <| a2n (h' := upd _ 0 (some (.cells 8 [[.str u_.Scheme, .str u_.Host, cI u_.Port, .ro false 1 (u_.Path.map eStr), .str r_3.1, cB (!decide (r_1.2 = [])), .str u_.Fragment, cB (!decide (r_.2 = []))]]))) (n' := 1) rfl rfl (fun h => by cases h) <| un1 rfl <| dnil <| ssr <| un1 rfl <| un1 rfl ?_
 obtain ⟨r_4, hr5, h⟩ := bnd h
 refine un <| ac_pure (strings_TrimPrefix_ok hr5) rfl rfl rfl ?_
 obtain ⟨r_5, hr6, h⟩ := bnd h
 refine un <| ac_pure (r4_Cleaned_ok hr6) rfl rfl rfl <| un1 rfl <| un1 (v := (S r_5.1)) rfl <| un1 (v := (B r_5.2)) rfl <| un1 (v := (.c (.ref 0 8 0 0))) rfl <| un1 (v := (.c (.ref 0 8 0 6))) rfl <| un <| a2n (h' := upd _ 0 (some (.cells 8 [[.str u_.Scheme, .str u_.Host, cI u_.Port, .ro false 1 (u_.Path.map eStr), .str r_3.1, cB (!decide (r_1.2 = [])), .str r_5.1, cB (!decide (r_.2 = []))]]))) (n' := 1) rfl rfl (fun h => by cases h) <| un1 rfl <| dnil <| ssr <| un1 rfl <| un1 rfl <| un1 rfl ?_
 refine gjoin 2 (d := 54) (v := (B (r_3.2 && r_5.2))) (fun X hX => ?_) ?_
 ·refine split2 (fun hc1 => ?_) (fun hc1 => ?_)
  ·refine gt rfl <| a1 rfl <| un1 (v := (B r_5.2)) rfl <| dnil ?_
   exact hX _ (.putEq (by rw [hc1]; rfl) (.skip _ _ (.putEq (by rw [hc1]) (.refl _)) rfl))
  ·refine gs rfl rfl <| un1 (v := (B false)) rfl <| dnil ?_
   exact hX _ (.putEq (by rw [hc1]; rfl) (.skip _ _ (.putEq (by rw [hc1]) (.refl _)) rfl))
 refine un1 rfl <| un1 rfl <| dnil <| Sv.ret ?_
 replace h := Option.some.inj h
 subst h
 exact ⟨_, .refl _, _, rfl, ⟨upd e0 0 (some (.tup [(S r_1.1), (B (r_3.2 && r_5.2))])), (upd e0 0 (some (.cells 8 [[.str u_.Scheme, .str u_.Host, cI u_.Port, .ro false 1 (u_.Path.map eStr), .str r_3.1, cB (!decide (r_1.2 = [])), .str r_5.1, cB (!decide (r_.2 = []))]]))), 1⟩, (.tup [(S r_1.1), (B (r_3.2 && r_5.2))]), weak_canon2 [0] [0] (by decide) (by decide) (by decide) (.cons (by decide) .nil) (.cons rfl (avAs_tup (.cons (avAs_free rfl) (.cons (avAs_free rfl) .nil))) .nil) (.box (by decide) rfl (blkAs_cells (.sm rfl (.sm rfl (.sm rfl (.sm rfl (.sm rfl (.sm rfl (.sm rfl (.sm rfl .nil))))))))) .nil), rfl, rfl, rfl, rfl⟩
def r4_TailOf1_post (r : (Tx × Bool × TJUrl)) : AV → Heap → Nat → Prop := fun v h' n' => ∃ z0 : Bool, (z0 = true → r.2.2.Path = []) ∧ v = (.tup [(S r.1), (B r.2.1)]) ∧ (h' = (upd (upd e0 0 (some (.cells 8 [[.str r.2.2.Scheme, .str r.2.2.Host, cI r.2.2.Port, lstC z0 2 1 r.2.2.Path.length, .str r.2.2.Query, cB r.2.2.Asks, .str r.2.2.Fragment, cB r.2.2.Points]]))) 2 (lstB z0 1 (r.2.2.Path.map eStr)))) ∧ n' = 3
/-- clerestory/clerestoryref4.TailOf -/
noncomputable def r4_TailOf1 (u_ : TJUrl) (s_ : Tx) : Option (Tx × Bool × TJUrl) :=
 (r4_parted s_ [35]).bind fun r_ =>
 (r4_parted r_.1 [63]).bind fun r_1 =>
 (strings_TrimPrefix r_1.2 [63]).bind fun r_2 =>
 (r4_Cleaned r_2).bind fun r_3 =>
 (strings_TrimPrefix r_.2 [35]).bind fun r_4 =>
 (r4_Cleaned r_4).bind fun r_5 =>
 some (r_1.1, (r_3.2 && r_5.2), (⟨u_.Scheme, u_.Host, u_.Port, u_.Path, r_3.1, (!decide (r_1.2 = [])), r_5.1, (!decide (r_.2 = []))⟩ : TJUrl))
theorem r4_TailOf1_ok {mL : Int} {u_ : TJUrl} {s_ : Tx} {zu : Bool} (hzu : zu = true → u_.Path = []) {r : (Tx × Bool × TJUrl)} (h : r4_TailOf1 u_ s_ = some r) : ACalls Tryz.prog (GG mL) 33 [(.c (.ref 0 8 0 0)), (S s_)] (upd (upd e0 0 (some (.cells 8 [[.str u_.Scheme, .str u_.Host, cI u_.Port, lstC zu 1 1 u_.Path.length, .str u_.Query, cB u_.Asks, .str u_.Fragment, cB u_.Points]]))) 1 (lstB zu 1 (u_.Path.map eStr))) 2 (r4_TailOf1_post r) := by
 refine acalls_of_sv hmix c33 (R := r4_TailOf1_post r) ?_
 unfold r4_TailOf1 at h
 refine ssr <| un1 rfl <| un1 rfl <| dnil <| ssr <| un1 rfl ?_
 obtain ⟨r_, hr1, h⟩ := bnd h
 refine un <| ac_pure (r4_parted_ok hr1) rfl rfl rfl <| un1 rfl <| un1 (v := (S r_.1)) rfl <| un1 (v := (S r_.2)) rfl <| un1 rfl <| un1 rfl <| dnil <| ssr <| un1 rfl ?_
 obtain ⟨r_1, hr2, h⟩ := bnd h
 refine un <| ac_pure (r4_parted_ok hr2) rfl rfl rfl <| un1 rfl <| un1 (v := (S r_1.1)) rfl <| un1 (v := (S r_1.2)) rfl <| un1 rfl <| un1 rfl <| dnil <| ssr <| un1 rfl <| un1 rfl <| un1 rfl <| un1 (v := (B (!decide (r_1.2 = [])))) rfl <| un1 rfl <| un1 (v := (B (!decide (r_.2 = [])))) rfl <| un1 (v := (.c (.ref 0 8 0 0))) rfl <| un1 (v := (.c (.ref 0 8 0 5))) rfl <| un <| a2n (h' := upd _ 0 (some (.cells 8 [[.str u_.Scheme, .str u_.Host, cI u_.Port, lstC zu 1 1 u_.Path.length, .str u_.Query, cB (!decide (r_1.2 = [])), .str u_.Fragment, cB u_.Points]]))) (n' := 2) rfl rfl (fun h => by cases h) <| un1 (v := (.c (.ref 0 8 0 0))) rfl <| un1 (v := (.c (.ref 0 8 0 7))) rfl <| un <| a2n (h' := upd _ 0 (some (.cells 8 [[.str u_.Scheme, .str u_.Host, cI u_.Port, lstC zu 1 1 u_.Path.length, .str u_.Query, cB (!decide (r_1.2 = [])), .str u_.Fragment, cB (!decide (r_.2 = []))]]))) (n' := 2) rfl rfl (fun h => by cases h) <| dnil <| ssr <| un1 rfl <| un1 rfl <| dnil <| ssr <| un1 rfl <| un1 rfl ?_
 obtain ⟨r_2, hr3, h⟩ := bnd h
 refine un <| ac_pure (strings_TrimPrefix_ok hr3) rfl rfl rfl ?_
 obtain ⟨r_3, hr4, h⟩ := bnd h
 refine un <| ac_pure (r4_Cleaned_ok hr4) rfl rfl rfl <| un1 rfl <| un1 (v := (S r_3.1)) rfl <| un1 (v := (B r_3.2)) rfl <| un1 (v := (.c (.ref 0 8 0 0))) rfl <| un1 (v := (.c (.ref 0 8 0 4))) rfl <| un <| a2n (h' := upd _ 0 (some (.cells 8 [[.str u_.Scheme, .str u_.Host, cI u_.Port, lstC zu 1 1 u_.Path.length, .str r_3.1, cB (!decide (r_1.2 = [])), .str u_.Fragment, cB (!decide (r_.2 = []))]]))) (n' := 2) rfl rfl (fun h => by cases h) <| un1 rfl <| dnil <| ssr <| un1 rfl <| un1 rfl ?_
 obtain ⟨r_4, hr5, h⟩ := bnd h
 refine un <| ac_pure (strings_TrimPrefix_ok hr5) rfl rfl rfl ?_
 obtain ⟨r_5, hr6, h⟩ := bnd h
 refine un <| ac_pure (r4_Cleaned_ok hr6) rfl rfl rfl <| un1 rfl <| un1 (v := (S r_5.1)) rfl <| un1 (v := (B r_5.2)) rfl <| un1 (v := (.c (.ref 0 8 0 0))) rfl <| un1 (v := (.c (.ref 0 8 0 6))) rfl <| un <| a2n (h' := upd _ 0 (some (.cells 8 [[.str u_.Scheme, .str u_.Host, cI u_.Port, lstC zu 1 1 u_.Path.length, .str r_3.1, cB (!decide (r_1.2 = [])), .str r_5.1, cB (!decide (r_.2 = []))]]))) (n' := 2) rfl rfl (fun h => by cases h) <| un1 rfl <| dnil <| ssr <| un1 rfl <| un1 rfl <| un1 rfl ?_
 refine gjoin 2 (d := 54) (v := (B (r_3.2 && r_5.2))) (fun X hX => ?_) ?_
 ·refine split2 (fun hc1 => ?_) (fun hc1 => ?_)
  ·refine gt rfl <| a1 rfl <| un1 (v := (B r_5.2)) rfl <| dnil ?_
   exact hX _ (.putEq (by rw [hc1]; rfl) (.skip _ _ (.putEq (by rw [hc1]) (.refl _)) rfl))
  ·refine gs rfl rfl <| un1 (v := (B false)) rfl <| dnil ?_
   exact hX _ (.putEq (by rw [hc1]; rfl) (.skip _ _ (.putEq (by rw [hc1]) (.refl _)) rfl))
 refine un1 rfl <| un1 rfl <| dnil <| Sv.ret ?_
 replace h := Option.some.inj h
 subst h
 exact ⟨_, .refl _, _, rfl, ⟨upd e0 0 (some (.tup [(S r_1.1), (B (r_3.2 && r_5.2))])), (upd (upd e0 0 (some (.cells 8 [[.str u_.Scheme, .str u_.Host, cI u_.Port, lstC zu 2 1 u_.Path.length, .str r_3.1, cB (!decide (r_1.2 = [])), .str r_5.1, cB (!decide (r_.2 = []))]]))) 2 (lstB zu 1 (u_.Path.map eStr))), 3⟩, (.tup [(S r_1.1), (B (r_3.2 && r_5.2))]), weak_canon2 [0, 1, 1] [0, 2] (by decide) (by decide) (by decide) (.cons (by decide) (.cons (by decide) .nil)) (.cons rfl (avAs_tup (.cons (avAs_free rfl) (.cons (avAs_free rfl) .nil))) .nil) (.row (by decide) rfl (fr_map fun _ => rfl) (.box (by decide) rfl (blkAs_cells (.sm rfl (.sm rfl (.sm rfl (.cons (lstC_ren rfl (by decide)) (.sm rfl (.sm rfl (.sm rfl (.sm rfl .nil))))))))) .nil)), rfl, zu, hzu, rfl, rfl, rfl⟩
def a62_c0 : ACode := (.seq (.region [(oP 17 (.bin .lss (.tmp 16) (.tmp 15)))])
 (.seq (.cond (.tmp 17) .skip (.exit 0))
 (.seq (.block 1 (.seq (.region [(oP 18 (.iaddr 2 (.tmp 14) (.tmp 16))), (oP 19 (.load true 2 (.tmp 18))), ⟨(some 8), (.box (.const (.agg [(.val (.int .u8 0)), (.val (.bool false))]))), none⟩, ⟨none, (.store 2 (.tmp 8) (.tmp 19)), none⟩])
 (.region [(mV 20 6), (oP 21 (.faddr 0 (.tmp 8))), (oP 22 (.load false 1 (.tmp 21))), (oP 23 (.bslice 1 [(.val (.int .u8 0))] 1 [(0, (.tmp 22))])), (oP 24 (.app 1 1 (.tmp 20) (.tmp 23))), (mV 6 24)])))
 (.region [⟨(some 25), (.bin .add (.tmp 16) (kI 1)), none⟩, (mV 16 25)]))))
def a62 : AFunc := ⟨1, [(.tmp 2), (.tmp 3)], (.seq (.region [⟨(some 2), (.mov (.const (.c (.str [])))), none⟩, ⟨(some 3), (.mov (.const (.c (.val (.bool false))))), none⟩])
 (.seq (.region [(mV 10 0), (oP 11 (.call 91 [(.tmp 10)])), (mV 9 11), (oP 12 (.ext (.tmp 9) 0)), (oP 13 (.ext (.tmp 9) 1)), (mV 4 12), (mV 5 13)])
 (.seq (.region [⟨(some 6), (.mov (.const (.c (.ro true 1 [])))), none⟩])
 (.seq (.seq (.region [(mV 14 4), (oP 15 (.len (.tmp 14))), ⟨(some 16), (.mov (kI 0)), none⟩])
 (.block 0 (.loop a62_c0)))
 (.seq (.region [(mV 26 6), (oP 27 (.ofBytes (.tmp 26))), (mV 28 5), (mV 2 27), (mV 3 28)])
 .ret)))))⟩
set_option maxRecDepth 100000 in
theorem c62 : compFunc Tryz.prog 62 = some a62 := by kernel_rfl
def r4_Decoded_post (r : (Tx × Bool)) : AV → Heap → Nat → Prop := fun v h' n' => v = (.tup [(S r.1), (B r.2)]) ∧ (h' = e0) ∧ n' = 0
noncomputable def r4_Decoded_l0 (r_ : ((List Tunit) × Bool)) (K0_ : (List Int) → Option (Tx × Bool)) : Nat → (List Int) → (List Tunit) → Int → Option (Tx × Bool)
 | 0, _, _, _ => none
 | k + 1, out, v14, v16 =>
  if decide (v16 < (r_.1.length : Int)) then
   (at? v14 v16).bind fun x_ =>
   (app? 1 out [x_.f_c]).bind fun r_1 =>
   (r4_Decoded_l0 r_ K0_ k) r_1 v14 (wi (v16 + 1))
  else
   K0_ out
theorem r4_Decoded_l0_ok {mL : Int} {Q : AExit → St → Prop} {r_ : ((List Tunit) × Bool)} {K0_ : (List Int) → Option (Tx × Bool)} {k : Nat} {out : (List Int)} {v14 : (List Tunit)} {v16 : Int} {zout : Bool} (hzout : zout = true → out = []) {zv14 : Bool} (hzv14 : zv14 = true → v14 = []) {o : (Tx × Bool)} (h : r4_Decoded_l0 r_ K0_ k out v14 v16 = some o)
  (hK0 : ∀ (out1 : (List Int)) (zout1 : Bool) (_ : zout1 = true → out1 = []), K0_ out1 = some o → ∀ s, Weak 0 s ⟨(upd (upd e0 5 (some (B r_.2))) 6 (some (lstV zout1 0 1 out1.length))), (upd e0 0 (lstB zout1 1 (out1.map (eK .u8)))), 1⟩ → Q (.exit 0) s)
  (hr : ∀ s, Ends a62.results 0 (r4_Decoded_post o) .ret s → Q .ret s) :
  Sv Tryz.prog (GG mL) 0 (.loop a62_c0) Q ⟨(upd (upd (upd (upd (upd e0 5 (some (B r_.2))) 6 (some (lstV zout 0 1 out.length))) 14 (some (lstV zv14 1 2 v14.length))) 15 (some (I (r_.1.length : Int)))) 16 (some (I v16))), (upd (upd e0 0 (lstB zout 1 (out.map (eK .u8)))) 1 (lstB zv14 2 (v14.map e_Tunit))), 2⟩ := by
 refine Sv.loop (I := fun k s => ∃ (out : (List Int)), ∃ (v14 : (List Tunit)), ∃ (v16 : Int), ∃ (zout : Bool), (zout = true → out = []) ∧ ∃ (zv14 : Bool), (zv14 = true → v14 = []) ∧ r4_Decoded_l0 r_ K0_ k out v14 v16 = some o ∧ s = ⟨(upd (upd (upd (upd (upd e0 5 (some (B r_.2))) 6 (some (lstV zout 0 1 out.length))) 14 (some (lstV zv14 1 2 v14.length))) 15 (some (I (r_.1.length : Int)))) 16 (some (I v16))), (upd (upd e0 0 (lstB zout 1 (out.map (eK .u8)))) 1 (lstB zv14 2 (v14.map e_Tunit))), 2⟩) (fun k s hI => ?_) ⟨out, v14, v16, zout, hzout, zv14, hzv14, h, rfl⟩
 clear h
 clear hzv14 hzout zv14 zout v16 v14 out
 obtain ⟨out, v14, v16, zout, hzout, zv14, hzv14, h, rfl⟩ := hI
 cases k with
 | zero => cases h
 | succ k =>
 rw [r4_Decoded_l0] at h
 have hself : ∀ (out : (List Int)) (v14 : (List Tunit)) (v16 : Int) (zout : Bool) (_ : zout = true → out = []) (zv14 : Bool) (_ : zv14 = true → v14 = []), (r4_Decoded_l0 r_ K0_ k) out v14 v16 = some o → ∀ s, Weak 0 s ⟨(upd (upd (upd (upd (upd e0 5 (some (B r_.2))) 6 (some (lstV zout 0 1 out.length))) 14 (some (lstV zv14 1 2 v14.length))) 15 (some (I (r_.1.length : Int)))) 16 (some (I v16))), (upd (upd e0 0 (lstB zout 1 (out.map (eK .u8)))) 1 (lstB zv14 2 (v14.map e_Tunit))), 2⟩ → (AThen (fun s' => ∃ s'' k', Weak 0 s' s'' ∧ k' < k + 1 ∧ (fun k s => ∃ (out : (List Int)), ∃ (v14 : (List Tunit)), ∃ (v16 : Int), ∃ (zout : Bool), (zout = true → out = []) ∧ ∃ (zv14 : Bool), (zv14 = true → v14 = []) ∧ r4_Decoded_l0 r_ K0_ k out v14 v16 = some o ∧ s = ⟨(upd (upd (upd (upd (upd e0 5 (some (B r_.2))) 6 (some (lstV zout 0 1 out.length))) 14 (some (lstV zv14 1 2 v14.length))) 15 (some (I (r_.1.length : Int)))) 16 (some (I v16))), (upd (upd e0 0 (lstB zout 1 (out.map (eK .u8)))) 1 (lstB zv14 2 (v14.map e_Tunit))), 2⟩) k' s'') Q) .normal s := fun out v14 v16 zout hzout zv14 hzv14 h s hw => ⟨_, k, hw, Nat.lt_succ_self k, out, v14, v16, zout, hzout, zv14, hzv14, h, rfl⟩
 refine ssr <| un1 (v := (B (decide (v16 < (r_.1.length : Int))))) rfl <| dnil <| Sv.seq ?_
 refine Sv.cond (b := decide (v16 < (r_.1.length : Int))) rfl (fun hc1 => ?_) (fun hc1 => ?_)
 ·replace h := ifT hc1 h
  refine Sv.skip <| Sv.seq <| Sv.block <| ssr ?_
  obtain ⟨x_, hx1, h⟩ := bnd h
  refine un1 (v := (.c (.ref 1 2 v16.toNat 0))) (s_iaddrL rfl rfl hzv14 hx1) <| un1 (v := (.agg [.val (.int .u8 x_.f_c), cB x_.f_triple])) (s_loadL (z := zv14) (e := e_Tunit) rfl rfl hzv14 hx1 rfl rfl) <| un <| a2v (v := (.c (.ref 2 2 0 0))) (h' := upd _ 2 (some (.cells 2 [[.val (.int .u8 0), cB false]]))) (n' := 3) rfl rfl (fun h => by cases h) <| un <| a2n (h' := upd _ 2 (some (.cells 2 [[.val (.int .u8 x_.f_c), cB x_.f_triple]]))) (n' := 3) rfl rfl (fun h => by cases h) <| dnil <| srg <| un1 rfl <| un1 (v := (.c (.ref 2 2 0 0))) rfl <| un1 (v := (.c (.val (.int .u8 x_.f_c)))) rfl <| un <| a2v (v := (lstV false 3 1 [x_.f_c].length)) (h' := upd _ 3 (lstB false 1 ([x_.f_c].map (eK .u8)))) (n' := 4) rfl rfl (fun h => by cases h) ?_
  obtain ⟨r_1, hr2, h⟩ := bnd h
  have hz1 : (zout && [x_.f_c].isEmpty) = true → r_1 = [] := app_nil (z := zout) (ys := [x_.f_c]) hzout hr2
  refine un <| a2v rfl (s_app (xs := out) (ys := [x_.f_c]) (e := (eK .u8)) (z := zout) (b := 0) rfl rfl hzout rfl rfl (slc_lst rfl (List.length_map _).symm (map_nil_of (fun h => by cases h))) hr2) (fun h => by cases h) <| un1 rfl <| dnil <| srg <| un1 (v := (I (wi (v16 + 1)))) rfl <| un1 rfl <| dnil ?_
  exact hself r_1 v14 (wi (v16 + 1)) (zout && [x_.f_c].isEmpty) hz1 zv14 hzv14 h _ (wcn [4, 1] rfl (.cf rfl rfl (.cf rfl rfl (.cons rfl (.c (lstC_ren rfl (by decide))) (.cons rfl (.c (lstC_ren rfl (by decide))) (.cf rfl rfl .nil))))) (.row (by decide) rfl (fr_map fun _ => rfl) (.row (by decide) rfl (fr_map fun _ => rfl) .nil)))
 ·replace h := ifF hc1 h
  refine Sv.exit ?_
  exact hK0 out zout hzout h _ (wcn [0] rfl (.cons rfl (.c (lstC_ren rfl (by decide))) (.cf rfl rfl .nil)) (.row (by decide) rfl (fr_map fun _ => rfl) .nil))
/-- clerestory/clerestoryref4.Decoded -/
noncomputable def r4_Decoded (s_ : Tx) : Option (Tx × Bool) :=
 (r4_units s_).bind fun r_ =>
 lim fun kk => r4_Decoded_l0 r_ (fun (out1 : (List Int)) => 
   some ((byts out1), r_.2)) kk ([] : List Int) r_.1 0
theorem r4_Decoded_ok {mL : Int} {s_ : Tx} {r : (Tx × Bool)} (h : r4_Decoded s_ = some r) : CPure Tryz.prog (GG mL) 62 [(S s_)] (.tup [(S r.1), (B r.2)]) := by
 refine acalls_of_sv hmix c62 (R := r4_Decoded_post r) ?_
 unfold r4_Decoded at h
 refine ssr <| un1 rfl <| un1 rfl <| dnil <| ssr <| un1 rfl ?_
 obtain ⟨r_, hr1, h⟩ := bnd h
 refine un <| ac_gen (bs := []) («as» := [(S s_)]) (h2 := _) (h1 := e0) (r4_units_ok hr1) rfl (.cons (avAs_free rfl) .nil) (hsub_refl _) (.nil _) (fun _ => rfl) (by decide) (by decide) (.cons (avAs_free rfl) .nil) .nil ?_
 rintro _ _ _ hn ⟨z_, hz_, rfl, rfl, rfl⟩
 refine ⟨.inl rfl, (upd (rem [] _) 0 (lstB z_ 2 (r_.1.map e_Tunit))), fun hbd => (m3_cons (m3_row rfl (fr_map fun _ => rfl)) (m3_rem (in_nil _) (.cons (by decide) .nil) hbd)), (.tup [(lstV z_ 0 2 r_.1.length), (B r_.2)]), 1, (by cases z_ <;> rfl), rfl, ?_⟩
 refine un1 rfl <| un1 (v := (lstV z_ 0 2 r_.1.length)) rfl <| un1 (v := (B r_.2)) rfl <| un1 rfl <| un1 rfl <| dnil <| ssr <| un1 rfl <| dnil <| Sv.seq <| ssr <| un1 rfl <| un1 (v := (I (r_.1.length : Int))) (s_lenL rfl (len_nil_of hz_)) <| un1 rfl <| dnil <| Sv.block ?_
 obtain ⟨kk, h⟩ := lim_some h
 refine Sv.weak (wcn [1000, 0] rfl (.cf rfl rfl (.cf rfl rfl (.cons rfl (.c (lstC_ren rfl (by decide))) (.cons rfl (.c (.same rfl)) (.cf rfl rfl .nil))))) (.row (by decide) rfl (fr_map fun _ => rfl) (.non (by decide) .nil))) (r4_Decoded_l0_ok (fun _ => rfl) hz_ h ?_ (fun s hs => hs))
 ·intro out1 zout1 hzout1 h _ hw1
  refine Sv.weak hw1 <| ssr <| un1 rfl <| un1 (v := (S (byts out1))) (s_ofBytes (xs := out1) rfl (slc_lst rfl (List.length_map _).symm (map_nil_of hzout1))) <| un1 rfl <| un1 rfl <| un1 rfl <| dnil <| Sv.ret ?_
  replace h := Option.some.inj h
  subst h
  exact ⟨_, .refl _, _, rfl, ⟨upd e0 0 (some (.tup [(S (byts out1)), (B r_.2)])), e0, 0⟩, (.tup [(S (byts out1)), (B r_.2)]), weak_canon [] rfl List.nodup_nil (Nat.le_refl _) nlz (.cons rfl (avAs_tup (.cons (avAs_free rfl) (.cons (avAs_free rfl) .nil))) .nil) .nil, rfl, rfl, rfl, rfl⟩
def a34_c0 : ACode := (.seq (.region [(oP 14 (.bin .lss (.tmp 13) (.tmp 12)))])
 (.seq (.cond (.tmp 14) .skip (.exit 0))
 (.seq (.block 1 (.seq (.region [(oP 15 (.iaddr 1 (.tmp 11) (.tmp 13))), (oP 16 (.load false 1 (.tmp 15))), (mV 7 16)])
 (.seq (.region [(mV 18 7), (oP 19 (.call 62 [(.tmp 18)])), (mV 17 19), (oP 20 (.ext (.tmp 17) 0)), (oP 21 (.ext (.tmp 17) 1)), (mV 8 20), (mV 9 21)])
 (.region [(mV 22 5), (mV 23 8), (oP 24 (.bslice 1 [(.str [])] 1 [(0, (.tmp 23))])), (oP 25 (.app 1 16 (.tmp 22) (.tmp 24))), (mV 26 4), (mV 27 26), ⟨(some 28), (.mov (.tmp 9)), (some (27, true))⟩, ⟨(some 29), (.pick (.tmp 27) (.tmp 28) (.const (.c (.val (.bool false))))), none⟩, (mV 5 25), (mV 4 29)]))))
 (.region [⟨(some 30), (.bin .add (.tmp 13) (kI 1)), none⟩, (mV 13 30)]))))
def a34 : AFunc := ⟨1, [(.tmp 2), (.tmp 3)], (.seq (.region [⟨(some 2), (.mov (.const (.c (.ro true 1 [])))), none⟩, ⟨(some 3), (.mov (.const (.c (.val (.bool false))))), none⟩])
 (.seq (.region [⟨(some 4), (.mov (.const (.c (.val (.bool true))))), none⟩])
 (.seq (.region [⟨(some 5), (.mov (.const (.c (.ro true 1 [])))), none⟩])
 (.seq (.seq (.region [(mV 10 0), ⟨(some 11), (.call 55 [(.tmp 10), (.const (.c (.str [47])))]), none⟩, (oP 12 (.len (.tmp 11))), ⟨(some 13), (.mov (kI 0)), none⟩])
 (.block 0 (.loop a34_c0)))
 (.seq (.region [(mV 31 5), (mV 32 4), (mV 2 31), (mV 3 32)])
 .ret)))))⟩
set_option maxRecDepth 100000 in
theorem c34 : compFunc Tryz.prog 34 = some a34 := by kernel_rfl
def r4_segmentsOf_post (r : (TT × Bool)) : AV → Heap → Nat → Prop := fun v h' n' => ∃ z0 : Bool, (z0 = true → r.1 = []) ∧ v = (.tup [(lstV z0 0 1 r.1.length), (B r.2)]) ∧ (h' = (upd e0 0 (lstB z0 1 (r.1.map eStr)))) ∧ n' = 1
noncomputable def r4_segmentsOf_l0 (r_ : TT) (K0_ : Bool → TT → Option (TT × Bool)) : Nat → Bool → TT → TT → Int → Option (TT × Bool)
 | 0, _, _, _, _ => none
 | k + 1, all_, out, v11, v13 =>
  if decide (v13 < (r_.length : Int)) then
   (at? v11 v13).bind fun x_ =>
   (r4_Decoded x_).bind fun r_1 =>
   (app? 16 out [r_1.1]).bind fun r_2 =>
   (r4_segmentsOf_l0 r_ K0_ k) (all_ && r_1.2) r_2 v11 (wi (v13 + 1))
  else
   K0_ all_ out
theorem r4_segmentsOf_l0_ok {mL : Int} {Q : AExit → St → Prop} {r_ : TT} {K0_ : Bool → TT → Option (TT × Bool)} {k : Nat} {all_ : Bool} {out : TT} {v11 : TT} {v13 : Int} {zout : Bool} (hzout : zout = true → out = []) {zv11 : Bool} (hzv11 : zv11 = true → v11 = []) {o : (TT × Bool)} (h : r4_segmentsOf_l0 r_ K0_ k all_ out v11 v13 = some o)
  (hK0 : ∀ (all_1 : Bool) (out1 : TT) (zout1 : Bool) (_ : zout1 = true → out1 = []), K0_ all_1 out1 = some o → ∀ s, Weak 0 s ⟨(upd (upd e0 4 (some (B all_1))) 5 (some (lstV zout1 0 1 out1.length))), (upd e0 0 (lstB zout1 1 (out1.map eStr))), 1⟩ → Q (.exit 0) s)
  (hr : ∀ s, Ends a34.results 0 (r4_segmentsOf_post o) .ret s → Q .ret s) :
  Sv Tryz.prog (GG mL) 0 (.loop a34_c0) Q ⟨(upd (upd (upd (upd (upd e0 4 (some (B all_))) 5 (some (lstV zout 0 1 out.length))) 11 (some (lstV zv11 1 1 v11.length))) 12 (some (I (r_.length : Int)))) 13 (some (I v13))), (upd (upd e0 0 (lstB zout 1 (out.map eStr))) 1 (lstB zv11 1 (v11.map eStr))), 2⟩ := by
 refine Sv.loop (I := fun k s => ∃ (all_ : Bool), ∃ (out : TT), ∃ (v11 : TT), ∃ (v13 : Int), ∃ (zout : Bool), (zout = true → out = []) ∧ ∃ (zv11 : Bool), (zv11 = true → v11 = []) ∧ r4_segmentsOf_l0 r_ K0_ k all_ out v11 v13 = some o ∧ s = ⟨(upd (upd (upd (upd (upd e0 4 (some (B all_))) 5 (some (lstV zout 0 1 out.length))) 11 (some (lstV zv11 1 1 v11.length))) 12 (some (I (r_.length : Int)))) 13 (some (I v13))), (upd (upd e0 0 (lstB zout 1 (out.map eStr))) 1 (lstB zv11 1 (v11.map eStr))), 2⟩) (fun k s hI => ?_) ⟨all_, out, v11, v13, zout, hzout, zv11, hzv11, h, rfl⟩
 clear h
 clear hzv11 hzout zv11 zout v13 v11 out all_
 obtain ⟨all_, out, v11, v13, zout, hzout, zv11, hzv11, h, rfl⟩ := hI
 cases k with
 | zero => cases h
 | succ k =>
 rw [r4_segmentsOf_l0] at h
 have hself : ∀ (all_ : Bool) (out : TT) (v11 : TT) (v13 : Int) (zout : Bool) (_ : zout = true → out = []) (zv11 : Bool) (_ : zv11 = true → v11 = []), (r4_segmentsOf_l0 r_ K0_ k) all_ out v11 v13 = some o → ∀ s, Weak 0 s ⟨(upd (upd (upd (upd (upd e0 4 (some (B all_))) 5 (some (lstV zout 0 1 out.length))) 11 (some (lstV zv11 1 1 v11.length))) 12 (some (I (r_.length : Int)))) 13 (some (I v13))), (upd (upd e0 0 (lstB zout 1 (out.map eStr))) 1 (lstB zv11 1 (v11.map eStr))), 2⟩ → (AThen (fun s' => ∃ s'' k', Weak 0 s' s'' ∧ k' < k + 1 ∧ (fun k s => ∃ (all_ : Bool), ∃ (out : TT), ∃ (v11 : TT), ∃ (v13 : Int), ∃ (zout : Bool), (zout = true → out = []) ∧ ∃ (zv11 : Bool), (zv11 = true → v11 = []) ∧ r4_segmentsOf_l0 r_ K0_ k all_ out v11 v13 = some o ∧ s = ⟨(upd (upd (upd (upd (upd e0 4 (some (B all_))) 5 (some (lstV zout 0 1 out.length))) 11 (some (lstV zv11 1 1 v11.length))) 12 (some (I (r_.length : Int)))) 13 (some (I v13))), (upd (upd e0 0 (lstB zout 1 (out.map eStr))) 1 (lstB zv11 1 (v11.map eStr))), 2⟩) k' s'') Q) .normal s := fun all_ out v11 v13 zout hzout zv11 hzv11 h s hw => ⟨_, k, hw, Nat.lt_succ_self k, all_, out, v11, v13, zout, hzout, zv11, hzv11, h, rfl⟩
 refine ssr <| un1 (v := (B (decide (v13 < (r_.length : Int))))) rfl <| dnil <| Sv.seq ?_
 refine Sv.cond (b := decide (v13 < (r_.length : Int))) rfl (fun hc1 => ?_) (fun hc1 => ?_)
 ·replace h := ifT hc1 h
  refine Sv.skip <| Sv.seq <| Sv.block <| ssr ?_
  obtain ⟨x_, hx1, h⟩ := bnd h
  refine un1 (v := (.c (.ref 1 1 v13.toNat 0))) (s_iaddrL rfl rfl hzv11 hx1) <| un1 (v := (S x_)) (s_loadL (z := zv11) (e := eStr) rfl rfl hzv11 hx1 rfl rfl) <| un1 rfl <| dnil <| ssr <| un1 rfl ?_
  obtain ⟨r_1, hr2, h⟩ := bnd h
  refine un <| ac_pure (r4_Decoded_ok hr2) rfl rfl rfl <| un1 rfl <| un1 (v := (S r_1.1)) rfl <| un1 (v := (B r_1.2)) rfl <| un1 rfl <| un1 rfl <| dnil <| srg <| un1 rfl <| un1 rfl <| un <| a2v (v := (lstV false 2 1 [r_1.1].length)) (h' := upd _ 2 (lstB false 1 ([r_1.1].map eStr))) (n' := 3) rfl rfl (fun h => by cases h) ?_
  obtain ⟨r_2, hr3, h⟩ := bnd h
  have hz1 : (zout && [r_1.1].isEmpty) = true → r_2 = [] := app_nil (z := zout) (ys := [r_1.1]) hzout hr3
  refine un <| a2v rfl (s_app (xs := out) (ys := [r_1.1]) (e := eStr) (z := zout) (b := 0) rfl rfl hzout rfl rfl (slc_lst rfl (List.length_map _).symm (map_nil_of (fun h => by cases h))) hr3) (fun h => by cases h) <| un1 rfl <| un1 rfl ?_
  refine gjoin 2 (d := 29) (v := (B (all_ && r_1.2))) (fun X hX => ?_) ?_
  ·refine split2 (fun hc2 => ?_) (fun hc2 => ?_)
   ·refine gt rfl <| a1 rfl <| un1 (v := (B r_1.2)) rfl <| dnil ?_
    exact hX _ (.putEq (by rw [hc2]; rfl) (.skip _ _ (.putEq (by rw [hc2]) (.refl _)) rfl))
   ·refine gs rfl rfl <| un1 (v := (B false)) rfl <| dnil ?_
    exact hX _ (.putEq (by rw [hc2]; rfl) (.skip _ _ (.putEq (by rw [hc2]) (.refl _)) rfl))
  refine un1 rfl <| un1 rfl <| dnil <| srg <| un1 (v := (I (wi (v13 + 1)))) rfl <| un1 rfl <| dnil ?_
  exact hself (all_ && r_1.2) r_2 v11 (wi (v13 + 1)) (zout && [r_1.1].isEmpty) hz1 zv11 hzv11 h _ (wcn [3, 1] rfl (.cf rfl rfl (.cf rfl rfl (.cons rfl (.c (lstC_ren rfl (by decide))) (.cons rfl (.c (lstC_ren rfl (by decide))) (.cf rfl rfl .nil))))) (.row (by decide) rfl (fr_map fun _ => rfl) (.row (by decide) rfl (fr_map fun _ => rfl) .nil)))
 ·replace h := ifF hc1 h
  refine Sv.exit ?_
  exact hK0 all_ out zout hzout h _ (wcn [0] rfl (.cons rfl (.c (lstC_ren rfl (by decide))) (.cf rfl rfl .nil)) (.row (by decide) rfl (fr_map fun _ => rfl) .nil))
/-- clerestory/clerestoryref4.segmentsOf -/
noncomputable def r4_segmentsOf (s_ : Tx) : Option (TT × Bool) :=
 (strings_Split s_ [47]).bind fun r_ =>
 lim fun kk => r4_segmentsOf_l0 r_ (fun (all_1 : Bool) (out1 : TT) => 
   some (out1, all_1)) kk true ([] : TT) r_ 0
theorem r4_segmentsOf_ok {mL : Int} {s_ : Tx} {r : (TT × Bool)} (h : r4_segmentsOf s_ = some r) : ACalls Tryz.prog (GG mL) 34 [(S s_)] e0 0 (r4_segmentsOf_post r) := by
 refine acalls_of_sv hmix c34 (R := r4_segmentsOf_post r) ?_
 unfold r4_segmentsOf at h
 refine ssr <| un1 rfl <| un1 rfl <| dnil <| ssr <| un1 rfl <| dnil <| ssr <| un1 rfl <| dnil <| Sv.seq <| ssr <| un1 rfl ?_
 obtain ⟨r_, hr1, h⟩ := bnd h
 refine un <| ac_gen (bs := []) («as» := [(S s_), (S [47])]) (h2 := _) (h1 := e0) (strings_Split_ok hr1) rfl (.cons (avAs_free rfl) (.cons (avAs_free rfl) .nil)) (hsub_refl _) (.nil _) (fun _ => rfl) (by decide) (by decide) (.cons (avAs_free rfl) (.cons (avAs_free rfl) .nil)) .nil ?_
 rintro _ _ _ hn ⟨z_, hz_, rfl, rfl, rfl⟩
 refine ⟨.inl rfl, (upd (rem [] _) 0 (lstB z_ 1 (r_.map eStr))), fun hbd => (m3_cons (m3_row rfl (fr_map fun _ => rfl)) (m3_rem (in_nil _) (.cons (by decide) .nil) hbd)), (lstV z_ 0 1 r_.length), 1, (by cases z_ <;> rfl), rfl, ?_⟩
 refine un1 (v := (I (r_.length : Int))) (s_lenL rfl (len_nil_of hz_)) <| un1 rfl <| dnil <| Sv.block ?_
 obtain ⟨kk, h⟩ := lim_some h
 refine Sv.weak (wcn [1000, 0] rfl (.cf rfl rfl (.cf rfl rfl (.cons rfl (.c (lstC_ren rfl (by decide))) (.cons rfl (.c (.same rfl)) (.cf rfl rfl .nil))))) (.row (by decide) rfl (fr_map fun _ => rfl) (.non (by decide) .nil))) (r4_segmentsOf_l0_ok (fun _ => rfl) hz_ h ?_ (fun s hs => hs))
 ·intro all_1 out1 zout1 hzout1 h _ hw1
  refine Sv.weak hw1 <| ssr <| un1 rfl <| un1 rfl <| un1 rfl <| un1 rfl <| dnil <| Sv.ret ?_
  replace h := Option.some.inj h
  subst h
  exact ⟨_, .refl _, _, rfl, ⟨upd e0 0 (some (.tup [(lstV zout1 0 1 out1.length), (B all_1)])), (upd e0 0 (lstB zout1 1 (out1.map eStr))), 1⟩, (.tup [(lstV zout1 0 1 out1.length), (B all_1)]), weak_canon2 [0] [0] (by decide) (by decide) nlz (.cons (by decide) .nil) (.cons rfl (avAs_tup (.cons (.c (lstC_ren rfl (by decide))) (.cons (avAs_free rfl) .nil))) .nil) (.row (by decide) rfl (fr_map fun _ => rfl) .nil), rfl, zout1, hzout1, rfl, rfl, rfl⟩
def a35_c0 : ACode := (.region [⟨(some 36), (.bin .add (.tmp 8) (kI 1)), none⟩, (mV 8 36)])
def a35_c1 : ACode := (.seq (.region [(oP 9 (.bin .lss (.tmp 8) (.tmp 7)))])
 (.seq (.cond (.tmp 9) .skip (.exit 0))
 (.seq (.block 1 (.seq (.region [(oP 10 (.iaddr 1 (.tmp 6) (.tmp 8))), (oP 11 (.load false 1 (.tmp 10))), (mV 5 11)])
 (.block 2 (.seq (.region [(mV 13 5), ⟨(some 14), (.bin .eql (.tmp 13) (.const (.c (.str [46, 46])))), none⟩, (mV 15 14), ⟨(some 16), (.mov (.tmp 3)), (some (15, true))⟩, ⟨(some 17), (.len (.tmp 16)), (some (15, true))⟩, ⟨(some 18), (.bin .gtr (.tmp 17) (kI 0)), (some (15, true))⟩, ⟨(some 19), (.pick (.tmp 15) (.tmp 18) (.const (.c (.val (.bool false))))), none⟩, (mV 12 19)])
 (.cond (.tmp 12) (.region [(mV 20 3), (mV 21 3), (oP 22 (.len (.tmp 21))), ⟨(some 23), (.bin .sub (.tmp 22) (kI 1)), none⟩, (oP 24 (.slSl 1 (.tmp 20) none (some (.tmp 23)) none)), (mV 3 24)]) (.seq (.region [(mV 26 5), ⟨(some 27), (.bin .neq (.tmp 26) (.const (.c (.str [46])))), none⟩, (mV 28 27), ⟨(some 29), (.mov (.tmp 5)), (some (28, true))⟩, ⟨(some 30), (.bin .neq (.tmp 29) (.const (.c (.str [46, 46])))), (some (28, true))⟩, ⟨(some 31), (.pick (.tmp 28) (.tmp 30) (.const (.c (.val (.bool false))))), none⟩, (mV 25 31)])
 (.cond (.tmp 25) (.region [(mV 32 3), (mV 33 5), (oP 34 (.bslice 1 [(.str [])] 1 [(0, (.tmp 33))])), (oP 35 (.app 1 16 (.tmp 32) (.tmp 34))), (mV 3 35)]) .skip)))))))
 a35_c0)))
def a35_c2 : ACode := (.cond (.tmp 62) (.region [(mV 63 3), ⟨(some 64), (.bslice 1 [(.str [])] 1 [(0, (.const (.c (.str []))))]), none⟩, (oP 65 (.app 1 16 (.tmp 63) (.tmp 64))), (mV 3 65)]) .skip)
def a35_c3 : ACode := (.seq (.region [(mV 66 3), (mV 2 66)])
 .ret)
def a35 : AFunc := ⟨1, [(.tmp 2)], (.seq (.region [⟨(some 2), (.mov (.const (.c (.ro true 1 [])))), none⟩])
 (.seq (.region [⟨(some 3), (.mov (.const (.c (.ro true 1 [])))), none⟩])
 (.seq (.seq (.region [(mV 6 0), (oP 7 (.len (.tmp 6))), ⟨(some 8), (.mov (kI 0)), none⟩])
 (.block 0 (.loop a35_c1)))
 (.seq (.seq (.region [(mV 37 0), (oP 38 (.len (.tmp 37))), ⟨(some 39), (.bin .gtr (.tmp 38) (kI 0)), none⟩, (mV 40 39), ⟨(some 41), (.mov (.tmp 0)), (some (40, true))⟩, ⟨(some 42), (.mov (.tmp 0)), (some (40, true))⟩, ⟨(some 43), (.len (.tmp 42)), (some (40, true))⟩, ⟨(some 44), (.bin .sub (.tmp 43) (kI 1)), (some (40, true))⟩, ⟨(some 45), (.iaddr 1 (.tmp 41) (.tmp 44)), (some (40, true))⟩, ⟨(some 46), (.load false 1 (.tmp 45)), (some (40, true))⟩, ⟨(some 47), (.bin .eql (.tmp 46) (.const (.c (.str [46])))), (some (40, true))⟩, ⟨(some 48), (.mov (.tmp 47)), (some (40, true))⟩, ⟨(some 49), (.mov (.tmp 0)), (some (48, false))⟩, ⟨(some 50), (.mov (.tmp 0)), (some (48, false))⟩, ⟨(some 51), (.len (.tmp 50)), (some (48, false))⟩, ⟨(some 52), (.bin .sub (.tmp 51) (kI 1)), (some (48, false))⟩, ⟨(some 53), (.iaddr 1 (.tmp 49) (.tmp 52)), (some (48, false))⟩, ⟨(some 54), (.load false 1 (.tmp 53)), (some (48, false))⟩, ⟨(some 55), (.bin .eql (.tmp 54) (.const (.c (.str [46, 46])))), (some (48, false))⟩, ⟨(some 56), (.pick (.tmp 48) (.const (.c (.val (.bool true)))) (.tmp 55)), (some (40, true))⟩, ⟨(some 57), (.pick (.tmp 40) (.tmp 56) (.const (.c (.val (.bool false))))), none⟩, (mV 58 57), ⟨(some 59), (.mov (.tmp 3)), (some (58, false))⟩, ⟨(some 60), (.len (.tmp 59)), (some (58, false))⟩, ⟨(some 61), (.bin .eql (.tmp 60) (kI 0)), (some (58, false))⟩, ⟨(some 62), (.pick (.tmp 58) (.const (.c (.val (.bool true)))) (.tmp 61)), none⟩])
 a35_c2)
 a35_c3))))⟩
set_option maxRecDepth 100000 in
theorem c35 : compFunc Tryz.prog 35 = some a35 := by kernel_rfl
def r4_Tidied_post (r : TT) : AV → Heap → Nat → Prop := fun v h' n' => ∃ z0 : Bool, (z0 = true → r = []) ∧ v = (lstV z0 0 1 r.length) ∧ (h' = (upd e0 0 (lstB z0 1 (r.map eStr)))) ∧ n' = 1
noncomputable def r4_Tidied_j3 (v8 : Int) (l_ : TT) (self : TT → Int → Option TT) (K0_ : TT → Option TT) (out2 : TT) : Option TT :=
 self out2 (wi (v8 + 1))
theorem r4_Tidied_j3_ok {mL : Int} {Q : AExit → St → Prop} {v8 : Int} {l_ : TT} {self : TT → Int → Option TT} {K0_ : TT → Option TT} {out2 : TT} {zout2 : Bool} (hzout2 : zout2 = true → out2 = []) {o : TT} (h : r4_Tidied_j3 v8 l_ self K0_ out2 = some o)
  (hself : ∀ (out : TT) (v8 : Int) (zout : Bool) (_ : zout = true → out = []), self out v8 = some o → ∀ s, Weak 0 s ⟨(upd (upd (upd (upd (upd e0 0 (some (.c (.ro false 1 (l_.map eStr))))) 3 (some (lstV zout 0 1 out.length))) 6 (some (.c (.ro false 1 (l_.map eStr))))) 7 (some (I (l_.length : Int)))) 8 (some (I v8))), (upd e0 0 (lstB zout 1 (out.map eStr))), 1⟩ → (Q) .normal s)
  (hK0 : ∀ (out1 : TT) (zout1 : Bool) (_ : zout1 = true → out1 = []), K0_ out1 = some o → ∀ s, Weak 0 s ⟨(upd (upd e0 0 (some (.c (.ro false 1 (l_.map eStr))))) 3 (some (lstV zout1 0 1 out1.length))), (upd e0 0 (lstB zout1 1 (out1.map eStr))), 1⟩ → Q (.exit 0) s)
  (hr : ∀ s, Ends a35.results 0 (r4_Tidied_post o) .ret s → Q .ret s) :
  Sv Tryz.prog (GG mL) 0 a35_c0 Q ⟨(upd (upd (upd (upd (upd e0 0 (some (.c (.ro false 1 (l_.map eStr))))) 3 (some (lstV zout2 0 1 out2.length))) 6 (some (.c (.ro false 1 (l_.map eStr))))) 7 (some (I (l_.length : Int)))) 8 (some (I v8))), (upd e0 0 (lstB zout2 1 (out2.map eStr))), 1⟩ := by
 unfold r4_Tidied_j3 at h
 refine srg <| un1 (v := (I (wi (v8 + 1)))) rfl <| un1 rfl <| dnil ?_
 exact hself out2 (wi (v8 + 1)) zout2 hzout2 h _ (wcn [0] rfl (.cf rfl rfl (.cf rfl rfl (.cf rfl rfl (.cons rfl (.c (lstC_ren rfl (by decide))) (.cf rfl rfl .nil))))) (.row (by decide) rfl (fr_map fun _ => rfl) .nil))
noncomputable def r4_Tidied_l0 (l_ : TT) (K0_ : TT → Option TT) : Nat → TT → Int → Option TT
 | 0, _, _ => none
 | k + 1, out, v8 =>
  if decide (v8 < (l_.length : Int)) then
   (at? l_ v8).bind fun x_ =>
   if ((decide (x_ = [46, 46])) && (decide (0 < (out.length : Int)))) then
    (sub? out 0 (wi ((out.length : Int) - 1))).bind fun r_ =>
    r4_Tidied_j3 v8 l_ (r4_Tidied_l0 l_ K0_ k) K0_ r_
   else
    if ((!decide (x_ = [46])) && (!decide (x_ = [46, 46]))) then
     (app? 16 out [x_]).bind fun r_1 =>
     r4_Tidied_j3 v8 l_ (r4_Tidied_l0 l_ K0_ k) K0_ r_1
    else
     r4_Tidied_j3 v8 l_ (r4_Tidied_l0 l_ K0_ k) K0_ out
  else
   K0_ out
theorem r4_Tidied_l0_ok {mL : Int} {Q : AExit → St → Prop} {l_ : TT} {K0_ : TT → Option TT} {k : Nat} {out : TT} {v8 : Int} {zout : Bool} (hzout : zout = true → out = []) {o : TT} (h : r4_Tidied_l0 l_ K0_ k out v8 = some o)
  (hK0 : ∀ (out1 : TT) (zout1 : Bool) (_ : zout1 = true → out1 = []), K0_ out1 = some o → ∀ s, Weak 0 s ⟨(upd (upd e0 0 (some (.c (.ro false 1 (l_.map eStr))))) 3 (some (lstV zout1 0 1 out1.length))), (upd e0 0 (lstB zout1 1 (out1.map eStr))), 1⟩ → Q (.exit 0) s)
  (hr : ∀ s, Ends a35.results 0 (r4_Tidied_post o) .ret s → Q .ret s) :
  Sv Tryz.prog (GG mL) 0 (.loop a35_c1) Q ⟨(upd (upd (upd (upd (upd e0 0 (some (.c (.ro false 1 (l_.map eStr))))) 3 (some (lstV zout 0 1 out.length))) 6 (some (.c (.ro false 1 (l_.map eStr))))) 7 (some (I (l_.length : Int)))) 8 (some (I v8))), (upd e0 0 (lstB zout 1 (out.map eStr))), 1⟩ := by
 refine Sv.loop (I := fun k s => ∃ (out : TT), ∃ (v8 : Int), ∃ (zout : Bool), (zout = true → out = []) ∧ r4_Tidied_l0 l_ K0_ k out v8 = some o ∧ s = ⟨(upd (upd (upd (upd (upd e0 0 (some (.c (.ro false 1 (l_.map eStr))))) 3 (some (lstV zout 0 1 out.length))) 6 (some (.c (.ro false 1 (l_.map eStr))))) 7 (some (I (l_.length : Int)))) 8 (some (I v8))), (upd e0 0 (lstB zout 1 (out.map eStr))), 1⟩) (fun k s hI => ?_) ⟨out, v8, zout, hzout, h, rfl⟩
 clear h
 clear hzout zout v8 out
 obtain ⟨out, v8, zout, hzout, h, rfl⟩ := hI
 cases k with
 | zero => cases h
 | succ k =>
 rw [r4_Tidied_l0] at h
 have hself : ∀ (out : TT) (v8 : Int) (zout : Bool) (_ : zout = true → out = []), (r4_Tidied_l0 l_ K0_ k) out v8 = some o → ∀ s, Weak 0 s ⟨(upd (upd (upd (upd (upd e0 0 (some (.c (.ro false 1 (l_.map eStr))))) 3 (some (lstV zout 0 1 out.length))) 6 (some (.c (.ro false 1 (l_.map eStr))))) 7 (some (I (l_.length : Int)))) 8 (some (I v8))), (upd e0 0 (lstB zout 1 (out.map eStr))), 1⟩ → (AThen (fun s' => ∃ s'' k', Weak 0 s' s'' ∧ k' < k + 1 ∧ (fun k s => ∃ (out : TT), ∃ (v8 : Int), ∃ (zout : Bool), (zout = true → out = []) ∧ r4_Tidied_l0 l_ K0_ k out v8 = some o ∧ s = ⟨(upd (upd (upd (upd (upd e0 0 (some (.c (.ro false 1 (l_.map eStr))))) 3 (some (lstV zout 0 1 out.length))) 6 (some (.c (.ro false 1 (l_.map eStr))))) 7 (some (I (l_.length : Int)))) 8 (some (I v8))), (upd e0 0 (lstB zout 1 (out.map eStr))), 1⟩) k' s'') Q) .normal s := fun out v8 zout hzout h s hw => ⟨_, k, hw, Nat.lt_succ_self k, out, v8, zout, hzout, h, rfl⟩
 refine ssr <| un1 (v := (B (decide (v8 < (l_.length : Int))))) rfl <| dnil <| Sv.seq ?_
 refine Sv.cond (b := decide (v8 < (l_.length : Int))) rfl (fun hc1 => ?_) (fun hc1 => ?_)
 ·replace h := ifT hc1 h
  refine Sv.skip <| Sv.seq <| Sv.block <| ssr ?_
  obtain ⟨x_, hx1, h⟩ := bnd h
  refine un1 (v := (.c (.rop [.str x_]))) (s_iaddr (e := eStr) (xs := l_) rfl rfl hx1) <| un1 (v := (S x_)) rfl <| un1 rfl <| dnil <| Sv.block <| ssr <| un1 rfl <| un1 (v := (B (decide (x_ = [46, 46])))) rfl <| un1 rfl ?_
  refine gjoin 4 (d := 19) (v := (B ((decide (x_ = [46, 46])) && (decide (0 < (out.length : Int)))))) (fun X hX => ?_) ?_
  ·refine split2 (fun hc2 => ?_) (fun hc2 => ?_)
   ·refine gt rfl <| a1 rfl <| gt rfl <| a1 (v := (I (out.length : Int))) (s_lenL rfl (len_nil_of hzout)) <| gt rfl <| a1 (v := (B (decide (0 < (out.length : Int))))) rfl <| un1 (v := (B (decide (0 < (out.length : Int))))) rfl <| dnil ?_
    exact hX _ (.putEq (by rw [hc2]; rfl) (.skip _ _ (.skip _ _ (.skip _ _ (.putEq (by rw [hc2]) (.refl _)) rfl) rfl) rfl))
   ·refine gs rfl rfl <| gs rfl rfl <| gs rfl rfl <| un1 (v := (B false)) rfl <| dnil ?_
    exact hX _ (.putEq (by rw [hc2]; rfl) (.skip _ _ (.skip _ _ (.skip _ _ (.putEq (by rw [hc2]) (.refl _)) rfl) rfl) rfl))
  refine un1 rfl <| dnil ?_
  refine Sv.cond (b := ((decide (x_ = [46, 46])) && (decide (0 < (out.length : Int))))) rfl (fun hc3 => ?_) (fun hc3 => ?_)
  ·replace h := ifT hc3 h
   refine srg <| un1 rfl <| un1 rfl <| un1 (v := (I (out.length : Int))) (s_lenL rfl (len_nil_of hzout)) <| un1 (v := (I (wi ((out.length : Int) - 1)))) rfl ?_
   obtain ⟨r_, hx2, h⟩ := bnd h
   refine un1 (v := (cutV zout 0 1 r_.length out.length)) (s_cutL rfl hzout rfl rfl hx2) <| dweak (show Weak 0 _ ⟨(upd (upd (upd (upd (upd (upd (upd (upd (upd (upd (upd (upd (upd (upd (upd (upd e0 0 (some (.c (.ro false 1 (l_.map eStr))))) 5 (some (S x_))) 6 (some (.c (.ro false 1 (l_.map eStr))))) 7 (some (I (l_.length : Int)))) 8 (some (I v8))) 9 (some (B (decide (v8 < (l_.length : Int)))))) 10 (some (.c (.rop [.str x_])))) 11 (some (S x_))) 12 (some (B ((decide (x_ = [46, 46])) && (decide (0 < (out.length : Int))))))) 13 (some (S x_))) 14 (some (B (decide (x_ = [46, 46]))))) 15 (some (B (decide (x_ = [46, 46]))))) 19 (some (B ((decide (x_ = [46, 46])) && (decide (0 < (out.length : Int))))))) 22 (some (I (out.length : Int)))) 23 (some (I (wi ((out.length : Int) - 1))))) 24 (some (lstV zout 0 1 r_.length))), (upd e0 0 (lstB zout 1 (r_.map eStr))), 1⟩ from (wcn [0] rfl (.cons rfl (.c (cut_ren rfl (by decide) (cut_le hx2))) (.cf rfl rfl (.cf rfl rfl (.cf rfl rfl (.cf rfl rfl (.cf rfl rfl (.cf rfl rfl (.cf rfl rfl (.cf rfl rfl (.cf rfl rfl (.cf rfl rfl (.cf rfl rfl (.cf rfl rfl (.cf rfl rfl (.cf rfl rfl (.cf rfl rfl .nil)))))))))))))))) (.rowP (by decide) rfl (cutP hx2) (fr_map fun _ => rfl) .nil))) <| un1 rfl <| dnil ?_
   exact Sv.weak (wcn [0] rfl (.cf rfl rfl (.cf rfl rfl (.cf rfl rfl (.cons rfl (.c (lstC_ren rfl (by decide))) (.cf rfl rfl .nil))))) (.row (by decide) rfl (fr_map fun _ => rfl) .nil)) (r4_Tidied_j3_ok (cut_nil hzout hx2) h hself hK0 hr)
  ·replace h := ifF hc3 h
   refine ssr <| un1 rfl <| un1 (v := (B (!decide (x_ = [46])))) rfl <| un1 rfl ?_
   refine gjoin 3 (d := 31) (v := (B ((!decide (x_ = [46])) && (!decide (x_ = [46, 46]))))) (fun X hX => ?_) ?_
   ·refine split2 (fun hc4 => ?_) (fun hc4 => ?_)
    ·refine gt rfl <| a1 rfl <| gt rfl <| a1 (v := (B (!decide (x_ = [46, 46])))) rfl <| un1 (v := (B (!decide (x_ = [46, 46])))) rfl <| dnil ?_
     exact hX _ (.putEq (by rw [hc4]; rfl) (.skip _ _ (.skip _ _ (.putEq (by rw [hc4]) (.refl _)) rfl) rfl))
    ·refine gs rfl rfl <| gs rfl rfl <| un1 (v := (B false)) rfl <| dnil ?_
     exact hX _ (.putEq (by rw [hc4]; rfl) (.skip _ _ (.skip _ _ (.putEq (by rw [hc4]) (.refl _)) rfl) rfl))
   refine un1 rfl <| dnil ?_
   refine Sv.cond (b := ((!decide (x_ = [46])) && (!decide (x_ = [46, 46])))) rfl (fun hc5 => ?_) (fun hc5 => ?_)
   ·replace h := ifT hc5 h
    refine srg <| un1 rfl <| un1 rfl <| un <| a2v (v := (lstV false 1 1 [x_].length)) (h' := upd _ 1 (lstB false 1 ([x_].map eStr))) (n' := 2) rfl rfl (fun h => by cases h) ?_
    obtain ⟨r_1, hr1, h⟩ := bnd h
    have hz1 : (zout && [x_].isEmpty) = true → r_1 = [] := app_nil (z := zout) (ys := [x_]) hzout hr1
    refine un <| a2v rfl (s_app (xs := out) (ys := [x_]) (e := eStr) (z := zout) (b := 0) rfl rfl hzout rfl rfl (slc_lst rfl (List.length_map _).symm (map_nil_of (fun h => by cases h))) hr1) (fun h => by cases h) <| un1 rfl <| dnil ?_
    exact Sv.weak (wcn [2] rfl (.cf rfl rfl (.cf rfl rfl (.cf rfl rfl (.cons rfl (.c (lstC_ren rfl (by decide))) (.cf rfl rfl .nil))))) (.row (by decide) rfl (fr_map fun _ => rfl) .nil)) (r4_Tidied_j3_ok hz1 h hself hK0 hr)
   ·replace h := ifF hc5 h
    refine Sv.skip ?_
    exact Sv.weak (wcn [0] rfl (.cf rfl rfl (.cf rfl rfl (.cf rfl rfl (.cons rfl (.c (lstC_ren rfl (by decide))) (.cf rfl rfl .nil))))) (.row (by decide) rfl (fr_map fun _ => rfl) .nil)) (r4_Tidied_j3_ok hzout h hself hK0 hr)
 ·replace h := ifF hc1 h
  refine Sv.exit ?_
  exact hK0 out zout hzout h _ (wcn [0] rfl (.cons rfl (.c (lstC_ren rfl (by decide))) (.cf rfl rfl .nil)) (.row (by decide) rfl (fr_map fun _ => rfl) .nil))
noncomputable def r4_Tidied_j6 (out3 : TT) : Option TT :=
 some out3
theorem r4_Tidied_j6_ok {mL : Int} {out3 : TT} {zout3 : Bool} (hzout3 : zout3 = true → out3 = []) {o : TT} (h : r4_Tidied_j6 out3 = some o) :
  Sv Tryz.prog (GG mL) 0 a35_c3 (Ends a35.results 0 (r4_Tidied_post o)) ⟨(upd e0 3 (some (lstV zout3 0 1 out3.length))), (upd e0 0 (lstB zout3 1 (out3.map eStr))), 1⟩ := by
 unfold r4_Tidied_j6 at h
 refine ssr <| un1 rfl <| un1 rfl <| dnil <| Sv.ret ?_
 replace h := Option.some.inj h
 subst h
 exact ⟨_, .refl _, _, rfl, ⟨upd e0 0 (some (lstV zout3 0 1 out3.length)), (upd e0 0 (lstB zout3 1 (out3.map eStr))), 1⟩, (lstV zout3 0 1 out3.length), weak_canon2 [0] [0] (by decide) (by decide) nlz (.cons (by decide) .nil) (.cons rfl (.c (lstC_ren rfl (by decide))) .nil) (.row (by decide) rfl (fr_map fun _ => rfl) .nil), rfl, zout3, hzout3, rfl, rfl, rfl⟩
abbrev r4_Tidied_q0 (mL : Int) (o : TT) : AExit → St → Prop := AThen (Sv Tryz.prog (GG mL) 0 a35_c3 (Ends a35.results 0 (r4_Tidied_post o))) (Ends a35.results 0 (r4_Tidied_post o))
noncomputable def r4_Tidied_j7 (out4 : TT) (v62 : Bool) : Option TT :=
 if v62 then
  (app? 16 out4 ([[]] : TT)).bind fun r_2 =>
  r4_Tidied_j6 r_2
 else
  r4_Tidied_j6 out4
theorem r4_Tidied_j7_ok {mL : Int} {out4 : TT} {v62 : Bool} {zout4 : Bool} (hzout4 : zout4 = true → out4 = []) {o : TT} (h : r4_Tidied_j7 out4 v62 = some o) :
  Sv Tryz.prog (GG mL) 0 a35_c2 (r4_Tidied_q0 mL o) ⟨(upd (upd e0 3 (some (lstV zout4 0 1 out4.length))) 62 (some (B v62))), (upd e0 0 (lstB zout4 1 (out4.map eStr))), 1⟩ := by
 unfold r4_Tidied_j7 at h
 refine Sv.cond (b := v62) rfl (fun hc6 => ?_) (fun hc6 => ?_)
 ·replace h := ifT hc6 h
  refine srg <| un1 rfl <| un <| a2v (v := (lstV false 1 1 ([[]] : TT).length)) (h' := upd _ 1 (lstB false 1 (([[]] : TT).map eStr))) (n' := 2) rfl rfl (fun h => by cases h) ?_
  obtain ⟨r_2, hr2, h⟩ := bnd h
  have hz2 : (zout4 && ([[]] : TT).isEmpty) = true → r_2 = [] := app_nil (z := zout4) (ys := ([[]] : TT)) hzout4 hr2
  refine un <| a2v rfl (s_app (xs := out4) (ys := ([[]] : TT)) (e := eStr) (z := zout4) (b := 0) rfl rfl hzout4 rfl rfl (slc_lst rfl (List.length_map _).symm (map_nil_of (fun h => by cases h))) hr2) (fun h => by cases h) <| un1 rfl <| dnil ?_
  exact Sv.weak (wcn [2] rfl (.cons rfl (.c (lstC_ren rfl (by decide))) .nil) (.row (by decide) rfl (fr_map fun _ => rfl) .nil)) (r4_Tidied_j6_ok hz2 h)
 ·replace h := ifF hc6 h
  refine Sv.skip ?_
  exact Sv.weak (wcn [0] rfl (.cons rfl (.c (lstC_ren rfl (by decide))) .nil) (.row (by decide) rfl (fr_map fun _ => rfl) .nil)) (r4_Tidied_j6_ok hzout4 h)
/-- clerestory/clerestoryref4.Tidied -/
noncomputable def r4_Tidied (l_ : TT) : Option TT :=
 lim fun kk => r4_Tidied_l0 l_ (fun (out1 : TT) => 
   if decide (0 < (l_.length : Int)) then
    (at? l_ (wi ((l_.length : Int) - 1))).bind fun x_1 =>
    if decide (x_1 = [46]) then
     r4_Tidied_j7 out1 true
    else
     (at? l_ (wi ((l_.length : Int) - 1))).bind fun x_2 =>
     r4_Tidied_j7 out1 ((decide (x_2 = [46, 46])) || (decide ((out1.length : Int) = 0)))
   else
    r4_Tidied_j7 out1 (decide ((out1.length : Int) = 0))) kk ([] : TT) 0
theorem r4_Tidied_ok {mL : Int} {l_ : TT} {r : TT} (h : r4_Tidied l_ = some r) : ACalls Tryz.prog (GG mL) 35 [(.c (.ro false 1 (l_.map eStr)))] e0 0 (r4_Tidied_post r) := by
 refine acalls_of_sv hmix c35 (R := r4_Tidied_post r) ?_
 unfold r4_Tidied at h
 refine ssr <| un1 rfl <| dnil <| ssr <| un1 rfl <| dnil <| Sv.seq <| ssr <| un1 rfl <| un1 (v := (I (l_.length : Int))) (s_len (e := eStr) (xs := l_) rfl) <| un1 rfl <| dnil <| Sv.block ?_
 obtain ⟨kk, h⟩ := lim_some h
 refine Sv.weak (wcn [1000] rfl (.cf rfl rfl (.cf rfl rfl (.cf rfl rfl (.cons rfl (.c (.same rfl)) (.cf rfl rfl .nil))))) (.non (by decide) .nil)) (r4_Tidied_l0_ok (fun _ => rfl) h ?_ (fun s hs => hs))
 ·intro out1 zout1 hzout1 h _ hw1
  refine Sv.weak hw1 <| Sv.seq <| ssr <| un1 rfl <| un1 (v := (I (l_.length : Int))) (s_len (e := eStr) (xs := l_) rfl) <| un1 (v := (B (decide (0 < (l_.length : Int))))) rfl <| un1 rfl ?_
  refine split2 (fun hc7 => ?_) (fun hc7 => ?_)
  ·replace h := ifT hc7 h
   refine gt rfl <| a1 rfl <| gt rfl <| a1 rfl <| gt rfl <| a1 (v := (I (l_.length : Int))) (s_len (e := eStr) (xs := l_) rfl) <| gt rfl <| a1 (v := (I (wi ((l_.length : Int) - 1)))) rfl ?_
   obtain ⟨x_1, hx3, h⟩ := bnd h
   refine gt rfl <| a1 (v := (.c (.rop [.str x_1]))) (s_iaddr (e := eStr) (xs := l_) rfl rfl hx3) <| gt rfl <| a1 (v := (S x_1)) rfl <| gt rfl <| a1 (v := (B (decide (x_1 = [46])))) rfl <| gt rfl <| a1 rfl ?_
   refine split2 (fun hc8 => ?_) (fun hc8 => ?_)
   ·replace h := ifT hc8 h
    refine gs rfl rfl <| gs rfl rfl <| gs rfl rfl <| gs rfl rfl <| gs rfl rfl <| gs rfl rfl <| gs rfl rfl <| gt rfl <| a1 (v := (B true)) rfl <| un1 (v := (B true)) rfl <| un1 rfl <| gs rfl rfl <| gs rfl rfl <| gs rfl rfl <| un1 (v := (B true)) rfl <| dnil ?_
    exact Sv.weak (wcn [0] rfl (.cf rfl rfl (.cons rfl (.c (lstC_ren rfl (by decide))) .nil)) (.row (by decide) rfl (fr_map fun _ => rfl) .nil)) (r4_Tidied_j7_ok hzout1 h)
   ·replace h := ifF hc8 h
    refine gt rfl <| a1 rfl <| gt rfl <| a1 rfl <| gt rfl <| a1 (v := (I (l_.length : Int))) (s_len (e := eStr) (xs := l_) rfl) <| gt rfl <| a1 (v := (I (wi ((l_.length : Int) - 1)))) rfl ?_
    obtain ⟨x_2, hx4, h⟩ := bnd h
    refine gt rfl <| a1 (v := (.c (.rop [.str x_2]))) (s_iaddr (e := eStr) (xs := l_) rfl rfl hx4) <| gt rfl <| a1 (v := (S x_2)) rfl <| gt rfl <| a1 (v := (B (decide (x_2 = [46, 46])))) rfl <| gt rfl <| a1 (v := (B (decide (x_2 = [46, 46])))) rfl <| un1 (v := (B (decide (x_2 = [46, 46])))) rfl <| un1 rfl ?_
    refine gjoin 4 (d := 62) (v := (B ((decide (x_2 = [46, 46])) || (decide ((out1.length : Int) = 0))))) (fun X hX => ?_) ?_
    ·refine split2 (fun hc9 => ?_) (fun hc9 => ?_)
     ·refine gs rfl rfl <| gs rfl rfl <| gs rfl rfl <| un1 (v := (B true)) rfl <| dnil ?_
      exact hX _ (.putEq (by rw [hc9]; rfl) (.skip _ _ (.skip _ _ (.skip _ _ (.putEq (by rw [hc9]) (.refl _)) rfl) rfl) rfl))
     ·refine gt rfl <| a1 rfl <| gt rfl <| a1 (v := (I (out1.length : Int))) (s_lenL rfl (len_nil_of hzout1)) <| gt rfl <| a1 (v := (B (decide ((out1.length : Int) = 0)))) rfl <| un1 (v := (B (decide ((out1.length : Int) = 0)))) rfl <| dnil ?_
      exact hX _ (.putEq (by rw [hc9]; rfl) (.skip _ _ (.skip _ _ (.skip _ _ (.putEq (by rw [hc9]) (.refl _)) rfl) rfl) rfl))
    refine dnil ?_
    exact Sv.weak (wcn [0] rfl (.cf rfl rfl (.cons rfl (.c (lstC_ren rfl (by decide))) .nil)) (.row (by decide) rfl (fr_map fun _ => rfl) .nil)) (r4_Tidied_j7_ok hzout1 h)
  ·replace h := ifF hc7 h
   refine gs rfl rfl <| gs rfl rfl <| gs rfl rfl <| gs rfl rfl <| gs rfl rfl <| gs rfl rfl <| gs rfl rfl <| gs rfl rfl <| gu rfl <| gu rfl <| gu rfl <| gu rfl <| gu rfl <| gu rfl <| gu rfl <| gs rfl rfl <| un1 (v := (B false)) rfl <| un1 rfl <| gt rfl <| a1 rfl <| gt rfl <| a1 (v := (I (out1.length : Int))) (s_lenL rfl (len_nil_of hzout1)) <| gt rfl <| a1 (v := (B (decide ((out1.length : Int) = 0)))) rfl <| un1 (v := (B (decide ((out1.length : Int) = 0)))) rfl <| dnil ?_
   exact Sv.weak (wcn [0] rfl (.cf rfl rfl (.cons rfl (.c (lstC_ren rfl (by decide))) .nil)) (.row (by decide) rfl (fr_map fun _ => rfl) .nil)) (r4_Tidied_j7_ok hzout1 h)
end Go.Proofs.YtjicgjhhiallkaaGreatDoorBv
-- squeezed
