/- Printed by a program of mine (bgen.py): plain functions, and the walks that show that the code comes to what they answer. -/
import Derived.Test.YtkimpaokepfonaaGreatDoorGMediaHolds0
namespace Go.Proofs.YtkimpaokepfonaaGreatDoorBv
open Go
set_option linter.unusedVariables false
set_option linter.unusedSimpArgs false
set_option maxRecDepth 100000
def a22_c0 : ACode := (.cond (.tmp 18) (.region [(mV 21 4), (mV 22 3), (oP 23 (.faddr 1 (.tmp 6))), (oP 24 (.load false 1 (.tmp 23))), (oP 25 (.faddr 1 (.tmp 6))), (oP 26 (.load false 1 (.tmp 25))), (oP 27 (.lenS (.tmp 26))), (oP 28 (.bin .sub (.tmp 27) (kI 1))), (oP 29 (.idxS (.tmp 24) (.tmp 28))), (oP 30 (.mlook (.i .u8) (.c (.val (.int .u8 0))) false (.tmp 22) (.tmp 29))), (oP 31 (.bslice 1 [(.val (.int .u8 0))] 1 [(0, (.tmp 30))])), (oP 32 (.app 1 1 (.tmp 21) (.tmp 31))), (mV 4 32)]) (sr [(oP 34 (.bin .eql (.tmp 17) (kI 11))), (mV 33 34)]
 (.cond (.tmp 33) (.seq (.drawn (.fin [((oP 35 (.faddr 1 (.tmp 6))), (0, 0)), ((oP 36 (.load false 1 (.tmp 35))), (0, 1)), ((oP 37 (.idxS (.tmp 36) (kI 0))), (0, 2)), ((mV 38 4), (0, 3)), ((mV 39 4), (0, 4)), ((oP 40 (.len (.tmp 39))), (0, 5)), ((oP 41 (.bin .sub (.tmp 40) (kI 1))), (0, 6)), ((oP 42 (.iaddr 1 (.tmp 38) (.tmp 41))), (0, 7)), ((oP 43 (.load false 1 (.tmp 42))), (0, 8)), ((oP 44 (.bin .eql (.tmp 37) (.tmp 43))), (0, 9))]))
 (.cond (.tmp 44) (.region [(mV 45 4), (mV 46 4), (oP 47 (.len (.tmp 46))), (oP 48 (.bin .sub (.tmp 47) (kI 1))), (oP 49 (.slSl 1 (.tmp 45) none (some (.tmp 48)) none)), (mV 4 49)]) .skip)) .skip)))
def a22_c2 : ACode := (sr [(mV 50 4), (oP 51 (.len (.tmp 50))), (oP 52 (.bin .eql (.tmp 51) (kI 0)))]
 (.cond (.tmp 52) (sr [(mV 53 5), (oP 54 (.bin .add (.tmp 53) (kI 1))), (mV 2 54)]
 .ret) .skip))
def a22_c1 : ACode := (.region [(oP 55 (.bin .add (.tmp 11) (kI 1))), (mV 11 55)])
def a22_c3 : ACode := (sr [(oP 12 (.bin .lss (.tmp 11) (.tmp 10)))]
 (.seq (.cond (.tmp 12) .skip (.exit 0))
 (.seq (.block 1 (sr [(mV 13 11), (oP 14 (.iaddr 4 (.tmp 9) (.tmp 11))), (oP 15 (.load true 4 (.tmp 14))), (oP 6 (.box (.const (.agg [(.val (.int .i64 0)), (.str []), (.str []), (.val (.int .i64 0))])))), (mV 5 13), (oN (.store 4 (.tmp 6) (.tmp 15)))]
 (.seq (sr [(oP 16 (.faddr 0 (.tmp 6))), (oP 17 (.load false 1 (.tmp 16)))]
 (.block 2 (.seq (sr [(oP 19 (.bin .eql (.tmp 17) (kI 10))), (mV 18 19)]
 (.cond (.tmp 18) .skip (.region [(oP 20 (.bin .eql (.tmp 17) (kI 2))), (mV 18 20)])))
 a22_c0)))
 a22_c2)))
 a22_c1)))
def a22 : AFunc := ⟨1, [(.tmp 2)], (sr [(oP 2 (.mov (kI 0)))]
 (sr [(oP 7 (.mkmap (.i .u8))), (oN (.mput (.i .u8) (.tmp 7) (.const (.c (.val (.int .u8 40)))) (.const (.c (.val (.int .u8 41)))))), (oN (.mput (.i .u8) (.tmp 7) (.const (.c (.val (.int .u8 91)))) (.const (.c (.val (.int .u8 93)))))), (oN (.mput (.i .u8) (.tmp 7) (.const (.c (.val (.int .u8 123)))) (.const (.c (.val (.int .u8 125)))))), (mV 8 7), (mV 3 8)]
 (sr [(oP 4 (.mov (.const (.c (.ro true 1 [])))))]
 (.seq (sr [(mV 9 0), (oP 10 (.len (.tmp 9))), (oP 11 (.mov (kI 0)))]
 (.block 0 (.loop a22_c3)))
 (sr [(oP 2 (.mov (kI 0)))]
 .ret)))))⟩
theorem c22 : compFunc Tryz.prog 22 = some a22 := by kernel_rfl
def Z34 (r : Int) : AV → Heap → Nat → Prop := fun v h' n' => v = (I r) ∧ (h' = e0) ∧ n' = 0
abbrev Z3v (l_ : (List TSToken)) (mp2 : (List (Int × Int))) (F_ : (List Int) → Int → Option Int) (o : Int) (R_ : St → Prop) : Prop := ∀ (want : (List Int)) (v11 : Int) (zwant : Bool) (_ : zwant = true → want = []), F_ want v11 = some o → ∀ s, Weak 0 s ⟨(ue [(11, (I v11)), (10, (I (l_.length : Int))), (9, (.c (.ro false 4 (l_.map e_TSToken)))), (4, (lstV zwant 1 1 want.length)), (3, (.c (.mp 0)))]), (upd (upd e0 0 (mapB (.i .u8) (fun x => .val (.int .u8 x)) (fun (x : Int) => (.c (.val (.int .u8 x)))) mp2)) 1 (lstB zwant 1 (want.map (eK .u8)))), 2⟩ → R_ s
abbrev Z3w (F_ : Unit → Option Int) (o : Int) (R_ : St → Prop) : Prop := ∀ (_ : Unit), F_ () = some o → ∀ s, Weak 0 s ⟨e0, e0, 0⟩ → R_ s
abbrev Z7s (mL : Int) (Q : AExit → St → Prop) : AExit → St → Prop := AThen (Sv Tryz.prog (GG mL) 0 a22_c1 Q) Q
abbrev Z3x (mL : Int) (Q : AExit → St → Prop) : AExit → St → Prop := ABlock 1 (Z7s mL Q)
noncomputable def Zv (v11 : Int) (l_ : (List TSToken)) (mp2 : (List (Int × Int))) (self : (List Int) → Int → Option Int) (K0_ : Unit → Option Int) (want1 : (List Int)) : Option Int :=
 if decide ((want1.length : Int) = 0) then
  some (wi (v11 + 1))
 else
  self want1 (wi (v11 + 1))
theorem Z35 {mL : Int} {Q : AExit → St → Prop} {v11 : Int} {l_ : (List TSToken)} {mp2 : (List (Int × Int))} {self : (List Int) → Int → Option Int} {K0_ : Unit → Option Int} {want1 : (List Int)} {zwant1 : Bool} (hzwant1 : zwant1 = true → want1 = []) {o : Int} (h : Zv v11 l_ mp2 self K0_ want1 = some o)
  (hself : Z3v l_ mp2 self o (Q .normal))
  (hK0 : Z3w K0_ o (Q (.exit 0)))
  (hr : ∀ s, Ends a22.results 0 (Z34 o) .ret s → Q .ret s) :
  Sv Tryz.prog (GG mL) 0 a22_c2 (Z3x mL Q) ⟨(ue [(11, (I v11)), (10, (I (l_.length : Int))), (9, (.c (.ro false 4 (l_.map e_TSToken)))), (5, (I v11)), (4, (lstV zwant1 1 1 want1.length)), (3, (.c (.mp 0)))]), (upd (upd e0 0 (mapB (.i .u8) (fun x => .val (.int .u8 x)) (fun (x : Int) => (.c (.val (.int .u8 x)))) mp2)) 1 (lstB zwant1 1 (want1.map (eK .u8)))), 2⟩ := by
 unfold Zv at h
 refine ssr <| un1 rfl <| un1 (v := (I (want1.length : Int))) (s_lenL rfl (len_nil_of hzwant1)) <| un1 (v := (B (decide ((want1.length : Int) = 0)))) rfl <| dnil ?_
 refine Sv.cnd rfl h (fun h => ?_) fun h => ?_
 ·refine ssr <| un1 rfl <| un1 (v := (I (wi (v11 + 1)))) rfl <| un1 rfl <| dnil <| Sv.ret ?_
  exact hr _ (rt0 h rfl rfl ⟨rfl, rfl, rfl⟩)
 ·refine Sv.skip <| srg <| un1 (v := (I (wi (v11 + 1)))) rfl <| un1 rfl <| dnil ?_
  exact hself want1 (wi (v11 + 1)) zwant1 hzwant1 h _ (wcn [0, 1] rfl (.cf rfl rfl (.cf rfl rfl (.cf rfl rfl (.cons rfl (.c (lsr rfl rfl)) (.cons rfl (.c (.mp rfl (by decide))) .nil))))) (.row (by decide) rfl (fr_map fun _ => rfl) (.box (by decide) rfl .map .nil)))
abbrev Z7t (mL : Int) (Q : AExit → St → Prop) : AExit → St → Prop := AThen (Sv Tryz.prog (GG mL) 0 a22_c2 (Z3x mL Q)) (Z3x mL Q)
abbrev Z7u (mL : Int) (Q : AExit → St → Prop) : AExit → St → Prop := ABlock 2 (Z7t mL Q)
noncomputable def Z1d (x_ : TSToken) (mp2 : (List (Int × Int))) (v11 : Int) (l_ : (List TSToken)) (self : (List Int) → Int → Option Int) (K0_ : Unit → Option Int) (want2 : (List Int)) (v18 : Bool) : Option Int :=
 if v18 then
  (at? x_.Raw (wi ((x_.Raw.length : Int) - 1))).bind fun c_ =>
  (app? 1 want2 [((mget mp2 (c_.toNat : Int)).getD (0 : Int))]).bind fun r_ =>
  Zv v11 l_ mp2 self K0_ r_
 else
  if decide (x_.Kind = 11) then
   (at? x_.Raw 0).bind fun c_1 =>
   (at? want2 (wi ((want2.length : Int) - 1))).bind fun x_1 =>
   if decide ((c_1.toNat : Int) = x_1) then
    (sub? want2 0 (wi ((want2.length : Int) - 1))).bind fun r_1 =>
    Zv v11 l_ mp2 self K0_ r_1
   else
    Zv v11 l_ mp2 self K0_ want2
  else
   Zv v11 l_ mp2 self K0_ want2
theorem Z5b {mL : Int} {Q : AExit → St → Prop} {x_ : TSToken} {mp2 : (List (Int × Int))} {v11 : Int} {l_ : (List TSToken)} {self : (List Int) → Int → Option Int} {K0_ : Unit → Option Int} {want2 : (List Int)} {v18 : Bool} {zwant2 : Bool} (hzwant2 : zwant2 = true → want2 = []) {o : Int} (h : Z1d x_ mp2 v11 l_ self K0_ want2 v18 = some o)
  (hself : Z3v l_ mp2 self o (Q .normal))
  (hK0 : Z3w K0_ o (Q (.exit 0)))
  (hr : ∀ s, Ends a22.results 0 (Z34 o) .ret s → Q .ret s) :
  Sv Tryz.prog (GG mL) 0 a22_c0 (Z7u mL Q) ⟨(ue [(18, (B v18)), (17, (I x_.Kind)), (11, (I v11)), (10, (I (l_.length : Int))), (9, (.c (.ro false 4 (l_.map e_TSToken)))), (6, (.c (.ref 2 4 0 0))), (5, (I v11)), (4, (lstV zwant2 1 1 want2.length)), (3, (.c (.mp 0)))]), (upd (upd (upd e0 0 (mapB (.i .u8) (fun x => .val (.int .u8 x)) (fun (x : Int) => (.c (.val (.int .u8 x)))) mp2)) 1 (lstB zwant2 1 (want2.map (eK .u8)))) 2 (some (.cells 4 [(e_TSToken x_)]))), 3⟩ := by
 unfold Z1d at h
 refine Sv.cnd rfl h (fun h => ?_) fun h => ?_
 ·refine srg <| un1 rfl <| un1 rfl <| un1 (v := (.c (.ref 2 4 0 1))) rfl <| un1 (v := (S x_.Raw)) rfl <| un1 (v := (.c (.ref 2 4 0 1))) rfl <| un1 (v := (S x_.Raw)) rfl <| un1 (v := (I (x_.Raw.length : Int))) rfl <| un1 (v := (I (wi ((x_.Raw.length : Int) - 1)))) rfl ?_
  obtain ⟨c_, hx2, h⟩ := bnd h
  refine un1 (v := (.c (.val (.int .u8 (c_.toNat : Int))))) (s_idxS rfl rfl hx2) <| un1 (v := (.c (.val (.int .u8 ((mget mp2 (c_.toNat : Int)).getD (0 : Int)))))) (s_mlook (ek := (fun x => .val (.int .u8 x))) (ev := (fun (x : Int) => (.c (.val (.int .u8 x))))) (l := mp2) (key := (c_.toNat : Int)) (z := 0) (fun _ _ => rfl) rfl rfl rfl rfl rfl) <| un <| a2v (v := (lstV false 3 1 [((mget mp2 (c_.toNat : Int)).getD (0 : Int))].length)) (h' := upd _ 3 (lstB false 1 ([((mget mp2 (c_.toNat : Int)).getD (0 : Int))].map (eK .u8)))) (n' := 4) rfl rfl hcs ?_
  obtain ⟨r_, hr1, h⟩ := bnd h
  have hz1 : (zwant2 && [((mget mp2 (c_.toNat : Int)).getD (0 : Int))].isEmpty) = true → r_ = [] := app_nil (z := zwant2) (ys := [((mget mp2 (c_.toNat : Int)).getD (0 : Int))]) hzwant2 hr1
  refine un <| a2v rfl (s_app (xs := want2) (ys := [((mget mp2 (c_.toNat : Int)).getD (0 : Int))]) (e := (eK .u8)) (z := zwant2) (b := 1) rfl rfl hzwant2 rfl rfl (slc_lst rfl (List.length_map _).symm (map_nil_of hcs)) hr1) hcs <| un1 rfl <| dnil ?_
  exact Sv.weak (wcn [0, 4] rfl (.cf rfl rfl (.cf rfl rfl (.cf rfl rfl (.cf rfl rfl (.cons rfl (.c (lsr rfl rfl)) (.cons rfl (.c (.mp rfl (by decide))) .nil)))))) (.row (by decide) rfl (fr_map fun _ => rfl) (.box (by decide) rfl .map .nil))) (Z35 hz1 h hself hK0 hr)
 ·refine ssr <| un1 (v := (B (decide (x_.Kind = 11)))) rfl <| un1 rfl <| dnil ?_
  refine Sv.cnd rfl h (fun h => ?_) fun h => ?_
  ·refine Sv.seq <| Sv.drawn <| un1 (v := (.c (.ref 2 4 0 1))) rfl <| un1 (v := (S x_.Raw)) rfl ?_
   obtain ⟨c_1, hx3, h⟩ := bnd h
   refine un1 (v := (.c (.val (.int .u8 (c_1.toNat : Int))))) (s_idxS rfl rfl hx3) <| un1 rfl <| un1 rfl <| un1 (v := (I (want2.length : Int))) (s_lenL rfl (len_nil_of hzwant2)) <| un1 (v := (I (wi ((want2.length : Int) - 1)))) rfl ?_
   obtain ⟨x_1, hx4, h⟩ := bnd h
   refine un1 (v := (.c (.ref 1 1 (wi ((want2.length : Int) - 1)).toNat 0))) (s_iaddrL rfl rfl hzwant2 hx4) <| un1 (v := (.c (.val (.int .u8 x_1)))) (s_loadL (z := zwant2) (e := (eK .u8)) rfl rfl hzwant2 hx4 rfl rfl) <| un1 (v := (B (decide ((c_1.toNat : Int) = x_1)))) rfl <| dnil ?_
   refine Sv.cnd rfl h (fun h => ?_) fun h => ?_
   ·refine srg <| un1 rfl <| un1 rfl <| un1 (v := (I (want2.length : Int))) (s_lenL rfl (len_nil_of hzwant2)) <| un1 (v := (I (wi ((want2.length : Int) - 1)))) rfl ?_
    obtain ⟨r_1, hx5, h⟩ := bnd h
    refine un1 (v := (cutV zwant2 1 1 r_1.length want2.length)) (s_cutL rfl hzwant2 rfl rfl hx5) <| dweak (show Weak 0 _ ⟨(ue [(49, (lstV zwant2 1 1 r_1.length)), (48, (I (wi ((want2.length : Int) - 1)))), (47, (I (want2.length : Int))), (44, (B (decide ((c_1.toNat : Int) = x_1)))), (43, (.c (.val (.int .u8 x_1)))), (41, (I (wi ((want2.length : Int) - 1)))), (40, (I (want2.length : Int))), (37, (.c (.val (.int .u8 (c_1.toNat : Int))))), (36, (S x_.Raw)), (35, (.c (.ref 2 4 0 1))), (34, (B (decide (x_.Kind = 11)))), (33, (B (decide (x_.Kind = 11)))), (18, (B v18)), (17, (I x_.Kind)), (11, (I v11)), (10, (I (l_.length : Int))), (9, (.c (.ro false 4 (l_.map e_TSToken)))), (6, (.c (.ref 2 4 0 0))), (5, (I v11)), (3, (.c (.mp 0)))]), (upd (upd (upd e0 0 (mapB (.i .u8) (fun x => .val (.int .u8 x)) (fun (x : Int) => (.c (.val (.int .u8 x)))) mp2)) 1 (lstB zwant2 1 (r_1.map (eK .u8)))) 2 (some (.cells 4 [(e_TSToken x_)]))), 3⟩ from (wcn [0, 1, 2] rfl (.cons rfl (.c (cut_ren rfl (by decide) (cut_le hx5))) (.cf rfl rfl (.cf rfl rfl (.cf rfl rfl (.cf rfl rfl (.cf rfl rfl (.cf rfl rfl (.cf rfl rfl (.cf rfl rfl (.cr rfl rfl rfl (.cf rfl rfl (.cf rfl rfl (.cf rfl rfl (.cf rfl rfl (.cf rfl rfl (.cf rfl rfl (.cf rfl rfl (.cr rfl rfl rfl (.cf rfl rfl (.cons rfl (.c (.mp rfl (by decide))) .nil)))))))))))))))))))) (.box (by decide) rfl (blkAs_cells (.sm rfl (.sm rfl (.sm rfl (.sm rfl .nil))))) (.rowP (by decide) rfl (cutP hx5) (fr_map fun _ => rfl) (.box (by decide) rfl .map .nil))))) <| un1 rfl <| dnil ?_
    exact Sv.weak (wcn [0, 1] rfl (.cf rfl rfl (.cf rfl rfl (.cf rfl rfl (.cf rfl rfl (.cons rfl (.c (lsr rfl rfl)) (.cons rfl (.c (.mp rfl (by decide))) .nil)))))) (.row (by decide) rfl (fr_map fun _ => rfl) (.box (by decide) rfl .map .nil))) (Z35 (cut_nil hzwant2 hx5) h hself hK0 hr)
   ·refine Sv.skip ?_
    exact Sv.weak (wcn [0, 1] rfl (.cf rfl rfl (.cf rfl rfl (.cf rfl rfl (.cf rfl rfl (.cons rfl (.c (lsr rfl rfl)) (.cons rfl (.c (.mp rfl (by decide))) .nil)))))) (.row (by decide) rfl (fr_map fun _ => rfl) (.box (by decide) rfl .map .nil))) (Z35 hzwant2 h hself hK0 hr)
  ·refine Sv.skip ?_
   exact Sv.weak (wcn [0, 1] rfl (.cf rfl rfl (.cf rfl rfl (.cf rfl rfl (.cf rfl rfl (.cons rfl (.c (lsr rfl rfl)) (.cons rfl (.c (.mp rfl (by decide))) .nil)))))) (.row (by decide) rfl (fr_map fun _ => rfl) (.box (by decide) rfl .map .nil))) (Z35 hzwant2 h hself hK0 hr)
abbrev Z5c (l_ : (List TSToken)) (mp2 : (List (Int × Int))) (F_ : Nat → (List Int) → Int → Option Int) (o : Int) : Nat → St → Prop := fun k s => ∃ (want : (List Int)), ∃ (v11 : Int), ∃ (zwant : Bool), (zwant = true → want = []) ∧ F_ k want v11 = some o ∧ s = ⟨(ue [(11, (I v11)), (10, (I (l_.length : Int))), (9, (.c (.ro false 4 (l_.map e_TSToken)))), (4, (lstV zwant 1 1 want.length)), (3, (.c (.mp 0)))]), (upd (upd e0 0 (mapB (.i .u8) (fun x => .val (.int .u8 x)) (fun (x : Int) => (.c (.val (.int .u8 x)))) mp2)) 1 (lstB zwant 1 (want.map (eK .u8)))), 2⟩
noncomputable def Zh (l_ : (List TSToken)) (mp2 : (List (Int × Int))) (K0_ : Unit → Option Int) : Nat → (List Int) → Int → Option Int
 | 0, _, _ => none
 | k + 1, want, v11 =>
  if decide (v11 < (l_.length : Int)) then
   (at? l_ v11).bind fun x_ =>
   if decide (x_.Kind = 10) then
    Z1d x_ mp2 v11 l_ (Zh l_ mp2 K0_ k) K0_ want (decide (x_.Kind = 10))
   else
    Z1d x_ mp2 v11 l_ (Zh l_ mp2 K0_ k) K0_ want (decide (x_.Kind = 2))
  else
   K0_ ()
theorem Z7v {mL : Int} {Q : AExit → St → Prop} {l_ : (List TSToken)} {mp2 : (List (Int × Int))} {K0_ : Unit → Option Int} {k : Nat} {want : (List Int)} {v11 : Int} {zwant : Bool} (hzwant : zwant = true → want = []) {o : Int} (h : Zh l_ mp2 K0_ k want v11 = some o)
  (hK0 : Z3w K0_ o (Q (.exit 0)))
  (hr : ∀ s, Ends a22.results 0 (Z34 o) .ret s → Q .ret s) :
  Sv Tryz.prog (GG mL) 0 (.loop a22_c3) Q ⟨(ue [(11, (I v11)), (10, (I (l_.length : Int))), (9, (.c (.ro false 4 (l_.map e_TSToken)))), (4, (lstV zwant 1 1 want.length)), (3, (.c (.mp 0)))]), (upd (upd e0 0 (mapB (.i .u8) (fun x => .val (.int .u8 x)) (fun (x : Int) => (.c (.val (.int .u8 x)))) mp2)) 1 (lstB zwant 1 (want.map (eK .u8)))), 2⟩ := by
 refine Sv.loop (I := Z5c l_ mp2 (Zh l_ mp2 K0_) o) (fun k s hI => ?_) ⟨want, v11, zwant, hzwant, h, rfl⟩
 clear h
 clear hzwant zwant v11 want
 obtain ⟨want, v11, zwant, hzwant, h, rfl⟩ := hI
 cases k with
 | zero => cases h
 | succ k =>
 rw [Zh] at h
 have hself : Z3v l_ mp2 (Zh l_ mp2 K0_ k) o (rnd 0 (Z5c l_ mp2 (Zh l_ mp2 K0_) o) k Q) := fun want v11 zwant hzwant h s hw => ⟨_, k, hw, Nat.lt_succ_self k, want, v11, zwant, hzwant, h, rfl⟩
 refine ssr <| un1 (v := (B (decide (v11 < (l_.length : Int))))) rfl <| dnil <| Sv.seq ?_
 refine Sv.cnd rfl h (fun h => ?_) fun h => ?_
 ·refine Sv.skip <| Sv.seq <| Sv.block <| ssr <| un1 rfl ?_
  obtain ⟨x_, hx1, h⟩ := bnd h
  refine un1 (v := (.c (.rop (e_TSToken x_)))) (s_iaddr (e := e_TSToken) (xs := l_) rfl rfl hx1) <| un1 (v := (.agg (e_TSToken x_))) rfl <| un <| a2v (v := (.c (.ref 2 4 0 0))) (h' := upd _ 2 (some (.cells 4 [[cI 0, .str [], .str [], cI 0]]))) (n' := 3) rfl rfl hcs <| un1 rfl <| un <| a2n (h' := upd _ 2 (some (.cells 4 [(e_TSToken x_)]))) (n' := 3) rfl rfl hcs <| dnil <| Sv.seq <| ssr <| un1 (v := (.c (.ref 2 4 0 0))) rfl <| un1 (v := (I x_.Kind)) rfl <| dnil <| Sv.block <| Sv.seq <| ssr <| un1 (v := (B (decide (x_.Kind = 10)))) rfl <| un1 rfl <| dnil ?_
  refine Sv.cnd rfl h (fun h => ?_) fun h => ?_
  ·refine Sv.skip ?_
   exact Sv.weak (wcn [0, 1, 2] rfl (.cf rfl rfl (.cf rfl rfl (.cf rfl rfl (.cf rfl rfl (.cf rfl rfl (.cr rfl rfl rfl (.cf rfl rfl (.cons rfl (.c (lsr rfl rfl)) (.cons rfl (.c (.mp rfl (by decide))) .nil))))))))) (.box (by decide) rfl (blkAs_cells (.sm rfl (.sm rfl (.sm rfl (.sm rfl .nil))))) (.row (by decide) rfl (fr_map fun _ => rfl) (.box (by decide) rfl .map .nil)))) (Z5b hzwant h hself hK0 hr)
  ·refine srg <| un1 (v := (B (decide (x_.Kind = 2)))) rfl <| un1 rfl <| dnil ?_
   exact Sv.weak (wcn [0, 1, 2] rfl (.cf rfl rfl (.cf rfl rfl (.cf rfl rfl (.cf rfl rfl (.cf rfl rfl (.cr rfl rfl rfl (.cf rfl rfl (.cons rfl (.c (lsr rfl rfl)) (.cons rfl (.c (.mp rfl (by decide))) .nil))))))))) (.box (by decide) rfl (blkAs_cells (.sm rfl (.sm rfl (.sm rfl (.sm rfl .nil))))) (.row (by decide) rfl (fr_map fun _ => rfl) (.box (by decide) rfl .map .nil)))) (Z5b hzwant h hself hK0 hr)
 ·refine Sv.exit ?_
  exact hK0 () h _ (wcn [] rfl .nil .nil)
/-- clerestory/media.end -/
noncomputable def Z1x (l_ : (List TSToken)) : Option Int :=
 letIn (mset ([] : List (Int × Int)) 40 41) fun mp : (List (Int × Int)) =>
 letIn (mset mp 91 93) fun mp1 : (List (Int × Int)) =>
 letIn (mset mp1 123 125) fun mp2 : (List (Int × Int)) =>
 limF fun kk => Zh l_ mp2 (fun (_ : Unit) => 
   some 0) kk ([] : List Int) 0
theorem Z5d {mL : Int} {l_ : (List TSToken)} {r : Int} (h : Z1x l_ = some r) : CPure Tryz.prog (GG mL) 22 [(.c (.ro false 4 (l_.map e_TSToken)))] (I r) := by
 refine acalls_of_sv hmix c22 (R := Z34 r) ?_
 unfold Z1x at h
 refine ssr <| un1 rfl <| dnil <| ssr <| un <| a2v (v := (.c (.mp 0))) (h' := upd _ 0 (mapB (.i .u8) (fun x => .val (.int .u8 x)) (fun (x : Int) => (.c (.val (.int .u8 x)))) ([] : List (Int × Int)))) (n' := 1) rfl rfl hcs ?_
 obtain ⟨mp, hmp⟩ : ∃ mp : (List (Int × Int)), mp = (mset ([] : List (Int × Int)) 40 41) := ⟨_, rfl⟩
 replace h := letAt hmp h
 refine un <| a2n (h' := upd _ 0 (mapB (.i .u8) (fun x => .val (.int .u8 x)) (fun (x : Int) => (.c (.val (.int .u8 x)))) mp)) (n' := 1) rfl (by rw [hmp]; exact s_mput (ek := (fun x => .val (.int .u8 x))) (ev := (fun (x : Int) => (.c (.val (.int .u8 x))))) (l := ([] : List (Int × Int))) (key := 40) (val := 41) (fun _ _ => rfl) rfl rfl rfl rfl rfl rfl) hcs ?_
 clear hmp
 obtain ⟨mp1, hmp1⟩ : ∃ mp1 : (List (Int × Int)), mp1 = (mset mp 91 93) := ⟨_, rfl⟩
 replace h := letAt hmp1 h
 refine un <| a2n (h' := upd _ 0 (mapB (.i .u8) (fun x => .val (.int .u8 x)) (fun (x : Int) => (.c (.val (.int .u8 x)))) mp1)) (n' := 1) rfl (by rw [hmp1]; exact s_mput (ek := (fun x => .val (.int .u8 x))) (ev := (fun (x : Int) => (.c (.val (.int .u8 x))))) (l := mp) (key := 91) (val := 93) (fun _ _ => rfl) rfl rfl rfl rfl rfl rfl) hcs ?_
 clear hmp1
 obtain ⟨mp2, hmp2⟩ : ∃ mp2 : (List (Int × Int)), mp2 = (mset mp1 123 125) := ⟨_, rfl⟩
 replace h := letAt hmp2 h
 refine un <| a2n (h' := upd _ 0 (mapB (.i .u8) (fun x => .val (.int .u8 x)) (fun (x : Int) => (.c (.val (.int .u8 x)))) mp2)) (n' := 1) rfl (by rw [hmp2]; exact s_mput (ek := (fun x => .val (.int .u8 x))) (ev := (fun (x : Int) => (.c (.val (.int .u8 x))))) (l := mp1) (key := 123) (val := 125) (fun _ _ => rfl) rfl rfl rfl rfl rfl rfl) hcs ?_
 clear hmp2
 refine un1 rfl <| un1 rfl <| dnil <| ssr <| un1 rfl <| dnil <| Sv.seq <| ssr <| un1 rfl <| un1 (v := (I (l_.length : Int))) (s_len (e := e_TSToken) (xs := l_) rfl) <| un1 rfl <| dnil <| Sv.block ?_
 obtain ⟨kk, h⟩ := limF_some h
 refine Sv.weak (wcn [0, 1000] rfl (.cf rfl rfl (.cf rfl rfl (.cf rfl rfl (.cons rfl (.c (.same rfl)) (.cons rfl (.c (.mp rfl (by decide))) .nil))))) (.non (by decide) (.box (by decide) rfl .map .nil))) (Z7v (fun _ => rfl) h ?_ (fun s hs => hs))
 ·intro _ h _ hw1
  refine Sv.weak hw1 <| ssr <| un1 rfl <| dnil <| Sv.ret ?_
  exact rt0 h rfl rfl ⟨rfl, rfl, rfl⟩
def a17_c0 : ACode := (.region [(mV 37 5), (mV 38 7), (oP 39 (.bin .sub (.tmp 38) (kI 1))), (oP 40 (.bin .add (.tmp 37) (.tmp 39))), (mV 5 40)])
def a17_c1 : ACode := (.region [(mV 12 5), (oP 13 (.bin .add (.tmp 12) (kI 1))), (mV 5 13)])
def a17_c2 : ACode := (.seq (sr [(mV 8 5), (mV 9 0), (oP 10 (.len (.tmp 9))), (oP 11 (.bin .lss (.tmp 8) (.tmp 10)))]
 (.cond (.tmp 11) .skip (.exit 0)))
 (.seq (.block 1 (sr [(mV 14 0), (mV 15 5), (oP 16 (.iaddr 4 (.tmp 14) (.tmp 15))), (oP 17 (.load true 4 (.tmp 16))), (oP 6 (.box (.const (.agg [(.val (.int .i64 0)), (.str []), (.str []), (.val (.int .i64 0))])))), (oN (.store 4 (.tmp 6) (.tmp 17)))]
 (.block 2 (sr [(oP 19 (.faddr 0 (.tmp 6))), (oP 20 (.load false 1 (.tmp 19))), (oP 21 (.bin .eql (.tmp 20) (kI 10))), (mV 22 21), ⟨(some 23), (.faddr 0 (.tmp 6)), (some (22, false))⟩, ⟨(some 24), (.load false 1 (.tmp 23)), (some (22, false))⟩, ⟨(some 25), (.bin .eql (.tmp 24) (kI 2)), (some (22, false))⟩, (oP 26 (.pick (.tmp 22) kT (.tmp 25))), (mV 18 26)]
 (.cond (.tmp 18) (sr [(mV 27 0), (mV 28 5), (oP 29 (.slSl 4 (.tmp 27) (some (.tmp 28)) none none)), (oP 30 (.call 22 [(.tmp 29)])), (mV 7 30)]
 (.seq (sr [(mV 31 7), (oP 32 (.bin .eql (.tmp 31) (kI 0)))]
 (.cond (.tmp 32) (.region [(mV 33 0), (oP 34 (.len (.tmp 33))), (mV 35 5), (oP 36 (.bin .sub (.tmp 34) (.tmp 35))), (mV 7 36)]) .skip))
 a17_c0)) (sr [(oP 42 (.faddr 0 (.tmp 6))), (oP 43 (.load false 1 (.tmp 42))), (oP 44 (.bin .eql (.tmp 43) (kI 12))), (mV 45 44), ⟨(some 46), (.faddr 1 (.tmp 6)), (some (45, true))⟩, ⟨(some 47), (.load false 1 (.tmp 46)), (some (45, true))⟩, ⟨(some 48), (.bin .eql (.tmp 47) (.const (.c (.str [44])))), (some (45, true))⟩, (oP 49 (.pick (.tmp 45) (.tmp 48) kF)), (mV 41 49)]
 (.cond (.tmp 41) (sr [(mV 50 3), (mV 51 0), (mV 52 4), (mV 53 5), (oP 54 (.slSl 4 (.tmp 51) (some (.tmp 52)) (some (.tmp 53)) none)), (oP 55 (.bslice 1 [(.ro true 4 [])] 1 [(0, (.tmp 54))])), (oP 56 (.app 1 24 (.tmp 50) (.tmp 55))), (mV 3 56)]
 (.region [(mV 57 5), (oP 58 (.bin .add (.tmp 57) (kI 1))), (mV 4 58)])) .skip)))))))
 a17_c1))
def a17 : AFunc := ⟨1, [(.tmp 2)], (sr [(oP 2 (.mov (.const (.c (.ro true 1 [])))))]
 (sr [(oP 3 (.mov (.const (.c (.ro true 1 [])))))]
 (sr [(oP 4 (.mov (kI 0)))]
 (.seq (sr [(oP 5 (.mov (kI 0)))]
 (.block 0 (.loop a17_c2)))
 (sr [(mV 59 3), (mV 60 0), (mV 61 4), (oP 62 (.slSl 4 (.tmp 60) (some (.tmp 61)) none none)), (oP 63 (.bslice 1 [(.ro true 4 [])] 1 [(0, (.tmp 62))])), (oP 64 (.app 1 24 (.tmp 59) (.tmp 63))), (mV 2 64)]
 .ret)))))⟩
theorem c17 : compFunc Tryz.prog 17 = some a17 := by kernel_rfl
def Z2n (r : (List (List TSToken))) : AV → Heap → Nat → Prop := fun v h' n' => ∃ z0 : Bool, (z0 = true → r = []) ∧ v = (lstV z0 0 1 r.length) ∧ (h' = (upd e0 0 (lstB z0 1 (r.map (eSl 4 e_TSToken))))) ∧ n' = 1
abbrev Z3y (l_ : (List TSToken)) (F_ : (List (List TSToken)) → Int → Int → Option (List (List TSToken))) (o : (List (List TSToken))) (R_ : St → Prop) : Prop := ∀ (out : (List (List TSToken))) (from_ : Int) (i_ : Int) (zout : Bool) (_ : zout = true → out = []), F_ out from_ i_ = some o → ∀ s, Weak 0 s ⟨(ue [(5, (I i_)), (4, (I from_)), (3, (lstV zout 0 1 out.length)), (0, (.c (.ro false 4 (l_.map e_TSToken))))]), (upd e0 0 (lstB zout 1 (out.map (eSl 4 e_TSToken)))), 1⟩ → R_ s
abbrev Z3z (l_ : (List TSToken)) (F_ : (List (List TSToken)) → Int → Option (List (List TSToken))) (o : (List (List TSToken))) (R_ : St → Prop) : Prop := ∀ (out1 : (List (List TSToken))) (from_1 : Int) (zout1 : Bool) (_ : zout1 = true → out1 = []), F_ out1 from_1 = some o → ∀ s, Weak 0 s ⟨(ue [(4, (I from_1)), (3, (lstV zout1 0 1 out1.length)), (0, (.c (.ro false 4 (l_.map e_TSToken))))]), (upd e0 0 (lstB zout1 1 (out1.map (eSl 4 e_TSToken)))), 1⟩ → R_ s
noncomputable def Z13 (l_ : (List TSToken)) (self : (List (List TSToken)) → Int → Int → Option (List (List TSToken))) (K0_ : (List (List TSToken)) → Int → Option (List (List TSToken))) (out2 : (List (List TSToken))) (from_2 : Int) (i_1 : Int) : Option (List (List TSToken)) :=
 self out2 from_2 (wi (i_1 + 1))
theorem Z40 {mL : Int} {Q : AExit → St → Prop} {l_ : (List TSToken)} {self : (List (List TSToken)) → Int → Int → Option (List (List TSToken))} {K0_ : (List (List TSToken)) → Int → Option (List (List TSToken))} {out2 : (List (List TSToken))} {from_2 : Int} {i_1 : Int} {zout2 : Bool} (hzout2 : zout2 = true → out2 = []) {o : (List (List TSToken))} (h : Z13 l_ self K0_ out2 from_2 i_1 = some o)
  (hself : Z3y l_ self o (Q .normal))
  (hK0 : Z3z l_ K0_ o (Q (.exit 0)))
  (hr : ∀ s, Ends a17.results 0 (Z2n o) .ret s → Q .ret s) :
  Sv Tryz.prog (GG mL) 0 a17_c1 Q ⟨(ue [(5, (I i_1)), (4, (I from_2)), (3, (lstV zout2 0 1 out2.length)), (0, (.c (.ro false 4 (l_.map e_TSToken))))]), (upd e0 0 (lstB zout2 1 (out2.map (eSl 4 e_TSToken)))), 1⟩ := by
 unfold Z13 at h
 refine srg <| un1 rfl <| un1 (v := (I (wi (i_1 + 1)))) rfl <| un1 rfl <| dnil ?_
 exact hself out2 from_2 (wi (i_1 + 1)) zout2 hzout2 h _ (wcn [0] rfl (.cf rfl rfl (.cf rfl rfl (.cons rfl (.c (lsr rfl rfl)) (.cf rfl rfl .nil)))) (.row (by decide) rfl (fr_map fun _ => rfl) .nil))
abbrev Z7w (mL : Int) (Q : AExit → St → Prop) : AExit → St → Prop := AThen (Sv Tryz.prog (GG mL) 0 a17_c1 Q) Q
abbrev Z7x (mL : Int) (Q : AExit → St → Prop) : AExit → St → Prop := ABlock 1 (Z7w mL Q)
abbrev Z7y (mL : Int) (Q : AExit → St → Prop) : AExit → St → Prop := ABlock 2 (Z7x mL Q)
noncomputable def Z2o (l_ : (List TSToken)) (from_ : Int) (i_ : Int) (self : (List (List TSToken)) → Int → Int → Option (List (List TSToken))) (K0_ : (List (List TSToken)) → Int → Option (List (List TSToken))) (out3 : (List (List TSToken))) (n_ : Int) : Option (List (List TSToken)) :=
 Z13 l_ self K0_ out3 from_ (wi (i_ + (wi (n_ - 1))))
theorem Z5e {mL : Int} {Q : AExit → St → Prop} {l_ : (List TSToken)} {from_ : Int} {i_ : Int} {self : (List (List TSToken)) → Int → Int → Option (List (List TSToken))} {K0_ : (List (List TSToken)) → Int → Option (List (List TSToken))} {out3 : (List (List TSToken))} {n_ : Int} {zout3 : Bool} (hzout3 : zout3 = true → out3 = []) {o : (List (List TSToken))} (h : Z2o l_ from_ i_ self K0_ out3 n_ = some o)
  (hself : Z3y l_ self o (Q .normal))
  (hK0 : Z3z l_ K0_ o (Q (.exit 0)))
  (hr : ∀ s, Ends a17.results 0 (Z2n o) .ret s → Q .ret s) :
  Sv Tryz.prog (GG mL) 0 a17_c0 (Z7y mL Q) ⟨(ue [(7, (I n_)), (5, (I i_)), (4, (I from_)), (3, (lstV zout3 0 1 out3.length)), (0, (.c (.ro false 4 (l_.map e_TSToken))))]), (upd e0 0 (lstB zout3 1 (out3.map (eSl 4 e_TSToken)))), 1⟩ := by
 unfold Z2o at h
 refine srg <| un1 rfl <| un1 rfl <| un1 (v := (I (wi (n_ - 1)))) rfl <| un1 (v := (I (wi (i_ + (wi (n_ - 1)))))) rfl <| un1 rfl <| dnil ?_
 exact Sv.weak (wcn [0] rfl (.cf rfl rfl (.cf rfl rfl (.cons rfl (.c (lsr rfl rfl)) (.cf rfl rfl .nil)))) (.row (by decide) rfl (fr_map fun _ => rfl) .nil)) (Z40 hzout3 h hself hK0 hr)
abbrev Z5f (l_ : (List TSToken)) (F_ : Nat → (List (List TSToken)) → Int → Int → Option (List (List TSToken))) (o : (List (List TSToken))) : Nat → St → Prop := fun k s => ∃ (out : (List (List TSToken))), ∃ (from_ : Int), ∃ (i_ : Int), ∃ (zout : Bool), (zout = true → out = []) ∧ F_ k out from_ i_ = some o ∧ s = ⟨(ue [(5, (I i_)), (4, (I from_)), (3, (lstV zout 0 1 out.length)), (0, (.c (.ro false 4 (l_.map e_TSToken))))]), (upd e0 0 (lstB zout 1 (out.map (eSl 4 e_TSToken)))), 1⟩
noncomputable def Z4 (l_ : (List TSToken)) (K0_ : (List (List TSToken)) → Int → Option (List (List TSToken))) : Nat → (List (List TSToken)) → Int → Int → Option (List (List TSToken))
 | 0, _, _, _ => none
 | k + 1, out, from_, i_ =>
  if decide (i_ < (l_.length : Int)) then
   (at? l_ i_).bind fun x_ =>
   if ((decide (x_.Kind = 10)) || (decide (x_.Kind = 2))) then
    (sub? l_ i_ (l_.length : Int)).bind fun r_ =>
    (Z1x r_).bind fun r_1 =>
    if decide (r_1 = 0) then
     Z2o l_ from_ i_ (Z4 l_ K0_ k) K0_ out (wi ((l_.length : Int) - i_))
    else
     Z2o l_ from_ i_ (Z4 l_ K0_ k) K0_ out r_1
   else
    if ((decide (x_.Kind = 12)) && (decide (x_.Raw = [44]))) then
     (sub? l_ from_ i_).bind fun r_2 =>
     (app? 24 out [r_2]).bind fun r_3 =>
     Z13 l_ (Z4 l_ K0_ k) K0_ r_3 (wi (i_ + 1)) i_
    else
     Z13 l_ (Z4 l_ K0_ k) K0_ out from_ i_
  else
   K0_ out from_
theorem Z7z {mL : Int} {Q : AExit → St → Prop} {l_ : (List TSToken)} {K0_ : (List (List TSToken)) → Int → Option (List (List TSToken))} {k : Nat} {out : (List (List TSToken))} {from_ : Int} {i_ : Int} {zout : Bool} (hzout : zout = true → out = []) {o : (List (List TSToken))} (h : Z4 l_ K0_ k out from_ i_ = some o)
  (hK0 : Z3z l_ K0_ o (Q (.exit 0)))
  (hr : ∀ s, Ends a17.results 0 (Z2n o) .ret s → Q .ret s) :
  Sv Tryz.prog (GG mL) 0 (.loop a17_c2) Q ⟨(ue [(5, (I i_)), (4, (I from_)), (3, (lstV zout 0 1 out.length)), (0, (.c (.ro false 4 (l_.map e_TSToken))))]), (upd e0 0 (lstB zout 1 (out.map (eSl 4 e_TSToken)))), 1⟩ := by
 refine Sv.loop (I := Z5f l_ (Z4 l_ K0_) o) (fun k s hI => ?_) ⟨out, from_, i_, zout, hzout, h, rfl⟩
 clear h
 clear hzout zout i_ from_ out
 obtain ⟨out, from_, i_, zout, hzout, h, rfl⟩ := hI
 cases k with
 | zero => cases h
 | succ k =>
 rw [Z4] at h
 have hself : Z3y l_ (Z4 l_ K0_ k) o (rnd 0 (Z5f l_ (Z4 l_ K0_) o) k Q) := fun out from_ i_ zout hzout h s hw => ⟨_, k, hw, Nat.lt_succ_self k, out, from_, i_, zout, hzout, h, rfl⟩
 refine Sv.seq <| ssr <| un1 rfl <| un1 rfl <| un1 (v := (I (l_.length : Int))) (s_len (e := e_TSToken) (xs := l_) rfl) <| un1 (v := (B (decide (i_ < (l_.length : Int))))) rfl <| dnil ?_
 refine Sv.cnd rfl h (fun h => ?_) fun h => ?_
 ·refine Sv.skip <| Sv.seq <| Sv.block <| ssr <| un1 rfl <| un1 rfl ?_
  obtain ⟨x_, hx1, h⟩ := bnd h
  refine un1 (v := (.c (.rop (e_TSToken x_)))) (s_iaddr (e := e_TSToken) (xs := l_) rfl rfl hx1) <| un1 (v := (.agg (e_TSToken x_))) rfl <| un <| a2v (v := (.c (.ref 1 4 0 0))) (h' := upd _ 1 (some (.cells 4 [[cI 0, .str [], .str [], cI 0]]))) (n' := 2) rfl rfl hcs <| un <| a2n (h' := upd _ 1 (some (.cells 4 [(e_TSToken x_)]))) (n' := 2) rfl rfl hcs <| dnil <| Sv.block <| ssr <| un1 (v := (.c (.ref 1 4 0 0))) rfl <| un1 (v := (I x_.Kind)) rfl <| un1 (v := (B (decide (x_.Kind = 10)))) rfl <| un1 rfl ?_
  refine gjoin 4 (d := 26) (v := (B ((decide (x_.Kind = 10)) || (decide (x_.Kind = 2))))) (fun X hX => ?_) ?_
  ·refine split2 (fun hc2 => ?_) (fun hc2 => ?_)
   ·refine gs rfl rfl <| gs rfl rfl <| gs rfl rfl <| un1 (v := (B true)) rfl <| dnil ?_
    exact hX _ (.putEq (by rw [hc2]; rfl) (.skp (.skp (.skp (.putEq (by rw [hc2]) (.refl _)) rfl) rfl) rfl))
   ·refine gt rfl <| a1 (v := (.c (.ref 1 4 0 0))) rfl <| gt rfl <| a1 (v := (I x_.Kind)) rfl <| gt rfl <| a1 (v := (B (decide (x_.Kind = 2)))) rfl <| un1 (v := (B (decide (x_.Kind = 2)))) rfl <| dnil ?_
    exact hX _ (.putEq (by rw [hc2]; rfl) (.skp (.skp (.skp (.putEq (by rw [hc2]) (.refl _)) rfl) rfl) rfl))
  refine un1 rfl <| dnil ?_
  refine Sv.cnd rfl h (fun h => ?_) fun h => ?_
  ·refine ssr <| un1 rfl <| un1 rfl ?_
   obtain ⟨r_, hx2, h⟩ := bnd h
   refine un1 (v := (.c (.ro false 4 (r_.map e_TSToken)))) (s_slSl (e := e_TSToken) rfl rfl rfl hx2) ?_
   obtain ⟨r_1, hr1, h⟩ := bnd h
   refine un <| ac_pure (Z5d hr1) rfl rfl rfl <| un1 rfl <| dnil <| Sv.seq <| ssr <| un1 rfl <| un1 (v := (B (decide (r_1 = 0)))) rfl <| dnil ?_
   refine Sv.cnd rfl h (fun h => ?_) fun h => ?_
   ·refine srg <| un1 rfl <| un1 (v := (I (l_.length : Int))) (s_len (e := e_TSToken) (xs := l_) rfl) <| un1 rfl <| un1 (v := (I (wi ((l_.length : Int) - i_)))) rfl <| un1 rfl <| dnil ?_
    exact Sv.weak (wcn [0] rfl (.cf rfl rfl (.cf rfl rfl (.cf rfl rfl (.cons rfl (.c (lsr rfl rfl)) (.cf rfl rfl .nil))))) (.row (by decide) rfl (fr_map fun _ => rfl) .nil)) (Z5e hzout h hself hK0 hr)
   ·refine Sv.skip ?_
    exact Sv.weak (wcn [0] rfl (.cf rfl rfl (.cf rfl rfl (.cf rfl rfl (.cons rfl (.c (lsr rfl rfl)) (.cf rfl rfl .nil))))) (.row (by decide) rfl (fr_map fun _ => rfl) .nil)) (Z5e hzout h hself hK0 hr)
  ·refine ssr <| un1 (v := (.c (.ref 1 4 0 0))) rfl <| un1 (v := (I x_.Kind)) rfl <| un1 (v := (B (decide (x_.Kind = 12)))) rfl <| un1 rfl ?_
   refine gjoin 4 (d := 49) (v := (B ((decide (x_.Kind = 12)) && (decide (x_.Raw = [44]))))) (fun X hX => ?_) ?_
   ·refine split2 (fun hc5 => ?_) (fun hc5 => ?_)
    ·refine gt rfl <| a1 (v := (.c (.ref 1 4 0 1))) rfl <| gt rfl <| a1 (v := (S x_.Raw)) rfl <| gt rfl <| a1 (v := (B (decide (x_.Raw = [44])))) rfl <| un1 (v := (B (decide (x_.Raw = [44])))) rfl <| dnil ?_
     exact hX _ (.putEq (by rw [hc5]; rfl) (.skp (.skp (.skp (.putEq (by rw [hc5]) (.refl _)) rfl) rfl) rfl))
    ·refine gs rfl rfl <| gs rfl rfl <| gs rfl rfl <| un1 (v := (B false)) rfl <| dnil ?_
     exact hX _ (.putEq (by rw [hc5]; rfl) (.skp (.skp (.skp (.putEq (by rw [hc5]) (.refl _)) rfl) rfl) rfl))
   refine un1 rfl <| dnil ?_
   refine Sv.cnd rfl h (fun h => ?_) fun h => ?_
   ·refine ssr <| un1 rfl <| un1 rfl <| un1 rfl <| un1 rfl ?_
    obtain ⟨r_2, hx3, h⟩ := bnd h
    refine un1 (v := (.c (.ro false 4 (r_2.map e_TSToken)))) (s_slSl (e := e_TSToken) rfl rfl rfl hx3) <| un <| a2v (v := (lstV false 2 1 [r_2].length)) (h' := upd _ 2 (lstB false 1 ([r_2].map (eSl 4 e_TSToken)))) (n' := 3) rfl rfl hcs ?_
    obtain ⟨r_3, hr2, h⟩ := bnd h
    have hz1 : (zout && [r_2].isEmpty) = true → r_3 = [] := app_nil (z := zout) (ys := [r_2]) hzout hr2
    refine un <| a2v rfl (s_app (xs := out) (ys := [r_2]) (e := (eSl 4 e_TSToken)) (z := zout) (b := 0) rfl rfl hzout rfl rfl (slc_lst rfl (List.length_map _).symm (map_nil_of hcs)) hr2) hcs <| un1 rfl <| dnil <| srg <| un1 rfl <| un1 (v := (I (wi (i_ + 1)))) rfl <| un1 rfl <| dnil ?_
    exact Sv.weak (wcn [3] rfl (.cf rfl rfl (.cf rfl rfl (.cons rfl (.c (lsr rfl rfl)) (.cf rfl rfl .nil)))) (.row (by decide) rfl (fr_map fun _ => rfl) .nil)) (Z40 hz1 h hself hK0 hr)
   ·refine Sv.skip ?_
    exact Sv.weak (wcn [0] rfl (.cf rfl rfl (.cf rfl rfl (.cons rfl (.c (lsr rfl rfl)) (.cf rfl rfl .nil)))) (.row (by decide) rfl (fr_map fun _ => rfl) .nil)) (Z40 hzout h hself hK0 hr)
 ·refine Sv.exit ?_
  exact hK0 out from_ zout hzout h _ (wcn [0] rfl (.cf rfl rfl (.cons rfl (.c (lsr rfl rfl)) (.cf rfl rfl .nil))) (.row (by decide) rfl (fr_map fun _ => rfl) .nil))
/-- clerestory/media.pieces -/
noncomputable def Z2p (l_ : (List TSToken)) : Option (List (List TSToken)) :=
 limF fun kk => Z4 l_ (fun (out1 : (List (List TSToken))) (from_1 : Int) => 
   (sub? l_ from_1 (l_.length : Int)).bind fun r_4 =>
   (app? 24 out1 [r_4]).bind fun r_5 =>
   some r_5) kk ([] : List (List TSToken)) 0 0
theorem Z80 {mL : Int} {l_ : (List TSToken)} {r : (List (List TSToken))} (h : Z2p l_ = some r) : ACalls Tryz.prog (GG mL) 17 [(.c (.ro false 4 (l_.map e_TSToken)))] e0 0 (Z2n r) := by
 refine acalls_of_sv hmix c17 (R := Z2n r) ?_
 unfold Z2p at h
 refine ssr <| un1 rfl <| dnil <| ssr <| un1 rfl <| dnil <| ssr <| un1 rfl <| dnil <| Sv.seq <| ssr <| un1 rfl <| dnil <| Sv.block ?_
 obtain ⟨kk, h⟩ := limF_some h
 refine Sv.weak (wcn [1000] rfl (.cf rfl rfl (.cf rfl rfl (.cons rfl (.c (.same rfl)) (.cf rfl rfl .nil)))) (.non (by decide) .nil)) (Z7z (fun _ => rfl) h ?_ (fun s hs => hs))
 ·intro out1 from_1 zout1 hzout1 h _ hw1
  refine Sv.weak hw1 <| ssr <| un1 rfl <| un1 rfl <| un1 rfl ?_
  obtain ⟨r_4, hx4, h⟩ := bnd h
  refine un1 (v := (.c (.ro false 4 (r_4.map e_TSToken)))) (s_slSl (e := e_TSToken) rfl rfl rfl hx4) <| un <| a2v (v := (lstV false 1 1 [r_4].length)) (h' := upd _ 1 (lstB false 1 ([r_4].map (eSl 4 e_TSToken)))) (n' := 2) rfl rfl hcs ?_
  obtain ⟨r_5, hr3, h⟩ := bnd h
  have hz2 : (zout1 && [r_4].isEmpty) = true → r_5 = [] := app_nil (z := zout1) (ys := [r_4]) hzout1 hr3
  refine un <| a2v rfl (s_app (xs := out1) (ys := [r_4]) (e := (eSl 4 e_TSToken)) (z := zout1) (b := 0) rfl rfl hzout1 rfl rfl (slc_lst rfl (List.length_map _).symm (map_nil_of hcs)) hr3) hcs <| un1 rfl <| dnil <| Sv.ret ?_
  replace h := Option.some.inj h
  subst h
  exact ⟨_, .refl _, _, rfl, ⟨upd e0 0 (some (lstV (zout1 && [r_4].isEmpty) 0 1 r_5.length)), (upd e0 0 (lstB (zout1 && [r_4].isEmpty) 1 (r_5.map (eSl 4 e_TSToken)))), 1⟩, (lstV (zout1 && [r_4].isEmpty) 0 1 r_5.length), weak_canon2 [2] [0] (by decide) (by decide) nlz (.cons (by decide) .nil) (.cons rfl (.c (lsr rfl rfl)) .nil) (.row (by decide) rfl (fr_map fun _ => rfl) .nil), rfl, (zout1 && [r_4].isEmpty), hz2, rfl, rfl, rfl⟩
def a38_c0 : ACode := (.region [(oP 26 (.bin .add (.tmp 10) (kI 1))), (mV 10 26)])
def a38_c1 : ACode := (sr [(oP 11 (.bin .lss (.tmp 10) (.tmp 9)))]
 (.seq (.cond (.tmp 11) .skip (.exit 0))
 (.seq (.block 1 (sr [(mV 12 10), (oP 13 (.iaddr 1 (.tmp 8) (.tmp 10))), (oP 14 (.load false 1 (.tmp 13))), (mV 4 12), (mV 5 14)]
 (sr [(mV 15 5), (oP 16 (.bin .geq (.tmp 15) (.const (.c (.val (.int .u8 65)))))), (mV 17 16), ⟨(some 18), (.mov (.tmp 5)), (some (17, true))⟩, ⟨(some 19), (.bin .leq (.tmp 18) (.const (.c (.val (.int .u8 90))))), (some (17, true))⟩, (oP 20 (.pick (.tmp 17) (.tmp 19) kF))]
 (.cond (.tmp 20) (.region [(mV 21 3), (mV 22 4), (mV 23 5), (oP 24 (.bin .add (.tmp 23) (.const (.c (.val (.int .u8 32)))))), (oP 25 (.iaddr 1 (.tmp 21) (.tmp 22))), (oN (.store 1 (.tmp 25) (.tmp 24)))]) .skip))))
 a38_c0)))
def a38 : AFunc := ⟨1, [(.tmp 2)], (sr [(oP 2 (.mov (.const (.c (.str [])))))]
 (sr [(mV 6 0), (oP 7 (.toBytes (.tmp 6))), (mV 3 7)]
 (.seq (sr [(mV 8 3), (oP 9 (.len (.tmp 8))), (oP 10 (.mov (kI 0)))]
 (.block 0 (.loop a38_c1)))
 (sr [(mV 27 3), (oP 28 (.ofBytes (.tmp 27))), (mV 2 28)]
 .ret))))⟩
theorem c38 : compFunc Tryz.prog 38 = some a38 := by kernel_rfl
def Z41 (r : Tx) : AV → Heap → Nat → Prop := fun v h' n' => v = (S r) ∧ (h' = e0) ∧ n' = 0
abbrev Z5g (F_ : (List Int) → Int → Int → Option Tx) (o : Tx) (R_ : St → Prop) : Prop := ∀ (b_ : (List Int)) (v9 : Int) (v10 : Int) (zb : Bool) (_ : zb = true → b_ = []), F_ b_ v9 v10 = some o → ∀ s, Weak 0 s ⟨(ue [(10, (I v10)), (9, (I v9)), (8, (lstV zb 0 1 b_.length)), (3, (lstV zb 0 1 b_.length))]), (upd e0 0 (lstB zb 1 (b_.map (eK .u8)))), 1⟩ → R_ s
abbrev Z5h (F_ : (List Int) → Option Tx) (o : Tx) (R_ : St → Prop) : Prop := ∀ (b_1 : (List Int)) (zb_1 : Bool) (_ : zb_1 = true → b_1 = []), F_ b_1 = some o → ∀ s, Weak 0 s ⟨(upd e0 3 (some (lstV zb_1 0 1 b_1.length))), (upd e0 0 (lstB zb_1 1 (b_1.map (eK .u8)))), 1⟩ → R_ s
noncomputable def Z36 (v9 : Int) (v10 : Int) (self : (List Int) → Int → Int → Option Tx) (K0_ : (List Int) → Option Tx) (b_2 : (List Int)) : Option Tx :=
 self b_2 v9 (wi (v10 + 1))
theorem Z5i {mL : Int} {Q : AExit → St → Prop} {v9 : Int} {v10 : Int} {self : (List Int) → Int → Int → Option Tx} {K0_ : (List Int) → Option Tx} {b_2 : (List Int)} {zb_2 : Bool} (hzb_2 : zb_2 = true → b_2 = []) {o : Tx} (h : Z36 v9 v10 self K0_ b_2 = some o)
  (hself : Z5g self o (Q .normal))
  (hK0 : Z5h K0_ o (Q (.exit 0)))
  (hr : ∀ s, Ends a38.results 0 (Z41 o) .ret s → Q .ret s) :
  Sv Tryz.prog (GG mL) 0 a38_c0 Q ⟨(ue [(10, (I v10)), (9, (I v9)), (8, (lstV zb_2 0 1 b_2.length)), (3, (lstV zb_2 0 1 b_2.length))]), (upd e0 0 (lstB zb_2 1 (b_2.map (eK .u8)))), 1⟩ := by
 unfold Z36 at h
 refine srg <| un1 (v := (I (wi (v10 + 1)))) rfl <| un1 rfl <| dnil ?_
 exact hself b_2 v9 (wi (v10 + 1)) zb_2 hzb_2 h _ (wcn [0] rfl (.cf rfl rfl (.cf rfl rfl (.cons rfl (.c (lsr rfl rfl)) (.cons rfl (.c (lsr rfl rfl)) .nil)))) (.row (by decide) rfl (fr_map fun _ => rfl) .nil))
abbrev Z5j (F_ : Nat → (List Int) → Int → Int → Option Tx) (o : Tx) : Nat → St → Prop := fun k s => ∃ (b_ : (List Int)), ∃ (v9 : Int), ∃ (v10 : Int), ∃ (zb : Bool), (zb = true → b_ = []) ∧ F_ k b_ v9 v10 = some o ∧ s = ⟨(ue [(10, (I v10)), (9, (I v9)), (8, (lstV zb 0 1 b_.length)), (3, (lstV zb 0 1 b_.length))]), (upd e0 0 (lstB zb 1 (b_.map (eK .u8)))), 1⟩
noncomputable def Z14 (K0_ : (List Int) → Option Tx) : Nat → (List Int) → Int → Int → Option Tx
 | 0, _, _, _ => none
 | k + 1, b_, v9, v10 =>
  if decide (v10 < v9) then
   (at? b_ v10).bind fun x_ =>
   if ((decide (65 ≤ x_)) && (decide (x_ ≤ 90))) then
    (at? b_ v10).bind fun x_1 =>
    Z36 v9 v10 (Z14 K0_ k) K0_ (b_.set v10.toNat (wr .u8 (x_ + 32)))
   else
    Z36 v9 v10 (Z14 K0_ k) K0_ b_
  else
   K0_ b_
theorem Z81 {mL : Int} {Q : AExit → St → Prop} {K0_ : (List Int) → Option Tx} {k : Nat} {b_ : (List Int)} {v9 : Int} {v10 : Int} {zb : Bool} (hzb : zb = true → b_ = []) {o : Tx} (h : Z14 K0_ k b_ v9 v10 = some o)
  (hK0 : Z5h K0_ o (Q (.exit 0)))
  (hr : ∀ s, Ends a38.results 0 (Z41 o) .ret s → Q .ret s) :
  Sv Tryz.prog (GG mL) 0 (.loop a38_c1) Q ⟨(ue [(10, (I v10)), (9, (I v9)), (8, (lstV zb 0 1 b_.length)), (3, (lstV zb 0 1 b_.length))]), (upd e0 0 (lstB zb 1 (b_.map (eK .u8)))), 1⟩ := by
 refine Sv.loop (I := Z5j (Z14 K0_) o) (fun k s hI => ?_) ⟨b_, v9, v10, zb, hzb, h, rfl⟩
 clear h
 clear hzb zb v10 v9 b_
 obtain ⟨b_, v9, v10, zb, hzb, h, rfl⟩ := hI
 cases k with
 | zero => cases h
 | succ k =>
 rw [Z14] at h
 have hself : Z5g (Z14 K0_ k) o (rnd 0 (Z5j (Z14 K0_) o) k Q) := fun b_ v9 v10 zb hzb h s hw => ⟨_, k, hw, Nat.lt_succ_self k, b_, v9, v10, zb, hzb, h, rfl⟩
 refine ssr <| un1 (v := (B (decide (v10 < v9)))) rfl <| dnil <| Sv.seq ?_
 refine Sv.cnd rfl h (fun h => ?_) fun h => ?_
 ·refine Sv.skip <| Sv.seq <| Sv.block <| ssr <| un1 rfl ?_
  obtain ⟨x_, hx1, h⟩ := bnd h
  refine un1 (v := (.c (.ref 0 1 v10.toNat 0))) (s_iaddrL rfl rfl hzb hx1) <| un1 (v := (.c (.val (.int .u8 x_)))) (s_loadL (z := zb) (e := (eK .u8)) rfl rfl hzb hx1 rfl rfl) <| un1 rfl <| un1 rfl <| dnil <| ssr <| un1 rfl <| un1 (v := (B (decide (65 ≤ x_)))) rfl <| un1 rfl ?_
  refine gjoin 3 (d := 20) (v := (B ((decide (65 ≤ x_)) && (decide (x_ ≤ 90))))) (fun X hX => ?_) ?_
  ·refine split2 (fun hc2 => ?_) (fun hc2 => ?_)
   ·refine gt rfl <| a1 rfl <| gt rfl <| a1 (v := (B (decide (x_ ≤ 90)))) rfl <| un1 (v := (B (decide (x_ ≤ 90)))) rfl <| dnil ?_
    exact hX _ (.putEq (by rw [hc2]; rfl) (.skp (.skp (.putEq (by rw [hc2]) (.refl _)) rfl) rfl))
   ·refine gs rfl rfl <| gs rfl rfl <| un1 (v := (B false)) rfl <| dnil ?_
    exact hX _ (.putEq (by rw [hc2]; rfl) (.skp (.skp (.putEq (by rw [hc2]) (.refl _)) rfl) rfl))
  refine dnil ?_
  refine Sv.cnd rfl h (fun h => ?_) fun h => ?_
  ·refine srg <| un1 rfl <| un1 rfl <| un1 rfl <| un1 (v := (.c (.val (.int .u8 (wr .u8 (x_ + 32)))))) rfl ?_
   obtain ⟨x_1, hx2, h⟩ := bnd h
   refine un1 (v := (.c (.ref 0 1 v10.toNat 0))) (s_iaddrL rfl rfl hzb hx2) <| un <| a2n (h' := upd _ 0 (lstB zb 1 ((b_.set v10.toNat (wr .u8 (x_ + 32))).map (eK .u8)))) (n' := 1) rfl (s_storeL (e := (eK .u8)) (q' := (wr .u8 (x_ + 32))) rfl rfl hzb hx2 rfl rfl rfl (Nat.le_of_ble_eq_true rfl) rfl) hcs ?_
   try rw [len_set b_ v10.toNat (wr .u8 (x_ + 32))]
   refine dnil ?_
   exact Sv.weak (wcn [0] rfl (.cf rfl rfl (.cf rfl rfl (.cons rfl (.c (lsr rfl rfl)) (.cons rfl (.c (lsr rfl rfl)) .nil)))) (.row (by decide) rfl (fr_map fun _ => rfl) .nil)) (Z5i (hz_len hzb (len_set b_ v10.toNat (wr .u8 (x_ + 32)))) h hself hK0 hr)
  ·refine Sv.skip ?_
   exact Sv.weak (wcn [0] rfl (.cf rfl rfl (.cf rfl rfl (.cons rfl (.c (lsr rfl rfl)) (.cons rfl (.c (lsr rfl rfl)) .nil)))) (.row (by decide) rfl (fr_map fun _ => rfl) .nil)) (Z5i hzb h hself hK0 hr)
 ·refine Sv.exit ?_
  exact hK0 b_ zb hzb h _ (wcn [0] rfl (.cons rfl (.c (lsr rfl rfl)) .nil) (.row (by decide) rfl (fr_map fun _ => rfl) .nil))
/-- clerestory/media.lower -/
noncomputable def Z42 (s_ : Tx) : Option Tx :=
 limF fun kk => Z14 (fun (b_1 : (List Int)) => 
   some (byts b_1)) kk (ints s_) ((ints s_).length : Int) 0
theorem Z82 {mL : Int} {s_ : Tx} {r : Tx} (h : Z42 s_ = some r) : CPure Tryz.prog (GG mL) 38 [(S s_)] (S r) := by
 refine acalls_of_sv hmix c38 (R := Z41 r) ?_
 unfold Z42 at h
 refine ssr <| un1 rfl <| dnil <| ssr <| un1 rfl <| un <| a2v (v := (lstV false 0 1 (ints s_).length)) (h' := upd _ 0 (lstB false 1 ((ints s_).map (eK .u8)))) (n' := 1) rfl (s_toBytes rfl) hcs <| un1 rfl <| dnil <| Sv.seq <| ssr <| un1 rfl <| un1 (v := (I ((ints s_).length : Int))) (s_lenL rfl (len_nil_of hcs)) <| un1 rfl <| dnil <| Sv.block ?_
 obtain ⟨kk, h⟩ := limF_some h
 refine Sv.weak (wcn [0] rfl (.cf rfl rfl (.cf rfl rfl (.cons rfl (.c (lsr rfl rfl)) (.cons rfl (.c (lsr rfl rfl)) .nil)))) (.row (by decide) rfl (fr_map fun _ => rfl) .nil)) (Z81 hcs h ?_ (fun s hs => hs))
 ·intro b_1 zb_1 hzb_1 h _ hw1
  refine Sv.weak hw1 <| ssr <| un1 rfl <| un1 (v := (S (byts b_1))) (s_ofBytes (xs := b_1) rfl (slc_lst rfl (List.length_map _).symm (map_nil_of hzb_1))) <| un1 rfl <| dnil <| Sv.ret ?_
  exact rt0 h rfl rfl ⟨rfl, rfl, rfl⟩
def a23 : AFunc := ⟨1, [(.tmp 2)], (sr [(oP 1 (.box (.tmp 0))), (oP 2 (.mov (.const (.c (.str [])))))]
 (.seq (sr [(oP 3 (.faddr 0 (.tmp 1))), (oP 4 (.load false 1 (.tmp 3))), (oP 5 (.bin .neq (.tmp 4) (kI 1)))]
 (.cond (.tmp 5) (sr [(oP 2 (.mov (.const (.c (.str [])))))]
 .ret) .skip))
 (sr [(oP 6 (.faddr 2 (.tmp 1))), (oP 7 (.load false 1 (.tmp 6))), (oP 8 (.call 38 [(.tmp 7)])), (mV 2 8)]
 .ret)))⟩
theorem c23 : compFunc Tryz.prog 23 = some a23 := by kernel_rfl
def Z83 (r : Tx) : AV → Heap → Nat → Prop := fun v h' n' => v = (S r) ∧ (h' = e0) ∧ n' = 0
/-- clerestory/media.word -/
noncomputable def Zc (t_ : TSToken) : Option Tx :=
 if (!decide (t_.Kind = 1)) then
  some []
 else
  (Z42 t_.Value).bind fun r_ =>
  some r_
theorem Z2q {mL : Int} {t_ : TSToken} {r : Tx} (h : Zc t_ = some r) : CPure Tryz.prog (GG mL) 23 [(.agg (e_TSToken t_))] (S r) := by
 refine acalls_of_sv hmix c23 (R := Z83 r) ?_
 unfold Zc at h
 refine ssr <| un <| a2v (v := (.c (.ref 0 4 0 0))) (h' := upd _ 0 (some (.cells 4 [(e_TSToken t_)]))) (n' := 1) rfl rfl hcs <| un1 rfl <| dnil <| Sv.seq <| ssr <| un1 (v := (.c (.ref 0 4 0 0))) rfl <| un1 (v := (I t_.Kind)) rfl <| un1 (v := (B (!decide (t_.Kind = 1)))) rfl <| dnil ?_
 refine Sv.cnd rfl h (fun h => ?_) fun h => ?_
 ·refine ssr <| un1 rfl <| dnil <| Sv.ret ?_
  exact rt0 h rfl rfl ⟨rfl, rfl, rfl⟩
 ·refine Sv.skip <| ssr <| un1 (v := (.c (.ref 0 4 0 2))) rfl <| un1 (v := (S t_.Value)) rfl ?_
  obtain ⟨r_, hr1, h⟩ := bnd h
  refine un <| ac_pure (Z82 hr1) rfl rfl rfl <| un1 rfl <| dnil <| Sv.ret ?_
  exact rt0 h rfl rfl ⟨rfl, rfl, rfl⟩
def a24_c0 : ACode := (sr [(oP 7 (.bin .lss (.tmp 6) (kI 12)))]
 (.seq (.cond (.tmp 7) .skip (.exit 0))
 (.seq (.block 1 (sr [(mV 8 6), (oP 9 (.idxA false 12 1 (.tmp 5) (.tmp 6))), (mV 3 8), (mV 4 9)]
 (sr [(mV 10 3), (oP 11 (.bin .gtr (.tmp 10) (kI 0))), (mV 12 11), ⟨(some 13), (.mov (.tmp 4)), (some (12, true))⟩, ⟨(some 14), (.mov (.tmp 0)), (some (12, true))⟩, ⟨(some 15), (.bin .eql (.tmp 13) (.tmp 14)), (some (12, true))⟩, (oP 16 (.pick (.tmp 12) (.tmp 15) kF))]
 (.cond (.tmp 16) (sr [(mV 17 3), (mV 2 17)]
 .ret) .skip))))
 (.region [(oP 18 (.bin .add (.tmp 6) (kI 1))), (mV 6 18)]))))
def a24 : AFunc := ⟨1, [(.tmp 2)], (sr [(oP 2 (.mov (kI 0)))]
 (.seq (sr [(oP 5 (.load true 12 (.glob 0))), (oP 6 (.mov (kI 0)))]
 (.block 0 (.loop a24_c0)))
 (sr [(oP 2 (.mov (kI 12)))]
 .ret)))⟩
theorem c24 : compFunc Tryz.prog 24 = some a24 := by kernel_rfl
def Z5k (r : Int) : AV → Heap → Nat → Prop := fun v h' n' => v = (I r) ∧ (h' = e0) ∧ n' = 0
def Z5l : TT := [[], [97, 108, 108], [115, 99, 114, 101, 101, 110], [112, 114, 105, 110, 116], [109, 105, 110, 45, 119, 105, 100, 116, 104], [109, 97, 120, 45, 119, 105, 100, 116, 104], [109, 105, 110, 45, 104, 101, 105, 103, 104, 116], [109, 97, 120, 45, 104, 101, 105, 103, 104, 116], [112, 114, 101, 102, 101, 114, 115, 45, 99, 111, 108, 111, 114, 45, 115, 99, 104, 101, 109, 101, 58, 100, 97, 114, 107], [112, 114, 101, 102, 101, 114, 115, 45, 99, 111, 108, 111, 114, 45, 115, 99, 104, 101, 109, 101, 58, 108, 105, 103, 104, 116], [111, 114, 105, 101, 110, 116, 97, 116, 105, 111, 110, 58, 112, 111, 114, 116, 114, 97, 105, 116], [111, 114, 105, 101, 110, 116, 97, 116, 105, 111, 110, 58, 108, 97, 110, 100, 115, 99, 97, 112, 101]]
abbrev Z84 (F_ : Unit → Option Int) (o : Int) (R_ : St → Prop) : Prop := ∀ (_ : Unit), F_ () = some o → ∀ s, Weak 0 s ⟨e0, e0, 0⟩ → R_ s
abbrev Z5m (word : Tx) (F_ : Nat → Int → Option Int) (o : Int) : Nat → St → Prop := fun k s => ∃ (v6 : Int), F_ k v6 = some o ∧ s = ⟨(ue [(6, (I v6)), (5, (.agg [.str [], .str [97, 108, 108], .str [115, 99, 114, 101, 101, 110], .str [112, 114, 105, 110, 116], .str [109, 105, 110, 45, 119, 105, 100, 116, 104], .str [109, 97, 120, 45, 119, 105, 100, 116, 104], .str [109, 105, 110, 45, 104, 101, 105, 103, 104, 116], .str [109, 97, 120, 45, 104, 101, 105, 103, 104, 116], .str [112, 114, 101, 102, 101, 114, 115, 45, 99, 111, 108, 111, 114, 45, 115, 99, 104, 101, 109, 101, 58, 100, 97, 114, 107], .str [112, 114, 101, 102, 101, 114, 115, 45, 99, 111, 108, 111, 114, 45, 115, 99, 104, 101, 109, 101, 58, 108, 105, 103, 104, 116], .str [111, 114, 105, 101, 110, 116, 97, 116, 105, 111, 110, 58, 112, 111, 114, 116, 114, 97, 105, 116], .str [111, 114, 105, 101, 110, 116, 97, 116, 105, 111, 110, 58, 108, 97, 110, 100, 115, 99, 97, 112, 101]])), (0, (S word))]), e0, 0⟩
abbrev Z85 (word : Tx) (F_ : Int → Option Int) (o : Int) (R_ : St → Prop) : Prop := ∀ (v6 : Int), F_ v6 = some o → ∀ s, Weak 0 s ⟨(ue [(6, (I v6)), (5, (.agg [.str [], .str [97, 108, 108], .str [115, 99, 114, 101, 101, 110], .str [112, 114, 105, 110, 116], .str [109, 105, 110, 45, 119, 105, 100, 116, 104], .str [109, 97, 120, 45, 119, 105, 100, 116, 104], .str [109, 105, 110, 45, 104, 101, 105, 103, 104, 116], .str [109, 97, 120, 45, 104, 101, 105, 103, 104, 116], .str [112, 114, 101, 102, 101, 114, 115, 45, 99, 111, 108, 111, 114, 45, 115, 99, 104, 101, 109, 101, 58, 100, 97, 114, 107], .str [112, 114, 101, 102, 101, 114, 115, 45, 99, 111, 108, 111, 114, 45, 115, 99, 104, 101, 109, 101, 58, 108, 105, 103, 104, 116], .str [111, 114, 105, 101, 110, 116, 97, 116, 105, 111, 110, 58, 112, 111, 114, 116, 114, 97, 105, 116], .str [111, 114, 105, 101, 110, 116, 97, 116, 105, 111, 110, 58, 108, 97, 110, 100, 115, 99, 97, 112, 101]])), (0, (S word))]), e0, 0⟩ → R_ s
noncomputable def Z1e (word : Tx) (K0_ : Unit → Option Int) : Nat → Int → Option Int
 | 0, _ => none
 | k + 1, v6 =>
  if decide (v6 < 12) then
   (at? Z5l v6).bind fun x_ =>
   if ((decide (0 < v6)) && (decide (x_ = word))) then
    some v6
   else
    (Z1e word K0_ k) (wi (v6 + 1))
  else
   K0_ ()
theorem Z86 {mL : Int} {Q : AExit → St → Prop} {word : Tx} {K0_ : Unit → Option Int} {k : Nat} {v6 : Int} {o : Int} (h : Z1e word K0_ k v6 = some o)
  (hK0 : Z84 K0_ o (Q (.exit 0)))
  (hr : ∀ s, Ends a24.results 0 (Z5k o) .ret s → Q .ret s) :
  Sv Tryz.prog (GG mL) 0 (.loop a24_c0) Q ⟨(ue [(6, (I v6)), (5, (.agg [.str [], .str [97, 108, 108], .str [115, 99, 114, 101, 101, 110], .str [112, 114, 105, 110, 116], .str [109, 105, 110, 45, 119, 105, 100, 116, 104], .str [109, 97, 120, 45, 119, 105, 100, 116, 104], .str [109, 105, 110, 45, 104, 101, 105, 103, 104, 116], .str [109, 97, 120, 45, 104, 101, 105, 103, 104, 116], .str [112, 114, 101, 102, 101, 114, 115, 45, 99, 111, 108, 111, 114, 45, 115, 99, 104, 101, 109, 101, 58, 100, 97, 114, 107], .str [112, 114, 101, 102, 101, 114, 115, 45, 99, 111, 108, 111, 114, 45, 115, 99, 104, 101, 109, 101, 58, 108, 105, 103, 104, 116], .str [111, 114, 105, 101, 110, 116, 97, 116, 105, 111, 110, 58, 112, 111, 114, 116, 114, 97, 105, 116], .str [111, 114, 105, 101, 110, 116, 97, 116, 105, 111, 110, 58, 108, 97, 110, 100, 115, 99, 97, 112, 101]])), (0, (S word))]), e0, 0⟩ := by
 refine Sv.loop (I := Z5m word (Z1e word K0_) o) (fun k s hI => ?_) ⟨v6, h, rfl⟩
 clear h
 clear v6
 obtain ⟨v6, h, rfl⟩ := hI
 cases k with
 | zero => cases h
 | succ k =>
 rw [Z1e] at h
 have hself : Z85 word (Z1e word K0_ k) o (rnd 0 (Z5m word (Z1e word K0_) o) k Q) := fun v6 h s hw => ⟨_, k, hw, Nat.lt_succ_self k, v6, h, rfl⟩
 refine ssr <| un1 (v := (B (decide (v6 < 12)))) rfl <| dnil <| Sv.seq ?_
 refine Sv.cnd rfl h (fun h => ?_) fun h => ?_
 ·refine Sv.skip <| Sv.seq <| Sv.block <| ssr <| un1 rfl ?_
  obtain ⟨x_, hx1, h⟩ := bnd h
  refine un1 (v := (S x_)) (s_idxA (L := Z5l) (v := fun q => (S q)) rfl rfl rfl (.cons rfl (.cons rfl (.cons rfl (.cons rfl (.cons rfl (.cons rfl (.cons rfl (.cons rfl (.cons rfl (.cons rfl (.cons rfl (.cons rfl .nil)))))))))))) hx1) <| un1 rfl <| un1 rfl <| dnil <| ssr <| un1 rfl <| un1 (v := (B (decide (0 < v6)))) rfl <| un1 rfl ?_
  refine gjoin 4 (d := 16) (v := (B ((decide (0 < v6)) && (decide (x_ = word))))) (fun X hX => ?_) ?_
  ·refine split2 (fun hc2 => ?_) (fun hc2 => ?_)
   ·refine gt rfl <| a1 rfl <| gt rfl <| a1 rfl <| gt rfl <| a1 (v := (B (decide (x_ = word)))) rfl <| un1 (v := (B (decide (x_ = word)))) rfl <| dnil ?_
    exact hX _ (.putEq (by rw [hc2]; rfl) (.skp (.skp (.skp (.putEq (by rw [hc2]) (.refl _)) rfl) rfl) rfl))
   ·refine gs rfl rfl <| gs rfl rfl <| gs rfl rfl <| un1 (v := (B false)) rfl <| dnil ?_
    exact hX _ (.putEq (by rw [hc2]; rfl) (.skp (.skp (.skp (.putEq (by rw [hc2]) (.refl _)) rfl) rfl) rfl))
  refine dnil ?_
  refine Sv.cnd rfl h (fun h => ?_) fun h => ?_
  ·refine ssr <| un1 rfl <| un1 rfl <| dnil <| Sv.ret ?_
   exact hr _ (rt0 h rfl rfl ⟨rfl, rfl, rfl⟩)
  ·refine Sv.skip <| srg <| un1 (v := (I (wi (v6 + 1)))) rfl <| un1 rfl <| dnil ?_
   exact hself (wi (v6 + 1)) h _ (wcn [] rfl (.cf rfl rfl (.cf rfl rfl (.cf rfl rfl .nil))) .nil)
 ·refine Sv.exit ?_
  exact hK0 () h _ (wcn [] rfl .nil .nil)
/-- clerestory/media.kind -/
noncomputable def Z1f (word : Tx) : Option Int :=
 limF fun kk => Z1e word (fun (_ : Unit) => 
   some 12) kk 0
theorem Z43 {mL : Int} {word : Tx} {r : Int} (h : Z1f word = some r) : CPure Tryz.prog (GG mL) 24 [(S word)] (I r) := by
 refine acalls_of_sv hmix c24 (R := Z5k r) ?_
 unfold Z1f at h
 refine ssr <| un1 rfl <| dnil <| Sv.seq <| ssr <| un1 (v := (.agg [.str [], .str [97, 108, 108], .str [115, 99, 114, 101, 101, 110], .str [112, 114, 105, 110, 116], .str [109, 105, 110, 45, 119, 105, 100, 116, 104], .str [109, 97, 120, 45, 119, 105, 100, 116, 104], .str [109, 105, 110, 45, 104, 101, 105, 103, 104, 116], .str [109, 97, 120, 45, 104, 101, 105, 103, 104, 116], .str [112, 114, 101, 102, 101, 114, 115, 45, 99, 111, 108, 111, 114, 45, 115, 99, 104, 101, 109, 101, 58, 100, 97, 114, 107], .str [112, 114, 101, 102, 101, 114, 115, 45, 99, 111, 108, 111, 114, 45, 115, 99, 104, 101, 109, 101, 58, 108, 105, 103, 104, 116], .str [111, 114, 105, 101, 110, 116, 97, 116, 105, 111, 110, 58, 112, 111, 114, 116, 114, 97, 105, 116], .str [111, 114, 105, 101, 110, 116, 97, 116, 105, 111, 110, 58, 108, 97, 110, 100, 115, 99, 97, 112, 101]])) rfl <| un1 rfl <| dnil <| Sv.block ?_
 obtain ⟨kk, h⟩ := limF_some h
 refine Sv.weak (wcn [] rfl (.cf rfl rfl (.cf rfl rfl (.cf rfl rfl .nil))) .nil) (Z86 h ?_ (fun s hs => hs))
 ·intro _ h _ hw1
  refine Sv.weak hw1 <| ssr <| un1 rfl <| dnil <| Sv.ret ?_
  exact rt0 h rfl rfl ⟨rfl, rfl, rfl⟩
noncomputable abbrev Z5n (s_ : Tx) (cutset_ : Tx) : Option Tx := trim? s_ cutset_
/-- strings.Trim, by the contract of the shelf -/
theorem Z87 {mL : Int} {s_ : Tx} {cutset_ : Tx} {r : Tx} (h : Z5n s_ cutset_ = some r) : CPure Tryz.prog (GG mL) 39 [(S s_), (S cutset_)] (S r) := trim_ok Tryz.lays160 (by kernel_rfl) h
noncomputable abbrev Z5o (s_ : Tx) : Option (Int × Bool) := atoi? s_
/-- strconv.Atoi, by the contract of the shelf -/
theorem Z88 {mL : Int} {s_ : Tx} {r : (Int × Bool)} (h : Z5o s_ = some r) : CPure Tryz.prog (GG mL) 40 [(S s_)] (.tup [(I r.1), (.c (errC r.2))]) := atoi_ok Tryz.laysC172 (by kernel_rfl) (by kernel_rfl) h
def a25_c0 : ACode := (.cond (.tmp 20) (sr [(oP 21 (.load true 2 (.tmp 3))), (oN (.store 2 (.tmp 2) (.tmp 21)))]
 .ret) .skip)
def a25_c1 : ACode := (.cond (.tmp 55) (sr [(oP 56 (.load true 2 (.tmp 3))), (oN (.store 2 (.tmp 2) (.tmp 56)))]
 .ret) .skip)
def a25_c3 : ACode := (sr [(oP 58 (.faddr 1 (.tmp 6))), (oP 59 (.load false 1 (.tmp 58))), (oP 60 (.faddr 1 (.tmp 6))), (oP 61 (.load false 1 (.tmp 60))), (oP 62 (.lenS (.tmp 61))), (oP 63 (.bin .sub (.tmp 62) (kI 2))), (oP 64 (.slStr (.tmp 59) none (some (.tmp 63)))), (oP 65 (.call 40 [(.tmp 64)])), (mV 57 65), (oP 66 (.ext (.tmp 57) 0)), (oP 67 (.ext (.tmp 57) 1)), (mV 7 66), (mV 8 67)]
 (.seq (sr [(mV 68 8), (oP 69 (.eqi true (.tmp 68))), (mV 70 69), ⟨(some 71), (.mov (.tmp 7)), (some (70, false))⟩, ⟨(some 72), (.bin .gtr (.tmp 71) (kI 1000000)), (some (70, false))⟩, (oP 73 (.pick (.tmp 70) kT (.tmp 72)))]
 (.cond (.tmp 73) (sr [(oP 74 (.load true 2 (.tmp 3))), (oN (.store 2 (.tmp 2) (.tmp 74)))]
 .ret) .skip))
 (sr [(mV 75 5), (mV 76 7), (oP 77 (.build [(.val (.int .i64 0)), (.val (.int .i64 0))] [(0, (1, (.tmp 75))), (1, (1, (.tmp 76)))])), (oN (.store 2 (.tmp 2) (.tmp 77)))]
 .ret)))
def a25_c2 : ACode := (.seq (sr [(mV 78 4), (oP 79 (.bin .add (.tmp 78) (.const (.c (.str [58]))))), (mV 80 0), (oP 81 (.iaddr 4 (.tmp 80) (kI 2))), (oP 82 (.load true 4 (.tmp 81))), (oP 83 (.call 23 [(.tmp 82)])), (oP 84 (.bin .add (.tmp 79) (.tmp 83))), (oP 85 (.call 24 [(.tmp 84)])), (mV 9 85)]
 (sr [(mV 86 9), (oP 87 (.bin .geq (.tmp 86) (kI 8)))]
 (.cond (.tmp 87) (sr [(mV 88 9), (oP 89 (.build [(.val (.int .i64 0)), (.val (.int .i64 0))] [(0, (1, (.tmp 88)))])), (oN (.store 2 (.tmp 2) (.tmp 89)))]
 .ret) .skip)))
 (sr [(oP 90 (.load true 2 (.tmp 3))), (oN (.store 2 (.tmp 2) (.tmp 90)))]
 .ret))
def a25_c4 : ACode := (sr [(mV 22 0), (oP 23 (.iaddr 4 (.tmp 22) (kI 0))), (oP 24 (.load true 4 (.tmp 23))), (oP 25 (.call 23 [(.tmp 24)])), (mV 4 25)]
 (.seq (sr [(mV 26 4), (oP 27 (.call 24 [(.tmp 26)])), (mV 5 27)]
 (sr [(mV 28 5), (oP 29 (.bin .geq (.tmp 28) (kI 4))), (mV 30 29), ⟨(some 31), (.mov (.tmp 5)), (some (30, true))⟩, ⟨(some 32), (.bin .leq (.tmp 31) (kI 7)), (some (30, true))⟩, (oP 33 (.pick (.tmp 30) (.tmp 32) kF))]
 (.cond (.tmp 33) (sr [(mV 34 0), (oP 35 (.iaddr 4 (.tmp 34) (kI 2))), (oP 36 (.load true 4 (.tmp 35))), (oP 6 (.box (.const (.agg [(.val (.int .i64 0)), (.str []), (.str []), (.val (.int .i64 0))])))), (oN (.store 4 (.tmp 6) (.tmp 36)))]
 (.seq (sr [(oP 37 (.faddr 0 (.tmp 6))), (oP 38 (.load false 1 (.tmp 37))), (oP 39 (.bin .neq (.tmp 38) (kI 7))), (mV 40 39), ⟨(some 41), (.faddr 2 (.tmp 6)), (some (40, false))⟩, ⟨(some 42), (.load false 1 (.tmp 41)), (some (40, false))⟩, ⟨(some 43), (.bin .neq (.tmp 42) (.const (.c (.str [112, 120])))), (some (40, false))⟩, (oP 44 (.pick (.tmp 40) kT (.tmp 43))), (mV 45 44), ⟨(some 46), (.faddr 1 (.tmp 6)), (some (45, false))⟩, ⟨(some 47), (.load false 1 (.tmp 46)), (some (45, false))⟩, ⟨(some 48), (.faddr 1 (.tmp 6)), (some (45, false))⟩, ⟨(some 49), (.load false 1 (.tmp 48)), (some (45, false))⟩, ⟨(some 50), (.lenS (.tmp 49)), (some (45, false))⟩, ⟨(some 51), (.bin .sub (.tmp 50) (kI 2)), (some (45, false))⟩, ⟨(some 52), (.slStr (.tmp 47) none (some (.tmp 51))), (some (45, false))⟩, ⟨(some 53), (.call 39 [(.tmp 52), (.const (.c (.str [48, 49, 50, 51, 52, 53, 54, 55, 56, 57])))]), (some (45, false))⟩, ⟨(some 54), (.bin .neq (.tmp 53) (.const (.c (.str [])))), (some (45, false))⟩, (oP 55 (.pick (.tmp 45) kT (.tmp 54)))]
 a25_c1)
 a25_c3)) .skip)))
 a25_c2))
def a25 : AFunc := ⟨1, [(.cell true 2 2)], (sr [(oP 2 (.box (.const (.agg [(.val (.int .i64 0)), (.val (.int .i64 0))]))))]
 (sr [(oP 10 (.build [(.val (.int .i64 0)), (.val (.int .i64 0))] [(0, (1, (kI 12)))])), (oP 3 (.box (.const (.agg [(.val (.int .i64 0)), (.val (.int .i64 0))])))), (oN (.store 2 (.tmp 3) (.tmp 10)))]
 (.seq (sr [(mV 11 0), (oP 12 (.len (.tmp 11))), (oP 13 (.bin .neq (.tmp 12) (kI 3))), (mV 14 13), ⟨(some 15), (.mov (.tmp 0)), (some (14, false))⟩, ⟨(some 16), (.iaddr 4 (.tmp 15) (kI 1)), (some (14, false))⟩, ⟨(some 17), (.faddr 1 (.tmp 16)), (some (14, false))⟩, ⟨(some 18), (.load false 1 (.tmp 17)), (some (14, false))⟩, ⟨(some 19), (.bin .neq (.tmp 18) (.const (.c (.str [58])))), (some (14, false))⟩, (oP 20 (.pick (.tmp 14) kT (.tmp 19)))]
 a25_c0)
 a25_c4)))⟩
theorem c25 : compFunc Tryz.prog 25 = some a25 := by kernel_rfl
def Z2r (r : TSFeature) : AV → Heap → Nat → Prop := fun v h' n' => v = (.agg (e_TSFeature r)) ∧ (h' = e0) ∧ n' = 0
abbrev Z5p (mL : Int) (o : TSFeature) : AExit → St → Prop := AThen (Sv Tryz.prog (GG mL) 0 a25_c2 (Ends a25.results 0 (Z2r o))) (Ends a25.results 0 (Z2r o))
abbrev Z89 (mL : Int) (o : TSFeature) : AExit → St → Prop := AThen (Sv Tryz.prog (GG mL) 0 a25_c3 (Z5p mL o)) (Z5p mL o)
noncomputable def Z1y (x_1 : TSToken) (r_1 : Int) (v55 : Bool) : Option TSFeature :=
 if v55 then
  some (⟨12, 0⟩ : TSFeature)
 else
  (sub? x_1.Raw 0 (wi ((x_1.Raw.length : Int) - 2))).bind fun r_2 =>
  (Z5o r_2).bind fun r_3 =>
  if (r_3.2 || (decide (1000000 < r_3.1))) then
   some (⟨12, 0⟩ : TSFeature)
  else
   some (⟨r_1, r_3.1⟩ : TSFeature)
theorem Z5q {mL : Int} {x_1 : TSToken} {r_1 : Int} {v55 : Bool} {o : TSFeature} (h : Z1y x_1 r_1 v55 = some o) :
  Sv Tryz.prog (GG mL) 0 a25_c1 (Z89 mL o) ⟨(ue [(55, (B v55)), (6, (.c (.ref 2 4 0 0))), (5, (I r_1)), (3, (.c (.ref 1 2 0 0))), (2, (.c (.ref 0 2 0 0)))]), (upd (upd (upd e0 0 (some (.cells 2 [[cI 0, cI 0]]))) 1 (some (.cells 2 [[cI 12, cI 0]]))) 2 (some (.cells 4 [(e_TSToken x_1)]))), 3⟩ := by
 unfold Z1y at h
 refine Sv.cnd rfl h (fun h => ?_) fun h => ?_
 ·refine ssr <| un1 (v := (.agg [cI 12, cI 0])) rfl <| un <| a2n (h' := upd _ 0 (some (.cells 2 [[cI 12, cI 0]]))) (n' := 3) rfl rfl hcs <| dnil <| Sv.ret ?_
  exact rt0 h rfl rfl ⟨rfl, rfl, rfl⟩
 ·refine Sv.skip <| ssr <| un1 (v := (.c (.ref 2 4 0 1))) rfl <| un1 (v := (S x_1.Raw)) rfl <| un1 (v := (.c (.ref 2 4 0 1))) rfl <| un1 (v := (S x_1.Raw)) rfl <| un1 (v := (I (x_1.Raw.length : Int))) rfl <| un1 (v := (I (wi ((x_1.Raw.length : Int) - 2)))) rfl ?_
  obtain ⟨r_2, hx3, h⟩ := bnd h
  refine un1 (v := (S r_2)) (s_slStr rfl rfl rfl hx3) ?_
  obtain ⟨r_3, hr3, h⟩ := bnd h
  refine un <| ac_pure (Z88 hr3) rfl rfl (by simp only [AV.free, freeL, List.all_cons, List.all_nil, errC_free, ierrC_free] <;> rfl) <| un1 rfl <| un1 (v := (I r_3.1)) rfl <| un1 (v := (.c (errC r_3.2))) rfl <| un1 rfl <| un1 rfl <| dnil <| Sv.seq <| ssr <| un1 rfl <| un1 (v := (B r_3.2)) (s_eqe (neg := true) (b := r_3.2) rfl) <| un1 rfl ?_
  refine gjoin 3 (d := 73) (v := (B (r_3.2 || (decide (1000000 < r_3.1))))) (fun X hX => ?_) ?_
  ·refine split2 (fun hc5 => ?_) (fun hc5 => ?_)
   ·refine gs rfl rfl <| gs rfl rfl <| un1 (v := (B true)) rfl <| dnil ?_
    exact hX _ (.putEq (by rw [hc5]; rfl) (.skp (.skp (.putEq (by rw [hc5]) (.refl _)) rfl) rfl))
   ·refine gt rfl <| a1 rfl <| gt rfl <| a1 (v := (B (decide (1000000 < r_3.1)))) rfl <| un1 (v := (B (decide (1000000 < r_3.1)))) rfl <| dnil ?_
    exact hX _ (.putEq (by rw [hc5]; rfl) (.skp (.skp (.putEq (by rw [hc5]) (.refl _)) rfl) rfl))
  refine dnil ?_
  refine Sv.cnd rfl h (fun h => ?_) fun h => ?_
  ·refine ssr <| un1 (v := (.agg [cI 12, cI 0])) rfl <| un <| a2n (h' := upd _ 0 (some (.cells 2 [[cI 12, cI 0]]))) (n' := 3) rfl rfl hcs <| dnil <| Sv.ret ?_
   exact rt0 h rfl rfl ⟨rfl, rfl, rfl⟩
  ·refine Sv.skip <| ssr <| un1 rfl <| un1 rfl <| un1 (v := (.agg [cI r_1, cI r_3.1])) rfl <| un <| a2n (h' := upd _ 0 (some (.cells 2 [[cI r_1, cI r_3.1]]))) (n' := 3) rfl rfl hcs <| dnil <| Sv.ret ?_
   exact rt0 h rfl rfl ⟨rfl, rfl, rfl⟩
abbrev Z8a (mL : Int) (o : TSFeature) : AExit → St → Prop := AThen (Sv Tryz.prog (GG mL) 0 a25_c4 (Ends a25.results 0 (Z2r o))) (Ends a25.results 0 (Z2r o))
noncomputable def Z1z (l_ : (List TSToken)) (v20 : Bool) : Option TSFeature :=
 if v20 then
  some (⟨12, 0⟩ : TSFeature)
 else
  (at? l_ 0).bind fun x_ =>
  (Zc x_).bind fun r_ =>
  (Z1f r_).bind fun r_1 =>
  if ((decide (4 ≤ r_1)) && (decide (r_1 ≤ 7))) then
   (at? l_ 2).bind fun x_1 =>
   if ((!decide (x_1.Kind = 7)) || (!decide (x_1.Value = [112, 120]))) then
    Z1y x_1 r_1 true
   else
    (sub? x_1.Raw 0 (wi ((x_1.Raw.length : Int) - 2))).bind fun r_4 =>
    (Z5n r_4 [48, 49, 50, 51, 52, 53, 54, 55, 56, 57]).bind fun r_5 =>
    Z1y x_1 r_1 (!decide (r_5 = []))
  else
   (cat? r_ [58]).bind fun r_6 =>
   (at? l_ 2).bind fun x_2 =>
   (Zc x_2).bind fun r_7 =>
   (cat? r_6 r_7).bind fun r_8 =>
   (Z1f r_8).bind fun r_9 =>
   if decide (8 ≤ r_9) then
    some (⟨r_9, 0⟩ : TSFeature)
   else
    some (⟨12, 0⟩ : TSFeature)
theorem Z5r {mL : Int} {l_ : (List TSToken)} {v20 : Bool} {o : TSFeature} (h : Z1z l_ v20 = some o) :
  Sv Tryz.prog (GG mL) 0 a25_c0 (Z8a mL o) ⟨(ue [(20, (B v20)), (3, (.c (.ref 1 2 0 0))), (2, (.c (.ref 0 2 0 0))), (0, (.c (.ro false 4 (l_.map e_TSToken))))]), (upd (upd e0 0 (some (.cells 2 [[cI 0, cI 0]]))) 1 (some (.cells 2 [[cI 12, cI 0]]))), 2⟩ := by
 unfold Z1z at h
 refine Sv.cnd rfl h (fun h => ?_) fun h => ?_
 ·refine ssr <| un1 (v := (.agg [cI 12, cI 0])) rfl <| un <| a2n (h' := upd _ 0 (some (.cells 2 [[cI 12, cI 0]]))) (n' := 2) rfl rfl hcs <| dnil <| Sv.ret ?_
  exact rt0 h rfl rfl ⟨rfl, rfl, rfl⟩
 ·refine Sv.skip <| ssr <| un1 rfl ?_
  obtain ⟨x_, hx1, h⟩ := bnd h
  refine un1 (v := (.c (.rop (e_TSToken x_)))) (s_iaddr (e := e_TSToken) (xs := l_) rfl rfl hx1) <| un1 (v := (.agg (e_TSToken x_))) rfl ?_
  obtain ⟨r_, hr1, h⟩ := bnd h
  refine un <| ac_pure (Z2q hr1) rfl rfl rfl <| un1 rfl <| dnil <| Sv.seq <| ssr <| un1 rfl ?_
  obtain ⟨r_1, hr2, h⟩ := bnd h
  refine un <| ac_pure (Z43 hr2) rfl rfl rfl <| un1 rfl <| dnil <| ssr <| un1 rfl <| un1 (v := (B (decide (4 ≤ r_1)))) rfl <| un1 rfl ?_
  refine gjoin 3 (d := 33) (v := (B ((decide (4 ≤ r_1)) && (decide (r_1 ≤ 7))))) (fun X hX => ?_) ?_
  ·refine split2 (fun hc2 => ?_) (fun hc2 => ?_)
   ·refine gt rfl <| a1 rfl <| gt rfl <| a1 (v := (B (decide (r_1 ≤ 7)))) rfl <| un1 (v := (B (decide (r_1 ≤ 7)))) rfl <| dnil ?_
    exact hX _ (.putEq (by rw [hc2]; rfl) (.skp (.skp (.putEq (by rw [hc2]) (.refl _)) rfl) rfl))
   ·refine gs rfl rfl <| gs rfl rfl <| un1 (v := (B false)) rfl <| dnil ?_
    exact hX _ (.putEq (by rw [hc2]; rfl) (.skp (.skp (.putEq (by rw [hc2]) (.refl _)) rfl) rfl))
  refine dnil ?_
  refine Sv.cnd rfl h (fun h => ?_) fun h => ?_
  ·refine ssr <| un1 rfl ?_
   obtain ⟨x_1, hx2, h⟩ := bnd h
   refine un1 (v := (.c (.rop (e_TSToken x_1)))) (s_iaddr (e := e_TSToken) (xs := l_) rfl rfl hx2) <| un1 (v := (.agg (e_TSToken x_1))) rfl <| un <| a2v (v := (.c (.ref 2 4 0 0))) (h' := upd _ 2 (some (.cells 4 [[cI 0, .str [], .str [], cI 0]]))) (n' := 3) rfl rfl hcs <| un <| a2n (h' := upd _ 2 (some (.cells 4 [(e_TSToken x_1)]))) (n' := 3) rfl rfl hcs <| dnil <| Sv.seq <| ssr <| un1 (v := (.c (.ref 2 4 0 0))) rfl <| un1 (v := (I x_1.Kind)) rfl <| un1 (v := (B (!decide (x_1.Kind = 7)))) rfl <| un1 rfl ?_
   refine gjoin 4 (d := 44) (v := (B ((!decide (x_1.Kind = 7)) || (!decide (x_1.Value = [112, 120]))))) (fun X hX => ?_) ?_
   ·refine split2 (fun hc7 => ?_) (fun hc7 => ?_)
    ·refine gs rfl rfl <| gs rfl rfl <| gs rfl rfl <| un1 (v := (B true)) rfl <| dnil ?_
     exact hX _ (.putEq (by rw [hc7]; rfl) (.skp (.skp (.skp (.putEq (by rw [hc7]) (.refl _)) rfl) rfl) rfl))
    ·refine gt rfl <| a1 (v := (.c (.ref 2 4 0 2))) rfl <| gt rfl <| a1 (v := (S x_1.Value)) rfl <| gt rfl <| a1 (v := (B (!decide (x_1.Value = [112, 120])))) rfl <| un1 (v := (B (!decide (x_1.Value = [112, 120])))) rfl <| dnil ?_
     exact hX _ (.putEq (by rw [hc7]; rfl) (.skp (.skp (.skp (.putEq (by rw [hc7]) (.refl _)) rfl) rfl) rfl))
   refine un1 rfl ?_
   refine spl h (fun h => ?_) fun h => ?_
   ·repeat (first | refine gu rfl ?_ | refine gs rfl rfl ?_)
    refine un1 (v := (B true)) rfl <| dnil ?_
    exact Sv.weak (wcn [0, 1, 2] rfl (.cf rfl rfl (.cr rfl rfl rfl (.cf rfl rfl (.cr rfl rfl rfl (.cr rfl rfl rfl .nil))))) (.box (by decide) rfl (blkAs_cells (.sm rfl (.sm rfl (.sm rfl (.sm rfl .nil))))) (.box (by decide) rfl (blkAs_cells (.sm rfl (.sm rfl .nil))) (.box (by decide) rfl (blkAs_cells (.sm rfl (.sm rfl .nil))) .nil)))) (Z5q h)
   ·refine gt rfl <| a1 (v := (.c (.ref 2 4 0 1))) rfl <| gt rfl <| a1 (v := (S x_1.Raw)) rfl <| gt rfl <| a1 (v := (.c (.ref 2 4 0 1))) rfl <| gt rfl <| a1 (v := (S x_1.Raw)) rfl <| gt rfl <| a1 (v := (I (x_1.Raw.length : Int))) rfl <| gt rfl <| a1 (v := (I (wi ((x_1.Raw.length : Int) - 2)))) rfl ?_
    obtain ⟨r_4, hx4, h⟩ := bnd h
    refine gt rfl <| a1 (v := (S r_4)) (s_slStr rfl rfl rfl hx4) ?_
    obtain ⟨r_5, hr4, h⟩ := bnd h
    refine gt rfl <| ac_pure (Z87 hr4) rfl rfl rfl <| gt rfl <| a1 (v := (B (!decide (r_5 = [])))) rfl <| un1 (v := (B (!decide (r_5 = [])))) rfl <| dnil ?_
    exact Sv.weak (wcn [0, 1, 2] rfl (.cf rfl rfl (.cr rfl rfl rfl (.cf rfl rfl (.cr rfl rfl rfl (.cr rfl rfl rfl .nil))))) (.box (by decide) rfl (blkAs_cells (.sm rfl (.sm rfl (.sm rfl (.sm rfl .nil))))) (.box (by decide) rfl (blkAs_cells (.sm rfl (.sm rfl .nil))) (.box (by decide) rfl (blkAs_cells (.sm rfl (.sm rfl .nil))) .nil)))) (Z5q h)
  ·refine Sv.skip <| Sv.seq <| ssr <| un1 rfl ?_
   obtain ⟨r_6, hx5, h⟩ := bnd h
   refine un1 (v := (S r_6)) (s_cat rfl rfl hx5) <| un1 rfl ?_
   obtain ⟨x_2, hx6, h⟩ := bnd h
   refine un1 (v := (.c (.rop (e_TSToken x_2)))) (s_iaddr (e := e_TSToken) (xs := l_) rfl rfl hx6) <| un1 (v := (.agg (e_TSToken x_2))) rfl ?_
   obtain ⟨r_7, hr5, h⟩ := bnd h
   refine un <| ac_pure (Z2q hr5) rfl rfl rfl ?_
   obtain ⟨r_8, hx7, h⟩ := bnd h
   refine un1 (v := (S r_8)) (s_cat rfl rfl hx7) ?_
   obtain ⟨r_9, hr6, h⟩ := bnd h
   refine un <| ac_pure (Z43 hr6) rfl rfl rfl <| un1 rfl <| dnil <| ssr <| un1 rfl <| un1 (v := (B (decide (8 ≤ r_9)))) rfl <| dnil ?_
   refine Sv.cnd rfl h (fun h => ?_) fun h => ?_
   ·refine ssr <| un1 rfl <| un1 (v := (.agg [cI r_9, cI 0])) rfl <| un <| a2n (h' := upd _ 0 (some (.cells 2 [[cI r_9, cI 0]]))) (n' := 2) rfl rfl hcs <| dnil <| Sv.ret ?_
    exact rt0 h rfl rfl ⟨rfl, rfl, rfl⟩
   ·refine Sv.skip <| ssr <| un1 (v := (.agg [cI 12, cI 0])) rfl <| un <| a2n (h' := upd _ 0 (some (.cells 2 [[cI 12, cI 0]]))) (n' := 2) rfl rfl hcs <| dnil <| Sv.ret ?_
    exact rt0 h rfl rfl ⟨rfl, rfl, rfl⟩
/-- clerestory/media.feature -/
noncomputable def Zw (l_ : (List TSToken)) : Option TSFeature :=
 if (!decide ((l_.length : Int) = 3)) then
  Z1z l_ true
 else
  (at? l_ 1).bind fun x_3 =>
  Z1z l_ (!decide (x_3.Raw = [58]))
theorem Z8b {mL : Int} {l_ : (List TSToken)} {r : TSFeature} (h : Zw l_ = some r) : CPure Tryz.prog (GG mL) 25 [(.c (.ro false 4 (l_.map e_TSToken)))] (.agg (e_TSFeature r)) := by
 refine acalls_of_sv hmix c25 (R := Z2r r) ?_
 unfold Zw at h
 refine ssr <| un <| a2v (v := (.c (.ref 0 2 0 0))) (h' := upd _ 0 (some (.cells 2 [[cI 0, cI 0]]))) (n' := 1) rfl rfl hcs <| dnil <| ssr <| un1 (v := (.agg [cI 12, cI 0])) rfl <| un <| a2v (v := (.c (.ref 1 2 0 0))) (h' := upd _ 1 (some (.cells 2 [[cI 0, cI 0]]))) (n' := 2) rfl rfl hcs <| un <| a2n (h' := upd _ 1 (some (.cells 2 [[cI 12, cI 0]]))) (n' := 2) rfl rfl hcs <| dnil <| Sv.seq <| ssr <| un1 rfl <| un1 (v := (I (l_.length : Int))) (s_len (e := e_TSToken) (xs := l_) rfl) <| un1 (v := (B (!decide ((l_.length : Int) = 3)))) rfl <| un1 rfl ?_
 refine spl h (fun h => ?_) fun h => ?_
 ·repeat (first | refine gu rfl ?_ | refine gs rfl rfl ?_)
  refine un1 (v := (B true)) rfl <| dnil ?_
  exact Sv.weak (wcn [0, 1] rfl (.cf rfl rfl (.cr rfl rfl rfl (.cr rfl rfl rfl (.cf rfl rfl .nil)))) (.box (by decide) rfl (blkAs_cells (.sm rfl (.sm rfl .nil))) (.box (by decide) rfl (blkAs_cells (.sm rfl (.sm rfl .nil))) .nil))) (Z5r h)
 ·refine gt rfl <| a1 rfl ?_
  obtain ⟨x_3, hx8, h⟩ := bnd h
  refine gt rfl <| a1 (v := (.c (.rop (e_TSToken x_3)))) (s_iaddr (e := e_TSToken) (xs := l_) rfl rfl hx8) <| gt rfl <| a1 (v := (.c (.rop [.str x_3.Raw, .str x_3.Value, cI x_3.Num]))) rfl <| gt rfl <| a1 (v := (S x_3.Raw)) rfl <| gt rfl <| a1 (v := (B (!decide (x_3.Raw = [58])))) rfl <| un1 (v := (B (!decide (x_3.Raw = [58])))) rfl <| dnil ?_
  exact Sv.weak (wcn [0, 1] rfl (.cf rfl rfl (.cr rfl rfl rfl (.cr rfl rfl rfl (.cf rfl rfl .nil)))) (.box (by decide) rfl (blkAs_cells (.sm rfl (.sm rfl .nil))) (.box (by decide) rfl (blkAs_cells (.sm rfl (.sm rfl .nil))) .nil))) (Z5r h)
def a18_c0 : ACode := (.cond (.tmp 16) (sr [(oP 17 (.faddr 0 (.tmp 4))), (oN (.store 1 (.tmp 17) kT))]
 (.region [(mV 18 0), (oP 19 (.slSl 4 (.tmp 18) (some (kI 1)) none none)), (mV 0 19)])) .skip)
def a18_c2 : ACode := (sr [(oP 48 (.faddr 1 (.tmp 4))), (oP 49 (.load false 1 (.tmp 48))), (oP 50 (.load true 2 (.tmp 6))), (oP 51 (.bslice 2 [(.val (.int .i64 0)), (.val (.int .i64 0))] 1 [(0, (.tmp 50))])), (oP 52 (.app 2 16 (.tmp 49) (.tmp 51))), (oP 53 (.faddr 1 (.tmp 4))), (oN (.store 1 (.tmp 53) (.tmp 52)))]
 (.seq (sr [(mV 54 0), (mV 55 5), (oP 56 (.slSl 4 (.tmp 54) (some (.tmp 55)) none none)), (mV 0 56)]
 (sr [(mV 57 0), (oP 58 (.len (.tmp 57))), (oP 59 (.bin .eql (.tmp 58) (kI 0)))]
 (.cond (.tmp 59) (sr [(oP 60 (.load true 2 (.tmp 4))), (oN (.store 2 (.tmp 2) (.tmp 60))), (oP 3 (.mov kT))]
 .ret) .skip)))
 (.seq (sr [(mV 61 0), (oP 62 (.iaddr 4 (.tmp 61) (kI 0))), (oP 63 (.load true 4 (.tmp 62))), (oP 64 (.call 23 [(.tmp 63)])), (oP 65 (.bin .neq (.tmp 64) (.const (.c (.str [97, 110, 100])))))]
 (.cond (.tmp 65) (sr [(oP 66 (.load true 2 (.tmp 4))), (oN (.store 2 (.tmp 2) (.tmp 66))), (oP 3 (.mov kF))]
 .ret) .skip))
 (.region [(mV 67 0), (oP 68 (.slSl 4 (.tmp 67) (some (kI 1)) none none)), (mV 0 68)]))))
def a18_c3 : ACode := (.seq (sr [(mV 20 0), (oP 21 (.len (.tmp 20))), (oP 22 (.bin .gtr (.tmp 21) (kI 0)))]
 (.cond (.tmp 22) .skip (.exit 0)))
 (.block 1 (sr [(oP 5 (.mov (kI 1)))]
 (sr [(mV 23 0), (oP 24 (.iaddr 4 (.tmp 23) (kI 0))), (oP 25 (.load true 4 (.tmp 24))), (oP 26 (.call 23 [(.tmp 25)])), (oP 27 (.call 24 [(.tmp 26)])), (oP 28 (.build [(.val (.int .i64 0)), (.val (.int .i64 0))] [(0, (1, (.tmp 27)))])), (oP 6 (.box (.const (.agg [(.val (.int .i64 0)), (.val (.int .i64 0))])))), (oN (.store 2 (.tmp 6) (.tmp 28)))]
 (.seq (sr [(mV 29 0), (oP 30 (.iaddr 4 (.tmp 29) (kI 0))), (oP 31 (.faddr 1 (.tmp 30))), (oP 32 (.load false 1 (.tmp 31))), (oP 33 (.bin .eql (.tmp 32) (.const (.c (.str [40])))))]
 (.cond (.tmp 33) (.seq (sr [(mV 34 0), (oP 35 (.call 22 [(.tmp 34)])), (mV 5 35)]
 (sr [(mV 36 5), (oP 37 (.bin .eql (.tmp 36) (kI 0)))]
 (.cond (.tmp 37) (sr [(oP 38 (.load true 2 (.tmp 4))), (oN (.store 2 (.tmp 2) (.tmp 38))), (oP 3 (.mov kF))]
 .ret) .skip)))
 (.region [(mV 39 0), (mV 40 5), (oP 41 (.bin .sub (.tmp 40) (kI 1))), (oP 42 (.slSl 4 (.tmp 39) (some (kI 1)) (some (.tmp 41)) none)), (oP 43 (.call 25 [(.tmp 42)])), (oN (.store 2 (.tmp 6) (.tmp 43)))])) (sr [(oP 44 (.faddr 0 (.tmp 6))), (oP 45 (.load false 1 (.tmp 44))), (oP 46 (.bin .gtr (.tmp 45) (kI 3)))]
 (.cond (.tmp 46) (sr [(oP 47 (.load true 2 (.tmp 4))), (oN (.store 2 (.tmp 2) (.tmp 47))), (oP 3 (.mov kF))]
 .ret) .skip))))
 a18_c2)))))
def a18_c1 : ACode := (.seq (.block 0 (.loop a18_c3))
 (sr [(oP 69 (.load true 2 (.tmp 4))), (oN (.store 2 (.tmp 2) (.tmp 69))), (oP 3 (.mov kF))]
 .ret))
def a18 : AFunc := ⟨1, [(.cell true 2 2), (.tmp 3)], (sr [(oP 2 (.box (.const (.agg [(.val (.bool false)), (.ro true 2 [])])))), (oP 3 (.mov kF))]
 (sr [(oP 4 (.box (.const (.agg [(.val (.bool false)), (.ro true 2 [])]))))]
 (.seq (sr [(mV 7 0), (oP 8 (.len (.tmp 7))), (oP 9 (.bin .gtr (.tmp 8) (kI 0))), (mV 10 9), ⟨(some 11), (.mov (.tmp 0)), (some (10, true))⟩, ⟨(some 12), (.iaddr 4 (.tmp 11) (kI 0)), (some (10, true))⟩, ⟨(some 13), (.load true 4 (.tmp 12)), (some (10, true))⟩, ⟨(some 14), (.call 23 [(.tmp 13)]), (some (10, true))⟩, ⟨(some 15), (.bin .eql (.tmp 14) (.const (.c (.str [110, 111, 116])))), (some (10, true))⟩, (oP 16 (.pick (.tmp 10) (.tmp 15) kF))]
 a18_c0)
 a18_c1)))⟩
theorem c18 : compFunc Tryz.prog 18 = some a18 := by kernel_rfl
def Z1g (r : (TSQuery × Bool)) : AV → Heap → Nat → Prop := fun v h' n' => ∃ z0 : Bool, (z0 = true → r.1.Features = []) ∧ v = (.tup [(.agg [cB r.1.Not, lstC z0 0 2 r.1.Features.length]), (B r.2)]) ∧ (h' = (upd e0 0 (lstB z0 2 (r.1.Features.map e_TSFeature)))) ∧ n' = 1
abbrev Z5s (q0 : Bool) (F_ : (List TSToken) → (List TSFeature) → Option (TSQuery × Bool)) (o : (TSQuery × Bool)) (R_ : St → Prop) : Prop := ∀ (l_2 : (List TSToken)) (q1 : (List TSFeature)) (zq1 : Bool) (_ : zq1 = true → q1 = []), F_ l_2 q1 = some o → ∀ s, Weak 0 s ⟨(ue [(4, (.c (.ref 1 2 0 0))), (2, (.c (.ref 0 2 0 0))), (0, (.c (.ro false 4 (l_2.map e_TSToken))))]), (upd (upd (upd e0 0 (some (.cells 2 [[cB false, .ro true 2 []]]))) 1 (some (.cells 2 [[cB q0, lstC zq1 2 2 q1.length]]))) 2 (lstB zq1 2 (q1.map e_TSFeature))), 3⟩ → R_ s
abbrev Z5t (q0 : Bool) (F_ : (List TSFeature) → Option (TSQuery × Bool)) (o : (TSQuery × Bool)) (R_ : St → Prop) : Prop := ∀ (q11 : (List TSFeature)) (zq11 : Bool) (_ : zq11 = true → q11 = []), F_ q11 = some o → ∀ s, Weak 0 s ⟨(ue [(4, (.c (.ref 1 2 0 0))), (2, (.c (.ref 0 2 0 0)))]), (upd (upd (upd e0 0 (some (.cells 2 [[cB false, .ro true 2 []]]))) 1 (some (.cells 2 [[cB q0, lstC zq11 2 2 q11.length]]))) 2 (lstB zq11 2 (q11.map e_TSFeature))), 3⟩ → R_ s
abbrev Z8c (mL : Int) (Q : AExit → St → Prop) : AExit → St → Prop := ABlock 1 Q
noncomputable def Zx (l_2 : (List TSToken)) (q0 : Bool) (self : (List TSToken) → (List TSFeature) → Option (TSQuery × Bool)) (K0_ : (List TSFeature) → Option (TSQuery × Bool)) (q12 : (List TSFeature)) (n_ : Int) (f0 : Int) (f1 : Int) : Option (TSQuery × Bool) :=
 (app? 16 q12 [(⟨f0, f1⟩ : TSFeature)]).bind fun r_2 =>
 (sub? l_2 n_ (l_2.length : Int)).bind fun r_3 =>
 if decide ((r_3.length : Int) = 0) then
  some ((⟨q0, r_2⟩ : TSQuery), true)
 else
  (at? r_3 0).bind fun x_1 =>
  (Zc x_1).bind fun r_4 =>
  if (!decide (r_4 = [97, 110, 100])) then
   some ((⟨q0, r_2⟩ : TSQuery), false)
  else
   (sub? r_3 1 (r_3.length : Int)).bind fun r_5 =>
   self r_5 r_2
theorem Z5u {mL : Int} {Q : AExit → St → Prop} {l_2 : (List TSToken)} {q0 : Bool} {self : (List TSToken) → (List TSFeature) → Option (TSQuery × Bool)} {K0_ : (List TSFeature) → Option (TSQuery × Bool)} {q12 : (List TSFeature)} {n_ : Int} {f0 : Int} {f1 : Int} {zq12 : Bool} (hzq12 : zq12 = true → q12 = []) {o : (TSQuery × Bool)} (h : Zx l_2 q0 self K0_ q12 n_ f0 f1 = some o)
  (hself : Z5s q0 self o (Q .normal))
  (hK0 : Z5t q0 K0_ o (Q (.exit 0)))
  (hr : ∀ s, Ends a18.results 0 (Z1g o) .ret s → Q .ret s) :
  Sv Tryz.prog (GG mL) 0 a18_c2 (Z8c mL Q) ⟨(ue [(6, (.c (.ref 3 2 0 0))), (5, (I n_)), (4, (.c (.ref 1 2 0 0))), (2, (.c (.ref 0 2 0 0))), (0, (.c (.ro false 4 (l_2.map e_TSToken))))]), (upd (upd (upd (upd e0 0 (some (.cells 2 [[cB false, .ro true 2 []]]))) 1 (some (.cells 2 [[cB q0, lstC zq12 2 2 q12.length]]))) 2 (lstB zq12 2 (q12.map e_TSFeature))) 3 (some (.cells 2 [[cI f0, cI f1]]))), 4⟩ := by
 unfold Zx at h
 refine ssr <| un1 (v := (.c (.ref 1 2 0 1))) rfl <| un1 (v := (lstV zq12 2 2 q12.length)) rfl <| un1 (v := (.agg [cI f0, cI f1])) rfl <| un <| a2v (v := (lstV false 4 2 [(⟨f0, f1⟩ : TSFeature)].length)) (h' := upd _ 4 (lstB false 2 ([(⟨f0, f1⟩ : TSFeature)].map e_TSFeature))) (n' := 5) rfl rfl hcs ?_
 obtain ⟨r_2, hr3, h⟩ := bnd h
 have hz1 : (zq12 && [(⟨f0, f1⟩ : TSFeature)].isEmpty) = true → r_2 = [] := app_nil (z := zq12) (ys := [(⟨f0, f1⟩ : TSFeature)]) hzq12 hr3
 refine un <| a2v rfl (s_app (xs := q12) (ys := [(⟨f0, f1⟩ : TSFeature)]) (e := e_TSFeature) (z := zq12) (b := 2) rfl rfl hzq12 rfl rfl (slc_lst rfl (List.length_map _).symm (map_nil_of hcs)) hr3) hcs <| un1 (v := (.c (.ref 1 2 0 1))) rfl <| un <| a2n (h' := upd _ 1 (some (.cells 2 [[cB q0, lstC (zq12 && [(⟨f0, f1⟩ : TSFeature)].isEmpty) 5 2 r_2.length]]))) (n' := 6) rfl rfl hcs <| dnil <| Sv.seq <| ssr <| un1 rfl <| un1 rfl ?_
 obtain ⟨r_3, hx2, h⟩ := bnd h
 refine un1 (v := (.c (.ro false 4 (r_3.map e_TSToken)))) (s_slSl (e := e_TSToken) rfl rfl rfl hx2) <| un1 rfl <| dnil <| ssr <| un1 rfl <| un1 (v := (I (r_3.length : Int))) (s_len (e := e_TSToken) (xs := r_3) rfl) <| un1 (v := (B (decide ((r_3.length : Int) = 0)))) rfl <| dnil ?_
 refine Sv.cnd rfl h (fun h => ?_) fun h => ?_
 ·refine ssr <| un1 (v := (.agg [cB q0, lstC (zq12 && [(⟨f0, f1⟩ : TSFeature)].isEmpty) 5 2 r_2.length])) rfl <| un <| a2n (h' := upd _ 0 (some (.cells 2 [[cB q0, lstC (zq12 && [(⟨f0, f1⟩ : TSFeature)].isEmpty) 5 2 r_2.length]]))) (n' := 6) rfl rfl hcs <| un1 rfl <| dnil <| Sv.ret ?_
  replace h := Option.some.inj h
  subst h
  exact hr _ ⟨_, .refl _, _, rfl, ⟨upd e0 0 (some (.tup [(.agg [cB q0, lstC (zq12 && [(⟨f0, f1⟩ : TSFeature)].isEmpty) 0 2 r_2.length]), (B true)])), (upd e0 0 (lstB (zq12 && [(⟨f0, f1⟩ : TSFeature)].isEmpty) 2 (r_2.map e_TSFeature))), 1⟩, (.tup [(.agg [cB q0, lstC (zq12 && [(⟨f0, f1⟩ : TSFeature)].isEmpty) 0 2 r_2.length]), (B true)]), weak_canon2 [5] [0] (by decide) (by decide) nlz (.cons (by decide) .nil) (.cons rfl (avAs_tup (.cons (avAs_agg (.sm rfl (.cons (lstC_ren rfl (by decide)) .nil))) (.cons (avAs_free rfl) .nil))) .nil) (.row (by decide) rfl (fr_map fun _ => rfl) .nil), rfl, (zq12 && [(⟨f0, f1⟩ : TSFeature)].isEmpty), hz1, rfl, rfl, rfl⟩
 ·refine Sv.skip <| Sv.seq <| ssr <| un1 rfl ?_
  obtain ⟨x_1, hx3, h⟩ := bnd h
  refine un1 (v := (.c (.rop (e_TSToken x_1)))) (s_iaddr (e := e_TSToken) (xs := r_3) rfl rfl hx3) <| un1 (v := (.agg (e_TSToken x_1))) rfl ?_
  obtain ⟨r_4, hr4, h⟩ := bnd h
  refine un <| ac_pure (Z2q hr4) rfl rfl rfl <| un1 (v := (B (!decide (r_4 = [97, 110, 100])))) rfl <| dnil ?_
  refine Sv.cnd rfl h (fun h => ?_) fun h => ?_
  ·refine ssr <| un1 (v := (.agg [cB q0, lstC (zq12 && [(⟨f0, f1⟩ : TSFeature)].isEmpty) 5 2 r_2.length])) rfl <| un <| a2n (h' := upd _ 0 (some (.cells 2 [[cB q0, lstC (zq12 && [(⟨f0, f1⟩ : TSFeature)].isEmpty) 5 2 r_2.length]]))) (n' := 6) rfl rfl hcs <| un1 rfl <| dnil <| Sv.ret ?_
   replace h := Option.some.inj h
   subst h
   exact hr _ ⟨_, .refl _, _, rfl, ⟨upd e0 0 (some (.tup [(.agg [cB q0, lstC (zq12 && [(⟨f0, f1⟩ : TSFeature)].isEmpty) 0 2 r_2.length]), (B false)])), (upd e0 0 (lstB (zq12 && [(⟨f0, f1⟩ : TSFeature)].isEmpty) 2 (r_2.map e_TSFeature))), 1⟩, (.tup [(.agg [cB q0, lstC (zq12 && [(⟨f0, f1⟩ : TSFeature)].isEmpty) 0 2 r_2.length]), (B false)]), weak_canon2 [5] [0] (by decide) (by decide) nlz (.cons (by decide) .nil) (.cons rfl (avAs_tup (.cons (avAs_agg (.sm rfl (.cons (lstC_ren rfl (by decide)) .nil))) (.cons (avAs_free rfl) .nil))) .nil) (.row (by decide) rfl (fr_map fun _ => rfl) .nil), rfl, (zq12 && [(⟨f0, f1⟩ : TSFeature)].isEmpty), hz1, rfl, rfl, rfl⟩
  ·refine Sv.skip <| srg <| un1 rfl ?_
   obtain ⟨r_5, hx4, h⟩ := bnd h
   refine un1 (v := (.c (.ro false 4 (r_5.map e_TSToken)))) (s_slSl (e := e_TSToken) rfl rfl rfl hx4) <| un1 rfl <| dnil ?_
   exact hself r_5 r_2 (zq12 && [(⟨f0, f1⟩ : TSFeature)].isEmpty) hz1 h _ (wcn [0, 1, 5] rfl (.cr rfl rfl rfl (.cr rfl rfl rfl (.cf rfl rfl .nil))) (.row (by decide) rfl (fr_map fun _ => rfl) (.box (by decide) rfl (blkAs_cells (.sm rfl (.cons (lstC_ren rfl (by decide)) .nil))) (.box (by decide) rfl (blkAs_cells (.sm rfl (.sm rfl .nil))) .nil))))
abbrev Z5v (q0 : Bool) (F_ : Nat → (List TSToken) → (List TSFeature) → Option (TSQuery × Bool)) (o : (TSQuery × Bool)) : Nat → St → Prop := fun k s => ∃ (l_2 : (List TSToken)), ∃ (q1 : (List TSFeature)), ∃ (zq1 : Bool), (zq1 = true → q1 = []) ∧ F_ k l_2 q1 = some o ∧ s = ⟨(ue [(4, (.c (.ref 1 2 0 0))), (2, (.c (.ref 0 2 0 0))), (0, (.c (.ro false 4 (l_2.map e_TSToken))))]), (upd (upd (upd e0 0 (some (.cells 2 [[cB false, .ro true 2 []]]))) 1 (some (.cells 2 [[cB q0, lstC zq1 2 2 q1.length]]))) 2 (lstB zq1 2 (q1.map e_TSFeature))), 3⟩
noncomputable def Z5 (q0 : Bool) (K0_ : (List TSFeature) → Option (TSQuery × Bool)) : Nat → (List TSToken) → (List TSFeature) → Option (TSQuery × Bool)
 | 0, _, _ => none
 | k + 1, l_2, q1 =>
  if decide (0 < (l_2.length : Int)) then
   (at? l_2 0).bind fun x_ =>
   (Zc x_).bind fun r_ =>
   (Z1f r_).bind fun r_1 =>
   (at? l_2 0).bind fun x_2 =>
   if decide (x_2.Raw = [40]) then
    (Z1x l_2).bind fun r_6 =>
    if decide (r_6 = 0) then
     some ((⟨q0, q1⟩ : TSQuery), false)
    else
     (sub? l_2 1 (wi (r_6 - 1))).bind fun r_7 =>
     (Zw r_7).bind fun r_8 =>
     Zx l_2 q0 (Z5 q0 K0_ k) K0_ q1 r_6 r_8.Kind r_8.Num
   else
    if decide (3 < r_1) then
     some ((⟨q0, q1⟩ : TSQuery), false)
    else
     Zx l_2 q0 (Z5 q0 K0_ k) K0_ q1 1 r_1 0
  else
   K0_ q1
theorem Z8d {mL : Int} {Q : AExit → St → Prop} {q0 : Bool} {K0_ : (List TSFeature) → Option (TSQuery × Bool)} {k : Nat} {l_2 : (List TSToken)} {q1 : (List TSFeature)} {zq1 : Bool} (hzq1 : zq1 = true → q1 = []) {o : (TSQuery × Bool)} (h : Z5 q0 K0_ k l_2 q1 = some o)
  (hK0 : Z5t q0 K0_ o (Q (.exit 0)))
  (hr : ∀ s, Ends a18.results 0 (Z1g o) .ret s → Q .ret s) :
  Sv Tryz.prog (GG mL) 0 (.loop a18_c3) Q ⟨(ue [(4, (.c (.ref 1 2 0 0))), (2, (.c (.ref 0 2 0 0))), (0, (.c (.ro false 4 (l_2.map e_TSToken))))]), (upd (upd (upd e0 0 (some (.cells 2 [[cB false, .ro true 2 []]]))) 1 (some (.cells 2 [[cB q0, lstC zq1 2 2 q1.length]]))) 2 (lstB zq1 2 (q1.map e_TSFeature))), 3⟩ := by
 refine Sv.loop (I := Z5v q0 (Z5 q0 K0_) o) (fun k s hI => ?_) ⟨l_2, q1, zq1, hzq1, h, rfl⟩
 clear h
 clear hzq1 zq1 q1 l_2
 obtain ⟨l_2, q1, zq1, hzq1, h, rfl⟩ := hI
 cases k with
 | zero => cases h
 | succ k =>
 rw [Z5] at h
 have hself : Z5s q0 (Z5 q0 K0_ k) o (rnd 0 (Z5v q0 (Z5 q0 K0_) o) k Q) := fun l_2 q1 zq1 hzq1 h s hw => ⟨_, k, hw, Nat.lt_succ_self k, l_2, q1, zq1, hzq1, h, rfl⟩
 refine Sv.seq <| ssr <| un1 rfl <| un1 (v := (I (l_2.length : Int))) (s_len (e := e_TSToken) (xs := l_2) rfl) <| un1 (v := (B (decide (0 < (l_2.length : Int))))) rfl <| dnil ?_
 refine Sv.cnd rfl h (fun h => ?_) fun h => ?_
 ·refine Sv.skip <| Sv.block <| ssr <| un1 rfl <| dnil <| ssr <| un1 rfl ?_
  obtain ⟨x_, hx1, h⟩ := bnd h
  refine un1 (v := (.c (.rop (e_TSToken x_)))) (s_iaddr (e := e_TSToken) (xs := l_2) rfl rfl hx1) <| un1 (v := (.agg (e_TSToken x_))) rfl ?_
  obtain ⟨r_, hr1, h⟩ := bnd h
  refine un <| ac_pure (Z2q hr1) rfl rfl rfl ?_
  obtain ⟨r_1, hr2, h⟩ := bnd h
  refine un <| ac_pure (Z43 hr2) rfl rfl rfl <| un1 (v := (.agg [cI r_1, cI 0])) rfl <| un <| a2v (v := (.c (.ref 3 2 0 0))) (h' := upd _ 3 (some (.cells 2 [[cI 0, cI 0]]))) (n' := 4) rfl rfl hcs <| un <| a2n (h' := upd _ 3 (some (.cells 2 [[cI r_1, cI 0]]))) (n' := 4) rfl rfl hcs <| dnil <| Sv.seq <| ssr <| un1 rfl ?_
  obtain ⟨x_2, hx5, h⟩ := bnd h
  refine un1 (v := (.c (.rop (e_TSToken x_2)))) (s_iaddr (e := e_TSToken) (xs := l_2) rfl rfl hx5) <| un1 (v := (.c (.rop [.str x_2.Raw, .str x_2.Value, cI x_2.Num]))) rfl <| un1 (v := (S x_2.Raw)) rfl <| un1 (v := (B (decide (x_2.Raw = [40])))) rfl <| dnil ?_
  refine Sv.cnd rfl h (fun h => ?_) fun h => ?_
  ·refine Sv.seq <| ssr <| un1 rfl ?_
   obtain ⟨r_6, hr5, h⟩ := bnd h
   refine un <| ac_pure (Z5d hr5) rfl rfl rfl <| un1 rfl <| dnil <| ssr <| un1 rfl <| un1 (v := (B (decide (r_6 = 0)))) rfl <| dnil ?_
   refine Sv.cnd rfl h (fun h => ?_) fun h => ?_
   ·refine ssr <| un1 (v := (.agg [cB q0, lstC zq1 2 2 q1.length])) rfl <| un <| a2n (h' := upd _ 0 (some (.cells 2 [[cB q0, lstC zq1 2 2 q1.length]]))) (n' := 4) rfl rfl hcs <| un1 rfl <| dnil <| Sv.ret ?_
    replace h := Option.some.inj h
    subst h
    exact hr _ ⟨_, .refl _, _, rfl, ⟨upd e0 0 (some (.tup [(.agg [cB q0, lstC zq1 0 2 q1.length]), (B false)])), (upd e0 0 (lstB zq1 2 (q1.map e_TSFeature))), 1⟩, (.tup [(.agg [cB q0, lstC zq1 0 2 q1.length]), (B false)]), weak_canon2 [2] [0] (by decide) (by decide) nlz (.cons (by decide) .nil) (.cons rfl (avAs_tup (.cons (avAs_agg (.sm rfl (.cons (lstC_ren rfl (by decide)) .nil))) (.cons (avAs_free rfl) .nil))) .nil) (.row (by decide) rfl (fr_map fun _ => rfl) .nil), rfl, zq1, hzq1, rfl, rfl, rfl⟩
   ·refine Sv.skip <| srg <| un1 rfl <| un1 rfl <| un1 (v := (I (wi (r_6 - 1)))) rfl ?_
    obtain ⟨r_7, hx6, h⟩ := bnd h
    refine un1 (v := (.c (.ro false 4 (r_7.map e_TSToken)))) (s_slSl (e := e_TSToken) rfl rfl rfl hx6) ?_
    obtain ⟨r_8, hr6, h⟩ := bnd h
    refine un <| ac_pure (Z8b hr6) rfl rfl rfl <| un <| a2n (h' := upd _ 3 (some (.cells 2 [(e_TSFeature r_8)]))) (n' := 4) rfl rfl hcs <| dnil ?_
    exact Sv.weak (wcn [0, 1, 2, 3] rfl (.cr rfl rfl rfl (.cf rfl rfl (.cr rfl rfl rfl (.cr rfl rfl rfl (.cf rfl rfl .nil))))) (.box (by decide) rfl (blkAs_cells (.sm rfl (.sm rfl .nil))) (.row (by decide) rfl (fr_map fun _ => rfl) (.box (by decide) rfl (blkAs_cells (.sm rfl (.cons (lstC_ren rfl (by decide)) .nil))) (.box (by decide) rfl (blkAs_cells (.sm rfl (.sm rfl .nil))) .nil))))) (Z5u hzq1 h hself hK0 hr)
  ·refine ssr <| un1 (v := (.c (.ref 3 2 0 0))) rfl <| un1 (v := (I r_1)) rfl <| un1 (v := (B (decide (3 < r_1)))) rfl <| dnil ?_
   refine Sv.cnd rfl h (fun h => ?_) fun h => ?_
   ·refine ssr <| un1 (v := (.agg [cB q0, lstC zq1 2 2 q1.length])) rfl <| un <| a2n (h' := upd _ 0 (some (.cells 2 [[cB q0, lstC zq1 2 2 q1.length]]))) (n' := 4) rfl rfl hcs <| un1 rfl <| dnil <| Sv.ret ?_
    replace h := Option.some.inj h
    subst h
    exact hr _ ⟨_, .refl _, _, rfl, ⟨upd e0 0 (some (.tup [(.agg [cB q0, lstC zq1 0 2 q1.length]), (B false)])), (upd e0 0 (lstB zq1 2 (q1.map e_TSFeature))), 1⟩, (.tup [(.agg [cB q0, lstC zq1 0 2 q1.length]), (B false)]), weak_canon2 [2] [0] (by decide) (by decide) nlz (.cons (by decide) .nil) (.cons rfl (avAs_tup (.cons (avAs_agg (.sm rfl (.cons (lstC_ren rfl (by decide)) .nil))) (.cons (avAs_free rfl) .nil))) .nil) (.row (by decide) rfl (fr_map fun _ => rfl) .nil), rfl, zq1, hzq1, rfl, rfl, rfl⟩
   ·refine Sv.skip ?_
    exact Sv.weak (wcn [0, 1, 2, 3] rfl (.cr rfl rfl rfl (.cf rfl rfl (.cr rfl rfl rfl (.cr rfl rfl rfl (.cf rfl rfl .nil))))) (.box (by decide) rfl (blkAs_cells (.sm rfl (.sm rfl .nil))) (.row (by decide) rfl (fr_map fun _ => rfl) (.box (by decide) rfl (blkAs_cells (.sm rfl (.cons (lstC_ren rfl (by decide)) .nil))) (.box (by decide) rfl (blkAs_cells (.sm rfl (.sm rfl .nil))) .nil))))) (Z5u hzq1 h hself hK0 hr)
 ·refine Sv.exit ?_
  exact hK0 q1 zq1 hzq1 h _ (wcn [0, 1, 2] rfl (.cr rfl rfl rfl (.cr rfl rfl rfl .nil)) (.row (by decide) rfl (fr_map fun _ => rfl) (.box (by decide) rfl (blkAs_cells (.sm rfl (.cons (lstC_ren rfl (by decide)) .nil))) (.box (by decide) rfl (blkAs_cells (.sm rfl (.sm rfl .nil))) .nil))))
noncomputable def Z20 (l_1 : (List TSToken)) (q0 : Bool) : Option (TSQuery × Bool) :=
 limF fun kk => Z5 q0 (fun (q11 : (List TSFeature)) => 
   some ((⟨q0, q11⟩ : TSQuery), false)) kk l_1 ([] : List TSFeature)
theorem Z5w {mL : Int} {l_1 : (List TSToken)} {q0 : Bool} {o : (TSQuery × Bool)} (h : Z20 l_1 q0 = some o) :
  Sv Tryz.prog (GG mL) 0 a18_c1 (Ends a18.results 0 (Z1g o)) ⟨(ue [(4, (.c (.ref 1 2 0 0))), (2, (.c (.ref 0 2 0 0))), (0, (.c (.ro false 4 (l_1.map e_TSToken))))]), (upd (upd e0 0 (some (.cells 2 [[cB false, .ro true 2 []]]))) 1 (some (.cells 2 [[cB q0, .ro true 2 []]]))), 2⟩ := by
 unfold Z20 at h
 refine Sv.seq <| Sv.block ?_
 obtain ⟨kk, h⟩ := limF_some h
 refine Sv.weak (wcn [0, 1, 1000] rfl (.cr rfl rfl rfl (.cr rfl rfl rfl (.cf rfl rfl .nil))) (.non (by decide) (.box (by decide) rfl (blkAs_cells (.sm rfl (.sm rfl .nil))) (.box (by decide) rfl (blkAs_cells (.sm rfl (.sm rfl .nil))) .nil)))) (Z8d (fun _ => rfl) h ?_ (fun s hs => hs))
 ·intro q11 zq11 hzq11 h _ hw1
  refine Sv.weak hw1 <| ssr <| un1 (v := (.agg [cB q0, lstC zq11 2 2 q11.length])) rfl <| un <| a2n (h' := upd _ 0 (some (.cells 2 [[cB q0, lstC zq11 2 2 q11.length]]))) (n' := 3) rfl rfl hcs <| un1 rfl <| dnil <| Sv.ret ?_
  replace h := Option.some.inj h
  subst h
  exact ⟨_, .refl _, _, rfl, ⟨upd e0 0 (some (.tup [(.agg [cB q0, lstC zq11 0 2 q11.length]), (B false)])), (upd e0 0 (lstB zq11 2 (q11.map e_TSFeature))), 1⟩, (.tup [(.agg [cB q0, lstC zq11 0 2 q11.length]), (B false)]), weak_canon2 [2] [0] (by decide) (by decide) nlz (.cons (by decide) .nil) (.cons rfl (avAs_tup (.cons (avAs_agg (.sm rfl (.cons (lstC_ren rfl (by decide)) .nil))) (.cons (avAs_free rfl) .nil))) .nil) (.row (by decide) rfl (fr_map fun _ => rfl) .nil), rfl, zq11, hzq11, rfl, rfl, rfl⟩
abbrev Z8e (mL : Int) (o : (TSQuery × Bool)) : AExit → St → Prop := AThen (Sv Tryz.prog (GG mL) 0 a18_c1 (Ends a18.results 0 (Z1g o))) (Ends a18.results 0 (Z1g o))
noncomputable def Z21 (l_ : (List TSToken)) (v16 : Bool) : Option (TSQuery × Bool) :=
 if v16 then
  (sub? l_ 1 (l_.length : Int)).bind fun r_9 =>
  Z20 r_9 true
 else
  Z20 l_ false
theorem Z5x {mL : Int} {l_ : (List TSToken)} {v16 : Bool} {o : (TSQuery × Bool)} (h : Z21 l_ v16 = some o) :
  Sv Tryz.prog (GG mL) 0 a18_c0 (Z8e mL o) ⟨(ue [(16, (B v16)), (4, (.c (.ref 1 2 0 0))), (2, (.c (.ref 0 2 0 0))), (0, (.c (.ro false 4 (l_.map e_TSToken))))]), (upd (upd e0 0 (some (.cells 2 [[cB false, .ro true 2 []]]))) 1 (some (.cells 2 [[cB false, .ro true 2 []]]))), 2⟩ := by
 unfold Z21 at h
 refine Sv.cnd rfl h (fun h => ?_) fun h => ?_
 ·refine ssr <| un1 (v := (.c (.ref 1 2 0 0))) rfl <| un <| a2n (h' := upd _ 1 (some (.cells 2 [[cB true, .ro true 2 []]]))) (n' := 2) rfl rfl hcs <| dnil <| srg <| un1 rfl ?_
  obtain ⟨r_9, hx7, h⟩ := bnd h
  refine un1 (v := (.c (.ro false 4 (r_9.map e_TSToken)))) (s_slSl (e := e_TSToken) rfl rfl rfl hx7) <| un1 rfl <| dnil ?_
  exact Sv.weak (wcn [0, 1] rfl (.cr rfl rfl rfl (.cr rfl rfl rfl (.cf rfl rfl .nil))) (.box (by decide) rfl (blkAs_cells (.sm rfl (.sm rfl .nil))) (.box (by decide) rfl (blkAs_cells (.sm rfl (.sm rfl .nil))) .nil))) (Z5w h)
 ·refine Sv.skip ?_
  exact Sv.weak (wcn [0, 1] rfl (.cr rfl rfl rfl (.cr rfl rfl rfl (.cf rfl rfl .nil))) (.box (by decide) rfl (blkAs_cells (.sm rfl (.sm rfl .nil))) (.box (by decide) rfl (blkAs_cells (.sm rfl (.sm rfl .nil))) .nil))) (Z5w h)
/-- clerestory/media.query -/
noncomputable def Z2s (l_ : (List TSToken)) : Option (TSQuery × Bool) :=
 if decide (0 < (l_.length : Int)) then
  (at? l_ 0).bind fun x_3 =>
  (Zc x_3).bind fun r_10 =>
  Z21 l_ (decide (r_10 = [110, 111, 116]))
 else
  Z21 l_ false
theorem Z8f {mL : Int} {l_ : (List TSToken)} {r : (TSQuery × Bool)} (h : Z2s l_ = some r) : ACalls Tryz.prog (GG mL) 18 [(.c (.ro false 4 (l_.map e_TSToken)))] e0 0 (Z1g r) := by
 refine acalls_of_sv hmix c18 (R := Z1g r) ?_
 unfold Z2s at h
 refine ssr <| un <| a2v (v := (.c (.ref 0 2 0 0))) (h' := upd _ 0 (some (.cells 2 [[cB false, .ro true 2 []]]))) (n' := 1) rfl rfl hcs <| un1 rfl <| dnil <| ssr <| un <| a2v (v := (.c (.ref 1 2 0 0))) (h' := upd _ 1 (some (.cells 2 [[cB false, .ro true 2 []]]))) (n' := 2) rfl rfl hcs <| dnil <| Sv.seq <| ssr <| un1 rfl <| un1 (v := (I (l_.length : Int))) (s_len (e := e_TSToken) (xs := l_) rfl) <| un1 (v := (B (decide (0 < (l_.length : Int))))) rfl <| un1 rfl ?_
 refine spl h (fun h => ?_) fun h => ?_
 ·refine gt rfl <| a1 rfl ?_
  obtain ⟨x_3, hx8, h⟩ := bnd h
  refine gt rfl <| a1 (v := (.c (.rop (e_TSToken x_3)))) (s_iaddr (e := e_TSToken) (xs := l_) rfl rfl hx8) <| gt rfl <| a1 (v := (.agg (e_TSToken x_3))) rfl ?_
  obtain ⟨r_10, hr7, h⟩ := bnd h
  refine gt rfl <| ac_pure (Z2q hr7) rfl rfl rfl <| gt rfl <| a1 (v := (B (decide (r_10 = [110, 111, 116])))) rfl <| un1 (v := (B (decide (r_10 = [110, 111, 116])))) rfl <| dnil ?_
  exact Sv.weak (wcn [0, 1] rfl (.cf rfl rfl (.cr rfl rfl rfl (.cr rfl rfl rfl (.cf rfl rfl .nil)))) (.box (by decide) rfl (blkAs_cells (.sm rfl (.sm rfl .nil))) (.box (by decide) rfl (blkAs_cells (.sm rfl (.sm rfl .nil))) .nil))) (Z5x h)
 ·repeat (first | refine gu rfl ?_ | refine gs rfl rfl ?_)
  refine un1 (v := (B false)) rfl <| dnil ?_
  exact Sv.weak (wcn [0, 1] rfl (.cf rfl rfl (.cr rfl rfl rfl (.cr rfl rfl rfl (.cf rfl rfl .nil)))) (.box (by decide) rfl (blkAs_cells (.sm rfl (.sm rfl .nil))) (.box (by decide) rfl (blkAs_cells (.sm rfl (.sm rfl .nil))) .nil))) (Z5x h)
def a12_c0 : ACode := (.region [(mV 40 5), (oP 41 (.load true 2 (.tmp 8))), (oP 42 (.bslice 2 [(.val (.bool false)), (.ro true 2 [])] 1 [(0, (.tmp 41))])), (oP 43 (.app 2 32 (.tmp 40) (.tmp 42))), (mV 5 43)])
def a12_c1 : ACode := (.region [(oP 44 (.bin .add (.tmp 26) (kI 1))), (mV 26 44)])
def a12_c2 : ACode := (sr [(oP 27 (.bin .lss (.tmp 26) (.tmp 25)))]
 (.seq (.cond (.tmp 27) .skip (.exit 0))
 (.seq (.block 1 (sr [(oP 28 (.iaddr 1 (.tmp 24) (.tmp 26))), (oP 29 (.load false 1 (.tmp 28))), (mV 7 29)]
 (sr [(mV 31 7), (oP 32 (.call 18 [(.tmp 31)])), (mV 30 32), (oP 33 (.ext (.tmp 30) 0)), (oP 34 (.ext (.tmp 30) 1)), (oP 8 (.box (.const (.agg [(.val (.bool false)), (.ro true 2 [])])))), (oN (.store 2 (.tmp 8) (.tmp 33))), (mV 9 34)]
 (.seq (sr [(mV 35 9), (oP 36 (.un .not (.tmp 35)))]
 (.cond (.tmp 36) (.region [(oP 37 (.build [(.val (.int .i64 0)), (.val (.int .i64 0))] [(0, (1, (kI 12)))])), (oP 38 (.bslice 2 [(.val (.int .i64 0)), (.val (.int .i64 0))] 1 [(0, (.tmp 37))])), (oP 39 (.build [(.val (.bool false)), (.ro true 2 [])] [(1, (1, (.tmp 38)))])), (oN (.store 2 (.tmp 8) (.tmp 39)))]) .skip))
 a12_c0))))
 a12_c1)))
def a12 : AFunc := ⟨1, [(.tmp 2), (.tmp 3)], (sr [(oP 2 (.mov (.const (.c (.ro true 2 []))))), (oP 3 (.mov (kI 0)))]
 (.seq (sr [(mV 10 0), (oP 11 (.lenS (.tmp 10))), (oP 12 (.bin .gtr (.tmp 11) (kI 400)))]
 (.cond (.tmp 12) (sr [(oP 2 (.mov (.const (.c (.ro true 2 []))))), (oP 3 (.mov (kI 2)))]
 .ret) .skip))
 (sr [(mV 13 0), (oP 14 (.call 16 [(.tmp 13)])), (oP 15 (.call 15 [(.tmp 14)])), (mV 4 15)]
 (.seq (sr [(mV 16 4), (oP 17 (.len (.tmp 16))), (oP 18 (.bin .eql (.tmp 17) (kI 0)))]
 (.cond (.tmp 18) (sr [(oP 19 (.build [(.val (.int .i64 0)), (.val (.int .i64 0))] [(0, (1, (kI 1)))])), (oP 20 (.bslice 2 [(.val (.int .i64 0)), (.val (.int .i64 0))] 1 [(0, (.tmp 19))])), (oP 21 (.build [(.val (.bool false)), (.ro true 2 [])] [(1, (1, (.tmp 20)))])), (oP 22 (.bslice 2 [(.val (.bool false)), (.ro true 2 [])] 1 [(0, (.tmp 21))])), (mV 2 22), (oP 3 (.mov (kI 0)))]
 .ret) .skip))
 (sr [(oP 5 (.mov (.const (.c (.ro true 2 [])))))]
 (.seq (sr [(mV 23 4), (oP 24 (.call 17 [(.tmp 23)])), (oP 25 (.len (.tmp 24))), (oP 26 (.mov (kI 0)))]
 (.block 0 (.loop a12_c2)))
 (sr [(mV 45 5), (mV 2 45), (oP 3 (.mov (kI 0)))]
 .ret)))))))⟩
theorem c12 : compFunc Tryz.prog 12 = some a12 := by kernel_rfl
def Z37 (r : ((List TSQuery) × Int)) : AV → Heap → Nat → Prop := fun v h' n' => ∃ z0 : Bool, (z0 = true → r.1 = []) ∧ v = (.tup [(lstV z0 0 2 r.1.length), (I r.2)]) ∧ (h' = (upd e0 0 (lstB z0 2 (r.1.map e_TSQuery)))) ∧ n' = 1
abbrev Z5y (r_3 : (List (List TSToken))) (F_ : (List TSQuery) → (List (List TSToken)) → Int → Option ((List TSQuery) × Int)) (o : ((List TSQuery) × Int)) (R_ : St → Prop) : Prop := ∀ (out : (List TSQuery)) (v24 : (List (List TSToken))) (v26 : Int) (zout : Bool) (_ : zout = true → out = []) (zv24 : Bool) (_ : zv24 = true → v24 = []), F_ out v24 v26 = some o → ∀ s, Weak 0 s ⟨(ue [(26, (I v26)), (25, (I (r_3.length : Int))), (24, (lstV zv24 1 1 v24.length)), (5, (lstV zout 0 2 out.length))]), (upd (upd e0 0 (lstB zout 2 (out.map e_TSQuery))) 1 (lstB zv24 1 (v24.map (eSl 4 e_TSToken)))), 2⟩ → R_ s
abbrev Z5z (F_ : (List TSQuery) → Option ((List TSQuery) × Int)) (o : ((List TSQuery) × Int)) (R_ : St → Prop) : Prop := ∀ (out1 : (List TSQuery)) (zout1 : Bool) (_ : zout1 = true → out1 = []), F_ out1 = some o → ∀ s, Weak 0 s ⟨(upd e0 5 (some (lstV zout1 0 2 out1.length))), (upd e0 0 (lstB zout1 2 (out1.map e_TSQuery))), 1⟩ → R_ s
abbrev Z8g (mL : Int) (Q : AExit → St → Prop) : AExit → St → Prop := AThen (Sv Tryz.prog (GG mL) 0 a12_c1 Q) Q
abbrev Z8h (mL : Int) (Q : AExit → St → Prop) : AExit → St → Prop := ABlock 1 (Z8g mL Q)
noncomputable def Z2t (v26 : Int) (r_3 : (List (List TSToken))) (self : (List TSQuery) → (List (List TSToken)) → Int → Option ((List TSQuery) × Int)) (K0_ : (List TSQuery) → Option ((List TSQuery) × Int)) (out2 : (List TSQuery)) (q0 : Bool) (q1 : (List TSFeature)) (v241 : (List (List TSToken))) : Option ((List TSQuery) × Int) :=
 (app? 32 out2 [(⟨q0, q1⟩ : TSQuery)]).bind fun r_5 =>
 self r_5 v241 (wi (v26 + 1))
theorem Z60 {mL : Int} {Q : AExit → St → Prop} {v26 : Int} {r_3 : (List (List TSToken))} {self : (List TSQuery) → (List (List TSToken)) → Int → Option ((List TSQuery) × Int)} {K0_ : (List TSQuery) → Option ((List TSQuery) × Int)} {out2 : (List TSQuery)} {q0 : Bool} {q1 : (List TSFeature)} {v241 : (List (List TSToken))} {zout2 : Bool} (hzout2 : zout2 = true → out2 = []) {zq1 : Bool} (hzq1 : zq1 = true → q1 = []) {zv241 : Bool} (hzv241 : zv241 = true → v241 = []) {o : ((List TSQuery) × Int)} (h : Z2t v26 r_3 self K0_ out2 q0 q1 v241 = some o)
  (hself : Z5y r_3 self o (Q .normal))
  (hK0 : Z5z K0_ o (Q (.exit 0)))
  (hr : ∀ s, Ends a12.results 0 (Z37 o) .ret s → Q .ret s) :
  Sv Tryz.prog (GG mL) 0 a12_c0 (Z8h mL Q) ⟨(ue [(26, (I v26)), (25, (I (r_3.length : Int))), (24, (lstV zv241 3 1 v241.length)), (8, (.c (.ref 1 2 0 0))), (5, (lstV zout2 0 2 out2.length))]), (upd (upd (upd (upd e0 0 (lstB zout2 2 (out2.map e_TSQuery))) 1 (some (.cells 2 [[cB q0, lstC zq1 2 2 q1.length]]))) 2 (lstB zq1 2 (q1.map e_TSFeature))) 3 (lstB zv241 1 (v241.map (eSl 4 e_TSToken)))), 4⟩ := by
 unfold Z2t at h
 refine srg <| un1 rfl <| un1 (v := (.agg [cB q0, lstC zq1 2 2 q1.length])) rfl <| dweak (show Weak 0 _ ⟨(ue [(41, (.agg [cB q0, .ro false 2 (q1.map e_TSFeature)])), (40, (lstV zout2 0 2 out2.length)), (26, (I v26)), (25, (I (r_3.length : Int))), (24, (lstV zv241 3 1 v241.length)), (8, (.c (.ref 1 2 0 0))), (5, (lstV zout2 0 2 out2.length))]), (upd (upd (upd e0 0 (lstB zout2 2 (out2.map e_TSQuery))) 1 (some (.cells 2 [[cB q0, .ro false 2 (q1.map e_TSFeature)]]))) 3 (lstB zv241 1 (v241.map (eSl 4 e_TSToken)))), 4⟩ from (wcn [0, 1, 1002, 3] rfl (.cons rfl (avAs_agg (.sm rfl (.cons (lstC_ro (es := List.map e_TSFeature q1) rfl (List.length_map e_TSFeature).symm (map_nil_of hzq1) (fun b x hx => not_in (bs := [0, 1, 1002, 3]) rfl b (((.cons (by decide) (.cons (by decide) (.cons (by decide) .nil))) : HLt _ _) b x hx)) (fr_map fun _ => rfl)) .nil))) (.cons rfl (.c (lsr rfl rfl)) (.cf rfl rfl (.cf rfl rfl (.cons rfl (.c (lsr rfl rfl)) (.cr rfl rfl rfl (.cons rfl (.c (lsr rfl rfl)) .nil))))))) (.row (by decide) rfl (fr_map fun _ => rfl) (.box (by decide) rfl (blkAs_cells (.sm rfl (.cons (lstC_ro (es := List.map e_TSFeature q1) rfl (List.length_map e_TSFeature).symm (map_nil_of hzq1) (fun b x hx => not_in (bs := [0, 1, 1002, 3]) rfl b (((.cons (by decide) (.cons (by decide) (.cons (by decide) .nil))) : HLt _ _) b x hx)) (fr_map fun _ => rfl)) .nil))) (.row (by decide) rfl (fr_map fun _ => rfl) .nil))))) <| un <| a2v (v := (lstV false 4 2 [(⟨q0, q1⟩ : TSQuery)].length)) (h' := upd _ 4 (lstB false 2 ([(⟨q0, q1⟩ : TSQuery)].map e_TSQuery))) (n' := 5) rfl rfl hcs ?_
 obtain ⟨r_5, hr6, h⟩ := bnd h
 have hz1 : (zout2 && [(⟨q0, q1⟩ : TSQuery)].isEmpty) = true → r_5 = [] := app_nil (z := zout2) (ys := [(⟨q0, q1⟩ : TSQuery)]) hzout2 hr6
 refine un <| a2v rfl (s_app (xs := out2) (ys := [(⟨q0, q1⟩ : TSQuery)]) (e := e_TSQuery) (z := zout2) (b := 0) rfl rfl hzout2 rfl rfl (slc_lst rfl (List.length_map _).symm (map_nil_of hcs)) hr6) hcs <| un1 rfl <| dnil <| srg <| un1 (v := (I (wi (v26 + 1)))) rfl <| un1 rfl <| dnil ?_
 exact hself r_5 v241 (wi (v26 + 1)) (zout2 && [(⟨q0, q1⟩ : TSQuery)].isEmpty) hz1 zv241 hzv241 h _ (wcn [5, 3] rfl (.cf rfl rfl (.cf rfl rfl (.cons rfl (.c (lsr rfl rfl)) (.cons rfl (.c (lsr rfl rfl)) .nil)))) (.row (by decide) rfl (fr_map fun _ => rfl) (.row (by decide) rfl (fr_map fun _ => rfl) .nil)))
abbrev Z61 (r_3 : (List (List TSToken))) (F_ : Nat → (List TSQuery) → (List (List TSToken)) → Int → Option ((List TSQuery) × Int)) (o : ((List TSQuery) × Int)) : Nat → St → Prop := fun k s => ∃ (out : (List TSQuery)), ∃ (v24 : (List (List TSToken))), ∃ (v26 : Int), ∃ (zout : Bool), (zout = true → out = []) ∧ ∃ (zv24 : Bool), (zv24 = true → v24 = []) ∧ F_ k out v24 v26 = some o ∧ s = ⟨(ue [(26, (I v26)), (25, (I (r_3.length : Int))), (24, (lstV zv24 1 1 v24.length)), (5, (lstV zout 0 2 out.length))]), (upd (upd e0 0 (lstB zout 2 (out.map e_TSQuery))) 1 (lstB zv24 1 (v24.map (eSl 4 e_TSToken)))), 2⟩
noncomputable def Z9 (r_3 : (List (List TSToken))) (K0_ : (List TSQuery) → Option ((List TSQuery) × Int)) : Nat → (List TSQuery) → (List (List TSToken)) → Int → Option ((List TSQuery) × Int)
 | 0, _, _, _ => none
 | k + 1, out, v24, v26 =>
  if decide (v26 < (r_3.length : Int)) then
   (at? v24 v26).bind fun x_ =>
   (Z2s x_).bind fun r_4 =>
   if (!r_4.2) then
    Z2t v26 r_3 (Z9 r_3 K0_ k) K0_ out false ([(⟨12, 0⟩ : TSFeature)] : List TSFeature) v24
   else
    Z2t v26 r_3 (Z9 r_3 K0_ k) K0_ out r_4.1.Not r_4.1.Features v24
  else
   K0_ out
theorem Z8i {mL : Int} {Q : AExit → St → Prop} {r_3 : (List (List TSToken))} {K0_ : (List TSQuery) → Option ((List TSQuery) × Int)} {k : Nat} {out : (List TSQuery)} {v24 : (List (List TSToken))} {v26 : Int} {zout : Bool} (hzout : zout = true → out = []) {zv24 : Bool} (hzv24 : zv24 = true → v24 = []) {o : ((List TSQuery) × Int)} (h : Z9 r_3 K0_ k out v24 v26 = some o)
  (hK0 : Z5z K0_ o (Q (.exit 0)))
  (hr : ∀ s, Ends a12.results 0 (Z37 o) .ret s → Q .ret s) :
  Sv Tryz.prog (GG mL) 0 (.loop a12_c2) Q ⟨(ue [(26, (I v26)), (25, (I (r_3.length : Int))), (24, (lstV zv24 1 1 v24.length)), (5, (lstV zout 0 2 out.length))]), (upd (upd e0 0 (lstB zout 2 (out.map e_TSQuery))) 1 (lstB zv24 1 (v24.map (eSl 4 e_TSToken)))), 2⟩ := by
 refine Sv.loop (I := Z61 r_3 (Z9 r_3 K0_) o) (fun k s hI => ?_) ⟨out, v24, v26, zout, hzout, zv24, hzv24, h, rfl⟩
 clear h
 clear hzv24 hzout zv24 zout v26 v24 out
 obtain ⟨out, v24, v26, zout, hzout, zv24, hzv24, h, rfl⟩ := hI
 cases k with
 | zero => cases h
 | succ k =>
 rw [Z9] at h
 have hself : Z5y r_3 (Z9 r_3 K0_ k) o (rnd 0 (Z61 r_3 (Z9 r_3 K0_) o) k Q) := fun out v24 v26 zout hzout zv24 hzv24 h s hw => ⟨_, k, hw, Nat.lt_succ_self k, out, v24, v26, zout, hzout, zv24, hzv24, h, rfl⟩
 refine ssr <| un1 (v := (B (decide (v26 < (r_3.length : Int))))) rfl <| dnil <| Sv.seq ?_
 refine Sv.cnd rfl h (fun h => ?_) fun h => ?_
 ·refine Sv.skip <| Sv.seq <| Sv.block <| ssr ?_
  obtain ⟨x_, hx1, h⟩ := bnd h
  refine un1 (v := (.c (.ref 1 1 v26.toNat 0))) (s_iaddrL rfl rfl hzv24 hx1) <| un1 (v := (.c (.ro false 4 (x_.map e_TSToken)))) (s_loadL (z := zv24) (e := (eSl 4 e_TSToken)) rfl rfl hzv24 hx1 rfl rfl) <| un1 rfl <| dnil <| ssr <| un1 rfl ?_
  obtain ⟨r_4, hr5, h⟩ := bnd h
  refine un <| ac_gen (bs := []) («as» := [(.c (.ro false 4 (x_.map e_TSToken)))]) (h2 := _) (h1 := e0) (Z8f hr5) rfl (.cons (avAs_free rfl) .nil) (hsub_refl _) (.nil _) (fun _ => rfl) (by decide) (by decide) (.cons (avAs_free rfl) .nil) .nil ?_
  rintro _ _ _ hn ⟨z_4, hz_4, rfl, rfl, rfl⟩
  refine ⟨.inl rfl, (upd (rem [] _) 2 (lstB z_4 2 (r_4.1.Features.map e_TSFeature))), fun hbd => (m3_cons (m3_row rfl (fr_map fun _ => rfl)) (m3_rem (in_nil _) (.cons (by decide) .nil) hbd)), (.tup [(.agg [cB r_4.1.Not, lstC z_4 2 2 r_4.1.Features.length]), (B r_4.2)]), 3, (by cases z_4 <;> rfl), rfl, ?_⟩
  refine un1 rfl <| un1 (v := (.agg [cB r_4.1.Not, lstC z_4 2 2 r_4.1.Features.length])) rfl <| un1 (v := (B r_4.2)) rfl <| un <| a2v (v := (.c (.ref 3 2 0 0))) (h' := upd _ 3 (some (.cells 2 [[cB false, .ro true 2 []]]))) (n' := 4) rfl rfl hcs <| un <| a2n (h' := upd _ 3 (some (.cells 2 [[cB r_4.1.Not, lstC z_4 2 2 r_4.1.Features.length]]))) (n' := 4) rfl rfl hcs <| un1 rfl <| dnil <| Sv.seq <| ssr <| un1 rfl <| un1 (v := (B (!r_4.2))) rfl <| dnil ?_
  refine Sv.cnd rfl h (fun h => ?_) fun h => ?_
  ·refine srg <| un1 (v := (.agg [cI 12, cI 0])) rfl <| un <| a2v (v := (lstV false 4 2 ([(⟨12, 0⟩ : TSFeature)] : List TSFeature).length)) (h' := upd _ 4 (lstB false 2 (([(⟨12, 0⟩ : TSFeature)] : List TSFeature).map e_TSFeature))) (n' := 5) rfl rfl hcs <| un1 (v := (.agg [cB false, lstC false 4 2 ([(⟨12, 0⟩ : TSFeature)] : List TSFeature).length])) rfl <| un <| a2n (h' := upd _ 3 (some (.cells 2 [[cB false, lstC false 4 2 ([(⟨12, 0⟩ : TSFeature)] : List TSFeature).length]]))) (n' := 5) rfl rfl hcs <| dnil ?_
   exact Sv.weak (wcn [0, 3, 4, 1] rfl (.cf rfl rfl (.cf rfl rfl (.cons rfl (.c (lsr rfl rfl)) (.cr rfl rfl rfl (.cons rfl (.c (lsr rfl rfl)) .nil))))) (.row (by decide) rfl (fr_map fun _ => rfl) (.row (by decide) rfl (fr_map fun _ => rfl) (.box (by decide) rfl (blkAs_cells (.sm rfl (.cons (lstC_ren rfl (by decide)) .nil))) (.row (by decide) rfl (fr_map fun _ => rfl) .nil))))) (Z60 hzout hcs hzv24 h hself hK0 hr)
  ·refine Sv.skip ?_
   exact Sv.weak (wcn [0, 3, 2, 1] rfl (.cf rfl rfl (.cf rfl rfl (.cons rfl (.c (lsr rfl rfl)) (.cr rfl rfl rfl (.cons rfl (.c (lsr rfl rfl)) .nil))))) (.row (by decide) rfl (fr_map fun _ => rfl) (.row (by decide) rfl (fr_map fun _ => rfl) (.box (by decide) rfl (blkAs_cells (.sm rfl (.cons (lstC_ren rfl (by decide)) .nil))) (.row (by decide) rfl (fr_map fun _ => rfl) .nil))))) (Z60 hzout hz_4 hzv24 h hself hK0 hr)
 ·refine Sv.exit ?_
  exact hK0 out zout hzout h _ (wcn [0] rfl (.cons rfl (.c (lsr rfl rfl)) .nil) (.row (by decide) rfl (fr_map fun _ => rfl) .nil))
/-- clerestory/media.Read -/
noncomputable def Zr (s_ : Tx) : Option ((List TSQuery) × Int) :=
 if decide (400 < (s_.length : Int)) then
  some (([] : List TSQuery), 2)
 else
  (Z2k s_).bind fun r_ =>
  (Z2m r_).bind fun r_1 =>
  if decide ((r_1.length : Int) = 0) then
   some (([(⟨false, ([(⟨1, 0⟩ : TSFeature)] : List TSFeature)⟩ : TSQuery)] : List TSQuery), 0)
  else
   (Z2p r_1).bind fun r_3 =>
   limF fun kk => Z9 r_3 (fun (out1 : (List TSQuery)) => 
     some (out1, 0)) kk ([] : List TSQuery) r_3 0
theorem Z8j {mL : Int} {s_ : Tx} {r : ((List TSQuery) × Int)} (h : Zr s_ = some r) : ACalls Tryz.prog (GG mL) 12 [(S s_)] e0 0 (Z37 r) := by
 refine acalls_of_sv hmix c12 (R := Z37 r) ?_
 unfold Zr at h
 refine ssr <| un1 rfl <| un1 rfl <| dnil <| Sv.seq <| ssr <| un1 rfl <| un1 (v := (I (s_.length : Int))) rfl <| un1 (v := (B (decide (400 < (s_.length : Int))))) rfl <| dnil ?_
 refine Sv.cnd rfl h (fun h => ?_) fun h => ?_
 ·refine ssr <| un1 rfl <| un1 rfl <| dnil <| Sv.ret ?_
  replace h := Option.some.inj h
  subst h
  exact ⟨_, .refl _, _, rfl, ⟨upd e0 0 (some (.tup [(lstV true 0 2 ([] : List TSQuery).length), (I 2)])), (upd e0 0 (lstB true 2 (([] : List TSQuery).map e_TSQuery))), 1⟩, (.tup [(lstV true 0 2 ([] : List TSQuery).length), (I 2)]), weak_canon2 [1000] [0] (by decide) (by decide) nlz (.cons (by decide) .nil) (.cons rfl (avAs_tup (.cons (.c (.same rfl)) (.cons (avAs_free rfl) .nil))) .nil) (.non (by decide) .nil), rfl, true, (fun _ => rfl), rfl, rfl, rfl⟩
 ·refine Sv.skip <| ssr <| un1 rfl ?_
  obtain ⟨r_, hr1, h⟩ := bnd h
  refine un <| ac_gen (bs := []) («as» := [(S s_)]) (h2 := _) (h1 := e0) (Z7p hr1) rfl (.cons (avAs_free rfl) .nil) (hsub_refl _) (.nil _) (fun _ => rfl) (by decide) (by decide) (.cons (avAs_free rfl) .nil) .nil ?_
  rintro _ _ _ hn ⟨z_, hz_, rfl, rfl, rfl⟩
  refine ⟨.inl rfl, (upd (rem [] _) 0 (lstB z_ 4 (r_.map e_TSToken))), fun hbd => (m3_cons (m3_row rfl (fr_map fun _ => rfl)) (m3_rem (in_nil _) (.cons (by decide) .nil) hbd)), (lstV z_ 0 4 r_.length), 1, (by cases z_ <;> rfl), rfl, ?_⟩
  obtain ⟨r_1, hr2, h⟩ := bnd h
  refine un <| ac_gen (bs := []) («as» := [(.c (.ro false 4 (r_.map e_TSToken)))]) (h2 := (upd _ 0 none)) (h1 := e0) (Z7r hr2) rfl (.cons (.c (lstC_ro (es := List.map e_TSToken r_) rfl (List.length_map e_TSToken).symm (map_nil_of hz_) (gone rfl) (fr_map fun _ => rfl))) .nil) (hsub_none (hsub_refl _)) (.nil _) (fun _ => rfl) (by decide) (by decide) (.cons (avAs_free rfl) .nil) .nil ?_
  rintro _ _ _ hn ⟨z_1, hz_1, rfl, rfl, rfl⟩
  refine ⟨.inr ⟨(by cases z_1 <;> rfl), (.row (cl_map fun _ => rfl) .nil)⟩, (upd (rem [] _) 1 (lstB z_1 4 (r_1.map e_TSToken))), fun hbd => (m3_cons (m3_row rfl (fr_map fun _ => rfl)) (m3_rem (in_nil _) (.cons (by decide) .nil) hbd)), (lstV z_1 1 4 r_1.length), 2, (by cases z_1 <;> rfl), rfl, ?_⟩
  refine un1 rfl <| dnil <| Sv.seq <| ssr <| un1 rfl <| un1 (v := (I (r_1.length : Int))) (s_lenL rfl (len_nil_of hz_1)) <| un1 (v := (B (decide ((r_1.length : Int) = 0)))) rfl <| dnil ?_
  refine Sv.cnd rfl h (fun h => ?_) fun h => ?_
  ·refine ssr <| un1 (v := (.agg [cI 1, cI 0])) rfl <| un <| a2v (v := (lstV false 2 2 ([(⟨1, 0⟩ : TSFeature)] : List TSFeature).length)) (h' := upd _ 2 (lstB false 2 (([(⟨1, 0⟩ : TSFeature)] : List TSFeature).map e_TSFeature))) (n' := 3) rfl rfl hcs <| un1 (v := (.agg [cB false, lstC false 2 2 ([(⟨1, 0⟩ : TSFeature)] : List TSFeature).length])) rfl <| dweak (show Weak 0 _ ⟨(ue [(21, (.agg [cB false, .ro false 2 (([(⟨1, 0⟩ : TSFeature)] : List TSFeature).map e_TSFeature)])), (20, (.c (.ro false 2 (([(⟨1, 0⟩ : TSFeature)] : List TSFeature).map e_TSFeature)))), (19, (.agg [cI 1, cI 0])), (18, (B (decide ((r_1.length : Int) = 0)))), (17, (I (r_1.length : Int))), (16, (lstV z_1 1 4 r_1.length)), (15, (lstV z_1 1 4 r_1.length)), (14, (lstV z_ 0 4 r_.length)), (13, (S s_)), (12, (B (decide (400 < (s_.length : Int))))), (11, (I (s_.length : Int))), (10, (S s_)), (4, (lstV z_1 1 4 r_1.length)), (3, (I 0)), (2, (.c (.ro true 2 []))), (0, (S s_))]), (upd (upd e0 0 (lstB z_ 4 (r_.map e_TSToken))) 1 (lstB z_1 4 (r_1.map e_TSToken))), 3⟩ from (wcn [0, 1, 1002] rfl (.cons rfl (avAs_agg (.sm rfl (.cons (lstC_ro (es := List.map e_TSFeature ([(⟨1, 0⟩ : TSFeature)] : List TSFeature)) rfl (List.length_map e_TSFeature).symm (map_nil_of hcs) (fun b x hx => not_in (bs := [0, 1, 1002]) rfl b (((.cons (by decide) (.cons (by decide) .nil)) : HLt _ _) b x hx)) (fr_map fun _ => rfl)) .nil))) (.cons rfl (.c (lstC_ro (es := List.map e_TSFeature ([(⟨1, 0⟩ : TSFeature)] : List TSFeature)) rfl (List.length_map e_TSFeature).symm (map_nil_of hcs) (fun b x hx => not_in (bs := [0, 1, 1002]) rfl b (((.cons (by decide) (.cons (by decide) .nil)) : HLt _ _) b x hx)) (fr_map fun _ => rfl))) (.cf rfl rfl (.cf rfl rfl (.cf rfl rfl (.cons rfl (.c (lsr rfl rfl)) (.cons rfl (.c (lsr rfl rfl)) (.cons rfl (.c (lsr rfl rfl)) (.cf rfl rfl (.cf rfl rfl (.cf rfl rfl (.cf rfl rfl (.cons rfl (.c (lsr rfl rfl)) (.cf rfl rfl (.cf rfl rfl (.cf rfl rfl .nil)))))))))))))))) (.row (by decide) rfl (fr_map fun _ => rfl) (.row (by decide) rfl (fr_map fun _ => rfl) .nil)))) <| un <| a2v (v := (lstV false 3 2 ([(⟨false, ([(⟨1, 0⟩ : TSFeature)] : List TSFeature)⟩ : TSQuery)] : List TSQuery).length)) (h' := upd _ 3 (lstB false 2 (([(⟨false, ([(⟨1, 0⟩ : TSFeature)] : List TSFeature)⟩ : TSQuery)] : List TSQuery).map e_TSQuery))) (n' := 4) rfl rfl hcs <| un1 rfl <| un1 rfl <| dnil <| Sv.ret ?_
   replace h := Option.some.inj h
   subst h
   exact ⟨_, .refl _, _, rfl, ⟨upd e0 0 (some (.tup [(lstV false 0 2 ([(⟨false, ([(⟨1, 0⟩ : TSFeature)] : List TSFeature)⟩ : TSQuery)] : List TSQuery).length), (I 0)])), (upd e0 0 (lstB false 2 (([(⟨false, ([(⟨1, 0⟩ : TSFeature)] : List TSFeature)⟩ : TSQuery)] : List TSQuery).map e_TSQuery))), 1⟩, (.tup [(lstV false 0 2 ([(⟨false, ([(⟨1, 0⟩ : TSFeature)] : List TSFeature)⟩ : TSQuery)] : List TSQuery).length), (I 0)]), weak_canon2 [3] [0] (by decide) (by decide) nlz (.cons (by decide) .nil) (.cons rfl (avAs_tup (.cons (.c (lsr rfl rfl)) (.cons (avAs_free rfl) .nil))) .nil) (.row (by decide) rfl (fr_map fun _ => rfl) .nil), rfl, false, hcs, rfl, rfl, rfl⟩
  ·refine Sv.skip <| ssr <| un1 rfl <| dnil <| Sv.seq <| ssr <| un1 rfl <| dweak (show Weak 0 _ ⟨(ue [(23, (.c (.ro false 4 (r_1.map e_TSToken)))), (18, (B (decide ((r_1.length : Int) = 0)))), (17, (I (r_1.length : Int))), (16, (.c (.ro false 4 (r_1.map e_TSToken)))), (15, (.c (.ro false 4 (r_1.map e_TSToken)))), (14, (lstV z_ 0 4 r_.length)), (13, (S s_)), (12, (B (decide (400 < (s_.length : Int))))), (11, (I (s_.length : Int))), (10, (S s_)), (5, (.c (.ro true 2 []))), (4, (.c (.ro false 4 (r_1.map e_TSToken)))), (3, (I 0)), (2, (.c (.ro true 2 []))), (0, (S s_))]), (upd e0 0 (lstB z_ 4 (r_.map e_TSToken))), 2⟩ from (wcn [0, 1001] rfl (.cons rfl (.c (lstC_ro (es := List.map e_TSToken r_1) rfl (List.length_map e_TSToken).symm (map_nil_of hz_1) (fun b x hx => not_in (bs := [0, 1001]) rfl b (((.cons (by decide) .nil) : HLt _ _) b x hx)) (fr_map fun _ => rfl))) (.cf rfl rfl (.cf rfl rfl (.cons rfl (.c (lstC_ro (es := List.map e_TSToken r_1) rfl (List.length_map e_TSToken).symm (map_nil_of hz_1) (fun b x hx => not_in (bs := [0, 1001]) rfl b (((.cons (by decide) .nil) : HLt _ _) b x hx)) (fr_map fun _ => rfl))) (.cons rfl (.c (lstC_ro (es := List.map e_TSToken r_1) rfl (List.length_map e_TSToken).symm (map_nil_of hz_1) (fun b x hx => not_in (bs := [0, 1001]) rfl b (((.cons (by decide) .nil) : HLt _ _) b x hx)) (fr_map fun _ => rfl))) (.cons rfl (.c (lsr rfl rfl)) (.cf rfl rfl (.cf rfl rfl (.cf rfl rfl (.cf rfl rfl (.cf rfl rfl (.cons rfl (.c (lstC_ro (es := List.map e_TSToken r_1) rfl (List.length_map e_TSToken).symm (map_nil_of hz_1) (fun b x hx => not_in (bs := [0, 1001]) rfl b (((.cons (by decide) .nil) : HLt _ _) b x hx)) (fr_map fun _ => rfl))) (.cf rfl rfl (.cf rfl rfl (.cf rfl rfl .nil))))))))))))))) (.row (by decide) rfl (fr_map fun _ => rfl) .nil))) ?_
   obtain ⟨r_3, hr4, h⟩ := bnd h
   refine un <| ac_gen (bs := []) («as» := [(.c (.ro false 4 (r_1.map e_TSToken)))]) (h2 := _) (h1 := e0) (Z80 hr4) rfl (.cons (avAs_free rfl) .nil) (hsub_refl _) (.nil _) (fun _ => rfl) (by decide) (by decide) (.cons (avAs_free rfl) .nil) .nil ?_
   rintro _ _ _ hn ⟨z_3, hz_3, rfl, rfl, rfl⟩
   refine ⟨.inl rfl, (upd (rem [] _) 2 (lstB z_3 1 (r_3.map (eSl 4 e_TSToken)))), fun hbd => (m3_cons (m3_row rfl (fr_map fun _ => rfl)) (m3_rem (in_nil _) (.cons (by decide) .nil) hbd)), (lstV z_3 2 1 r_3.length), 3, (by cases z_3 <;> rfl), rfl, ?_⟩
   refine un1 (v := (I (r_3.length : Int))) (s_lenL rfl (len_nil_of hz_3)) <| un1 rfl <| dnil <| Sv.block ?_
   obtain ⟨kk, h⟩ := limF_some h
   refine Sv.weak (wcn [1000, 2] rfl (.cf rfl rfl (.cf rfl rfl (.cons rfl (.c (lsr rfl rfl)) (.cons rfl (.c (.same rfl)) .nil)))) (.row (by decide) rfl (fr_map fun _ => rfl) (.non (by decide) .nil))) (Z8i (fun _ => rfl) hz_3 h ?_ (fun s hs => hs))
   ·intro out1 zout1 hzout1 h _ hw1
    refine Sv.weak hw1 <| ssr <| un1 rfl <| un1 rfl <| un1 rfl <| dnil <| Sv.ret ?_
    replace h := Option.some.inj h
    subst h
    exact ⟨_, .refl _, _, rfl, ⟨upd e0 0 (some (.tup [(lstV zout1 0 2 out1.length), (I 0)])), (upd e0 0 (lstB zout1 2 (out1.map e_TSQuery))), 1⟩, (.tup [(lstV zout1 0 2 out1.length), (I 0)]), weak_canon2 [0] [0] (by decide) (by decide) nlz (.cons (by decide) .nil) (.cons rfl (avAs_tup (.cons (.c (lsr rfl rfl)) (.cons (avAs_free rfl) .nil))) .nil) (.row (by decide) rfl (fr_map fun _ => rfl) .nil), rfl, zout1, hzout1, rfl, rfl, rfl⟩
def a19_c0 : ACode := (.seq (sr [(mV 70 5)]
 (.cond (.tmp 70) (sr [(oP 4 (.mov (kI 1)))]
 .ret) .skip))
 (sr [(oP 4 (.mov (.const (.c (.val (.int .i64 (-1)))))))]
 .ret))
def a19 : AFunc := ⟨2, [(.tmp 4)], (sr [(oP 2 (.box (.tmp 0))), (oP 3 (.box (.tmp 1))), (oP 4 (.mov (kI 0)))]
 (sr [(oP 5 (.mov kF))]
 (.seq (sr [(oP 6 (.faddr 0 (.tmp 2))), (oP 7 (.load false 1 (.tmp 6)))]
 (.block 0 (sr [(oP 9 (.bin .eql (.tmp 7) (kI 1))), (mV 8 9)]
 (.cond (.tmp 8) (.region [(oP 5 (.mov kT))]) (sr [(oP 11 (.bin .eql (.tmp 7) (kI 2))), (mV 10 11)]
 (.cond (.tmp 10) (.region [(oP 12 (.faddr 3 (.tmp 3))), (oP 13 (.load false 1 (.tmp 12))), (oP 14 (.un .not (.tmp 13))), (mV 5 14)]) (sr [(oP 16 (.bin .eql (.tmp 7) (kI 3))), (mV 15 16)]
 (.cond (.tmp 15) (.region [(oP 17 (.faddr 3 (.tmp 3))), (oP 18 (.load false 1 (.tmp 17))), (mV 5 18)]) (sr [(oP 20 (.bin .eql (.tmp 7) (kI 4))), (mV 19 20)]
 (.cond (.tmp 19) (.region [(oP 21 (.faddr 0 (.tmp 3))), (oP 22 (.load false 1 (.tmp 21))), (oP 23 (.faddr 1 (.tmp 2))), (oP 24 (.load false 1 (.tmp 23))), (oP 25 (.bin .geq (.tmp 22) (.tmp 24))), (mV 5 25)]) (sr [(oP 27 (.bin .eql (.tmp 7) (kI 5))), (mV 26 27)]
 (.cond (.tmp 26) (.region [(oP 28 (.faddr 0 (.tmp 3))), (oP 29 (.load false 1 (.tmp 28))), (oP 30 (.faddr 1 (.tmp 2))), (oP 31 (.load false 1 (.tmp 30))), (oP 32 (.bin .leq (.tmp 29) (.tmp 31))), (mV 5 32)]) (sr [(oP 34 (.bin .eql (.tmp 7) (kI 6))), (mV 33 34)]
 (.cond (.tmp 33) (.region [(oP 35 (.faddr 1 (.tmp 3))), (oP 36 (.load false 1 (.tmp 35))), (oP 37 (.faddr 1 (.tmp 2))), (oP 38 (.load false 1 (.tmp 37))), (oP 39 (.bin .geq (.tmp 36) (.tmp 38))), (mV 5 39)]) (sr [(oP 41 (.bin .eql (.tmp 7) (kI 7))), (mV 40 41)]
 (.cond (.tmp 40) (.region [(oP 42 (.faddr 1 (.tmp 3))), (oP 43 (.load false 1 (.tmp 42))), (oP 44 (.faddr 1 (.tmp 2))), (oP 45 (.load false 1 (.tmp 44))), (oP 46 (.bin .leq (.tmp 43) (.tmp 45))), (mV 5 46)]) (sr [(oP 48 (.bin .eql (.tmp 7) (kI 8))), (mV 47 48)]
 (.cond (.tmp 47) (.region [(oP 49 (.faddr 2 (.tmp 3))), (oP 50 (.load false 1 (.tmp 49))), (mV 5 50)]) (sr [(oP 52 (.bin .eql (.tmp 7) (kI 9))), (mV 51 52)]
 (.cond (.tmp 51) (.region [(oP 53 (.faddr 2 (.tmp 3))), (oP 54 (.load false 1 (.tmp 53))), (oP 55 (.un .not (.tmp 54))), (mV 5 55)]) (sr [(oP 57 (.bin .eql (.tmp 7) (kI 10))), (mV 56 57)]
 (.cond (.tmp 56) (.region [(oP 58 (.faddr 1 (.tmp 3))), (oP 59 (.load false 1 (.tmp 58))), (oP 60 (.faddr 0 (.tmp 3))), (oP 61 (.load false 1 (.tmp 60))), (oP 62 (.bin .geq (.tmp 59) (.tmp 61))), (mV 5 62)]) (sr [(oP 64 (.bin .eql (.tmp 7) (kI 11))), (mV 63 64)]
 (.cond (.tmp 63) (.region [(oP 65 (.faddr 1 (.tmp 3))), (oP 66 (.load false 1 (.tmp 65))), (oP 67 (.faddr 0 (.tmp 3))), (oP 68 (.load false 1 (.tmp 67))), (oP 69 (.bin .lss (.tmp 66) (.tmp 68))), (mV 5 69)]) (sr [(oP 4 (.mov (kI 0)))]
 .ret)))))))))))))))))))))))))
 a19_c0)))⟩
theorem c19 : compFunc Tryz.prog 19 = some a19 := by kernel_rfl
def Z62 (r : Int) : AV → Heap → Nat → Prop := fun v h' n' => v = (I r) ∧ (h' = e0) ∧ n' = 0
def Z6 (is_ : Bool) : Int :=
 if is_ then
  1
 else
  (-1)
theorem Zi {mL : Int} {is_ : Bool} {o : Int} (h : Z6 is_ = o) :
  Sv Tryz.prog (GG mL) 0 a19_c0 (Ends a19.results 0 (Z62 o)) ⟨(upd e0 5 (some (B is_))), e0, 0⟩ := by
 unfold Z6 at h
 refine Sv.seq <| ssr <| un1 rfl <| dnil ?_
 refine Sv.cnd rfl h (fun h => ?_) fun h => ?_
 ·refine ssr <| un1 rfl <| dnil <| Sv.ret ?_
  subst h
  exact ⟨_, .refl _, _, rfl, ⟨upd e0 0 (some (I 1)), e0, 0⟩, (I 1), weak_canon [] rfl ndl nll nlz (.cf rfl rfl .nil) .nil, rfl, rfl, rfl, rfl⟩
 ·refine Sv.skip <| ssr <| un1 rfl <| dnil <| Sv.ret ?_
  subst h
  exact ⟨_, .refl _, _, rfl, ⟨upd e0 0 (some (I (-1))), e0, 0⟩, (I (-1)), weak_canon [] rfl ndl nll nlz (.cf rfl rfl .nil) .nil, rfl, rfl, rfl, rfl⟩
/-- clerestory/media.so -/
def Z1 (f_ : TSFeature) (env : TEnv) : Int :=
 if decide (f_.Kind = 1) then
  Z6 true
 else
  if decide (f_.Kind = 2) then
   Z6 (!env.Print)
  else
   if decide (f_.Kind = 3) then
    Z6 env.Print
   else
    if decide (f_.Kind = 4) then
     Z6 (decide (f_.Num ≤ env.Width))
    else
     if decide (f_.Kind = 5) then
      Z6 (decide (env.Width ≤ f_.Num))
     else
      if decide (f_.Kind = 6) then
       Z6 (decide (f_.Num ≤ env.Height))
      else
       if decide (f_.Kind = 7) then
        Z6 (decide (env.Height ≤ f_.Num))
       else
        if decide (f_.Kind = 8) then
         Z6 env.Dark
        else
         if decide (f_.Kind = 9) then
          Z6 (!env.Dark)
         else
          if decide (f_.Kind = 10) then
           Z6 (decide (env.Width ≤ env.Height))
          else
           if decide (f_.Kind = 11) then
            Z6 (decide (env.Height < env.Width))
           else
            0
theorem Z8k {mL : Int} (f_ : TSFeature) (env : TEnv) : CPure Tryz.prog (GG mL) 19 [(.agg (e_TSFeature f_)), (.agg (e_TEnv env))] (I (Z1 f_ env)) := by
 generalize h : Z1 f_ env = o
 refine acalls_of_sv hmix c19 (R := Z62 o) ?_
 unfold Z1 at h
 refine ssr <| un <| a2v (v := (.c (.ref 0 2 0 0))) (h' := upd _ 0 (some (.cells 2 [(e_TSFeature f_)]))) (n' := 1) rfl rfl hcs <| un <| a2v (v := (.c (.ref 1 4 0 0))) (h' := upd _ 1 (some (.cells 4 [(e_TEnv env)]))) (n' := 2) rfl rfl hcs <| un1 rfl <| dnil <| ssr <| un1 rfl <| dnil <| Sv.seq <| ssr <| un1 (v := (.c (.ref 0 2 0 0))) rfl <| un1 (v := (I f_.Kind)) rfl <| dnil <| Sv.block <| ssr <| un1 (v := (B (decide (f_.Kind = 1)))) rfl <| un1 rfl <| dnil ?_
 refine Sv.cnd rfl h (fun h => ?_) fun h => ?_
 ·refine srg <| un1 rfl <| dnil ?_
  exact Sv.weak (wcn [] rfl (.cf rfl rfl .nil) .nil) (Zi h)
 ·refine ssr <| un1 (v := (B (decide (f_.Kind = 2)))) rfl <| un1 rfl <| dnil ?_
  refine Sv.cnd rfl h (fun h => ?_) fun h => ?_
  ·refine srg <| un1 (v := (.c (.ref 1 4 0 3))) rfl <| un1 (v := (B env.Print)) rfl <| un1 (v := (B (!env.Print))) rfl <| un1 rfl <| dnil ?_
   exact Sv.weak (wcn [] rfl (.cf rfl rfl .nil) .nil) (Zi h)
  ·refine ssr <| un1 (v := (B (decide (f_.Kind = 3)))) rfl <| un1 rfl <| dnil ?_
   refine Sv.cnd rfl h (fun h => ?_) fun h => ?_
   ·refine srg <| un1 (v := (.c (.ref 1 4 0 3))) rfl <| un1 (v := (B env.Print)) rfl <| un1 rfl <| dnil ?_
    exact Sv.weak (wcn [] rfl (.cf rfl rfl .nil) .nil) (Zi h)
   ·refine ssr <| un1 (v := (B (decide (f_.Kind = 4)))) rfl <| un1 rfl <| dnil ?_
    refine Sv.cnd rfl h (fun h => ?_) fun h => ?_
    ·refine srg <| un1 (v := (.c (.ref 1 4 0 0))) rfl <| un1 (v := (I env.Width)) rfl <| un1 (v := (.c (.ref 0 2 0 1))) rfl <| un1 (v := (I f_.Num)) rfl <| un1 (v := (B (decide (f_.Num ≤ env.Width)))) rfl <| un1 rfl <| dnil ?_
     exact Sv.weak (wcn [] rfl (.cf rfl rfl .nil) .nil) (Zi h)
    ·refine ssr <| un1 (v := (B (decide (f_.Kind = 5)))) rfl <| un1 rfl <| dnil ?_
     refine Sv.cnd rfl h (fun h => ?_) fun h => ?_
     ·refine srg <| un1 (v := (.c (.ref 1 4 0 0))) rfl <| un1 (v := (I env.Width)) rfl <| un1 (v := (.c (.ref 0 2 0 1))) rfl <| un1 (v := (I f_.Num)) rfl <| un1 (v := (B (decide (env.Width ≤ f_.Num)))) rfl <| un1 rfl <| dnil ?_
      exact Sv.weak (wcn [] rfl (.cf rfl rfl .nil) .nil) (Zi h)
     ·refine ssr <| un1 (v := (B (decide (f_.Kind = 6)))) rfl <| un1 rfl <| dnil ?_
      refine Sv.cnd rfl h (fun h => ?_) fun h => ?_
      ·refine srg <| un1 (v := (.c (.ref 1 4 0 1))) rfl <| un1 (v := (I env.Height)) rfl <| un1 (v := (.c (.ref 0 2 0 1))) rfl <| un1 (v := (I f_.Num)) rfl <| un1 (v := (B (decide (f_.Num ≤ env.Height)))) rfl <| un1 rfl <| dnil ?_
       exact Sv.weak (wcn [] rfl (.cf rfl rfl .nil) .nil) (Zi h)
      ·refine ssr <| un1 (v := (B (decide (f_.Kind = 7)))) rfl <| un1 rfl <| dnil ?_
       refine Sv.cnd rfl h (fun h => ?_) fun h => ?_
       ·refine srg <| un1 (v := (.c (.ref 1 4 0 1))) rfl <| un1 (v := (I env.Height)) rfl <| un1 (v := (.c (.ref 0 2 0 1))) rfl <| un1 (v := (I f_.Num)) rfl <| un1 (v := (B (decide (env.Height ≤ f_.Num)))) rfl <| un1 rfl <| dnil ?_
        exact Sv.weak (wcn [] rfl (.cf rfl rfl .nil) .nil) (Zi h)
       ·refine ssr <| un1 (v := (B (decide (f_.Kind = 8)))) rfl <| un1 rfl <| dnil ?_
        refine Sv.cnd rfl h (fun h => ?_) fun h => ?_
        ·refine srg <| un1 (v := (.c (.ref 1 4 0 2))) rfl <| un1 (v := (B env.Dark)) rfl <| un1 rfl <| dnil ?_
         exact Sv.weak (wcn [] rfl (.cf rfl rfl .nil) .nil) (Zi h)
        ·refine ssr <| un1 (v := (B (decide (f_.Kind = 9)))) rfl <| un1 rfl <| dnil ?_
         refine Sv.cnd rfl h (fun h => ?_) fun h => ?_
         ·refine srg <| un1 (v := (.c (.ref 1 4 0 2))) rfl <| un1 (v := (B env.Dark)) rfl <| un1 (v := (B (!env.Dark))) rfl <| un1 rfl <| dnil ?_
          exact Sv.weak (wcn [] rfl (.cf rfl rfl .nil) .nil) (Zi h)
         ·refine ssr <| un1 (v := (B (decide (f_.Kind = 10)))) rfl <| un1 rfl <| dnil ?_
          refine Sv.cnd rfl h (fun h => ?_) fun h => ?_
          ·refine srg <| un1 (v := (.c (.ref 1 4 0 1))) rfl <| un1 (v := (I env.Height)) rfl <| un1 (v := (.c (.ref 1 4 0 0))) rfl <| un1 (v := (I env.Width)) rfl <| un1 (v := (B (decide (env.Width ≤ env.Height)))) rfl <| un1 rfl <| dnil ?_
           exact Sv.weak (wcn [] rfl (.cf rfl rfl .nil) .nil) (Zi h)
          ·refine ssr <| un1 (v := (B (decide (f_.Kind = 11)))) rfl <| un1 rfl <| dnil ?_
           refine Sv.cnd rfl h (fun h => ?_) fun h => ?_
           ·refine srg <| un1 (v := (.c (.ref 1 4 0 1))) rfl <| un1 (v := (I env.Height)) rfl <| un1 (v := (.c (.ref 1 4 0 0))) rfl <| un1 (v := (I env.Width)) rfl <| un1 (v := (B (decide (env.Height < env.Width)))) rfl <| un1 rfl <| dnil ?_
            exact Sv.weak (wcn [] rfl (.cf rfl rfl .nil) .nil) (Zi h)
           ·refine ssr <| un1 rfl <| dnil <| Sv.ret ?_
            subst h
            exact ⟨_, .refl _, _, rfl, ⟨upd e0 0 (some (I 0)), e0, 0⟩, (I 0), weak_canon [] rfl ndl nll nlz (.cf rfl rfl .nil) .nil, rfl, rfl, rfl, rfl⟩
def a13_c0 : ACode := (sr [(oP 12 (.bin .lss (.tmp 11) (.tmp 10)))]
 (.seq (.cond (.tmp 12) .skip (.exit 0))
 (.seq (.block 1 (sr [(oP 13 (.iaddr 2 (.tmp 9) (.tmp 11))), (oP 14 (.load true 2 (.tmp 13))), (oP 7 (.box (.const (.agg [(.val (.int .i64 0)), (.val (.int .i64 0))])))), (oN (.store 2 (.tmp 7) (.tmp 14)))]
 (.region [(mV 15 5), (oP 16 (.load true 2 (.tmp 7))), (oP 17 (.load true 4 (.tmp 3))), (oP 18 (.call 19 [(.tmp 16), (.tmp 17)])), (oP 19 (.mm false [(.tmp 15), (.tmp 18)])), (mV 5 19)])))
 (.region [(oP 20 (.bin .add (.tmp 11) (kI 1))), (mV 11 20)]))))
def a13_c1 : ACode := (sr [(mV 25 5), (mV 4 25)]
 .ret)
def a13 : AFunc := ⟨2, [(.tmp 4)], (sr [(oP 2 (.box (.tmp 0))), (oP 3 (.box (.tmp 1))), (oP 4 (.mov (kI 0)))]
 (sr [(oP 5 (.mov (kI 1)))]
 (.seq (sr [(oP 8 (.faddr 1 (.tmp 2))), (oP 9 (.load false 1 (.tmp 8))), (oP 10 (.len (.tmp 9))), (oP 11 (.mov (kI 0)))]
 (.block 0 (.loop a13_c0)))
 (.seq (sr [(oP 21 (.faddr 0 (.tmp 2))), (oP 22 (.load false 1 (.tmp 21)))]
 (.cond (.tmp 22) (.region [(mV 23 5), (oP 24 (.un .neg (.tmp 23))), (mV 5 24)]) .skip))
 a13_c1))))⟩
theorem c13 : compFunc Tryz.prog 13 = some a13 := by kernel_rfl
def Z44 (r : Int) : AV → Heap → Nat → Prop := fun v h' n' => v = (I r) ∧ (h' = e0) ∧ n' = 0
abbrev Z8l (q_ : TSQuery) (F_ : Int → Option Int) (o : Int) (R_ : St → Prop) : Prop := ∀ (n_1 : Int), F_ n_1 = some o → ∀ s, Weak 0 s ⟨(ue [(5, (I n_1)), (2, (.c (.ref 0 2 0 0)))]), (upd e0 0 (some (.cells 2 [(e_TSQuery q_)]))), 1⟩ → R_ s
abbrev Z63 (q_ : TSQuery) (env : TEnv) (F_ : Nat → Int → Int → Option Int) (o : Int) : Nat → St → Prop := fun k s => ∃ (n_ : Int), ∃ (v11 : Int), F_ k n_ v11 = some o ∧ s = ⟨(ue [(11, (I v11)), (10, (I (q_.Features.length : Int))), (9, (.c (.ro false 2 (q_.Features.map e_TSFeature)))), (5, (I n_)), (3, (.c (.ref 1 4 0 0))), (2, (.c (.ref 0 2 0 0)))]), (upd (upd e0 0 (some (.cells 2 [(e_TSQuery q_)]))) 1 (some (.cells 4 [(e_TEnv env)]))), 2⟩
abbrev Z8m (q_ : TSQuery) (env : TEnv) (F_ : Int → Int → Option Int) (o : Int) (R_ : St → Prop) : Prop := ∀ (n_ : Int) (v11 : Int), F_ n_ v11 = some o → ∀ s, Weak 0 s ⟨(ue [(11, (I v11)), (10, (I (q_.Features.length : Int))), (9, (.c (.ro false 2 (q_.Features.map e_TSFeature)))), (5, (I n_)), (3, (.c (.ref 1 4 0 0))), (2, (.c (.ref 0 2 0 0)))]), (upd (upd e0 0 (some (.cells 2 [(e_TSQuery q_)]))) 1 (some (.cells 4 [(e_TEnv env)]))), 2⟩ → R_ s
noncomputable def Zd (q_ : TSQuery) (env : TEnv) (K0_ : Int → Option Int) : Nat → Int → Int → Option Int
 | 0, _, _ => none
 | k + 1, n_, v11 =>
  if decide (v11 < (q_.Features.length : Int)) then
   (at? q_.Features v11).bind fun x_ =>
   (Zd q_ env K0_ k) (mn n_ (Z1 x_ env)) (wi (v11 + 1))
  else
   K0_ n_
theorem Z8n {mL : Int} {Q : AExit → St → Prop} {q_ : TSQuery} {env : TEnv} {K0_ : Int → Option Int} {k : Nat} {n_ : Int} {v11 : Int} {o : Int} (h : Zd q_ env K0_ k n_ v11 = some o)
  (hK0 : Z8l q_ K0_ o (Q (.exit 0)))
  (hr : ∀ s, Ends a13.results 0 (Z44 o) .ret s → Q .ret s) :
  Sv Tryz.prog (GG mL) 0 (.loop a13_c0) Q ⟨(ue [(11, (I v11)), (10, (I (q_.Features.length : Int))), (9, (.c (.ro false 2 (q_.Features.map e_TSFeature)))), (5, (I n_)), (3, (.c (.ref 1 4 0 0))), (2, (.c (.ref 0 2 0 0)))]), (upd (upd e0 0 (some (.cells 2 [(e_TSQuery q_)]))) 1 (some (.cells 4 [(e_TEnv env)]))), 2⟩ := by
 refine Sv.loop (I := Z63 q_ env (Zd q_ env K0_) o) (fun k s hI => ?_) ⟨n_, v11, h, rfl⟩
 clear h
 clear v11 n_
 obtain ⟨n_, v11, h, rfl⟩ := hI
 cases k with
 | zero => cases h
 | succ k =>
 rw [Zd] at h
 have hself : Z8m q_ env (Zd q_ env K0_ k) o (rnd 0 (Z63 q_ env (Zd q_ env K0_) o) k Q) := fun n_ v11 h s hw => ⟨_, k, hw, Nat.lt_succ_self k, n_, v11, h, rfl⟩
 refine ssr <| un1 (v := (B (decide (v11 < (q_.Features.length : Int))))) rfl <| dnil <| Sv.seq ?_
 refine Sv.cnd rfl h (fun h => ?_) fun h => ?_
 ·refine Sv.skip <| Sv.seq <| Sv.block <| ssr ?_
  obtain ⟨x_, hx1, h⟩ := bnd h
  refine un1 (v := (.c (.rop (e_TSFeature x_)))) (s_iaddr (e := e_TSFeature) (xs := q_.Features) rfl rfl hx1) <| un1 (v := (.agg (e_TSFeature x_))) rfl <| un <| a2v (v := (.c (.ref 2 2 0 0))) (h' := upd _ 2 (some (.cells 2 [[cI 0, cI 0]]))) (n' := 3) rfl rfl hcs <| un <| a2n (h' := upd _ 2 (some (.cells 2 [(e_TSFeature x_)]))) (n' := 3) rfl rfl hcs <| dnil <| srg <| un1 rfl <| un1 (v := (.agg (e_TSFeature x_))) rfl <| un1 (v := (.agg (e_TEnv env))) rfl <| un <| ac_pure (Z8k (mL := mL) x_ env) rfl rfl rfl <| un1 (v := (I (mn n_ (Z1 x_ env)))) (s_mn rfl rfl) <| un1 rfl <| dnil <| srg <| un1 (v := (I (wi (v11 + 1)))) rfl <| un1 rfl <| dnil ?_
  exact hself (mn n_ (Z1 x_ env)) (wi (v11 + 1)) h _ (wcn [0, 1] rfl (.cf rfl rfl (.cf rfl rfl (.cf rfl rfl (.cf rfl rfl (.cr rfl rfl rfl (.cr rfl rfl rfl .nil)))))) (.box (by decide) rfl (blkAs_cells (.sm rfl (.sm rfl (.sm rfl (.sm rfl .nil))))) (.box (by decide) rfl (blkAs_cells (.sm rfl (.sm rfl .nil))) .nil)))
 ·refine Sv.exit ?_
  exact hK0 n_ h _ (wcn [0] rfl (.cf rfl rfl (.cr rfl rfl rfl .nil)) (.box (by decide) rfl (blkAs_cells (.sm rfl (.sm rfl .nil))) .nil))
noncomputable def Zy (n_2 : Int) : Option Int :=
 some n_2
theorem Z64 {mL : Int} {n_2 : Int} {o : Int} (h : Zy n_2 = some o) :
  Sv Tryz.prog (GG mL) 0 a13_c1 (Ends a13.results 0 (Z44 o)) ⟨(upd e0 5 (some (I n_2))), e0, 0⟩ := by
 unfold Zy at h
 refine ssr <| un1 rfl <| un1 rfl <| dnil <| Sv.ret ?_
 exact rt0 h rfl rfl ⟨rfl, rfl, rfl⟩
/-- clerestory/media.all -/
noncomputable def Z2u (q_ : TSQuery) (env : TEnv) : Option Int :=
 limF fun kk => Zd q_ env (fun (n_1 : Int) => 
   if q_.Not then
    Zy (wi (0 - n_1))
   else
    Zy n_1) kk 1 0
theorem Z8o {mL : Int} {q_ : TSQuery} {env : TEnv} {r : Int} (h : Z2u q_ env = some r) : CPure Tryz.prog (GG mL) 13 [(.agg (e_TSQuery q_)), (.agg (e_TEnv env))] (I r) := by
 refine acalls_of_sv hmix c13 (R := Z44 r) ?_
 unfold Z2u at h
 refine ssr <| un <| a2v (v := (.c (.ref 0 2 0 0))) (h' := upd _ 0 (some (.cells 2 [(e_TSQuery q_)]))) (n' := 1) rfl rfl hcs <| un <| a2v (v := (.c (.ref 1 4 0 0))) (h' := upd _ 1 (some (.cells 4 [(e_TEnv env)]))) (n' := 2) rfl rfl hcs <| un1 rfl <| dnil <| ssr <| un1 rfl <| dnil <| Sv.seq <| ssr <| un1 (v := (.c (.ref 0 2 0 1))) rfl <| un1 (v := (.c (.ro false 2 (q_.Features.map e_TSFeature)))) rfl <| un1 (v := (I (q_.Features.length : Int))) (s_len (e := e_TSFeature) (xs := q_.Features) rfl) <| un1 rfl <| dnil <| Sv.block ?_
 obtain ⟨kk, h⟩ := limF_some h
 refine Sv.weak (wcn [0, 1] rfl (.cf rfl rfl (.cf rfl rfl (.cf rfl rfl (.cf rfl rfl (.cr rfl rfl rfl (.cr rfl rfl rfl .nil)))))) (.box (by decide) rfl (blkAs_cells (.sm rfl (.sm rfl (.sm rfl (.sm rfl .nil))))) (.box (by decide) rfl (blkAs_cells (.sm rfl (.sm rfl .nil))) .nil))) (Z8n h ?_ (fun s hs => hs))
 ·intro n_1 h _ hw1
  refine Sv.weak hw1 <| Sv.seq <| ssr <| un1 (v := (.c (.ref 0 2 0 0))) rfl <| un1 (v := (B q_.Not)) rfl <| dnil ?_
  refine Sv.cnd rfl h (fun h => ?_) fun h => ?_
  ·refine srg <| un1 rfl <| un1 (v := (I (wi (0 - n_1)))) rfl <| un1 rfl <| dnil ?_
   exact Sv.weak (wcn [] rfl (.cf rfl rfl .nil) .nil) (Z64 h)
  ·refine Sv.skip ?_
   exact Sv.weak (wcn [] rfl (.cf rfl rfl .nil) .nil) (Z64 h)
def a8_c0 : ACode := (sr [(oP 39 (.bin .lss (.tmp 38) (.tmp 37)))]
 (.seq (.cond (.tmp 39) .skip (.exit 0))
 (.seq (.block 1 (sr [(oP 40 (.iaddr 2 (.tmp 36) (.tmp 38))), (oP 41 (.load true 2 (.tmp 40))), (oP 9 (.box (.const (.agg [(.val (.bool false)), (.ro true 2 [])])))), (oN (.store 2 (.tmp 9) (.tmp 41)))]
 (sr [(oP 42 (.load true 2 (.tmp 9))), (oP 43 (.load true 4 (.tmp 3))), (oP 44 (.call 13 [(.tmp 42), (.tmp 43)])), (oP 45 (.bin .eql (.tmp 44) (kI 1)))]
 (.cond (.tmp 45) (sr [(oP 4 (.mov kT)), (oP 5 (.mov (kI 0)))]
 .ret) .skip))))
 (.region [(oP 46 (.bin .add (.tmp 38) (kI 1))), (mV 38 46)]))))
def a8 : AFunc := ⟨2, [(.tmp 4), (.tmp 5)], (sr [(oP 3 (.box (.tmp 1))), (oP 4 (.mov kF)), (oP 5 (.mov (kI 0)))]
 (sr [(mV 11 0), (oP 12 (.call 12 [(.tmp 11)])), (mV 10 12), (oP 13 (.ext (.tmp 10) 0)), (oP 14 (.ext (.tmp 10) 1)), (mV 6 13), (mV 7 14)]
 (.seq (sr [(mV 15 7), (oP 16 (.bin .neq (.tmp 15) (kI 0)))]
 (.cond (.tmp 16) (sr [(mV 17 7), (oP 4 (.mov kF)), (mV 5 17)]
 .ret) .skip))
 (.seq (sr [(oP 18 (.faddr 0 (.tmp 3))), (oP 19 (.load false 1 (.tmp 18))), (oP 20 (.bin .lss (.tmp 19) (kI 1))), (mV 21 20), ⟨(some 22), (.faddr 0 (.tmp 3)), (some (21, false))⟩, ⟨(some 23), (.load false 1 (.tmp 22)), (some (21, false))⟩, ⟨(some 24), (.bin .gtr (.tmp 23) (kI 4000)), (some (21, false))⟩, (oP 25 (.pick (.tmp 21) kT (.tmp 24))), (mV 26 25), ⟨(some 27), (.faddr 1 (.tmp 3)), (some (26, false))⟩, ⟨(some 28), (.load false 1 (.tmp 27)), (some (26, false))⟩, ⟨(some 29), (.bin .lss (.tmp 28) (kI 1)), (some (26, false))⟩, (oP 30 (.pick (.tmp 26) kT (.tmp 29))), (mV 31 30), ⟨(some 32), (.faddr 1 (.tmp 3)), (some (31, false))⟩, ⟨(some 33), (.load false 1 (.tmp 32)), (some (31, false))⟩, ⟨(some 34), (.bin .gtr (.tmp 33) (kI 4000)), (some (31, false))⟩, (oP 35 (.pick (.tmp 31) kT (.tmp 34)))]
 (.cond (.tmp 35) (sr [(oP 4 (.mov kF)), (oP 5 (.mov (kI 1)))]
 .ret) .skip))
 (.seq (sr [(mV 36 6), (oP 37 (.len (.tmp 36))), (oP 38 (.mov (kI 0)))]
 (.block 0 (.loop a8_c0)))
 (sr [(oP 4 (.mov kF)), (oP 5 (.mov (kI 0)))]
 .ret))))))⟩
theorem c8 : compFunc Tryz.prog 8 = some a8 := by kernel_rfl
def Z65 (r : (Bool × Int)) : AV → Heap → Nat → Prop := fun v h' n' => v = (.tup [(B r.1), (I r.2)]) ∧ (h' = e0) ∧ n' = 0
abbrev Z8p (F_ : Unit → Option (Bool × Int)) (o : (Bool × Int)) (R_ : St → Prop) : Prop := ∀ (_ : Unit), F_ () = some o → ∀ s, Weak 0 s ⟨e0, e0, 0⟩ → R_ s
abbrev Z66 (r_ : ((List TSQuery) × Int)) (env : TEnv) (F_ : Nat → (List TSQuery) → Int → Option (Bool × Int)) (o : (Bool × Int)) : Nat → St → Prop := fun k s => ∃ (v36 : (List TSQuery)), ∃ (v38 : Int), ∃ (zv36 : Bool), (zv36 = true → v36 = []) ∧ F_ k v36 v38 = some o ∧ s = ⟨(ue [(38, (I v38)), (37, (I (r_.1.length : Int))), (36, (lstV zv36 1 2 v36.length)), (3, (.c (.ref 0 4 0 0)))]), (upd (upd e0 0 (some (.cells 4 [(e_TEnv env)]))) 1 (lstB zv36 2 (v36.map e_TSQuery))), 2⟩
abbrev Z8q (r_ : ((List TSQuery) × Int)) (env : TEnv) (F_ : (List TSQuery) → Int → Option (Bool × Int)) (o : (Bool × Int)) (R_ : St → Prop) : Prop := ∀ (v36 : (List TSQuery)) (v38 : Int) (zv36 : Bool) (_ : zv36 = true → v36 = []), F_ v36 v38 = some o → ∀ s, Weak 0 s ⟨(ue [(38, (I v38)), (37, (I (r_.1.length : Int))), (36, (lstV zv36 1 2 v36.length)), (3, (.c (.ref 0 4 0 0)))]), (upd (upd e0 0 (some (.cells 4 [(e_TEnv env)]))) 1 (lstB zv36 2 (v36.map e_TSQuery))), 2⟩ → R_ s
noncomputable def Z8 (r_ : ((List TSQuery) × Int)) (env : TEnv) (K0_ : Unit → Option (Bool × Int)) : Nat → (List TSQuery) → Int → Option (Bool × Int)
 | 0, _, _ => none
 | k + 1, v36, v38 =>
  if decide (v38 < (r_.1.length : Int)) then
   (at? v36 v38).bind fun x_ =>
   (Z2u x_ env).bind fun r_1 =>
   if decide (r_1 = 1) then
    some (true, 0)
   else
    (Z8 r_ env K0_ k) v36 (wi (v38 + 1))
  else
   K0_ ()
theorem Z8r {mL : Int} {Q : AExit → St → Prop} {r_ : ((List TSQuery) × Int)} {env : TEnv} {K0_ : Unit → Option (Bool × Int)} {k : Nat} {v36 : (List TSQuery)} {v38 : Int} {zv36 : Bool} (hzv36 : zv36 = true → v36 = []) {o : (Bool × Int)} (h : Z8 r_ env K0_ k v36 v38 = some o)
  (hK0 : Z8p K0_ o (Q (.exit 0)))
  (hr : ∀ s, Ends a8.results 0 (Z65 o) .ret s → Q .ret s) :
  Sv Tryz.prog (GG mL) 0 (.loop a8_c0) Q ⟨(ue [(38, (I v38)), (37, (I (r_.1.length : Int))), (36, (lstV zv36 1 2 v36.length)), (3, (.c (.ref 0 4 0 0)))]), (upd (upd e0 0 (some (.cells 4 [(e_TEnv env)]))) 1 (lstB zv36 2 (v36.map e_TSQuery))), 2⟩ := by
 refine Sv.loop (I := Z66 r_ env (Z8 r_ env K0_) o) (fun k s hI => ?_) ⟨v36, v38, zv36, hzv36, h, rfl⟩
 clear h
 clear hzv36 zv36 v38 v36
 obtain ⟨v36, v38, zv36, hzv36, h, rfl⟩ := hI
 cases k with
 | zero => cases h
 | succ k =>
 rw [Z8] at h
 have hself : Z8q r_ env (Z8 r_ env K0_ k) o (rnd 0 (Z66 r_ env (Z8 r_ env K0_) o) k Q) := fun v36 v38 zv36 hzv36 h s hw => ⟨_, k, hw, Nat.lt_succ_self k, v36, v38, zv36, hzv36, h, rfl⟩
 refine ssr <| un1 (v := (B (decide (v38 < (r_.1.length : Int))))) rfl <| dnil <| Sv.seq ?_
 refine Sv.cnd rfl h (fun h => ?_) fun h => ?_
 ·refine Sv.skip <| Sv.seq <| Sv.block <| ssr ?_
  obtain ⟨x_, hx1, h⟩ := bnd h
  refine un1 (v := (.c (.ref 1 2 v38.toNat 0))) (s_iaddrL rfl rfl hzv36 hx1) <| un1 (v := (.agg (e_TSQuery x_))) (s_loadL (z := zv36) (e := e_TSQuery) rfl rfl hzv36 hx1 rfl rfl) <| un <| a2v (v := (.c (.ref 2 2 0 0))) (h' := upd _ 2 (some (.cells 2 [[cB false, .ro true 2 []]]))) (n' := 3) rfl rfl hcs <| un <| a2n (h' := upd _ 2 (some (.cells 2 [(e_TSQuery x_)]))) (n' := 3) rfl rfl hcs <| dnil <| ssr <| un1 (v := (.agg (e_TSQuery x_))) rfl <| un1 (v := (.agg (e_TEnv env))) rfl ?_
  obtain ⟨r_1, hr2, h⟩ := bnd h
  refine un <| ac_pure (Z8o hr2) rfl rfl rfl <| un1 (v := (B (decide (r_1 = 1)))) rfl <| dnil ?_
  refine Sv.cnd rfl h (fun h => ?_) fun h => ?_
  ·refine ssr <| un1 rfl <| un1 rfl <| dnil <| Sv.ret ?_
   exact hr _ (rt0 h rfl rfl ⟨rfl, rfl, rfl⟩)
  ·refine Sv.skip <| srg <| un1 (v := (I (wi (v38 + 1)))) rfl <| un1 rfl <| dnil ?_
   exact hself v36 (wi (v38 + 1)) zv36 hzv36 h _ (wcn [0, 1] rfl (.cf rfl rfl (.cf rfl rfl (.cons rfl (.c (lsr rfl rfl)) (.cr rfl rfl rfl .nil)))) (.row (by decide) rfl (fr_map fun _ => rfl) (.box (by decide) rfl (blkAs_cells (.sm rfl (.sm rfl (.sm rfl (.sm rfl .nil))))) .nil)))
 ·refine Sv.exit ?_
  exact hK0 () h _ (wcn [] rfl .nil .nil)
/-- clerestory/media.Holds -/
noncomputable def Z15 (s_ : Tx) (env : TEnv) : Option (Bool × Int) :=
 (Zr s_).bind fun r_ =>
 if (!decide (r_.2 = 0)) then
  some (false, r_.2)
 else
  if ((((decide (env.Width < 1)) || (decide (4000 < env.Width))) || (decide (env.Height < 1))) || (decide (4000 < env.Height))) then
   some (false, 1)
  else
   limF fun kk => Z8 r_ env (fun (_ : Unit) => 
     some (false, 0)) kk r_.1 0
theorem Z67 {mL : Int} {s_ : Tx} {env : TEnv} {r : (Bool × Int)} (h : Z15 s_ env = some r) : CPure Tryz.prog (GG mL) 8 [(S s_), (.agg (e_TEnv env))] (.tup [(B r.1), (I r.2)]) := by
 refine acalls_of_sv hmix c8 (R := Z65 r) ?_
 unfold Z15 at h
 refine ssr <| un <| a2v (v := (.c (.ref 0 4 0 0))) (h' := upd _ 0 (some (.cells 4 [(e_TEnv env)]))) (n' := 1) rfl rfl hcs <| un1 rfl <| un1 rfl <| dnil <| ssr <| un1 rfl ?_
 obtain ⟨r_, hr1, h⟩ := bnd h
 refine un <| ac_gen (bs := []) («as» := [(S s_)]) (h2 := _) (h1 := e0) (Z8j hr1) rfl (.cons (avAs_free rfl) .nil) (hsub_refl _) (.nil _) (fun _ => rfl) (by decide) (by decide) (.cons (avAs_free rfl) .nil) .nil ?_
 rintro _ _ _ hn ⟨z_, hz_, rfl, rfl, rfl⟩
 refine ⟨.inl rfl, (upd (rem [] _) 1 (lstB z_ 2 (r_.1.map e_TSQuery))), fun hbd => (m3_cons (m3_row rfl (fr_map fun _ => rfl)) (m3_rem (in_nil _) (.cons (by decide) .nil) hbd)), (.tup [(lstV z_ 1 2 r_.1.length), (I r_.2)]), 2, (by cases z_ <;> rfl), rfl, ?_⟩
 refine un1 rfl <| un1 (v := (lstV z_ 1 2 r_.1.length)) rfl <| un1 (v := (I r_.2)) rfl <| un1 rfl <| un1 rfl <| dnil <| Sv.seq <| ssr <| un1 rfl <| un1 (v := (B (!decide (r_.2 = 0)))) rfl <| dnil ?_
 refine Sv.cnd rfl h (fun h => ?_) fun h => ?_
 ·refine ssr <| un1 rfl <| un1 rfl <| un1 rfl <| dnil <| Sv.ret ?_
  exact rt0 h rfl rfl ⟨rfl, rfl, rfl⟩
 ·refine Sv.skip <| Sv.seq <| ssr <| un1 (v := (.c (.ref 0 4 0 0))) rfl <| un1 (v := (I env.Width)) rfl <| un1 (v := (B (decide (env.Width < 1)))) rfl <| un1 rfl ?_
  refine gjoin 4 (d := 25) (v := (B ((decide (env.Width < 1)) || (decide (4000 < env.Width))))) (fun X hX => ?_) ?_
  ·refine split2 (fun hc2 => ?_) (fun hc2 => ?_)
   ·refine gs rfl rfl <| gs rfl rfl <| gs rfl rfl <| un1 (v := (B true)) rfl <| dnil ?_
    exact hX _ (.putEq (by rw [hc2]; rfl) (.skp (.skp (.skp (.putEq (by rw [hc2]) (.refl _)) rfl) rfl) rfl))
   ·refine gt rfl <| a1 (v := (.c (.ref 0 4 0 0))) rfl <| gt rfl <| a1 (v := (I env.Width)) rfl <| gt rfl <| a1 (v := (B (decide (4000 < env.Width)))) rfl <| un1 (v := (B (decide (4000 < env.Width)))) rfl <| dnil ?_
    exact hX _ (.putEq (by rw [hc2]; rfl) (.skp (.skp (.skp (.putEq (by rw [hc2]) (.refl _)) rfl) rfl) rfl))
  refine un1 rfl ?_
  refine gjoin 4 (d := 30) (v := (B (((decide (env.Width < 1)) || (decide (4000 < env.Width))) || (decide (env.Height < 1))))) (fun X hX => ?_) ?_
  ·refine split2 (fun hc3 => ?_) (fun hc3 => ?_)
   ·refine gs rfl rfl <| gs rfl rfl <| gs rfl rfl <| un1 (v := (B true)) rfl <| dnil ?_
    exact hX _ (.putEq (by rw [hc3]; rfl) (.skp (.skp (.skp (.putEq (by rw [hc3]) (.refl _)) rfl) rfl) rfl))
   ·refine gt rfl <| a1 (v := (.c (.ref 0 4 0 1))) rfl <| gt rfl <| a1 (v := (I env.Height)) rfl <| gt rfl <| a1 (v := (B (decide (env.Height < 1)))) rfl <| un1 (v := (B (decide (env.Height < 1)))) rfl <| dnil ?_
    exact hX _ (.putEq (by rw [hc3]; rfl) (.skp (.skp (.skp (.putEq (by rw [hc3]) (.refl _)) rfl) rfl) rfl))
  refine un1 rfl ?_
  refine gjoin 4 (d := 35) (v := (B ((((decide (env.Width < 1)) || (decide (4000 < env.Width))) || (decide (env.Height < 1))) || (decide (4000 < env.Height))))) (fun X hX => ?_) ?_
  ·refine split2 (fun hc4 => ?_) (fun hc4 => ?_)
   ·refine gs rfl rfl <| gs rfl rfl <| gs rfl rfl <| un1 (v := (B true)) rfl <| dnil ?_
    exact hX _ (.putEq (by rw [hc4]; rfl) (.skp (.skp (.skp (.putEq (by rw [hc4]) (.refl _)) rfl) rfl) rfl))
   ·refine gt rfl <| a1 (v := (.c (.ref 0 4 0 1))) rfl <| gt rfl <| a1 (v := (I env.Height)) rfl <| gt rfl <| a1 (v := (B (decide (4000 < env.Height)))) rfl <| un1 (v := (B (decide (4000 < env.Height)))) rfl <| dnil ?_
    exact hX _ (.putEq (by rw [hc4]; rfl) (.skp (.skp (.skp (.putEq (by rw [hc4]) (.refl _)) rfl) rfl) rfl))
  refine dnil ?_
  refine Sv.cnd rfl h (fun h => ?_) fun h => ?_
  ·refine ssr <| un1 rfl <| un1 rfl <| dnil <| Sv.ret ?_
   exact rt0 h rfl rfl ⟨rfl, rfl, rfl⟩
  ·refine Sv.skip <| Sv.seq <| ssr <| un1 rfl <| un1 (v := (I (r_.1.length : Int))) (s_lenL rfl (len_nil_of hz_)) <| un1 rfl <| dnil <| Sv.block ?_
   obtain ⟨kk, h⟩ := limF_some h
   refine Sv.weak (wcn [0, 1] rfl (.cf rfl rfl (.cf rfl rfl (.cons rfl (.c (lsr rfl rfl)) (.cr rfl rfl rfl .nil)))) (.row (by decide) rfl (fr_map fun _ => rfl) (.box (by decide) rfl (blkAs_cells (.sm rfl (.sm rfl (.sm rfl (.sm rfl .nil))))) .nil))) (Z8r hz_ h ?_ (fun s hs => hs))
   ·intro _ h _ hw1
    refine Sv.weak hw1 <| ssr <| un1 rfl <| un1 rfl <| dnil <| Sv.ret ?_
    exact rt0 h rfl rfl ⟨rfl, rfl, rfl⟩
def a4 : AFunc := ⟨0, [(.tmp 0)], (sr [(oP 0 (.mov kF))]
 (sr [(oP 4 (.build [(.val (.int .i64 0)), (.val (.int .i64 0)), (.val (.bool false)), (.val (.bool false))] [(0, (1, (kI 600))), (1, (1, (kI 1)))])), (oP 5 (.call 8 [(.const (.c (.str [40, 109, 105, 110, 45, 119, 105, 100, 116, 104, 58, 32, 54, 48, 48, 112, 120, 41]))), (.tmp 4)])), (mV 3 5), (oP 6 (.ext (.tmp 3) 0)), (oP 7 (.ext (.tmp 3) 1)), (mV 1 6), (mV 2 7)]
 (sr [(mV 8 1), (mV 9 8), ⟨(some 10), (.mov (.tmp 2)), (some (9, true))⟩, ⟨(some 11), (.bin .eql (.tmp 10) (kI 0)), (some (9, true))⟩, (oP 12 (.pick (.tmp 9) (.tmp 11) kF)), (mV 0 12)]
 .ret)))⟩
theorem c4 : compFunc Tryz.prog 4 = some a4 := by kernel_rfl
def Z8s (r : Bool) : AV → Heap → Nat → Prop := fun v h' n' => v = (B r) ∧ (h' = e0) ∧ n' = 0
/-- clerestory/clerestorylaw2.wide -/
noncomputable def Z38 : Option Bool :=
 (Z15 [40, 109, 105, 110, 45, 119, 105, 100, 116, 104, 58, 32, 54, 48, 48, 112, 120, 41] (⟨600, 1, false, false⟩ : TEnv)).bind fun r_ =>
 some (r_.1 && (decide (r_.2 = 0)))
theorem Z8t {mL : Int} {r : Bool} (h : Z38 = some r) : CPure Tryz.prog (GG mL) 4 [] (B r) := by
 refine acalls_of_sv hmix c4 (R := Z8s r) ?_
 unfold Z38 at h
 refine ssr <| un1 rfl <| dnil <| ssr <| un1 (v := (.agg [cI 600, cI 1, cB false, cB false])) rfl ?_
 obtain ⟨r_, hr1, h⟩ := bnd h
 refine un <| ac_pure (Z67 hr1) rfl rfl rfl <| un1 rfl <| un1 (v := (B r_.1)) rfl <| un1 (v := (I r_.2)) rfl <| un1 rfl <| un1 rfl <| dnil <| ssr <| un1 rfl <| un1 rfl ?_
 refine gjoin 3 (d := 12) (v := (B (r_.1 && (decide (r_.2 = 0))))) (fun X hX => ?_) ?_
 ·refine split2 (fun hc1 => ?_) (fun hc1 => ?_)
  ·refine gt rfl <| a1 rfl <| gt rfl <| a1 (v := (B (decide (r_.2 = 0)))) rfl <| un1 (v := (B (decide (r_.2 = 0)))) rfl <| dnil ?_
   exact hX _ (.putEq (by rw [hc1]; rfl) (.skp (.skp (.putEq (by rw [hc1]) (.refl _)) rfl) rfl))
  ·refine gs rfl rfl <| gs rfl rfl <| un1 (v := (B false)) rfl <| dnil ?_
   exact hX _ (.putEq (by rw [hc1]; rfl) (.skp (.skp (.putEq (by rw [hc1]) (.refl _)) rfl) rfl))
 refine un1 rfl <| dnil <| Sv.ret ?_
 exact rt0 h rfl rfl ⟨rfl, rfl, rfl⟩
def a5 : AFunc := ⟨1, [(.tmp 2)], (sr [(oP 1 (.box (.tmp 0))), (oP 2 (.mov kF))]
 (sr [(oP 4 (.faddr 0 (.tmp 1))), (oP 5 (.load false 1 (.tmp 4))), (oP 6 (.bin .geq (.tmp 5) (kI 4))), (mV 7 6), ⟨(some 8), (.faddr 0 (.tmp 1)), (some (7, true))⟩, ⟨(some 9), (.load false 1 (.tmp 8)), (some (7, true))⟩, ⟨(some 10), (.bin .leq (.tmp 9) (kI 7)), (some (7, true))⟩, (oP 11 (.pick (.tmp 7) (.tmp 10) kF)), (mV 3 11)]
 (sr [(oP 12 (.faddr 0 (.tmp 1))), (oP 13 (.load false 1 (.tmp 12))), (oP 14 (.bin .geq (.tmp 13) (kI 1))), (mV 15 14), ⟨(some 16), (.faddr 0 (.tmp 1)), (some (15, true))⟩, ⟨(some 17), (.load false 1 (.tmp 16)), (some (15, true))⟩, ⟨(some 18), (.bin .leq (.tmp 17) (kI 12)), (some (15, true))⟩, (oP 19 (.pick (.tmp 15) (.tmp 18) kF)), (mV 20 19), ⟨(some 21), (.mov (.tmp 3)), (some (20, true))⟩, ⟨(some 22), (.mov (.tmp 21)), (some (20, true))⟩, ⟨(some 23), (.faddr 1 (.tmp 1)), (some (22, true))⟩, ⟨(some 24), (.load false 1 (.tmp 23)), (some (22, true))⟩, ⟨(some 25), (.bin .geq (.tmp 24) (kI 0)), (some (22, true))⟩, ⟨(some 26), (.pick (.tmp 22) (.tmp 25) kF), (some (20, true))⟩, ⟨(some 27), (.mov (.tmp 26)), (some (20, true))⟩, ⟨(some 28), (.faddr 1 (.tmp 1)), (some (27, true))⟩, ⟨(some 29), (.load false 1 (.tmp 28)), (some (27, true))⟩, ⟨(some 30), (.bin .leq (.tmp 29) (kI 1000000)), (some (27, true))⟩, ⟨(some 31), (.pick (.tmp 27) (.tmp 30) kF), (some (20, true))⟩, ⟨(some 32), (.mov (.tmp 31)), (some (20, true))⟩, ⟨(some 33), (.mov (.tmp 3)), (some (32, false))⟩, ⟨(some 34), (.un .not (.tmp 33)), (some (32, false))⟩, ⟨(some 35), (.mov (.tmp 34)), (some (32, false))⟩, ⟨(some 36), (.faddr 1 (.tmp 1)), (some (35, true))⟩, ⟨(some 37), (.load false 1 (.tmp 36)), (some (35, true))⟩, ⟨(some 38), (.bin .eql (.tmp 37) (kI 0)), (some (35, true))⟩, ⟨(some 39), (.pick (.tmp 35) (.tmp 38) kF), (some (32, false))⟩, ⟨(some 40), (.pick (.tmp 32) kT (.tmp 39)), (some (20, true))⟩, (oP 41 (.pick (.tmp 20) (.tmp 40) kF)), (mV 2 41)]
 .ret)))⟩
theorem c5 : compFunc Tryz.prog 5 = some a5 := by kernel_rfl
def Z8u (r : Bool) : AV → Heap → Nat → Prop := fun v h' n' => v = (B r) ∧ (h' = e0) ∧ n' = 0
/-- clerestory/clerestorylaw2.right -/
def Za (f_ : TSFeature) : Bool :=
 (((decide (1 ≤ f_.Kind)) && (decide (f_.Kind ≤ 12))) && (((((decide (4 ≤ f_.Kind)) && (decide (f_.Kind ≤ 7))) && (decide (0 ≤ f_.Num))) && (decide (f_.Num ≤ 1000000))) || ((!((decide (4 ≤ f_.Kind)) && (decide (f_.Kind ≤ 7)))) && (decide (f_.Num = 0)))))
theorem Z8v {mL : Int} (f_ : TSFeature) : CPure Tryz.prog (GG mL) 5 [(.agg (e_TSFeature f_))] (B (Za f_)) := by
 generalize h : Za f_ = o
 refine acalls_of_sv hmix c5 (R := Z8u o) ?_
 unfold Za at h
 refine ssr <| un <| a2v (v := (.c (.ref 0 2 0 0))) (h' := upd _ 0 (some (.cells 2 [(e_TSFeature f_)]))) (n' := 1) rfl rfl hcs <| un1 rfl <| dnil <| ssr <| un1 (v := (.c (.ref 0 2 0 0))) rfl <| un1 (v := (I f_.Kind)) rfl <| un1 (v := (B (decide (4 ≤ f_.Kind)))) rfl <| un1 rfl ?_
 refine gjoin 4 (d := 11) (v := (B ((decide (4 ≤ f_.Kind)) && (decide (f_.Kind ≤ 7))))) (fun X hX => ?_) ?_
 ·refine split2 (fun hc1 => ?_) (fun hc1 => ?_)
  ·refine gt rfl <| a1 (v := (.c (.ref 0 2 0 0))) rfl <| gt rfl <| a1 (v := (I f_.Kind)) rfl <| gt rfl <| a1 (v := (B (decide (f_.Kind ≤ 7)))) rfl <| un1 (v := (B (decide (f_.Kind ≤ 7)))) rfl <| dnil ?_
   exact hX _ (.putEq (by rw [hc1]; rfl) (.skp (.skp (.skp (.putEq (by rw [hc1]) (.refl _)) rfl) rfl) rfl))
  ·refine gs rfl rfl <| gs rfl rfl <| gs rfl rfl <| un1 (v := (B false)) rfl <| dnil ?_
   exact hX _ (.putEq (by rw [hc1]; rfl) (.skp (.skp (.skp (.putEq (by rw [hc1]) (.refl _)) rfl) rfl) rfl))
 refine un1 rfl <| dnil <| ssr <| un1 (v := (.c (.ref 0 2 0 0))) rfl <| un1 (v := (I f_.Kind)) rfl <| un1 (v := (B (decide (1 ≤ f_.Kind)))) rfl <| un1 rfl ?_
 refine gjoin 4 (d := 19) (v := (B ((decide (1 ≤ f_.Kind)) && (decide (f_.Kind ≤ 12))))) (fun X hX => ?_) ?_
 ·refine split2 (fun hc2 => ?_) (fun hc2 => ?_)
  ·refine gt rfl <| a1 (v := (.c (.ref 0 2 0 0))) rfl <| gt rfl <| a1 (v := (I f_.Kind)) rfl <| gt rfl <| a1 (v := (B (decide (f_.Kind ≤ 12)))) rfl <| un1 (v := (B (decide (f_.Kind ≤ 12)))) rfl <| dnil ?_
   exact hX _ (.putEq (by rw [hc2]; rfl) (.skp (.skp (.skp (.putEq (by rw [hc2]) (.refl _)) rfl) rfl) rfl))
  ·refine gs rfl rfl <| gs rfl rfl <| gs rfl rfl <| un1 (v := (B false)) rfl <| dnil ?_
   exact hX _ (.putEq (by rw [hc2]; rfl) (.skp (.skp (.skp (.putEq (by rw [hc2]) (.refl _)) rfl) rfl) rfl))
 refine un1 rfl ?_
 refine gjoin 21 (d := 41) (v := (B (((decide (1 ≤ f_.Kind)) && (decide (f_.Kind ≤ 12))) && (((((decide (4 ≤ f_.Kind)) && (decide (f_.Kind ≤ 7))) && (decide (0 ≤ f_.Num))) && (decide (f_.Num ≤ 1000000))) || ((!((decide (4 ≤ f_.Kind)) && (decide (f_.Kind ≤ 7)))) && (decide (f_.Num = 0))))))) (fun X hX => ?_) ?_
 ·refine split2 (fun hc7 => ?_) (fun hc7 => ?_)
  ·refine gt rfl <| a1 rfl <| gt rfl <| a1 rfl ?_
   refine gjoin 4 (d := 26) (v := (B (((decide (4 ≤ f_.Kind)) && (decide (f_.Kind ≤ 7))) && (decide (0 ≤ f_.Num))))) (fun X hX => ?_) ?_
   ·refine split2 (fun hc3 => ?_) (fun hc3 => ?_)
    ·refine gt rfl <| a1 (v := (.c (.ref 0 2 0 1))) rfl <| gt rfl <| a1 (v := (I f_.Num)) rfl <| gt rfl <| a1 (v := (B (decide (0 ≤ f_.Num)))) rfl <| gt rfl <| a1 (v := (B (decide (0 ≤ f_.Num)))) rfl <| dnil ?_
     exact hX _ (.putEq (by rw [hc3]; rfl) (.skp (.skp (.skp (.putEq (by rw [hc3]) (.refl _)) rfl) rfl) rfl))
    ·refine gs rfl rfl <| gs rfl rfl <| gs rfl rfl <| gt rfl <| a1 (v := (B false)) rfl <| dnil ?_
     exact hX _ (.putEq (by rw [hc3]; rfl) (.skp (.skp (.skp (.putEq (by rw [hc3]) (.refl _)) rfl) rfl) rfl))
   refine gt rfl <| a1 rfl ?_
   refine gjoin 4 (d := 31) (v := (B ((((decide (4 ≤ f_.Kind)) && (decide (f_.Kind ≤ 7))) && (decide (0 ≤ f_.Num))) && (decide (f_.Num ≤ 1000000))))) (fun X hX => ?_) ?_
   ·refine split2 (fun hc4 => ?_) (fun hc4 => ?_)
    ·refine gt rfl <| a1 (v := (.c (.ref 0 2 0 1))) rfl <| gt rfl <| a1 (v := (I f_.Num)) rfl <| gt rfl <| a1 (v := (B (decide (f_.Num ≤ 1000000)))) rfl <| gt rfl <| a1 (v := (B (decide (f_.Num ≤ 1000000)))) rfl <| dnil ?_
     exact hX _ (.putEq (by rw [hc4]; rfl) (.skp (.skp (.skp (.putEq (by rw [hc4]) (.refl _)) rfl) rfl) rfl))
    ·refine gs rfl rfl <| gs rfl rfl <| gs rfl rfl <| gt rfl <| a1 (v := (B false)) rfl <| dnil ?_
     exact hX _ (.putEq (by rw [hc4]; rfl) (.skp (.skp (.skp (.putEq (by rw [hc4]) (.refl _)) rfl) rfl) rfl))
   refine gt rfl <| a1 rfl ?_
   refine gjoin 8 (d := 40) (v := (B (((((decide (4 ≤ f_.Kind)) && (decide (f_.Kind ≤ 7))) && (decide (0 ≤ f_.Num))) && (decide (f_.Num ≤ 1000000))) || ((!((decide (4 ≤ f_.Kind)) && (decide (f_.Kind ≤ 7)))) && (decide (f_.Num = 0)))))) (fun X hX => ?_) ?_
   ·refine split2 (fun hc6 => ?_) (fun hc6 => ?_)
    ·repeat (first | refine gu rfl ?_ | refine gs rfl rfl ?_)
     refine gt rfl <| a1 (v := (B true)) rfl <| dnil ?_
     exact hX _ (.putEq (by rw [hc6]; rfl) (by repeat (first | exact .putEq (by rw [hc6]) (.refl _) | refine .skp ?_ rfl)))
    ·refine gt rfl <| a1 rfl <| gt rfl <| a1 (v := (B (!((decide (4 ≤ f_.Kind)) && (decide (f_.Kind ≤ 7)))))) rfl <| gt rfl <| a1 rfl ?_
     refine gjoin 4 (d := 39) (v := (B ((!((decide (4 ≤ f_.Kind)) && (decide (f_.Kind ≤ 7)))) && (decide (f_.Num = 0))))) (fun X hX => ?_) ?_
     ·refine split2 (fun hc5 => ?_) (fun hc5 => ?_)
      ·refine gt rfl <| a1 (v := (.c (.ref 0 2 0 1))) rfl <| gt rfl <| a1 (v := (I f_.Num)) rfl <| gt rfl <| a1 (v := (B (decide (f_.Num = 0)))) rfl <| gt rfl <| a1 (v := (B (decide (f_.Num = 0)))) rfl <| dnil ?_
       exact hX _ (.putEq (by rw [hc5]; rfl) (.skp (.skp (.skp (.putEq (by rw [hc5]) (.refl _)) rfl) rfl) rfl))
      ·refine gs rfl rfl <| gs rfl rfl <| gs rfl rfl <| gt rfl <| a1 (v := (B false)) rfl <| dnil ?_
       exact hX _ (.putEq (by rw [hc5]; rfl) (.skp (.skp (.skp (.putEq (by rw [hc5]) (.refl _)) rfl) rfl) rfl))
     refine gt rfl <| a1 (v := (B ((!((decide (4 ≤ f_.Kind)) && (decide (f_.Kind ≤ 7)))) && (decide (f_.Num = 0))))) rfl <| dnil ?_
     exact hX _ (.putEq (by rw [hc6]; rfl) (.skp (.skp (.skp (.skp (.putEq (by rw [hc6]) (.refl _)) rfl) rfl) rfl) rfl))
   refine un1 (v := (B (((((decide (4 ≤ f_.Kind)) && (decide (f_.Kind ≤ 7))) && (decide (0 ≤ f_.Num))) && (decide (f_.Num ≤ 1000000))) || ((!((decide (4 ≤ f_.Kind)) && (decide (f_.Kind ≤ 7)))) && (decide (f_.Num = 0)))))) rfl <| dnil ?_
   exact hX _ (.putEq (by rw [hc7]; rfl) (by repeat (first | exact .putEq (by rw [hc7]) (.refl _) | refine .skp ?_ rfl)))
  ·repeat (first | refine gu rfl ?_ | refine gs rfl rfl ?_)
   refine un1 (v := (B false)) rfl <| dnil ?_
   exact hX _ (.putEq (by rw [hc7]; rfl) (by repeat (first | exact .putEq (by rw [hc7]) (.refl _) | refine .skp ?_ rfl)))
 refine un1 rfl <| dnil <| Sv.ret ?_
 subst h
 exact ⟨_, .refl _, _, rfl, ⟨upd e0 0 (some (B (((decide (1 ≤ f_.Kind)) && (decide (f_.Kind ≤ 12))) && (((((decide (4 ≤ f_.Kind)) && (decide (f_.Kind ≤ 7))) && (decide (0 ≤ f_.Num))) && (decide (f_.Num ≤ 1000000))) || ((!((decide (4 ≤ f_.Kind)) && (decide (f_.Kind ≤ 7)))) && (decide (f_.Num = 0))))))), e0, 0⟩, (B (((decide (1 ≤ f_.Kind)) && (decide (f_.Kind ≤ 12))) && (((((decide (4 ≤ f_.Kind)) && (decide (f_.Kind ≤ 7))) && (decide (0 ≤ f_.Num))) && (decide (f_.Num ≤ 1000000))) || ((!((decide (4 ≤ f_.Kind)) && (decide (f_.Kind ≤ 7)))) && (decide (f_.Num = 0)))))), weak_canon [] rfl ndl nll nlz (.cf rfl rfl .nil) .nil, rfl, rfl, rfl, rfl⟩
def a10 : AFunc := ⟨2, [(.tmp 4), (.tmp 5)], (sr [(oP 2 (.box (.tmp 0))), (oP 3 (.box (.tmp 1))), (oP 4 (.mov kF)), (oP 5 (.mov kF))]
 (.seq (sr [(oP 6 (.faddr 0 (.tmp 2))), (oP 7 (.load false 1 (.tmp 6))), (oP 8 (.bin .eql (.tmp 7) (kI 1)))]
 (.cond (.tmp 8) (sr [(oP 4 (.mov kT)), (oP 5 (.mov kT))]
 .ret) .skip))
 (.seq (sr [(oP 9 (.faddr 0 (.tmp 2))), (oP 10 (.load false 1 (.tmp 9))), (oP 11 (.bin .eql (.tmp 10) (kI 2)))]
 (.cond (.tmp 11) (sr [(oP 12 (.faddr 3 (.tmp 3))), (oP 13 (.load false 1 (.tmp 12))), (oP 14 (.un .not (.tmp 13))), (mV 4 14), (oP 5 (.mov kT))]
 .ret) .skip))
 (.seq (sr [(oP 15 (.faddr 0 (.tmp 2))), (oP 16 (.load false 1 (.tmp 15))), (oP 17 (.bin .eql (.tmp 16) (kI 3)))]
 (.cond (.tmp 17) (sr [(oP 18 (.faddr 3 (.tmp 3))), (oP 19 (.load false 1 (.tmp 18))), (mV 4 19), (oP 5 (.mov kT))]
 .ret) .skip))
 (.seq (sr [(oP 20 (.faddr 0 (.tmp 2))), (oP 21 (.load false 1 (.tmp 20))), (oP 22 (.bin .eql (.tmp 21) (kI 4)))]
 (.cond (.tmp 22) (sr [(oP 23 (.faddr 0 (.tmp 3))), (oP 24 (.load false 1 (.tmp 23))), (oP 25 (.faddr 1 (.tmp 2))), (oP 26 (.load false 1 (.tmp 25))), (oP 27 (.bin .geq (.tmp 24) (.tmp 26))), (mV 4 27), (oP 5 (.mov kT))]
 .ret) .skip))
 (.seq (sr [(oP 28 (.faddr 0 (.tmp 2))), (oP 29 (.load false 1 (.tmp 28))), (oP 30 (.bin .eql (.tmp 29) (kI 5)))]
 (.cond (.tmp 30) (sr [(oP 31 (.faddr 0 (.tmp 3))), (oP 32 (.load false 1 (.tmp 31))), (oP 33 (.faddr 1 (.tmp 2))), (oP 34 (.load false 1 (.tmp 33))), (oP 35 (.bin .leq (.tmp 32) (.tmp 34))), (mV 4 35), (oP 5 (.mov kT))]
 .ret) .skip))
 (.seq (sr [(oP 36 (.faddr 0 (.tmp 2))), (oP 37 (.load false 1 (.tmp 36))), (oP 38 (.bin .eql (.tmp 37) (kI 6)))]
 (.cond (.tmp 38) (sr [(oP 39 (.faddr 1 (.tmp 3))), (oP 40 (.load false 1 (.tmp 39))), (oP 41 (.faddr 1 (.tmp 2))), (oP 42 (.load false 1 (.tmp 41))), (oP 43 (.bin .geq (.tmp 40) (.tmp 42))), (mV 4 43), (oP 5 (.mov kT))]
 .ret) .skip))
 (.seq (sr [(oP 44 (.faddr 0 (.tmp 2))), (oP 45 (.load false 1 (.tmp 44))), (oP 46 (.bin .eql (.tmp 45) (kI 7)))]
 (.cond (.tmp 46) (sr [(oP 47 (.faddr 1 (.tmp 3))), (oP 48 (.load false 1 (.tmp 47))), (oP 49 (.faddr 1 (.tmp 2))), (oP 50 (.load false 1 (.tmp 49))), (oP 51 (.bin .leq (.tmp 48) (.tmp 50))), (mV 4 51), (oP 5 (.mov kT))]
 .ret) .skip))
 (.seq (sr [(oP 52 (.faddr 0 (.tmp 2))), (oP 53 (.load false 1 (.tmp 52))), (oP 54 (.bin .eql (.tmp 53) (kI 8)))]
 (.cond (.tmp 54) (sr [(oP 55 (.faddr 2 (.tmp 3))), (oP 56 (.load false 1 (.tmp 55))), (mV 4 56), (oP 5 (.mov kT))]
 .ret) .skip))
 (.seq (sr [(oP 57 (.faddr 0 (.tmp 2))), (oP 58 (.load false 1 (.tmp 57))), (oP 59 (.bin .eql (.tmp 58) (kI 9)))]
 (.cond (.tmp 59) (sr [(oP 60 (.faddr 2 (.tmp 3))), (oP 61 (.load false 1 (.tmp 60))), (oP 62 (.un .not (.tmp 61))), (mV 4 62), (oP 5 (.mov kT))]
 .ret) .skip))
 (.seq (sr [(oP 63 (.faddr 0 (.tmp 2))), (oP 64 (.load false 1 (.tmp 63))), (oP 65 (.bin .eql (.tmp 64) (kI 10)))]
 (.cond (.tmp 65) (sr [(oP 66 (.faddr 1 (.tmp 3))), (oP 67 (.load false 1 (.tmp 66))), (oP 68 (.faddr 0 (.tmp 3))), (oP 69 (.load false 1 (.tmp 68))), (oP 70 (.bin .geq (.tmp 67) (.tmp 69))), (mV 4 70), (oP 5 (.mov kT))]
 .ret) .skip))
 (.seq (sr [(oP 71 (.faddr 0 (.tmp 2))), (oP 72 (.load false 1 (.tmp 71))), (oP 73 (.bin .eql (.tmp 72) (kI 11)))]
 (.cond (.tmp 73) (sr [(oP 74 (.faddr 1 (.tmp 3))), (oP 75 (.load false 1 (.tmp 74))), (oP 76 (.faddr 0 (.tmp 3))), (oP 77 (.load false 1 (.tmp 76))), (oP 78 (.bin .lss (.tmp 75) (.tmp 77))), (mV 4 78), (oP 5 (.mov kT))]
 .ret) .skip))
 (sr [(oP 4 (.mov kF)), (oP 5 (.mov kF))]
 .ret)))))))))))))⟩
theorem c10 : compFunc Tryz.prog 10 = some a10 := by kernel_rfl
def Z8w (r : (Bool × Bool)) : AV → Heap → Nat → Prop := fun v h' n' => v = (.tup [(B r.1), (B r.2)]) ∧ (h' = e0) ∧ n' = 0
/-- clerestory/clerestoryref2.FeatureSo -/
def Z0 (f_ : TSFeature) (e_ : TEnv) : (Bool × Bool) :=
 if decide (f_.Kind = 1) then
  (true, true)
 else
  if decide (f_.Kind = 2) then
   ((!e_.Print), true)
  else
   if decide (f_.Kind = 3) then
    (e_.Print, true)
   else
    if decide (f_.Kind = 4) then
     (decide (f_.Num ≤ e_.Width), true)
    else
     if decide (f_.Kind = 5) then
      (decide (e_.Width ≤ f_.Num), true)
     else
      if decide (f_.Kind = 6) then
       (decide (f_.Num ≤ e_.Height), true)
      else
       if decide (f_.Kind = 7) then
        (decide (e_.Height ≤ f_.Num), true)
       else
        if decide (f_.Kind = 8) then
         (e_.Dark, true)
        else
         if decide (f_.Kind = 9) then
          ((!e_.Dark), true)
         else
          if decide (f_.Kind = 10) then
           (decide (e_.Width ≤ e_.Height), true)
          else
           if decide (f_.Kind = 11) then
            (decide (e_.Height < e_.Width), true)
           else
            (false, false)
theorem Z8x {mL : Int} (f_ : TSFeature) (e_ : TEnv) : CPure Tryz.prog (GG mL) 10 [(.agg (e_TSFeature f_)), (.agg (e_TEnv e_))] (.tup [(B ((Z0 f_ e_).1)), (B ((Z0 f_ e_).2))]) := by
 generalize h : Z0 f_ e_ = o
 refine acalls_of_sv hmix c10 (R := Z8w o) ?_
 unfold Z0 at h
 refine ssr <| un <| a2v (v := (.c (.ref 0 2 0 0))) (h' := upd _ 0 (some (.cells 2 [(e_TSFeature f_)]))) (n' := 1) rfl rfl hcs <| un <| a2v (v := (.c (.ref 1 4 0 0))) (h' := upd _ 1 (some (.cells 4 [(e_TEnv e_)]))) (n' := 2) rfl rfl hcs <| un1 rfl <| un1 rfl <| dnil <| Sv.seq <| ssr <| un1 (v := (.c (.ref 0 2 0 0))) rfl <| un1 (v := (I f_.Kind)) rfl <| un1 (v := (B (decide (f_.Kind = 1)))) rfl <| dnil ?_
 refine Sv.cnd rfl h (fun h => ?_) fun h => ?_
 ·refine ssr <| un1 rfl <| un1 rfl <| dnil <| Sv.ret ?_
  subst h
  exact ⟨_, .refl _, _, rfl, ⟨upd e0 0 (some (.tup [(B true), (B true)])), e0, 0⟩, (.tup [(B true), (B true)]), weak_canon [] rfl ndl nll nlz (.cons rfl (avAs_tup (.cons (avAs_free rfl) (.cons (avAs_free rfl) .nil))) .nil) .nil, rfl, rfl, rfl, rfl⟩
 ·refine Sv.skip <| Sv.seq <| ssr <| un1 (v := (.c (.ref 0 2 0 0))) rfl <| un1 (v := (I f_.Kind)) rfl <| un1 (v := (B (decide (f_.Kind = 2)))) rfl <| dnil ?_
  refine Sv.cnd rfl h (fun h => ?_) fun h => ?_
  ·refine ssr <| un1 (v := (.c (.ref 1 4 0 3))) rfl <| un1 (v := (B e_.Print)) rfl <| un1 (v := (B (!e_.Print))) rfl <| un1 rfl <| un1 rfl <| dnil <| Sv.ret ?_
   subst h
   exact ⟨_, .refl _, _, rfl, ⟨upd e0 0 (some (.tup [(B (!e_.Print)), (B true)])), e0, 0⟩, (.tup [(B (!e_.Print)), (B true)]), weak_canon [] rfl ndl nll nlz (.cons rfl (avAs_tup (.cons (avAs_free rfl) (.cons (avAs_free rfl) .nil))) .nil) .nil, rfl, rfl, rfl, rfl⟩
  ·refine Sv.skip <| Sv.seq <| ssr <| un1 (v := (.c (.ref 0 2 0 0))) rfl <| un1 (v := (I f_.Kind)) rfl <| un1 (v := (B (decide (f_.Kind = 3)))) rfl <| dnil ?_
   refine Sv.cnd rfl h (fun h => ?_) fun h => ?_
   ·refine ssr <| un1 (v := (.c (.ref 1 4 0 3))) rfl <| un1 (v := (B e_.Print)) rfl <| un1 rfl <| un1 rfl <| dnil <| Sv.ret ?_
    subst h
    exact ⟨_, .refl _, _, rfl, ⟨upd e0 0 (some (.tup [(B e_.Print), (B true)])), e0, 0⟩, (.tup [(B e_.Print), (B true)]), weak_canon [] rfl ndl nll nlz (.cons rfl (avAs_tup (.cons (avAs_free rfl) (.cons (avAs_free rfl) .nil))) .nil) .nil, rfl, rfl, rfl, rfl⟩
   ·refine Sv.skip <| Sv.seq <| ssr <| un1 (v := (.c (.ref 0 2 0 0))) rfl <| un1 (v := (I f_.Kind)) rfl <| un1 (v := (B (decide (f_.Kind = 4)))) rfl <| dnil ?_
    refine Sv.cnd rfl h (fun h => ?_) fun h => ?_
    ·refine ssr <| un1 (v := (.c (.ref 1 4 0 0))) rfl <| un1 (v := (I e_.Width)) rfl <| un1 (v := (.c (.ref 0 2 0 1))) rfl <| un1 (v := (I f_.Num)) rfl <| un1 (v := (B (decide (f_.Num ≤ e_.Width)))) rfl <| un1 rfl <| un1 rfl <| dnil <| Sv.ret ?_
     subst h
     exact ⟨_, .refl _, _, rfl, ⟨upd e0 0 (some (.tup [(B (decide (f_.Num ≤ e_.Width))), (B true)])), e0, 0⟩, (.tup [(B (decide (f_.Num ≤ e_.Width))), (B true)]), weak_canon [] rfl ndl nll nlz (.cons rfl (avAs_tup (.cons (avAs_free rfl) (.cons (avAs_free rfl) .nil))) .nil) .nil, rfl, rfl, rfl, rfl⟩
    ·refine Sv.skip <| Sv.seq <| ssr <| un1 (v := (.c (.ref 0 2 0 0))) rfl <| un1 (v := (I f_.Kind)) rfl <| un1 (v := (B (decide (f_.Kind = 5)))) rfl <| dnil ?_
     refine Sv.cnd rfl h (fun h => ?_) fun h => ?_
     ·refine ssr <| un1 (v := (.c (.ref 1 4 0 0))) rfl <| un1 (v := (I e_.Width)) rfl <| un1 (v := (.c (.ref 0 2 0 1))) rfl <| un1 (v := (I f_.Num)) rfl <| un1 (v := (B (decide (e_.Width ≤ f_.Num)))) rfl <| un1 rfl <| un1 rfl <| dnil <| Sv.ret ?_
      subst h
      exact ⟨_, .refl _, _, rfl, ⟨upd e0 0 (some (.tup [(B (decide (e_.Width ≤ f_.Num))), (B true)])), e0, 0⟩, (.tup [(B (decide (e_.Width ≤ f_.Num))), (B true)]), weak_canon [] rfl ndl nll nlz (.cons rfl (avAs_tup (.cons (avAs_free rfl) (.cons (avAs_free rfl) .nil))) .nil) .nil, rfl, rfl, rfl, rfl⟩
     ·refine Sv.skip <| Sv.seq <| ssr <| un1 (v := (.c (.ref 0 2 0 0))) rfl <| un1 (v := (I f_.Kind)) rfl <| un1 (v := (B (decide (f_.Kind = 6)))) rfl <| dnil ?_
      refine Sv.cnd rfl h (fun h => ?_) fun h => ?_
      ·refine ssr <| un1 (v := (.c (.ref 1 4 0 1))) rfl <| un1 (v := (I e_.Height)) rfl <| un1 (v := (.c (.ref 0 2 0 1))) rfl <| un1 (v := (I f_.Num)) rfl <| un1 (v := (B (decide (f_.Num ≤ e_.Height)))) rfl <| un1 rfl <| un1 rfl <| dnil <| Sv.ret ?_
       subst h
       exact ⟨_, .refl _, _, rfl, ⟨upd e0 0 (some (.tup [(B (decide (f_.Num ≤ e_.Height))), (B true)])), e0, 0⟩, (.tup [(B (decide (f_.Num ≤ e_.Height))), (B true)]), weak_canon [] rfl ndl nll nlz (.cons rfl (avAs_tup (.cons (avAs_free rfl) (.cons (avAs_free rfl) .nil))) .nil) .nil, rfl, rfl, rfl, rfl⟩
      ·refine Sv.skip <| Sv.seq <| ssr <| un1 (v := (.c (.ref 0 2 0 0))) rfl <| un1 (v := (I f_.Kind)) rfl <| un1 (v := (B (decide (f_.Kind = 7)))) rfl <| dnil ?_
       refine Sv.cnd rfl h (fun h => ?_) fun h => ?_
       ·refine ssr <| un1 (v := (.c (.ref 1 4 0 1))) rfl <| un1 (v := (I e_.Height)) rfl <| un1 (v := (.c (.ref 0 2 0 1))) rfl <| un1 (v := (I f_.Num)) rfl <| un1 (v := (B (decide (e_.Height ≤ f_.Num)))) rfl <| un1 rfl <| un1 rfl <| dnil <| Sv.ret ?_
        subst h
        exact ⟨_, .refl _, _, rfl, ⟨upd e0 0 (some (.tup [(B (decide (e_.Height ≤ f_.Num))), (B true)])), e0, 0⟩, (.tup [(B (decide (e_.Height ≤ f_.Num))), (B true)]), weak_canon [] rfl ndl nll nlz (.cons rfl (avAs_tup (.cons (avAs_free rfl) (.cons (avAs_free rfl) .nil))) .nil) .nil, rfl, rfl, rfl, rfl⟩
       ·refine Sv.skip <| Sv.seq <| ssr <| un1 (v := (.c (.ref 0 2 0 0))) rfl <| un1 (v := (I f_.Kind)) rfl <| un1 (v := (B (decide (f_.Kind = 8)))) rfl <| dnil ?_
        refine Sv.cnd rfl h (fun h => ?_) fun h => ?_
        ·refine ssr <| un1 (v := (.c (.ref 1 4 0 2))) rfl <| un1 (v := (B e_.Dark)) rfl <| un1 rfl <| un1 rfl <| dnil <| Sv.ret ?_
         subst h
         exact ⟨_, .refl _, _, rfl, ⟨upd e0 0 (some (.tup [(B e_.Dark), (B true)])), e0, 0⟩, (.tup [(B e_.Dark), (B true)]), weak_canon [] rfl ndl nll nlz (.cons rfl (avAs_tup (.cons (avAs_free rfl) (.cons (avAs_free rfl) .nil))) .nil) .nil, rfl, rfl, rfl, rfl⟩
        ·refine Sv.skip <| Sv.seq <| ssr <| un1 (v := (.c (.ref 0 2 0 0))) rfl <| un1 (v := (I f_.Kind)) rfl <| un1 (v := (B (decide (f_.Kind = 9)))) rfl <| dnil ?_
         refine Sv.cnd rfl h (fun h => ?_) fun h => ?_
         ·refine ssr <| un1 (v := (.c (.ref 1 4 0 2))) rfl <| un1 (v := (B e_.Dark)) rfl <| un1 (v := (B (!e_.Dark))) rfl <| un1 rfl <| un1 rfl <| dnil <| Sv.ret ?_
          subst h
          exact ⟨_, .refl _, _, rfl, ⟨upd e0 0 (some (.tup [(B (!e_.Dark)), (B true)])), e0, 0⟩, (.tup [(B (!e_.Dark)), (B true)]), weak_canon [] rfl ndl nll nlz (.cons rfl (avAs_tup (.cons (avAs_free rfl) (.cons (avAs_free rfl) .nil))) .nil) .nil, rfl, rfl, rfl, rfl⟩
         ·refine Sv.skip <| Sv.seq <| ssr <| un1 (v := (.c (.ref 0 2 0 0))) rfl <| un1 (v := (I f_.Kind)) rfl <| un1 (v := (B (decide (f_.Kind = 10)))) rfl <| dnil ?_
          refine Sv.cnd rfl h (fun h => ?_) fun h => ?_
          ·refine ssr <| un1 (v := (.c (.ref 1 4 0 1))) rfl <| un1 (v := (I e_.Height)) rfl <| un1 (v := (.c (.ref 1 4 0 0))) rfl <| un1 (v := (I e_.Width)) rfl <| un1 (v := (B (decide (e_.Width ≤ e_.Height)))) rfl <| un1 rfl <| un1 rfl <| dnil <| Sv.ret ?_
           subst h
           exact ⟨_, .refl _, _, rfl, ⟨upd e0 0 (some (.tup [(B (decide (e_.Width ≤ e_.Height))), (B true)])), e0, 0⟩, (.tup [(B (decide (e_.Width ≤ e_.Height))), (B true)]), weak_canon [] rfl ndl nll nlz (.cons rfl (avAs_tup (.cons (avAs_free rfl) (.cons (avAs_free rfl) .nil))) .nil) .nil, rfl, rfl, rfl, rfl⟩
          ·refine Sv.skip <| Sv.seq <| ssr <| un1 (v := (.c (.ref 0 2 0 0))) rfl <| un1 (v := (I f_.Kind)) rfl <| un1 (v := (B (decide (f_.Kind = 11)))) rfl <| dnil ?_
           refine Sv.cnd rfl h (fun h => ?_) fun h => ?_
           ·refine ssr <| un1 (v := (.c (.ref 1 4 0 1))) rfl <| un1 (v := (I e_.Height)) rfl <| un1 (v := (.c (.ref 1 4 0 0))) rfl <| un1 (v := (I e_.Width)) rfl <| un1 (v := (B (decide (e_.Height < e_.Width)))) rfl <| un1 rfl <| un1 rfl <| dnil <| Sv.ret ?_
            subst h
            exact ⟨_, .refl _, _, rfl, ⟨upd e0 0 (some (.tup [(B (decide (e_.Height < e_.Width))), (B true)])), e0, 0⟩, (.tup [(B (decide (e_.Height < e_.Width))), (B true)]), weak_canon [] rfl ndl nll nlz (.cons rfl (avAs_tup (.cons (avAs_free rfl) (.cons (avAs_free rfl) .nil))) .nil) .nil, rfl, rfl, rfl, rfl⟩
           ·refine Sv.skip <| ssr <| un1 rfl <| un1 rfl <| dnil <| Sv.ret ?_
            subst h
            exact ⟨_, .refl _, _, rfl, ⟨upd e0 0 (some (.tup [(B false), (B false)])), e0, 0⟩, (.tup [(B false), (B false)]), weak_canon [] rfl ndl nll nlz (.cons rfl (avAs_tup (.cons (avAs_free rfl) (.cons (avAs_free rfl) .nil))) .nil) .nil, rfl, rfl, rfl, rfl⟩
def a6_c0 : ACode := (.seq (sr [(mV 10 7), (oP 11 (.faddr 1 (.tmp 2))), (oP 12 (.load false 1 (.tmp 11))), (oP 13 (.len (.tmp 12))), (oP 14 (.bin .lss (.tmp 10) (.tmp 13)))]
 (.cond (.tmp 14) .skip (.exit 0)))
 (.seq (.block 1 (.seq (.drawn (.fin [((oP 18 (.faddr 1 (.tmp 2))), (0, 0)), ((oP 19 (.load false 1 (.tmp 18))), (0, 1)), ((mV 20 7), (0, 2)), ((oP 21 (.iaddr 2 (.tmp 19) (.tmp 20))), (0, 3)), ((oP 22 (.load true 2 (.tmp 21))), (0, 4)), ((oP 23 (.load true 4 (.tmp 3))), (0, 5)), ((oP 24 (.call 10 [(.tmp 22), (.tmp 23)])), (2, 6)), ((mV 17 24), (0, 7)), ((oP 25 (.ext (.tmp 17) 0)), (0, 8)), ((oP 26 (.ext (.tmp 17) 1)), (0, 9)), ((mV 8 25), (0, 10)), ((mV 9 26), (0, 11))]))
 (sr [(mV 27 5), (mV 28 27), ⟨(some 29), (.mov (.tmp 8)), (some (28, true))⟩, (oP 30 (.pick (.tmp 28) (.tmp 29) kF)), (mV 31 30), ⟨(some 32), (.mov (.tmp 9)), (some (31, true))⟩, (oP 33 (.pick (.tmp 31) (.tmp 32) kF)), (mV 5 33)]
 (.region [(mV 34 6), (mV 35 34), ⟨(some 36), (.mov (.tmp 9)), (some (35, false))⟩, ⟨(some 37), (.mov (.tmp 36)), (some (35, false))⟩, ⟨(some 38), (.mov (.tmp 8)), (some (37, true))⟩, ⟨(some 39), (.un .not (.tmp 38)), (some (37, true))⟩, ⟨(some 40), (.pick (.tmp 37) (.tmp 39) kF), (some (35, false))⟩, (oP 41 (.pick (.tmp 35) kT (.tmp 40))), (mV 6 41)]))))
 (.region [(mV 15 7), (oP 16 (.bin .add (.tmp 15) (kI 1))), (mV 7 16)])))
def a6 : AFunc := ⟨2, [(.tmp 4)], (sr [(oP 2 (.box (.tmp 0))), (oP 3 (.box (.tmp 1))), (oP 4 (.mov kF))]
 (sr [(oP 5 (.mov kT))]
 (sr [(oP 6 (.mov kF))]
 (.seq (sr [(oP 7 (.mov (kI 0)))]
 (.block 0 (.loop a6_c0)))
 (.seq (sr [(oP 42 (.faddr 0 (.tmp 2))), (oP 43 (.load false 1 (.tmp 42)))]
 (.cond (.tmp 43) (sr [(mV 44 6), (mV 4 44)]
 .ret) .skip))
 (sr [(mV 45 5), (mV 4 45)]
 .ret))))))⟩
theorem c6 : compFunc Tryz.prog 6 = some a6 := by kernel_rfl
def Z68 (r : Bool) : AV → Heap → Nat → Prop := fun v h' n' => v = (B r) ∧ (h' = e0) ∧ n' = 0
abbrev Z8y (q_ : TSQuery) (F_ : Bool → Bool → Option Bool) (o : Bool) (R_ : St → Prop) : Prop := ∀ (all_1 : Bool) (none_1 : Bool), F_ all_1 none_1 = some o → ∀ s, Weak 0 s ⟨(ue [(6, (B none_1)), (5, (B all_1)), (2, (.c (.ref 0 2 0 0)))]), (upd e0 0 (some (.cells 2 [(e_TSQuery q_)]))), 1⟩ → R_ s
abbrev Z69 (q_ : TSQuery) (e_ : TEnv) (F_ : Nat → Bool → Bool → Int → Option Bool) (o : Bool) : Nat → St → Prop := fun k s => ∃ (all_ : Bool), ∃ (none_ : Bool), ∃ (i_ : Int), F_ k all_ none_ i_ = some o ∧ s = ⟨(ue [(7, (I i_)), (6, (B none_)), (5, (B all_)), (3, (.c (.ref 1 4 0 0))), (2, (.c (.ref 0 2 0 0)))]), (upd (upd e0 0 (some (.cells 2 [(e_TSQuery q_)]))) 1 (some (.cells 4 [(e_TEnv e_)]))), 2⟩
abbrev Z8z (q_ : TSQuery) (e_ : TEnv) (F_ : Bool → Bool → Int → Option Bool) (o : Bool) (R_ : St → Prop) : Prop := ∀ (all_ : Bool) (none_ : Bool) (i_ : Int), F_ all_ none_ i_ = some o → ∀ s, Weak 0 s ⟨(ue [(7, (I i_)), (6, (B none_)), (5, (B all_)), (3, (.c (.ref 1 4 0 0))), (2, (.c (.ref 0 2 0 0)))]), (upd (upd e0 0 (some (.cells 2 [(e_TSQuery q_)]))) 1 (some (.cells 4 [(e_TEnv e_)]))), 2⟩ → R_ s
noncomputable def Ze (q_ : TSQuery) (e_ : TEnv) (K0_ : Bool → Bool → Option Bool) : Nat → Bool → Bool → Int → Option Bool
 | 0, _, _, _ => none
 | k + 1, all_, none_, i_ =>
  if decide (i_ < (q_.Features.length : Int)) then
   (at? q_.Features i_).bind fun x_ =>
   (Ze q_ e_ K0_ k) ((all_ && ((Z0 x_ e_).1)) && ((Z0 x_ e_).2)) (none_ || (((Z0 x_ e_).2) && (!(Z0 x_ e_).1))) (wi (i_ + 1))
  else
   K0_ all_ none_
theorem Z90 {mL : Int} {Q : AExit → St → Prop} {q_ : TSQuery} {e_ : TEnv} {K0_ : Bool → Bool → Option Bool} {k : Nat} {all_ : Bool} {none_ : Bool} {i_ : Int} {o : Bool} (h : Ze q_ e_ K0_ k all_ none_ i_ = some o)
  (hK0 : Z8y q_ K0_ o (Q (.exit 0)))
  (hr : ∀ s, Ends a6.results 0 (Z68 o) .ret s → Q .ret s) :
  Sv Tryz.prog (GG mL) 0 (.loop a6_c0) Q ⟨(ue [(7, (I i_)), (6, (B none_)), (5, (B all_)), (3, (.c (.ref 1 4 0 0))), (2, (.c (.ref 0 2 0 0)))]), (upd (upd e0 0 (some (.cells 2 [(e_TSQuery q_)]))) 1 (some (.cells 4 [(e_TEnv e_)]))), 2⟩ := by
 refine Sv.loop (I := Z69 q_ e_ (Ze q_ e_ K0_) o) (fun k s hI => ?_) ⟨all_, none_, i_, h, rfl⟩
 clear h
 clear i_ none_ all_
 obtain ⟨all_, none_, i_, h, rfl⟩ := hI
 cases k with
 | zero => cases h
 | succ k =>
 rw [Ze] at h
 have hself : Z8z q_ e_ (Ze q_ e_ K0_ k) o (rnd 0 (Z69 q_ e_ (Ze q_ e_ K0_) o) k Q) := fun all_ none_ i_ h s hw => ⟨_, k, hw, Nat.lt_succ_self k, all_, none_, i_, h, rfl⟩
 refine Sv.seq <| ssr <| un1 rfl <| un1 (v := (.c (.ref 0 2 0 1))) rfl <| un1 (v := (.c (.ro false 2 (q_.Features.map e_TSFeature)))) rfl <| un1 (v := (I (q_.Features.length : Int))) (s_len (e := e_TSFeature) (xs := q_.Features) rfl) <| un1 (v := (B (decide (i_ < (q_.Features.length : Int))))) rfl <| dnil ?_
 refine Sv.cnd rfl h (fun h => ?_) fun h => ?_
 ·refine Sv.skip <| Sv.seq <| Sv.block <| Sv.seq <| Sv.drawn <| un1 (v := (.c (.ref 0 2 0 1))) rfl <| un1 (v := (.c (.ro false 2 (q_.Features.map e_TSFeature)))) rfl <| un1 rfl ?_
  obtain ⟨x_, hx1, h⟩ := bnd h
  refine un1 (v := (.c (.rop (e_TSFeature x_)))) (s_iaddr (e := e_TSFeature) (xs := q_.Features) rfl rfl hx1) <| un1 (v := (.agg (e_TSFeature x_))) rfl <| un1 (v := (.agg (e_TEnv e_))) rfl <| un <| ac_pure (Z8x (mL := mL) x_ e_) rfl rfl rfl <| un1 rfl <| un1 (v := (B ((Z0 x_ e_).1))) rfl <| un1 (v := (B ((Z0 x_ e_).2))) rfl <| un1 rfl <| un1 rfl <| dnil <| ssr <| un1 rfl <| un1 rfl ?_
  refine gjoin 2 (d := 30) (v := (B (all_ && ((Z0 x_ e_).1)))) (fun X hX => ?_) ?_
  ·refine split2 (fun hc2 => ?_) (fun hc2 => ?_)
   ·refine gt rfl <| a1 rfl <| un1 (v := (B ((Z0 x_ e_).1))) rfl <| dnil ?_
    exact hX _ (.putEq (by rw [hc2]; rfl) (.skp (.putEq (by rw [hc2]) (.refl _)) rfl))
   ·refine gs rfl rfl <| un1 (v := (B false)) rfl <| dnil ?_
    exact hX _ (.putEq (by rw [hc2]; rfl) (.skp (.putEq (by rw [hc2]) (.refl _)) rfl))
  refine un1 rfl ?_
  refine gjoin 2 (d := 33) (v := (B ((all_ && ((Z0 x_ e_).1)) && ((Z0 x_ e_).2)))) (fun X hX => ?_) ?_
  ·refine split2 (fun hc3 => ?_) (fun hc3 => ?_)
   ·refine gt rfl <| a1 rfl <| un1 (v := (B ((Z0 x_ e_).2))) rfl <| dnil ?_
    exact hX _ (.putEq (by rw [hc3]; rfl) (.skp (.putEq (by rw [hc3]) (.refl _)) rfl))
   ·refine gs rfl rfl <| un1 (v := (B false)) rfl <| dnil ?_
    exact hX _ (.putEq (by rw [hc3]; rfl) (.skp (.putEq (by rw [hc3]) (.refl _)) rfl))
  refine un1 rfl <| dnil <| srg <| un1 rfl <| un1 rfl ?_
  refine gjoin 6 (d := 41) (v := (B (none_ || (((Z0 x_ e_).2) && (!(Z0 x_ e_).1))))) (fun X hX => ?_) ?_
  ·refine split2 (fun hc5 => ?_) (fun hc5 => ?_)
   ·repeat (first | refine gu rfl ?_ | refine gs rfl rfl ?_)
    refine un1 (v := (B true)) rfl <| dnil ?_
    exact hX _ (.putEq (by rw [hc5]; rfl) (by repeat (first | exact .putEq (by rw [hc5]) (.refl _) | refine .skp ?_ rfl)))
   ·refine gt rfl <| a1 rfl <| gt rfl <| a1 rfl ?_
    refine gjoin 3 (d := 40) (v := (B (((Z0 x_ e_).2) && (!(Z0 x_ e_).1)))) (fun X hX => ?_) ?_
    ·refine split2 (fun hc4 => ?_) (fun hc4 => ?_)
     ·refine gt rfl <| a1 rfl <| gt rfl <| a1 (v := (B (!(Z0 x_ e_).1))) rfl <| gt rfl <| a1 (v := (B (!(Z0 x_ e_).1))) rfl <| dnil ?_
      exact hX _ (.putEq (by rw [hc4]; rfl) (.skp (.skp (.putEq (by rw [hc4]) (.refl _)) rfl) rfl))
     ·refine gs rfl rfl <| gs rfl rfl <| gt rfl <| a1 (v := (B false)) rfl <| dnil ?_
      exact hX _ (.putEq (by rw [hc4]; rfl) (.skp (.skp (.putEq (by rw [hc4]) (.refl _)) rfl) rfl))
    refine un1 (v := (B (((Z0 x_ e_).2) && (!(Z0 x_ e_).1)))) rfl <| dnil ?_
    exact hX _ (.putEq (by rw [hc5]; rfl) (.skp (.skp (.skp (.putEq (by rw [hc5]) (.refl _)) rfl) rfl) rfl))
  refine un1 rfl <| dnil <| srg <| un1 rfl <| un1 (v := (I (wi (i_ + 1)))) rfl <| un1 rfl <| dnil ?_
  exact hself ((all_ && ((Z0 x_ e_).1)) && ((Z0 x_ e_).2)) (none_ || (((Z0 x_ e_).2) && (!(Z0 x_ e_).1))) (wi (i_ + 1)) h _ (wcn [0, 1] rfl (.cf rfl rfl (.cf rfl rfl (.cf rfl rfl (.cr rfl rfl rfl (.cr rfl rfl rfl .nil))))) (.box (by decide) rfl (blkAs_cells (.sm rfl (.sm rfl (.sm rfl (.sm rfl .nil))))) (.box (by decide) rfl (blkAs_cells (.sm rfl (.sm rfl .nil))) .nil)))
 ·refine Sv.exit ?_
  exact hK0 all_ none_ h _ (wcn [0] rfl (.cf rfl rfl (.cf rfl rfl (.cr rfl rfl rfl .nil))) (.box (by decide) rfl (blkAs_cells (.sm rfl (.sm rfl .nil))) .nil))
/-- clerestory/clerestoryref2.QueryHolds -/
noncomputable def Z22 (q_ : TSQuery) (e_ : TEnv) : Option Bool :=
 limF fun kk => Ze q_ e_ (fun (all_1 : Bool) (none_1 : Bool) => 
   if q_.Not then
    some none_1
   else
    some all_1) kk true false 0
theorem Z91 {mL : Int} {q_ : TSQuery} {e_ : TEnv} {r : Bool} (h : Z22 q_ e_ = some r) : CPure Tryz.prog (GG mL) 6 [(.agg (e_TSQuery q_)), (.agg (e_TEnv e_))] (B r) := by
 refine acalls_of_sv hmix c6 (R := Z68 r) ?_
 unfold Z22 at h
 refine ssr <| un <| a2v (v := (.c (.ref 0 2 0 0))) (h' := upd _ 0 (some (.cells 2 [(e_TSQuery q_)]))) (n' := 1) rfl rfl hcs <| un <| a2v (v := (.c (.ref 1 4 0 0))) (h' := upd _ 1 (some (.cells 4 [(e_TEnv e_)]))) (n' := 2) rfl rfl hcs <| un1 rfl <| dnil <| ssr <| un1 rfl <| dnil <| ssr <| un1 rfl <| dnil <| Sv.seq <| ssr <| un1 rfl <| dnil <| Sv.block ?_
 obtain ⟨kk, h⟩ := limF_some h
 refine Sv.weak (wcn [0, 1] rfl (.cf rfl rfl (.cf rfl rfl (.cf rfl rfl (.cr rfl rfl rfl (.cr rfl rfl rfl .nil))))) (.box (by decide) rfl (blkAs_cells (.sm rfl (.sm rfl (.sm rfl (.sm rfl .nil))))) (.box (by decide) rfl (blkAs_cells (.sm rfl (.sm rfl .nil))) .nil))) (Z90 h ?_ (fun s hs => hs))
 ·intro all_1 none_1 h _ hw1
  refine Sv.weak hw1 <| Sv.seq <| ssr <| un1 (v := (.c (.ref 0 2 0 0))) rfl <| un1 (v := (B q_.Not)) rfl <| dnil ?_
  refine Sv.cnd rfl h (fun h => ?_) fun h => ?_
  ·refine ssr <| un1 rfl <| un1 rfl <| dnil <| Sv.ret ?_
   exact rt0 h rfl rfl ⟨rfl, rfl, rfl⟩
  ·refine Sv.skip <| ssr <| un1 rfl <| un1 rfl <| dnil <| Sv.ret ?_
   exact rt0 h rfl rfl ⟨rfl, rfl, rfl⟩
def a20_c0 : ACode := (sr [(mV 17 3), (mV 2 17)]
 .ret)
def a20 : AFunc := ⟨1, [(.tmp 2)], (sr [(oP 2 (.mov (.const (.c (.str [])))))]
 (sr [(mV 4 0), (oP 5 (.bin .rem (.tmp 4) (kI 10))), (oP 6 (.bin .add (kI 48) (.tmp 5))), (oP 7 (.conv .u8 (.tmp 6))), (oP 8 (.bslice 1 [(.val (.int .u8 0))] 1 [(0, (.tmp 7))])), (oP 9 (.ofBytes (.tmp 8))), (mV 3 9)]
 (.seq (sr [(mV 10 0), (oP 11 (.bin .gtr (.tmp 10) (kI 9)))]
 (.cond (.tmp 11) (.region [(mV 12 0), (oP 13 (.bin .quo (.tmp 12) (kI 10))), (oP 14 (.call 20 [(.tmp 13)])), (mV 15 3), (oP 16 (.bin .add (.tmp 14) (.tmp 15))), (mV 3 16)]) .skip))
 a20_c0)))⟩
theorem c20 : compFunc Tryz.prog 20 = some a20 := by kernel_rfl
def Z6a (r : Tx) : AV → Heap → Nat → Prop := fun v h' n' => v = (S r) ∧ (h' = e0) ∧ n' = 0
def Z92 (mL : Int) (recf : Int → Option Tx) : Prop := ∀ (n_ : Int) (r : Tx), recf n_ = some r → CPure Tryz.prog (GG mL) 20 [(I n_)] (S r)
noncomputable def Z39 (s_ : Tx) : Option Tx :=
 some s_
theorem Z6b {mL : Int} {s_ : Tx} {o : Tx} (h : Z39 s_ = some o) :
  Sv Tryz.prog (GG mL) 0 a20_c0 (Ends a20.results 0 (Z6a o)) ⟨(upd e0 3 (some (S s_))), e0, 0⟩ := by
 unfold Z39 at h
 refine ssr <| un1 rfl <| un1 rfl <| dnil <| Sv.ret ?_
 exact rt0 h rfl rfl ⟨rfl, rfl, rfl⟩
/-- clerestory/clerestoryref2.Digits -/
noncomputable def Z23 : Nat → Int → Option Tx
 | 0, _ => none
 | k + 1, n_ =>
  if decide (9 < n_) then
   ((Z23 k) (wi (n_.tdiv 10))).bind fun r_ =>
   (cat? r_ (byts [(wr .u8 (wi (48 + (n_.tmod 10))))])).bind fun r_1 =>
   Z39 r_1
  else
   Z39 (byts [(wr .u8 (wi (48 + (n_.tmod 10))))])
noncomputable def Z1h (n_ : Int) : Option Tx :=
 limF fun kr => Z23 kr n_
theorem Z93 {mL : Int} (k : Nat) : Z92 mL (Z23 k) := by
 induction k with
 | zero => intro n_ r h; cases h
 | succ k hrec =>
 intro n_ r h
 refine acalls_of_sv hmix c20 (R := Z6a r) ?_
 rw [Z23] at h
 refine ssr <| un1 rfl <| dnil <| ssr <| un1 rfl <| un1 (v := (I (n_.tmod 10))) rfl <| un1 (v := (I (wi (48 + (n_.tmod 10))))) rfl <| un1 (v := (.c (.val (.int .u8 (wr .u8 (wi (48 + (n_.tmod 10)))))))) rfl <| un <| a2v (v := (lstV false 0 1 [(wr .u8 (wi (48 + (n_.tmod 10))))].length)) (h' := upd _ 0 (lstB false 1 ([(wr .u8 (wi (48 + (n_.tmod 10))))].map (eK .u8)))) (n' := 1) rfl rfl hcs <| un1 (v := (S (byts [(wr .u8 (wi (48 + (n_.tmod 10))))]))) (s_ofBytes (xs := [(wr .u8 (wi (48 + (n_.tmod 10))))]) rfl (slc_lst rfl (List.length_map _).symm (map_nil_of hcs))) <| un1 rfl <| dnil <| Sv.seq <| ssr <| un1 rfl <| un1 (v := (B (decide (9 < n_)))) rfl <| dnil ?_
 refine Sv.cnd rfl h (fun h => ?_) fun h => ?_
 ·refine srg <| un1 rfl <| un1 (v := (I (wi (n_.tdiv 10)))) rfl ?_
  obtain ⟨r_, hr1, h⟩ := bnd h
  refine un <| ac_pure (hrec (wi (n_.tdiv 10)) _ hr1) rfl rfl rfl <| un1 rfl ?_
  obtain ⟨r_1, hx1, h⟩ := bnd h
  refine un1 (v := (S r_1)) (s_cat rfl rfl hx1) <| un1 rfl <| dnil ?_
  exact Sv.weak (wcn [] rfl (.cf rfl rfl .nil) .nil) (Z6b h)
 ·refine Sv.skip ?_
  exact Sv.weak (wcn [] rfl (.cf rfl rfl .nil) .nil) (Z6b h)
theorem Z45 {mL : Int} {n_ : Int} {r : Tx} (h : Z1h n_ = some r) : CPure Tryz.prog (GG mL) 20 [(I n_)] (S r) := by
 unfold Z1h at h
 obtain ⟨k, h⟩ := limF_some h
 exact Z93 k n_  r h
def a14 : AFunc := ⟨1, [(.tmp 2)], (sr [(oP 2 (.mov (.const (.c (.str [])))))]
 (.seq (sr [(mV 3 0), (oP 4 (.bin .leq (.tmp 3) (.const (.c (.val (.int .i64 (-10)))))))]
 (.cond (.tmp 4) (sr [(mV 5 0), (oP 6 (.bin .quo (.tmp 5) (kI 10))), (oP 7 (.call 14 [(.tmp 6)])), (mV 8 0), (oP 9 (.bin .rem (.tmp 8) (kI 10))), (oP 10 (.un .neg (.tmp 9))), (oP 11 (.call 20 [(.tmp 10)])), (oP 12 (.bin .add (.tmp 7) (.tmp 11))), (mV 2 12)]
 .ret) .skip))
 (.seq (sr [(mV 13 0), (oP 14 (.bin .lss (.tmp 13) (kI 0)))]
 (.cond (.tmp 14) (sr [(mV 15 0), (oP 16 (.bin .sub (kI 0) (.tmp 15))), (oP 17 (.call 20 [(.tmp 16)])), (oP 18 (.bin .add (.const (.c (.str [45]))) (.tmp 17))), (mV 2 18)]
 .ret) .skip))
 (sr [(mV 19 0), (oP 20 (.call 20 [(.tmp 19)])), (mV 2 20)]
 .ret))))⟩
theorem c14 : compFunc Tryz.prog 14 = some a14 := by kernel_rfl
def Z94 (r : Tx) : AV → Heap → Nat → Prop := fun v h' n' => v = (S r) ∧ (h' = e0) ∧ n' = 0
def Z95 (mL : Int) (recf : Int → Option Tx) : Prop := ∀ (n_ : Int) (r : Tx), recf n_ = some r → CPure Tryz.prog (GG mL) 14 [(I n_)] (S r)
/-- clerestory/clerestoryref2.Signed -/
noncomputable def Z2v : Nat → Int → Option Tx
 | 0, _ => none
 | k + 1, n_ =>
  if decide (n_ ≤ (-10)) then
   ((Z2v k) (wi (n_.tdiv 10))).bind fun r_ =>
   (Z1h (wi (0 - (n_.tmod 10)))).bind fun r_1 =>
   (cat? r_ r_1).bind fun r_2 =>
   some r_2
  else
   if decide (n_ < 0) then
    (Z1h (wi (0 - n_))).bind fun r_3 =>
    (cat? [45] r_3).bind fun r_4 =>
    some r_4
   else
    (Z1h n_).bind fun r_5 =>
    some r_5
noncomputable def Zz (n_ : Int) : Option Tx :=
 limF fun kr => Z2v kr n_
theorem Z96 {mL : Int} (k : Nat) : Z95 mL (Z2v k) := by
 induction k with
 | zero => intro n_ r h; cases h
 | succ k hrec =>
 intro n_ r h
 refine acalls_of_sv hmix c14 (R := Z94 r) ?_
 rw [Z2v] at h
 refine ssr <| un1 rfl <| dnil <| Sv.seq <| ssr <| un1 rfl <| un1 (v := (B (decide (n_ ≤ (-10))))) rfl <| dnil ?_
 refine Sv.cnd rfl h (fun h => ?_) fun h => ?_
 ·refine ssr <| un1 rfl <| un1 (v := (I (wi (n_.tdiv 10)))) rfl ?_
  obtain ⟨r_, hr1, h⟩ := bnd h
  refine un <| ac_pure (hrec (wi (n_.tdiv 10)) _ hr1) rfl rfl rfl <| un1 rfl <| un1 (v := (I (n_.tmod 10))) rfl <| un1 (v := (I (wi (0 - (n_.tmod 10))))) rfl ?_
  obtain ⟨r_1, hr2, h⟩ := bnd h
  refine un <| ac_pure (Z45 hr2) rfl rfl rfl ?_
  obtain ⟨r_2, hx1, h⟩ := bnd h
  refine un1 (v := (S r_2)) (s_cat rfl rfl hx1) <| un1 rfl <| dnil <| Sv.ret ?_
  exact rt0 h rfl rfl ⟨rfl, rfl, rfl⟩
 ·refine Sv.skip <| Sv.seq <| ssr <| un1 rfl <| un1 (v := (B (decide (n_ < 0)))) rfl <| dnil ?_
  refine Sv.cnd rfl h (fun h => ?_) fun h => ?_
  ·refine ssr <| un1 rfl <| un1 (v := (I (wi (0 - n_)))) rfl ?_
   obtain ⟨r_3, hr3, h⟩ := bnd h
   refine un <| ac_pure (Z45 hr3) rfl rfl rfl ?_
   obtain ⟨r_4, hx2, h⟩ := bnd h
   refine un1 (v := (S r_4)) (s_cat rfl rfl hx2) <| un1 rfl <| dnil <| Sv.ret ?_
   exact rt0 h rfl rfl ⟨rfl, rfl, rfl⟩
  ·refine Sv.skip <| ssr <| un1 rfl ?_
   obtain ⟨r_5, hr4, h⟩ := bnd h
   refine un <| ac_pure (Z45 hr4) rfl rfl rfl <| un1 rfl <| dnil <| Sv.ret ?_
   exact rt0 h rfl rfl ⟨rfl, rfl, rfl⟩
theorem Z3a {mL : Int} {n_ : Int} {r : Tx} (h : Zz n_ = some r) : CPure Tryz.prog (GG mL) 14 [(I n_)] (S r) := by
 unfold Zz at h
 obtain ⟨k, h⟩ := limF_some h
 exact Z96 k n_  r h
def a11 : AFunc := ⟨1, [(.tmp 2)], (sr [(oP 1 (.box (.tmp 0))), (oP 2 (.mov (.const (.c (.str [])))))]
 (.seq (sr [(oP 3 (.faddr 0 (.tmp 1))), (oP 4 (.load false 1 (.tmp 3))), (oP 5 (.bin .eql (.tmp 4) (kI 1)))]
 (.cond (.tmp 5) (sr [(oP 2 (.mov (.const (.c (.str [97, 108, 108])))))]
 .ret) .skip))
 (.seq (sr [(oP 6 (.faddr 0 (.tmp 1))), (oP 7 (.load false 1 (.tmp 6))), (oP 8 (.bin .eql (.tmp 7) (kI 2)))]
 (.cond (.tmp 8) (sr [(oP 2 (.mov (.const (.c (.str [115, 99, 114, 101, 101, 110])))))]
 .ret) .skip))
 (.seq (sr [(oP 9 (.faddr 0 (.tmp 1))), (oP 10 (.load false 1 (.tmp 9))), (oP 11 (.bin .eql (.tmp 10) (kI 3)))]
 (.cond (.tmp 11) (sr [(oP 2 (.mov (.const (.c (.str [112, 114, 105, 110, 116])))))]
 .ret) .skip))
 (.seq (sr [(oP 12 (.faddr 0 (.tmp 1))), (oP 13 (.load false 1 (.tmp 12))), (oP 14 (.bin .eql (.tmp 13) (kI 4)))]
 (.cond (.tmp 14) (sr [(oP 15 (.faddr 1 (.tmp 1))), (oP 16 (.load false 1 (.tmp 15))), (oP 17 (.call 14 [(.tmp 16)])), (oP 18 (.bin .add (.const (.c (.str [40, 109, 105, 110, 45, 119, 105, 100, 116, 104, 58, 32]))) (.tmp 17))), (oP 19 (.bin .add (.tmp 18) (.const (.c (.str [112, 120, 41]))))), (mV 2 19)]
 .ret) .skip))
 (.seq (sr [(oP 20 (.faddr 0 (.tmp 1))), (oP 21 (.load false 1 (.tmp 20))), (oP 22 (.bin .eql (.tmp 21) (kI 5)))]
 (.cond (.tmp 22) (sr [(oP 23 (.faddr 1 (.tmp 1))), (oP 24 (.load false 1 (.tmp 23))), (oP 25 (.call 14 [(.tmp 24)])), (oP 26 (.bin .add (.const (.c (.str [40, 109, 97, 120, 45, 119, 105, 100, 116, 104, 58, 32]))) (.tmp 25))), (oP 27 (.bin .add (.tmp 26) (.const (.c (.str [112, 120, 41]))))), (mV 2 27)]
 .ret) .skip))
 (.seq (sr [(oP 28 (.faddr 0 (.tmp 1))), (oP 29 (.load false 1 (.tmp 28))), (oP 30 (.bin .eql (.tmp 29) (kI 6)))]
 (.cond (.tmp 30) (sr [(oP 31 (.faddr 1 (.tmp 1))), (oP 32 (.load false 1 (.tmp 31))), (oP 33 (.call 14 [(.tmp 32)])), (oP 34 (.bin .add (.const (.c (.str [40, 109, 105, 110, 45, 104, 101, 105, 103, 104, 116, 58, 32]))) (.tmp 33))), (oP 35 (.bin .add (.tmp 34) (.const (.c (.str [112, 120, 41]))))), (mV 2 35)]
 .ret) .skip))
 (.seq (sr [(oP 36 (.faddr 0 (.tmp 1))), (oP 37 (.load false 1 (.tmp 36))), (oP 38 (.bin .eql (.tmp 37) (kI 7)))]
 (.cond (.tmp 38) (sr [(oP 39 (.faddr 1 (.tmp 1))), (oP 40 (.load false 1 (.tmp 39))), (oP 41 (.call 14 [(.tmp 40)])), (oP 42 (.bin .add (.const (.c (.str [40, 109, 97, 120, 45, 104, 101, 105, 103, 104, 116, 58, 32]))) (.tmp 41))), (oP 43 (.bin .add (.tmp 42) (.const (.c (.str [112, 120, 41]))))), (mV 2 43)]
 .ret) .skip))
 (.seq (sr [(oP 44 (.faddr 0 (.tmp 1))), (oP 45 (.load false 1 (.tmp 44))), (oP 46 (.bin .eql (.tmp 45) (kI 8)))]
 (.cond (.tmp 46) (sr [(oP 2 (.mov (.const (.c (.str [40, 112, 114, 101, 102, 101, 114, 115, 45, 99, 111, 108, 111, 114, 45, 115, 99, 104, 101, 109, 101, 58, 32, 100, 97, 114, 107, 41])))))]
 .ret) .skip))
 (.seq (sr [(oP 47 (.faddr 0 (.tmp 1))), (oP 48 (.load false 1 (.tmp 47))), (oP 49 (.bin .eql (.tmp 48) (kI 9)))]
 (.cond (.tmp 49) (sr [(oP 2 (.mov (.const (.c (.str [40, 112, 114, 101, 102, 101, 114, 115, 45, 99, 111, 108, 111, 114, 45, 115, 99, 104, 101, 109, 101, 58, 32, 108, 105, 103, 104, 116, 41])))))]
 .ret) .skip))
 (.seq (sr [(oP 50 (.faddr 0 (.tmp 1))), (oP 51 (.load false 1 (.tmp 50))), (oP 52 (.bin .eql (.tmp 51) (kI 10)))]
 (.cond (.tmp 52) (sr [(oP 2 (.mov (.const (.c (.str [40, 111, 114, 105, 101, 110, 116, 97, 116, 105, 111, 110, 58, 32, 112, 111, 114, 116, 114, 97, 105, 116, 41])))))]
 .ret) .skip))
 (.seq (sr [(oP 53 (.faddr 0 (.tmp 1))), (oP 54 (.load false 1 (.tmp 53))), (oP 55 (.bin .eql (.tmp 54) (kI 11)))]
 (.cond (.tmp 55) (sr [(oP 2 (.mov (.const (.c (.str [40, 111, 114, 105, 101, 110, 116, 97, 116, 105, 111, 110, 58, 32, 108, 97, 110, 100, 115, 99, 97, 112, 101, 41])))))]
 .ret) .skip))
 (sr [(oP 2 (.mov (.const (.c (.str [40, 63, 41])))))]
 .ret)))))))))))))⟩
theorem c11 : compFunc Tryz.prog 11 = some a11 := by kernel_rfl
def Z97 (r : Tx) : AV → Heap → Nat → Prop := fun v h' n' => v = (S r) ∧ (h' = e0) ∧ n' = 0
/-- clerestory/clerestoryref2.FeatureText -/
noncomputable def Z2w (f_ : TSFeature) : Option Tx :=
 if decide (f_.Kind = 1) then
  some [97, 108, 108]
 else
  if decide (f_.Kind = 2) then
   some [115, 99, 114, 101, 101, 110]
  else
   if decide (f_.Kind = 3) then
    some [112, 114, 105, 110, 116]
   else
    if decide (f_.Kind = 4) then
     (Zz f_.Num).bind fun r_ =>
     (cat? [40, 109, 105, 110, 45, 119, 105, 100, 116, 104, 58, 32] r_).bind fun r_1 =>
     (cat? r_1 [112, 120, 41]).bind fun r_2 =>
     some r_2
    else
     if decide (f_.Kind = 5) then
      (Zz f_.Num).bind fun r_3 =>
      (cat? [40, 109, 97, 120, 45, 119, 105, 100, 116, 104, 58, 32] r_3).bind fun r_4 =>
      (cat? r_4 [112, 120, 41]).bind fun r_5 =>
      some r_5
     else
      if decide (f_.Kind = 6) then
       (Zz f_.Num).bind fun r_6 =>
       (cat? [40, 109, 105, 110, 45, 104, 101, 105, 103, 104, 116, 58, 32] r_6).bind fun r_7 =>
       (cat? r_7 [112, 120, 41]).bind fun r_8 =>
       some r_8
      else
       if decide (f_.Kind = 7) then
        (Zz f_.Num).bind fun r_9 =>
        (cat? [40, 109, 97, 120, 45, 104, 101, 105, 103, 104, 116, 58, 32] r_9).bind fun r_10 =>
        (cat? r_10 [112, 120, 41]).bind fun r_11 =>
        some r_11
       else
        if decide (f_.Kind = 8) then
         some [40, 112, 114, 101, 102, 101, 114, 115, 45, 99, 111, 108, 111, 114, 45, 115, 99, 104, 101, 109, 101, 58, 32, 100, 97, 114, 107, 41]
        else
         if decide (f_.Kind = 9) then
          some [40, 112, 114, 101, 102, 101, 114, 115, 45, 99, 111, 108, 111, 114, 45, 115, 99, 104, 101, 109, 101, 58, 32, 108, 105, 103, 104, 116, 41]
         else
          if decide (f_.Kind = 10) then
           some [40, 111, 114, 105, 101, 110, 116, 97, 116, 105, 111, 110, 58, 32, 112, 111, 114, 116, 114, 97, 105, 116, 41]
          else
           if decide (f_.Kind = 11) then
            some [40, 111, 114, 105, 101, 110, 116, 97, 116, 105, 111, 110, 58, 32, 108, 97, 110, 100, 115, 99, 97, 112, 101, 41]
           else
            some [40, 63, 41]
theorem Z98 {mL : Int} {f_ : TSFeature} {r : Tx} (h : Z2w f_ = some r) : CPure Tryz.prog (GG mL) 11 [(.agg (e_TSFeature f_))] (S r) := by
 refine acalls_of_sv hmix c11 (R := Z97 r) ?_
 unfold Z2w at h
 refine ssr <| un <| a2v (v := (.c (.ref 0 2 0 0))) (h' := upd _ 0 (some (.cells 2 [(e_TSFeature f_)]))) (n' := 1) rfl rfl hcs <| un1 rfl <| dnil <| Sv.seq <| ssr <| un1 (v := (.c (.ref 0 2 0 0))) rfl <| un1 (v := (I f_.Kind)) rfl <| un1 (v := (B (decide (f_.Kind = 1)))) rfl <| dnil ?_
 refine Sv.cnd rfl h (fun h => ?_) fun h => ?_
 ·refine ssr <| un1 rfl <| dnil <| Sv.ret ?_
  exact rt0 h rfl rfl ⟨rfl, rfl, rfl⟩
 ·refine Sv.skip <| Sv.seq <| ssr <| un1 (v := (.c (.ref 0 2 0 0))) rfl <| un1 (v := (I f_.Kind)) rfl <| un1 (v := (B (decide (f_.Kind = 2)))) rfl <| dnil ?_
  refine Sv.cnd rfl h (fun h => ?_) fun h => ?_
  ·refine ssr <| un1 rfl <| dnil <| Sv.ret ?_
   exact rt0 h rfl rfl ⟨rfl, rfl, rfl⟩
  ·refine Sv.skip <| Sv.seq <| ssr <| un1 (v := (.c (.ref 0 2 0 0))) rfl <| un1 (v := (I f_.Kind)) rfl <| un1 (v := (B (decide (f_.Kind = 3)))) rfl <| dnil ?_
   refine Sv.cnd rfl h (fun h => ?_) fun h => ?_
   ·refine ssr <| un1 rfl <| dnil <| Sv.ret ?_
    exact rt0 h rfl rfl ⟨rfl, rfl, rfl⟩
   ·refine Sv.skip <| Sv.seq <| ssr <| un1 (v := (.c (.ref 0 2 0 0))) rfl <| un1 (v := (I f_.Kind)) rfl <| un1 (v := (B (decide (f_.Kind = 4)))) rfl <| dnil ?_
    refine Sv.cnd rfl h (fun h => ?_) fun h => ?_
    ·refine ssr <| un1 (v := (.c (.ref 0 2 0 1))) rfl <| un1 (v := (I f_.Num)) rfl ?_
     obtain ⟨r_, hr1, h⟩ := bnd h
     refine un <| ac_pure (Z3a hr1) rfl rfl rfl ?_
     obtain ⟨r_1, hx1, h⟩ := bnd h
     refine un1 (v := (S r_1)) (s_cat rfl rfl hx1) ?_
     obtain ⟨r_2, hx2, h⟩ := bnd h
     refine un1 (v := (S r_2)) (s_cat rfl rfl hx2) <| un1 rfl <| dnil <| Sv.ret ?_
     exact rt0 h rfl rfl ⟨rfl, rfl, rfl⟩
    ·refine Sv.skip <| Sv.seq <| ssr <| un1 (v := (.c (.ref 0 2 0 0))) rfl <| un1 (v := (I f_.Kind)) rfl <| un1 (v := (B (decide (f_.Kind = 5)))) rfl <| dnil ?_
     refine Sv.cnd rfl h (fun h => ?_) fun h => ?_
     ·refine ssr <| un1 (v := (.c (.ref 0 2 0 1))) rfl <| un1 (v := (I f_.Num)) rfl ?_
      obtain ⟨r_3, hr2, h⟩ := bnd h
      refine un <| ac_pure (Z3a hr2) rfl rfl rfl ?_
      obtain ⟨r_4, hx3, h⟩ := bnd h
      refine un1 (v := (S r_4)) (s_cat rfl rfl hx3) ?_
      obtain ⟨r_5, hx4, h⟩ := bnd h
      refine un1 (v := (S r_5)) (s_cat rfl rfl hx4) <| un1 rfl <| dnil <| Sv.ret ?_
      exact rt0 h rfl rfl ⟨rfl, rfl, rfl⟩
     ·refine Sv.skip <| Sv.seq <| ssr <| un1 (v := (.c (.ref 0 2 0 0))) rfl <| un1 (v := (I f_.Kind)) rfl <| un1 (v := (B (decide (f_.Kind = 6)))) rfl <| dnil ?_
      refine Sv.cnd rfl h (fun h => ?_) fun h => ?_
      ·refine ssr <| un1 (v := (.c (.ref 0 2 0 1))) rfl <| un1 (v := (I f_.Num)) rfl ?_
       obtain ⟨r_6, hr3, h⟩ := bnd h
       refine un <| ac_pure (Z3a hr3) rfl rfl rfl ?_
       obtain ⟨r_7, hx5, h⟩ := bnd h
       refine un1 (v := (S r_7)) (s_cat rfl rfl hx5) ?_
       obtain ⟨r_8, hx6, h⟩ := bnd h
       refine un1 (v := (S r_8)) (s_cat rfl rfl hx6) <| un1 rfl <| dnil <| Sv.ret ?_
       exact rt0 h rfl rfl ⟨rfl, rfl, rfl⟩
      ·refine Sv.skip <| Sv.seq <| ssr <| un1 (v := (.c (.ref 0 2 0 0))) rfl <| un1 (v := (I f_.Kind)) rfl <| un1 (v := (B (decide (f_.Kind = 7)))) rfl <| dnil ?_
       refine Sv.cnd rfl h (fun h => ?_) fun h => ?_
       ·refine ssr <| un1 (v := (.c (.ref 0 2 0 1))) rfl <| un1 (v := (I f_.Num)) rfl ?_
        obtain ⟨r_9, hr4, h⟩ := bnd h
        refine un <| ac_pure (Z3a hr4) rfl rfl rfl ?_
        obtain ⟨r_10, hx7, h⟩ := bnd h
        refine un1 (v := (S r_10)) (s_cat rfl rfl hx7) ?_
        obtain ⟨r_11, hx8, h⟩ := bnd h
        refine un1 (v := (S r_11)) (s_cat rfl rfl hx8) <| un1 rfl <| dnil <| Sv.ret ?_
        exact rt0 h rfl rfl ⟨rfl, rfl, rfl⟩
       ·refine Sv.skip <| Sv.seq <| ssr <| un1 (v := (.c (.ref 0 2 0 0))) rfl <| un1 (v := (I f_.Kind)) rfl <| un1 (v := (B (decide (f_.Kind = 8)))) rfl <| dnil ?_
        refine Sv.cnd rfl h (fun h => ?_) fun h => ?_
        ·refine ssr <| un1 rfl <| dnil <| Sv.ret ?_
         exact rt0 h rfl rfl ⟨rfl, rfl, rfl⟩
        ·refine Sv.skip <| Sv.seq <| ssr <| un1 (v := (.c (.ref 0 2 0 0))) rfl <| un1 (v := (I f_.Kind)) rfl <| un1 (v := (B (decide (f_.Kind = 9)))) rfl <| dnil ?_
         refine Sv.cnd rfl h (fun h => ?_) fun h => ?_
         ·refine ssr <| un1 rfl <| dnil <| Sv.ret ?_
          exact rt0 h rfl rfl ⟨rfl, rfl, rfl⟩
         ·refine Sv.skip <| Sv.seq <| ssr <| un1 (v := (.c (.ref 0 2 0 0))) rfl <| un1 (v := (I f_.Kind)) rfl <| un1 (v := (B (decide (f_.Kind = 10)))) rfl <| dnil ?_
          refine Sv.cnd rfl h (fun h => ?_) fun h => ?_
          ·refine ssr <| un1 rfl <| dnil <| Sv.ret ?_
           exact rt0 h rfl rfl ⟨rfl, rfl, rfl⟩
          ·refine Sv.skip <| Sv.seq <| ssr <| un1 (v := (.c (.ref 0 2 0 0))) rfl <| un1 (v := (I f_.Kind)) rfl <| un1 (v := (B (decide (f_.Kind = 11)))) rfl <| dnil ?_
           refine Sv.cnd rfl h (fun h => ?_) fun h => ?_
           ·refine ssr <| un1 rfl <| dnil <| Sv.ret ?_
            exact rt0 h rfl rfl ⟨rfl, rfl, rfl⟩
           ·refine Sv.skip <| ssr <| un1 rfl <| dnil <| Sv.ret ?_
            exact rt0 h rfl rfl ⟨rfl, rfl, rfl⟩
def a7_c2 : ACode := (.region [(mV 37 3), (mV 38 0), (mV 39 4), (oP 40 (.iaddr 2 (.tmp 38) (.tmp 39))), (oP 41 (.faddr 1 (.tmp 40))), (oP 42 (.load false 1 (.tmp 41))), (mV 43 5), (oP 44 (.iaddr 2 (.tmp 42) (.tmp 43))), (oP 45 (.load true 2 (.tmp 44))), (oP 46 (.call 11 [(.tmp 45)])), (oP 47 (.bin .add (.tmp 37) (.tmp 46))), (mV 3 47)])
def a7_c3 : ACode := (.region [(mV 31 5), (oP 32 (.bin .add (.tmp 31) (kI 1))), (mV 5 32)])
def a7_c4 : ACode := (.seq (sr [(mV 23 5), (mV 24 0), (mV 25 4), (oP 26 (.iaddr 2 (.tmp 24) (.tmp 25))), (oP 27 (.faddr 1 (.tmp 26))), (oP 28 (.load false 1 (.tmp 27))), (oP 29 (.len (.tmp 28))), (oP 30 (.bin .lss (.tmp 23) (.tmp 29)))]
 (.cond (.tmp 30) .skip (.exit 2)))
 (.seq (.block 3 (.seq (sr [(mV 33 5), (oP 34 (.bin .gtr (.tmp 33) (kI 0)))]
 (.cond (.tmp 34) (.region [(mV 35 3), (oP 36 (.bin .add (.tmp 35) (.const (.c (.str [32, 97, 110, 100, 32]))))), (mV 3 36)]) .skip))
 a7_c2))
 a7_c3))
def a7_c1 : ACode := (sr [(oP 5 (.mov (kI 0)))]
 (.block 2 (.loop a7_c4)))
def a7_c0 : ACode := (.seq (sr [(mV 16 0), (mV 17 4), (oP 18 (.iaddr 2 (.tmp 16) (.tmp 17))), (oP 19 (.faddr 0 (.tmp 18))), (oP 20 (.load false 1 (.tmp 19)))]
 (.cond (.tmp 20) (.region [(mV 21 3), (oP 22 (.bin .add (.tmp 21) (.const (.c (.str [110, 111, 116, 32]))))), (mV 3 22)]) .skip))
 a7_c1)
def a7_c5 : ACode := (.region [(mV 10 4), (oP 11 (.bin .add (.tmp 10) (kI 1))), (mV 4 11)])
def a7_c6 : ACode := (.seq (sr [(mV 6 4), (mV 7 0), (oP 8 (.len (.tmp 7))), (oP 9 (.bin .lss (.tmp 6) (.tmp 8)))]
 (.cond (.tmp 9) .skip (.exit 0)))
 (.seq (.block 1 (.seq (sr [(mV 12 4), (oP 13 (.bin .gtr (.tmp 12) (kI 0)))]
 (.cond (.tmp 13) (.region [(mV 14 3), (oP 15 (.bin .add (.tmp 14) (.const (.c (.str [44, 32]))))), (mV 3 15)]) .skip))
 a7_c0))
 a7_c5))
def a7 : AFunc := ⟨1, [(.tmp 2)], (sr [(oP 2 (.mov (.const (.c (.str [])))))]
 (sr [(oP 3 (.mov (.const (.c (.str [])))))]
 (.seq (sr [(oP 4 (.mov (kI 0)))]
 (.block 0 (.loop a7_c6)))
 (sr [(mV 48 3), (mV 2 48)]
 .ret))))⟩
theorem c7 : compFunc Tryz.prog 7 = some a7 := by kernel_rfl
def Z24 (r : Tx) : AV → Heap → Nat → Prop := fun v h' n' => v = (S r) ∧ (h' = e0) ∧ n' = 0
abbrev Z6c (l_ : (List TSQuery)) (i_ : Int) (F_ : Tx → Int → Option Tx) (o : Tx) (R_ : St → Prop) : Prop := ∀ (s_4 : Tx) (k_ : Int), F_ s_4 k_ = some o → ∀ s, Weak 0 s ⟨(ue [(5, (I k_)), (4, (I i_)), (3, (S s_4)), (0, (.c (.ro false 2 (l_.map e_TSQuery))))]), e0, 0⟩ → R_ s
abbrev Z6d (l_ : (List TSQuery)) (i_ : Int) (F_ : Tx → Option Tx) (o : Tx) (R_ : St → Prop) : Prop := ∀ (s_5 : Tx), F_ s_5 = some o → ∀ s, Weak 0 s ⟨(ue [(4, (I i_)), (3, (S s_5)), (0, (.c (.ro false 2 (l_.map e_TSQuery))))]), e0, 0⟩ → R_ s
abbrev Z99 (mL : Int) (Q : AExit → St → Prop) : AExit → St → Prop := AThen (Sv Tryz.prog (GG mL) 0 a7_c3 Q) Q
abbrev Z9a (mL : Int) (Q : AExit → St → Prop) : AExit → St → Prop := ABlock 3 (Z99 mL Q)
noncomputable def Z25 (l_ : (List TSQuery)) (i_ : Int) (k_ : Int) (self : Tx → Int → Option Tx) (K2_ : Tx → Option Tx) (s_6 : Tx) : Option Tx :=
 (at? l_ i_).bind fun x_1 =>
 (at? x_1.Features k_).bind fun x_2 =>
 (Z2w x_2).bind fun r_ =>
 (cat? s_6 r_).bind fun r_1 =>
 self r_1 (wi (k_ + 1))
theorem Z6e {mL : Int} {Q : AExit → St → Prop} {l_ : (List TSQuery)} {i_ : Int} {k_ : Int} {self : Tx → Int → Option Tx} {K2_ : Tx → Option Tx} {s_6 : Tx} {o : Tx} (h : Z25 l_ i_ k_ self K2_ s_6 = some o)
  (hself : Z6c l_ i_ self o (Q .normal))
  (hK2 : Z6d l_ i_ K2_ o (Q (.exit 2)))
  (hr : ∀ s, Ends a7.results 0 (Z24 o) .ret s → Q .ret s) :
  Sv Tryz.prog (GG mL) 0 a7_c2 (Z9a mL Q) ⟨(ue [(5, (I k_)), (4, (I i_)), (3, (S s_6)), (0, (.c (.ro false 2 (l_.map e_TSQuery))))]), e0, 0⟩ := by
 unfold Z25 at h
 refine srg <| un1 rfl <| un1 rfl <| un1 rfl ?_
 obtain ⟨x_1, hx2, h⟩ := bnd h
 refine un1 (v := (.c (.rop (e_TSQuery x_1)))) (s_iaddr (e := e_TSQuery) (xs := l_) rfl rfl hx2) <| un1 (v := (.c (.rop [.ro false 2 (x_1.Features.map e_TSFeature)]))) rfl <| un1 (v := (.c (.ro false 2 (x_1.Features.map e_TSFeature)))) rfl <| un1 rfl ?_
 obtain ⟨x_2, hx3, h⟩ := bnd h
 refine un1 (v := (.c (.rop (e_TSFeature x_2)))) (s_iaddr (e := e_TSFeature) (xs := x_1.Features) rfl rfl hx3) <| un1 (v := (.agg (e_TSFeature x_2))) rfl ?_
 obtain ⟨r_, hr1, h⟩ := bnd h
 refine un <| ac_pure (Z98 hr1) rfl rfl rfl ?_
 obtain ⟨r_1, hx4, h⟩ := bnd h
 refine un1 (v := (S r_1)) (s_cat rfl rfl hx4) <| un1 rfl <| dnil <| srg <| un1 rfl <| un1 (v := (I (wi (k_ + 1)))) rfl <| un1 rfl <| dnil ?_
 exact hself r_1 (wi (k_ + 1)) h _ (wcn [] rfl (.cf rfl rfl (.cf rfl rfl (.cf rfl rfl (.cf rfl rfl .nil)))) .nil)
abbrev Z6f (l_ : (List TSQuery)) (i_ : Int) (F_ : Nat → Tx → Int → Option Tx) (o : Tx) : Nat → St → Prop := fun k s => ∃ (s_4 : Tx), ∃ (k_ : Int), F_ k s_4 k_ = some o ∧ s = ⟨(ue [(5, (I k_)), (4, (I i_)), (3, (S s_4)), (0, (.c (.ro false 2 (l_.map e_TSQuery))))]), e0, 0⟩
noncomputable def Zj (l_ : (List TSQuery)) (i_ : Int) (K2_ : Tx → Option Tx) : Nat → Tx → Int → Option Tx
 | 0, _, _ => none
 | k + 1, s_4, k_ =>
  (at? l_ i_).bind fun x_ =>
  if decide (k_ < (x_.Features.length : Int)) then
   if decide (0 < k_) then
    (cat? s_4 [32, 97, 110, 100, 32]).bind fun r_2 =>
    Z25 l_ i_ k_ (Zj l_ i_ K2_ k) K2_ r_2
   else
    Z25 l_ i_ k_ (Zj l_ i_ K2_ k) K2_ s_4
  else
   K2_ s_4
theorem Z9b {mL : Int} {Q : AExit → St → Prop} {l_ : (List TSQuery)} {i_ : Int} {K2_ : Tx → Option Tx} {k : Nat} {s_4 : Tx} {k_ : Int} {o : Tx} (h : Zj l_ i_ K2_ k s_4 k_ = some o)
  (hK2 : Z6d l_ i_ K2_ o (Q (.exit 2)))
  (hr : ∀ s, Ends a7.results 0 (Z24 o) .ret s → Q .ret s) :
  Sv Tryz.prog (GG mL) 0 (.loop a7_c4) Q ⟨(ue [(5, (I k_)), (4, (I i_)), (3, (S s_4)), (0, (.c (.ro false 2 (l_.map e_TSQuery))))]), e0, 0⟩ := by
 refine Sv.loop (I := Z6f l_ i_ (Zj l_ i_ K2_) o) (fun k s hI => ?_) ⟨s_4, k_, h, rfl⟩
 clear h
 clear k_ s_4
 obtain ⟨s_4, k_, h, rfl⟩ := hI
 cases k with
 | zero => cases h
 | succ k =>
 rw [Zj] at h
 have hself : Z6c l_ i_ (Zj l_ i_ K2_ k) o (rnd 0 (Z6f l_ i_ (Zj l_ i_ K2_) o) k Q) := fun s_4 k_ h s hw => ⟨_, k, hw, Nat.lt_succ_self k, s_4, k_, h, rfl⟩
 refine Sv.seq <| ssr <| un1 rfl <| un1 rfl <| un1 rfl ?_
 obtain ⟨x_, hx1, h⟩ := bnd h
 refine un1 (v := (.c (.rop (e_TSQuery x_)))) (s_iaddr (e := e_TSQuery) (xs := l_) rfl rfl hx1) <| un1 (v := (.c (.rop [.ro false 2 (x_.Features.map e_TSFeature)]))) rfl <| un1 (v := (.c (.ro false 2 (x_.Features.map e_TSFeature)))) rfl <| un1 (v := (I (x_.Features.length : Int))) (s_len (e := e_TSFeature) (xs := x_.Features) rfl) <| un1 (v := (B (decide (k_ < (x_.Features.length : Int))))) rfl <| dnil ?_
 refine Sv.cnd rfl h (fun h => ?_) fun h => ?_
 ·refine Sv.skip <| Sv.seq <| Sv.block <| Sv.seq <| ssr <| un1 rfl <| un1 (v := (B (decide (0 < k_)))) rfl <| dnil ?_
  refine Sv.cnd rfl h (fun h => ?_) fun h => ?_
  ·refine srg <| un1 rfl ?_
   obtain ⟨r_2, hx5, h⟩ := bnd h
   refine un1 (v := (S r_2)) (s_cat rfl rfl hx5) <| un1 rfl <| dnil ?_
   exact Sv.weak (wcn [] rfl (.cf rfl rfl (.cf rfl rfl (.cf rfl rfl (.cf rfl rfl .nil)))) .nil) (Z6e h hself hK2 hr)
  ·refine Sv.skip ?_
   exact Sv.weak (wcn [] rfl (.cf rfl rfl (.cf rfl rfl (.cf rfl rfl (.cf rfl rfl .nil)))) .nil) (Z6e h hself hK2 hr)
 ·refine Sv.exit ?_
  exact hK2 s_4 h _ (wcn [] rfl (.cf rfl rfl (.cf rfl rfl (.cf rfl rfl .nil))) .nil)
abbrev Z46 (l_ : (List TSQuery)) (F_ : Tx → Int → Option Tx) (o : Tx) (R_ : St → Prop) : Prop := ∀ (s_ : Tx) (i_ : Int), F_ s_ i_ = some o → ∀ s, Weak 0 s ⟨(ue [(4, (I i_)), (3, (S s_)), (0, (.c (.ro false 2 (l_.map e_TSQuery))))]), e0, 0⟩ → R_ s
abbrev Z47 (F_ : Tx → Option Tx) (o : Tx) (R_ : St → Prop) : Prop := ∀ (s_1 : Tx), F_ s_1 = some o → ∀ s, Weak 0 s ⟨(upd e0 3 (some (S s_1))), e0, 0⟩ → R_ s
abbrev Z9c (mL : Int) (Q : AExit → St → Prop) : AExit → St → Prop := AThen (Sv Tryz.prog (GG mL) 0 a7_c5 Q) Q
abbrev Z6g (mL : Int) (Q : AExit → St → Prop) : AExit → St → Prop := ABlock 1 (Z9c mL Q)
noncomputable def Z26 (l_ : (List TSQuery)) (i_ : Int) (self : Tx → Int → Option Tx) (K0_ : Tx → Option Tx) (s_3 : Tx) : Option Tx :=
 limF fun kk => Zj l_ i_ (fun (s_5 : Tx) => 
   self s_5 (wi (i_ + 1))) kk s_3 0
theorem Z6h {mL : Int} {Q : AExit → St → Prop} {l_ : (List TSQuery)} {i_ : Int} {self : Tx → Int → Option Tx} {K0_ : Tx → Option Tx} {s_3 : Tx} {o : Tx} (h : Z26 l_ i_ self K0_ s_3 = some o)
  (hself : Z46 l_ self o (Q .normal))
  (hK0 : Z47 K0_ o (Q (.exit 0)))
  (hr : ∀ s, Ends a7.results 0 (Z24 o) .ret s → Q .ret s) :
  Sv Tryz.prog (GG mL) 0 a7_c1 (Z6g mL Q) ⟨(ue [(4, (I i_)), (3, (S s_3)), (0, (.c (.ro false 2 (l_.map e_TSQuery))))]), e0, 0⟩ := by
 unfold Z26 at h
 refine ssr <| un1 rfl <| dnil <| Sv.block ?_
 obtain ⟨kk, h⟩ := limF_some h
 refine Sv.weak (wcn [] rfl (.cf rfl rfl (.cf rfl rfl (.cf rfl rfl (.cf rfl rfl .nil)))) .nil) (Z9b h ?_ hr)
 ·intro s_5 h _ hw1
  refine Sv.weak hw1 <| srg <| un1 rfl <| un1 (v := (I (wi (i_ + 1)))) rfl <| un1 rfl <| dnil ?_
  exact hself s_5 (wi (i_ + 1)) h _ (wcn [] rfl (.cf rfl rfl (.cf rfl rfl (.cf rfl rfl .nil))) .nil)
noncomputable def Z27 (l_ : (List TSQuery)) (i_ : Int) (self : Tx → Int → Option Tx) (K0_ : Tx → Option Tx) (s_2 : Tx) : Option Tx :=
 (at? l_ i_).bind fun x_3 =>
 if x_3.Not then
  (cat? s_2 [110, 111, 116, 32]).bind fun r_3 =>
  Z26 l_ i_ self K0_ r_3
 else
  Z26 l_ i_ self K0_ s_2
theorem Z6i {mL : Int} {Q : AExit → St → Prop} {l_ : (List TSQuery)} {i_ : Int} {self : Tx → Int → Option Tx} {K0_ : Tx → Option Tx} {s_2 : Tx} {o : Tx} (h : Z27 l_ i_ self K0_ s_2 = some o)
  (hself : Z46 l_ self o (Q .normal))
  (hK0 : Z47 K0_ o (Q (.exit 0)))
  (hr : ∀ s, Ends a7.results 0 (Z24 o) .ret s → Q .ret s) :
  Sv Tryz.prog (GG mL) 0 a7_c0 (Z6g mL Q) ⟨(ue [(4, (I i_)), (3, (S s_2)), (0, (.c (.ro false 2 (l_.map e_TSQuery))))]), e0, 0⟩ := by
 unfold Z27 at h
 refine Sv.seq <| ssr <| un1 rfl <| un1 rfl ?_
 obtain ⟨x_3, hx6, h⟩ := bnd h
 refine un1 (v := (.c (.rop (e_TSQuery x_3)))) (s_iaddr (e := e_TSQuery) (xs := l_) rfl rfl hx6) <| un1 (v := (.c (.rop (e_TSQuery x_3)))) rfl <| un1 (v := (B x_3.Not)) rfl <| dnil ?_
 refine Sv.cnd rfl h (fun h => ?_) fun h => ?_
 ·refine srg <| un1 rfl ?_
  obtain ⟨r_3, hx7, h⟩ := bnd h
  refine un1 (v := (S r_3)) (s_cat rfl rfl hx7) <| un1 rfl <| dnil ?_
  exact Sv.weak (wcn [] rfl (.cf rfl rfl (.cf rfl rfl (.cf rfl rfl .nil))) .nil) (Z6h h hself hK0 hr)
 ·refine Sv.skip ?_
  exact Sv.weak (wcn [] rfl (.cf rfl rfl (.cf rfl rfl (.cf rfl rfl .nil))) .nil) (Z6h h hself hK0 hr)
abbrev Z6j (l_ : (List TSQuery)) (F_ : Nat → Tx → Int → Option Tx) (o : Tx) : Nat → St → Prop := fun k s => ∃ (s_ : Tx), ∃ (i_ : Int), F_ k s_ i_ = some o ∧ s = ⟨(ue [(4, (I i_)), (3, (S s_)), (0, (.c (.ro false 2 (l_.map e_TSQuery))))]), e0, 0⟩
noncomputable def Zf (l_ : (List TSQuery)) (K0_ : Tx → Option Tx) : Nat → Tx → Int → Option Tx
 | 0, _, _ => none
 | k + 1, s_, i_ =>
  if decide (i_ < (l_.length : Int)) then
   if decide (0 < i_) then
    (cat? s_ [44, 32]).bind fun r_4 =>
    Z27 l_ i_ (Zf l_ K0_ k) K0_ r_4
   else
    Z27 l_ i_ (Zf l_ K0_ k) K0_ s_
  else
   K0_ s_
theorem Z9d {mL : Int} {Q : AExit → St → Prop} {l_ : (List TSQuery)} {K0_ : Tx → Option Tx} {k : Nat} {s_ : Tx} {i_ : Int} {o : Tx} (h : Zf l_ K0_ k s_ i_ = some o)
  (hK0 : Z47 K0_ o (Q (.exit 0)))
  (hr : ∀ s, Ends a7.results 0 (Z24 o) .ret s → Q .ret s) :
  Sv Tryz.prog (GG mL) 0 (.loop a7_c6) Q ⟨(ue [(4, (I i_)), (3, (S s_)), (0, (.c (.ro false 2 (l_.map e_TSQuery))))]), e0, 0⟩ := by
 refine Sv.loop (I := Z6j l_ (Zf l_ K0_) o) (fun k s hI => ?_) ⟨s_, i_, h, rfl⟩
 clear h
 clear i_ s_
 obtain ⟨s_, i_, h, rfl⟩ := hI
 cases k with
 | zero => cases h
 | succ k =>
 rw [Zf] at h
 have hself : Z46 l_ (Zf l_ K0_ k) o (rnd 0 (Z6j l_ (Zf l_ K0_) o) k Q) := fun s_ i_ h s hw => ⟨_, k, hw, Nat.lt_succ_self k, s_, i_, h, rfl⟩
 refine Sv.seq <| ssr <| un1 rfl <| un1 rfl <| un1 (v := (I (l_.length : Int))) (s_len (e := e_TSQuery) (xs := l_) rfl) <| un1 (v := (B (decide (i_ < (l_.length : Int))))) rfl <| dnil ?_
 refine Sv.cnd rfl h (fun h => ?_) fun h => ?_
 ·refine Sv.skip <| Sv.seq <| Sv.block <| Sv.seq <| ssr <| un1 rfl <| un1 (v := (B (decide (0 < i_)))) rfl <| dnil ?_
  refine Sv.cnd rfl h (fun h => ?_) fun h => ?_
  ·refine srg <| un1 rfl ?_
   obtain ⟨r_4, hx8, h⟩ := bnd h
   refine un1 (v := (S r_4)) (s_cat rfl rfl hx8) <| un1 rfl <| dnil ?_
   exact Sv.weak (wcn [] rfl (.cf rfl rfl (.cf rfl rfl (.cf rfl rfl .nil))) .nil) (Z6i h hself hK0 hr)
  ·refine Sv.skip ?_
   exact Sv.weak (wcn [] rfl (.cf rfl rfl (.cf rfl rfl (.cf rfl rfl .nil))) .nil) (Z6i h hself hK0 hr)
 ·refine Sv.exit ?_
  exact hK0 s_ h _ (wcn [] rfl (.cf rfl rfl .nil) .nil)
/-- clerestory/clerestoryref2.QueriesText -/
noncomputable def Z2x (l_ : (List TSQuery)) : Option Tx :=
 limF fun kk1 => Zf l_ (fun (s_1 : Tx) => 
   some s_1) kk1 [] 0
theorem Z9e {mL : Int} {l_ : (List TSQuery)} {r : Tx} (h : Z2x l_ = some r) : CPure Tryz.prog (GG mL) 7 [(.c (.ro false 2 (l_.map e_TSQuery)))] (S r) := by
 refine acalls_of_sv hmix c7 (R := Z24 r) ?_
 unfold Z2x at h
 refine ssr <| un1 rfl <| dnil <| ssr <| un1 rfl <| dnil <| Sv.seq <| ssr <| un1 rfl <| dnil <| Sv.block ?_
 obtain ⟨kk1, h⟩ := limF_some h
 refine Sv.weak (wcn [] rfl (.cf rfl rfl (.cf rfl rfl (.cf rfl rfl .nil))) .nil) (Z9d h ?_ (fun s hs => hs))
 ·intro s_1 h _ hw2
  refine Sv.weak hw2 <| ssr <| un1 rfl <| un1 rfl <| dnil <| Sv.ret ?_
  exact rt0 h rfl rfl ⟨rfl, rfl, rfl⟩
def a9 : AFunc := ⟨1, [(.tmp 2)], (sr [(oP 1 (.box (.tmp 0))), (oP 2 (.mov kF))]
 (sr [(oP 3 (.faddr 0 (.tmp 1))), (oP 4 (.load false 1 (.tmp 3))), (oP 5 (.bin .geq (.tmp 4) (kI 1))), (mV 6 5), ⟨(some 7), (.faddr 0 (.tmp 1)), (some (6, true))⟩, ⟨(some 8), (.load false 1 (.tmp 7)), (some (6, true))⟩, ⟨(some 9), (.bin .leq (.tmp 8) (kI 4000)), (some (6, true))⟩, (oP 10 (.pick (.tmp 6) (.tmp 9) kF)), (mV 11 10), ⟨(some 12), (.faddr 1 (.tmp 1)), (some (11, true))⟩, ⟨(some 13), (.load false 1 (.tmp 12)), (some (11, true))⟩, ⟨(some 14), (.bin .geq (.tmp 13) (kI 1)), (some (11, true))⟩, (oP 15 (.pick (.tmp 11) (.tmp 14) kF)), (mV 16 15), ⟨(some 17), (.faddr 1 (.tmp 1)), (some (16, true))⟩, ⟨(some 18), (.load false 1 (.tmp 17)), (some (16, true))⟩, ⟨(some 19), (.bin .leq (.tmp 18) (kI 4000)), (some (16, true))⟩, (oP 20 (.pick (.tmp 16) (.tmp 19) kF)), (mV 2 20)]
 .ret))⟩
theorem c9 : compFunc Tryz.prog 9 = some a9 := by kernel_rfl
def Z9f (r : Bool) : AV → Heap → Nat → Prop := fun v h' n' => v = (B r) ∧ (h' = e0) ∧ n' = 0
/-- clerestory/clerestoryref2.EnvMay -/
def Z16 (e_ : TEnv) : Bool :=
 ((((decide (1 ≤ e_.Width)) && (decide (e_.Width ≤ 4000))) && (decide (1 ≤ e_.Height))) && (decide (e_.Height ≤ 4000)))
theorem Z9g {mL : Int} (e_ : TEnv) : CPure Tryz.prog (GG mL) 9 [(.agg (e_TEnv e_))] (B (Z16 e_)) := by
 generalize h : Z16 e_ = o
 refine acalls_of_sv hmix c9 (R := Z9f o) ?_
 unfold Z16 at h
 refine ssr <| un <| a2v (v := (.c (.ref 0 4 0 0))) (h' := upd _ 0 (some (.cells 4 [(e_TEnv e_)]))) (n' := 1) rfl rfl hcs <| un1 rfl <| dnil <| ssr <| un1 (v := (.c (.ref 0 4 0 0))) rfl <| un1 (v := (I e_.Width)) rfl <| un1 (v := (B (decide (1 ≤ e_.Width)))) rfl <| un1 rfl ?_
 refine gjoin 4 (d := 10) (v := (B ((decide (1 ≤ e_.Width)) && (decide (e_.Width ≤ 4000))))) (fun X hX => ?_) ?_
 ·refine split2 (fun hc1 => ?_) (fun hc1 => ?_)
  ·refine gt rfl <| a1 (v := (.c (.ref 0 4 0 0))) rfl <| gt rfl <| a1 (v := (I e_.Width)) rfl <| gt rfl <| a1 (v := (B (decide (e_.Width ≤ 4000)))) rfl <| un1 (v := (B (decide (e_.Width ≤ 4000)))) rfl <| dnil ?_
   exact hX _ (.putEq (by rw [hc1]; rfl) (.skp (.skp (.skp (.putEq (by rw [hc1]) (.refl _)) rfl) rfl) rfl))
  ·refine gs rfl rfl <| gs rfl rfl <| gs rfl rfl <| un1 (v := (B false)) rfl <| dnil ?_
   exact hX _ (.putEq (by rw [hc1]; rfl) (.skp (.skp (.skp (.putEq (by rw [hc1]) (.refl _)) rfl) rfl) rfl))
 refine un1 rfl ?_
 refine gjoin 4 (d := 15) (v := (B (((decide (1 ≤ e_.Width)) && (decide (e_.Width ≤ 4000))) && (decide (1 ≤ e_.Height))))) (fun X hX => ?_) ?_
 ·refine split2 (fun hc2 => ?_) (fun hc2 => ?_)
  ·refine gt rfl <| a1 (v := (.c (.ref 0 4 0 1))) rfl <| gt rfl <| a1 (v := (I e_.Height)) rfl <| gt rfl <| a1 (v := (B (decide (1 ≤ e_.Height)))) rfl <| un1 (v := (B (decide (1 ≤ e_.Height)))) rfl <| dnil ?_
   exact hX _ (.putEq (by rw [hc2]; rfl) (.skp (.skp (.skp (.putEq (by rw [hc2]) (.refl _)) rfl) rfl) rfl))
  ·refine gs rfl rfl <| gs rfl rfl <| gs rfl rfl <| un1 (v := (B false)) rfl <| dnil ?_
   exact hX _ (.putEq (by rw [hc2]; rfl) (.skp (.skp (.skp (.putEq (by rw [hc2]) (.refl _)) rfl) rfl) rfl))
 refine un1 rfl ?_
 refine gjoin 4 (d := 20) (v := (B ((((decide (1 ≤ e_.Width)) && (decide (e_.Width ≤ 4000))) && (decide (1 ≤ e_.Height))) && (decide (e_.Height ≤ 4000))))) (fun X hX => ?_) ?_
 ·refine split2 (fun hc3 => ?_) (fun hc3 => ?_)
  ·refine gt rfl <| a1 (v := (.c (.ref 0 4 0 1))) rfl <| gt rfl <| a1 (v := (I e_.Height)) rfl <| gt rfl <| a1 (v := (B (decide (e_.Height ≤ 4000)))) rfl <| un1 (v := (B (decide (e_.Height ≤ 4000)))) rfl <| dnil ?_
   exact hX _ (.putEq (by rw [hc3]; rfl) (.skp (.skp (.skp (.putEq (by rw [hc3]) (.refl _)) rfl) rfl) rfl))
  ·refine gs rfl rfl <| gs rfl rfl <| gs rfl rfl <| un1 (v := (B false)) rfl <| dnil ?_
   exact hX _ (.putEq (by rw [hc3]; rfl) (.skp (.skp (.skp (.putEq (by rw [hc3]) (.refl _)) rfl) rfl) rfl))
 refine un1 rfl <| dnil <| Sv.ret ?_
 subst h
 exact ⟨_, .refl _, _, rfl, ⟨upd e0 0 (some (B ((((decide (1 ≤ e_.Width)) && (decide (e_.Width ≤ 4000))) && (decide (1 ≤ e_.Height))) && (decide (e_.Height ≤ 4000))))), e0, 0⟩, (B ((((decide (1 ≤ e_.Width)) && (decide (e_.Width ≤ 4000))) && (decide (1 ≤ e_.Height))) && (decide (e_.Height ≤ 4000)))), weak_canon [] rfl ndl nll nlz (.cf rfl rfl .nil) .nil, rfl, rfl, rfl, rfl⟩
def a3_c0 : ACode := (.seq (sr [(mV 22 8), (mV 23 0), (mV 24 7), (oP 25 (.iaddr 2 (.tmp 23) (.tmp 24))), (oP 26 (.faddr 1 (.tmp 25))), (oP 27 (.load false 1 (.tmp 26))), (oP 28 (.len (.tmp 27))), (oP 29 (.bin .lss (.tmp 22) (.tmp 28)))]
 (.cond (.tmp 29) .skip (.exit 2)))
 (.seq (.block 3 (sr [(mV 32 0), (mV 33 7), (oP 34 (.iaddr 2 (.tmp 32) (.tmp 33))), (oP 35 (.faddr 1 (.tmp 34))), (oP 36 (.load false 1 (.tmp 35))), (mV 37 8), (oP 38 (.iaddr 2 (.tmp 36) (.tmp 37))), (oP 39 (.load true 2 (.tmp 38))), (oP 40 (.call 5 [(.tmp 39)])), (oP 41 (.un .not (.tmp 40)))]
 (.cond (.tmp 41) (sr [(mV 42 5), (mV 4 42)]
 .ret) .skip)))
 (.region [(mV 30 8), (oP 31 (.bin .add (.tmp 30) (kI 1))), (mV 8 31)])))
def a3_c1 : ACode := (.region [(mV 20 7), (oP 21 (.bin .add (.tmp 20) (kI 1))), (mV 7 21)])
def a3_c2 : ACode := (.seq (sr [(mV 16 7), (mV 17 0), (oP 18 (.len (.tmp 17))), (oP 19 (.bin .lss (.tmp 16) (.tmp 18)))]
 (.cond (.tmp 19) .skip (.exit 0)))
 (.seq (.block 1 (.seq (sr [(oP 8 (.mov (kI 0)))]
 (.block 2 (.loop a3_c0)))
 (.seq (sr [(mV 43 0), (mV 44 7), (oP 45 (.iaddr 2 (.tmp 43) (.tmp 44))), (oP 46 (.faddr 1 (.tmp 45))), (oP 47 (.load false 1 (.tmp 46))), (oP 48 (.len (.tmp 47))), (oP 49 (.bin .eql (.tmp 48) (kI 0)))]
 (.cond (.tmp 49) (sr [(mV 50 5), (mV 4 50)]
 .ret) .skip))
 (.drawn (.fin [((mV 51 6), (0, 0)), ((mV 52 51), (0, 1)), (⟨(some 53), (.mov (.tmp 0)), (some (52, false))⟩, (0, 2)), (⟨(some 54), (.mov (.tmp 7)), (some (52, false))⟩, (0, 3)), (⟨(some 55), (.iaddr 2 (.tmp 53) (.tmp 54)), (some (52, false))⟩, (0, 4)), (⟨(some 56), (.load true 2 (.tmp 55)), (some (52, false))⟩, (0, 5)), (⟨(some 57), (.load true 4 (.tmp 3)), (some (52, false))⟩, (0, 6)), (⟨(some 58), (.call 6 [(.tmp 56), (.tmp 57)]), (some (52, false))⟩, (2, 7)), ((oP 59 (.pick (.tmp 52) kT (.tmp 58))), (0, 8)), ((mV 6 59), (0, 9))])))))
 a3_c1))
def a3 : AFunc := ⟨2, [(.tmp 4)], (sr [(oP 3 (.box (.tmp 1))), (oP 4 (.mov kF))]
 (sr [(oP 12 (.call 4 [])), (mV 5 12)]
 (sr [(mV 13 0), (oP 14 (.len (.tmp 13))), (oP 15 (.bin .eql (.tmp 14) (kI 0))), (mV 6 15)]
 (.seq (sr [(oP 7 (.mov (kI 0)))]
 (.block 0 (.loop a3_c2)))
 (sr [(mV 60 0), (oP 61 (.call 7 [(.tmp 60)])), (mV 9 61)]
 (sr [(mV 63 9), (oP 64 (.load true 4 (.tmp 3))), (oP 65 (.call 8 [(.tmp 63), (.tmp 64)])), (mV 62 65), (oP 66 (.ext (.tmp 62) 0)), (oP 67 (.ext (.tmp 62) 1)), (mV 10 66), (mV 11 67)]
 (.seq (sr [(mV 68 9), (oP 69 (.lenS (.tmp 68))), (oP 70 (.bin .gtr (.tmp 69) (kI 400)))]
 (.cond (.tmp 70) (sr [(mV 71 5), (mV 72 71), ⟨(some 73), (.mov (.tmp 10)), (some (72, true))⟩, ⟨(some 74), (.un .not (.tmp 73)), (some (72, true))⟩, (oP 75 (.pick (.tmp 72) (.tmp 74) kF)), (mV 76 75), ⟨(some 77), (.mov (.tmp 11)), (some (76, true))⟩, ⟨(some 78), (.bin .eql (.tmp 77) (kI 2)), (some (76, true))⟩, (oP 79 (.pick (.tmp 76) (.tmp 78) kF)), (mV 4 79)]
 .ret) .skip))
 (.seq (sr [(oP 80 (.load true 4 (.tmp 3))), (oP 81 (.call 9 [(.tmp 80)])), (oP 82 (.un .not (.tmp 81)))]
 (.cond (.tmp 82) (sr [(mV 83 5), (mV 84 83), ⟨(some 85), (.mov (.tmp 10)), (some (84, true))⟩, ⟨(some 86), (.un .not (.tmp 85)), (some (84, true))⟩, (oP 87 (.pick (.tmp 84) (.tmp 86) kF)), (mV 88 87), ⟨(some 89), (.mov (.tmp 11)), (some (88, true))⟩, ⟨(some 90), (.bin .eql (.tmp 89) (kI 1)), (some (88, true))⟩, (oP 91 (.pick (.tmp 88) (.tmp 90) kF)), (mV 4 91)]
 .ret) .skip))
 (sr [(mV 92 5), (mV 93 92), ⟨(some 94), (.mov (.tmp 11)), (some (93, true))⟩, ⟨(some 95), (.bin .eql (.tmp 94) (kI 0)), (some (93, true))⟩, (oP 96 (.pick (.tmp 93) (.tmp 95) kF)), (mV 97 96), ⟨(some 98), (.mov (.tmp 10)), (some (97, true))⟩, ⟨(some 99), (.mov (.tmp 6)), (some (97, true))⟩, ⟨(some 100), (.eqs false false [.b] (.tmp 98) (.tmp 99)), (some (97, true))⟩, (oP 101 (.pick (.tmp 97) (.tmp 100) kF)), (mV 4 101)]
 .ret)))))))))⟩
theorem c3 : compFunc Tryz.prog 3 = some a3 := by kernel_rfl
def Z3b (r : Bool) : AV → Heap → Nat → Prop := fun v h' n' => v = (B r) ∧ (h' = e0) ∧ n' = 0
abbrev Z6k (l_ : (List TSQuery)) (r_ : Bool) (env : TEnv) (F_ : Bool → Int → Option Bool) (o : Bool) (R_ : St → Prop) : Prop := ∀ (any_ : Bool) (i_ : Int), F_ any_ i_ = some o → ∀ s, Weak 0 s ⟨(ue [(7, (I i_)), (6, (B any_)), (5, (B r_)), (3, (.c (.ref 0 4 0 0))), (0, (.c (.ro false 2 (l_.map e_TSQuery))))]), (upd e0 0 (some (.cells 4 [(e_TEnv env)]))), 1⟩ → R_ s
abbrev Z6l (l_ : (List TSQuery)) (r_ : Bool) (env : TEnv) (F_ : Bool → Option Bool) (o : Bool) (R_ : St → Prop) : Prop := ∀ (any_1 : Bool), F_ any_1 = some o → ∀ s, Weak 0 s ⟨(ue [(6, (B any_1)), (5, (B r_)), (3, (.c (.ref 0 4 0 0))), (0, (.c (.ro false 2 (l_.map e_TSQuery))))]), (upd e0 0 (some (.cells 4 [(e_TEnv env)]))), 1⟩ → R_ s
noncomputable def Z1i (i_ : Int) (l_ : (List TSQuery)) (r_ : Bool) (env : TEnv) (self : Bool → Int → Option Bool) (K0_ : Bool → Option Bool) (any_2 : Bool) : Option Bool :=
 self any_2 (wi (i_ + 1))
theorem Z6m {mL : Int} {Q : AExit → St → Prop} {i_ : Int} {l_ : (List TSQuery)} {r_ : Bool} {env : TEnv} {self : Bool → Int → Option Bool} {K0_ : Bool → Option Bool} {any_2 : Bool} {o : Bool} (h : Z1i i_ l_ r_ env self K0_ any_2 = some o)
  (hself : Z6k l_ r_ env self o (Q .normal))
  (hK0 : Z6l l_ r_ env K0_ o (Q (.exit 0)))
  (hr : ∀ s, Ends a3.results 0 (Z3b o) .ret s → Q .ret s) :
  Sv Tryz.prog (GG mL) 0 a3_c1 Q ⟨(ue [(7, (I i_)), (6, (B any_2)), (5, (B r_)), (3, (.c (.ref 0 4 0 0))), (0, (.c (.ro false 2 (l_.map e_TSQuery))))]), (upd e0 0 (some (.cells 4 [(e_TEnv env)]))), 1⟩ := by
 unfold Z1i at h
 refine srg <| un1 rfl <| un1 (v := (I (wi (i_ + 1)))) rfl <| un1 rfl <| dnil ?_
 exact hself any_2 (wi (i_ + 1)) h _ (wcn [0] rfl (.cf rfl rfl (.cf rfl rfl (.cf rfl rfl (.cr rfl rfl rfl (.cf rfl rfl .nil))))) (.box (by decide) rfl (blkAs_cells (.sm rfl (.sm rfl (.sm rfl (.sm rfl .nil))))) .nil))
abbrev Z9h (l_ : (List TSQuery)) (r_ : Bool) (any_ : Bool) (i_ : Int) (env : TEnv) (F_ : Unit → Option Bool) (o : Bool) (R_ : St → Prop) : Prop := ∀ (_ : Unit), F_ () = some o → ∀ s, Weak 0 s ⟨(ue [(7, (I i_)), (6, (B any_)), (5, (B r_)), (3, (.c (.ref 0 4 0 0))), (0, (.c (.ro false 2 (l_.map e_TSQuery))))]), (upd e0 0 (some (.cells 4 [(e_TEnv env)]))), 1⟩ → R_ s
abbrev Z6n (l_ : (List TSQuery)) (r_ : Bool) (any_ : Bool) (i_ : Int) (env : TEnv) (F_ : Nat → Int → Option Bool) (o : Bool) : Nat → St → Prop := fun k s => ∃ (k_ : Int), F_ k k_ = some o ∧ s = ⟨(ue [(8, (I k_)), (7, (I i_)), (6, (B any_)), (5, (B r_)), (3, (.c (.ref 0 4 0 0))), (0, (.c (.ro false 2 (l_.map e_TSQuery))))]), (upd e0 0 (some (.cells 4 [(e_TEnv env)]))), 1⟩
abbrev Z9i (l_ : (List TSQuery)) (r_ : Bool) (any_ : Bool) (i_ : Int) (env : TEnv) (F_ : Int → Option Bool) (o : Bool) (R_ : St → Prop) : Prop := ∀ (k_ : Int), F_ k_ = some o → ∀ s, Weak 0 s ⟨(ue [(8, (I k_)), (7, (I i_)), (6, (B any_)), (5, (B r_)), (3, (.c (.ref 0 4 0 0))), (0, (.c (.ro false 2 (l_.map e_TSQuery))))]), (upd e0 0 (some (.cells 4 [(e_TEnv env)]))), 1⟩ → R_ s
noncomputable def Z3 (l_ : (List TSQuery)) (i_ : Int) (r_ : Bool) (any_ : Bool) (env : TEnv) (K2_ : Unit → Option Bool) : Nat → Int → Option Bool
 | 0, _ => none
 | k + 1, k_ =>
  (at? l_ i_).bind fun x_ =>
  if decide (k_ < (x_.Features.length : Int)) then
   (at? l_ i_).bind fun x_1 =>
   (at? x_1.Features k_).bind fun x_2 =>
   if (!(Za x_2)) then
    some r_
   else
    (Z3 l_ i_ r_ any_ env K2_ k) (wi (k_ + 1))
  else
   K2_ ()
theorem Z9j {mL : Int} {Q : AExit → St → Prop} {l_ : (List TSQuery)} {i_ : Int} {r_ : Bool} {any_ : Bool} {env : TEnv} {K2_ : Unit → Option Bool} {k : Nat} {k_ : Int} {o : Bool} (h : Z3 l_ i_ r_ any_ env K2_ k k_ = some o)
  (hK2 : Z9h l_ r_ any_ i_ env K2_ o (Q (.exit 2)))
  (hr : ∀ s, Ends a3.results 0 (Z3b o) .ret s → Q .ret s) :
  Sv Tryz.prog (GG mL) 0 (.loop a3_c0) Q ⟨(ue [(8, (I k_)), (7, (I i_)), (6, (B any_)), (5, (B r_)), (3, (.c (.ref 0 4 0 0))), (0, (.c (.ro false 2 (l_.map e_TSQuery))))]), (upd e0 0 (some (.cells 4 [(e_TEnv env)]))), 1⟩ := by
 refine Sv.loop (I := Z6n l_ r_ any_ i_ env (Z3 l_ i_ r_ any_ env K2_) o) (fun k s hI => ?_) ⟨k_, h, rfl⟩
 clear h
 clear k_
 obtain ⟨k_, h, rfl⟩ := hI
 cases k with
 | zero => cases h
 | succ k =>
 rw [Z3] at h
 have hself : Z9i l_ r_ any_ i_ env (Z3 l_ i_ r_ any_ env K2_ k) o (rnd 0 (Z6n l_ r_ any_ i_ env (Z3 l_ i_ r_ any_ env K2_) o) k Q) := fun k_ h s hw => ⟨_, k, hw, Nat.lt_succ_self k, k_, h, rfl⟩
 refine Sv.seq <| ssr <| un1 rfl <| un1 rfl <| un1 rfl ?_
 obtain ⟨x_, hx1, h⟩ := bnd h
 refine un1 (v := (.c (.rop (e_TSQuery x_)))) (s_iaddr (e := e_TSQuery) (xs := l_) rfl rfl hx1) <| un1 (v := (.c (.rop [.ro false 2 (x_.Features.map e_TSFeature)]))) rfl <| un1 (v := (.c (.ro false 2 (x_.Features.map e_TSFeature)))) rfl <| un1 (v := (I (x_.Features.length : Int))) (s_len (e := e_TSFeature) (xs := x_.Features) rfl) <| un1 (v := (B (decide (k_ < (x_.Features.length : Int))))) rfl <| dnil ?_
 refine Sv.cnd rfl h (fun h => ?_) fun h => ?_
 ·refine Sv.skip <| Sv.seq <| Sv.block <| ssr <| un1 rfl <| un1 rfl ?_
  obtain ⟨x_1, hx2, h⟩ := bnd h
  refine un1 (v := (.c (.rop (e_TSQuery x_1)))) (s_iaddr (e := e_TSQuery) (xs := l_) rfl rfl hx2) <| un1 (v := (.c (.rop [.ro false 2 (x_1.Features.map e_TSFeature)]))) rfl <| un1 (v := (.c (.ro false 2 (x_1.Features.map e_TSFeature)))) rfl <| un1 rfl ?_
  obtain ⟨x_2, hx3, h⟩ := bnd h
  refine un1 (v := (.c (.rop (e_TSFeature x_2)))) (s_iaddr (e := e_TSFeature) (xs := x_1.Features) rfl rfl hx3) <| un1 (v := (.agg (e_TSFeature x_2))) rfl <| un <| ac_pure (Z8v (mL := mL) x_2) rfl rfl rfl <| un1 (v := (B (!(Za x_2)))) rfl <| dnil ?_
  refine Sv.cnd rfl h (fun h => ?_) fun h => ?_
  ·refine ssr <| un1 rfl <| un1 rfl <| dnil <| Sv.ret ?_
   exact hr _ (rt0 h rfl rfl ⟨rfl, rfl, rfl⟩)
  ·refine Sv.skip <| srg <| un1 rfl <| un1 (v := (I (wi (k_ + 1)))) rfl <| un1 rfl <| dnil ?_
   exact hself (wi (k_ + 1)) h _ (wcn [0] rfl (.cf rfl rfl (.cf rfl rfl (.cf rfl rfl (.cf rfl rfl (.cr rfl rfl rfl (.cf rfl rfl .nil)))))) (.box (by decide) rfl (blkAs_cells (.sm rfl (.sm rfl (.sm rfl (.sm rfl .nil))))) .nil))
 ·refine Sv.exit ?_
  exact hK2 () h _ (wcn [0] rfl (.cf rfl rfl (.cf rfl rfl (.cf rfl rfl (.cr rfl rfl rfl (.cf rfl rfl .nil))))) (.box (by decide) rfl (blkAs_cells (.sm rfl (.sm rfl (.sm rfl (.sm rfl .nil))))) .nil))
abbrev Z6o (l_ : (List TSQuery)) (r_ : Bool) (env : TEnv) (F_ : Nat → Bool → Int → Option Bool) (o : Bool) : Nat → St → Prop := fun k s => ∃ (any_ : Bool), ∃ (i_ : Int), F_ k any_ i_ = some o ∧ s = ⟨(ue [(7, (I i_)), (6, (B any_)), (5, (B r_)), (3, (.c (.ref 0 4 0 0))), (0, (.c (.ro false 2 (l_.map e_TSQuery))))]), (upd e0 0 (some (.cells 4 [(e_TEnv env)]))), 1⟩
noncomputable def Z2 (l_ : (List TSQuery)) (r_ : Bool) (env : TEnv) (K0_ : Bool → Option Bool) : Nat → Bool → Int → Option Bool
 | 0, _, _ => none
 | k + 1, any_, i_ =>
  if decide (i_ < (l_.length : Int)) then
   lim fun kk => Z3 l_ i_ r_ any_ env (fun (_ : Unit) => 
     (at? l_ i_).bind fun x_3 =>
     if decide ((x_3.Features.length : Int) = 0) then
      some r_
     else
      if any_ then
       Z1i i_ l_ r_ env (Z2 l_ r_ env K0_ k) K0_ true
      else
       (at? l_ i_).bind fun x_4 =>
       (Z22 x_4 env).bind fun r_1 =>
       Z1i i_ l_ r_ env (Z2 l_ r_ env K0_ k) K0_ r_1) kk 0
  else
   K0_ any_
theorem Z9k {mL : Int} {Q : AExit → St → Prop} {l_ : (List TSQuery)} {r_ : Bool} {env : TEnv} {K0_ : Bool → Option Bool} {k : Nat} {any_ : Bool} {i_ : Int} {o : Bool} (h : Z2 l_ r_ env K0_ k any_ i_ = some o)
  (hK0 : Z6l l_ r_ env K0_ o (Q (.exit 0)))
  (hr : ∀ s, Ends a3.results 0 (Z3b o) .ret s → Q .ret s) :
  Sv Tryz.prog (GG mL) 0 (.loop a3_c2) Q ⟨(ue [(7, (I i_)), (6, (B any_)), (5, (B r_)), (3, (.c (.ref 0 4 0 0))), (0, (.c (.ro false 2 (l_.map e_TSQuery))))]), (upd e0 0 (some (.cells 4 [(e_TEnv env)]))), 1⟩ := by
 refine Sv.loop (I := Z6o l_ r_ env (Z2 l_ r_ env K0_) o) (fun k s hI => ?_) ⟨any_, i_, h, rfl⟩
 clear h
 clear i_ any_
 obtain ⟨any_, i_, h, rfl⟩ := hI
 cases k with
 | zero => cases h
 | succ k =>
 rw [Z2] at h
 have hself : Z6k l_ r_ env (Z2 l_ r_ env K0_ k) o (rnd 0 (Z6o l_ r_ env (Z2 l_ r_ env K0_) o) k Q) := fun any_ i_ h s hw => ⟨_, k, hw, Nat.lt_succ_self k, any_, i_, h, rfl⟩
 refine Sv.seq <| ssr <| un1 rfl <| un1 rfl <| un1 (v := (I (l_.length : Int))) (s_len (e := e_TSQuery) (xs := l_) rfl) <| un1 (v := (B (decide (i_ < (l_.length : Int))))) rfl <| dnil ?_
 refine Sv.cnd rfl h (fun h => ?_) fun h => ?_
 ·refine Sv.skip <| Sv.seq <| Sv.block <| Sv.seq <| ssr <| un1 rfl <| dnil <| Sv.block ?_
  obtain ⟨kk, h⟩ := lim_some h
  refine Sv.weak (wcn [0] rfl (.cf rfl rfl (.cf rfl rfl (.cf rfl rfl (.cf rfl rfl (.cr rfl rfl rfl (.cf rfl rfl .nil)))))) (.box (by decide) rfl (blkAs_cells (.sm rfl (.sm rfl (.sm rfl (.sm rfl .nil))))) .nil)) (Z9j h ?_ hr)
  ·intro _ h _ hw1
   refine Sv.weak hw1 <| Sv.seq <| ssr <| un1 rfl <| un1 rfl ?_
   obtain ⟨x_3, hx4, h⟩ := bnd h
   refine un1 (v := (.c (.rop (e_TSQuery x_3)))) (s_iaddr (e := e_TSQuery) (xs := l_) rfl rfl hx4) <| un1 (v := (.c (.rop [.ro false 2 (x_3.Features.map e_TSFeature)]))) rfl <| un1 (v := (.c (.ro false 2 (x_3.Features.map e_TSFeature)))) rfl <| un1 (v := (I (x_3.Features.length : Int))) (s_len (e := e_TSFeature) (xs := x_3.Features) rfl) <| un1 (v := (B (decide ((x_3.Features.length : Int) = 0)))) rfl <| dnil ?_
   refine Sv.cnd rfl h (fun h => ?_) fun h => ?_
   ·refine ssr <| un1 rfl <| un1 rfl <| dnil <| Sv.ret ?_
    exact hr _ (rt0 h rfl rfl ⟨rfl, rfl, rfl⟩)
   ·refine Sv.skip <| Sv.drawn <| un1 rfl <| un1 rfl ?_
    refine spl h (fun h => ?_) fun h => ?_
    ·repeat (first | refine gu rfl ?_ | refine gs rfl rfl ?_)
     refine un1 (v := (B true)) rfl <| un1 rfl <| dnil ?_
     exact Sv.weak (wcn [0] rfl (.cf rfl rfl (.cf rfl rfl (.cf rfl rfl (.cr rfl rfl rfl (.cf rfl rfl .nil))))) (.box (by decide) rfl (blkAs_cells (.sm rfl (.sm rfl (.sm rfl (.sm rfl .nil))))) .nil)) (Z6m h hself hK0 hr)
    ·refine gt rfl <| a1 rfl <| gt rfl <| a1 rfl ?_
     obtain ⟨x_4, hx5, h⟩ := bnd h
     refine gt rfl <| a1 (v := (.c (.rop (e_TSQuery x_4)))) (s_iaddr (e := e_TSQuery) (xs := l_) rfl rfl hx5) <| gt rfl <| a1 (v := (.agg (e_TSQuery x_4))) rfl <| gt rfl <| a1 (v := (.agg (e_TEnv env))) rfl ?_
     obtain ⟨r_1, hr2, h⟩ := bnd h
     refine gt rfl <| ac_pure (Z91 hr2) rfl rfl rfl <| un1 (v := (B r_1)) rfl <| un1 rfl <| dnil ?_
     exact Sv.weak (wcn [0] rfl (.cf rfl rfl (.cf rfl rfl (.cf rfl rfl (.cr rfl rfl rfl (.cf rfl rfl .nil))))) (.box (by decide) rfl (blkAs_cells (.sm rfl (.sm rfl (.sm rfl (.sm rfl .nil))))) .nil)) (Z6m h hself hK0 hr)
 ·refine Sv.exit ?_
  exact hK0 any_ h _ (wcn [0] rfl (.cf rfl rfl (.cf rfl rfl (.cr rfl rfl rfl (.cf rfl rfl .nil)))) (.box (by decide) rfl (blkAs_cells (.sm rfl (.sm rfl (.sm rfl (.sm rfl .nil))))) .nil))
/-- clerestory/clerestorylaw2.MediaHolds -/
noncomputable def Z3c (l_ : (List TSQuery)) (env : TEnv) : Option Bool :=
 (Z38).bind fun r_ =>
 lim fun kk1 => Z2 l_ r_ env (fun (any_1 : Bool) => 
   (Z2x l_).bind fun r_2 =>
   (Z15 r_2 env).bind fun r_3 =>
   if decide (400 < (r_2.length : Int)) then
    some ((r_ && (!r_3.1)) && (decide (r_3.2 = 2)))
   else
    if (!(Z16 env)) then
     some ((r_ && (!r_3.1)) && (decide (r_3.2 = 1)))
    else
     some ((r_ && (decide (r_3.2 = 0))) && ((r_3.1 == any_1) && true))) kk1 (decide ((l_.length : Int) = 0)) 0
theorem Z9l {mL : Int} {l_ : (List TSQuery)} {env : TEnv} {r : Bool} (h : Z3c l_ env = some r) : CPure Tryz.prog (GG mL) 3 [(.c (.ro false 2 (l_.map e_TSQuery))), (.agg (e_TEnv env))] (B r) := by
 refine acalls_of_sv hmix c3 (R := Z3b r) ?_
 unfold Z3c at h
 refine ssr <| un <| a2v (v := (.c (.ref 0 4 0 0))) (h' := upd _ 0 (some (.cells 4 [(e_TEnv env)]))) (n' := 1) rfl rfl hcs <| un1 rfl <| dnil <| ssr ?_
 obtain ⟨r_, hr1, h⟩ := bnd h
 refine un <| ac_pure (Z8t hr1) rfl rfl rfl <| un1 rfl <| dnil <| ssr <| un1 rfl <| un1 (v := (I (l_.length : Int))) (s_len (e := e_TSQuery) (xs := l_) rfl) <| un1 (v := (B (decide ((l_.length : Int) = 0)))) rfl <| un1 rfl <| dnil <| Sv.seq <| ssr <| un1 rfl <| dnil <| Sv.block ?_
 obtain ⟨kk1, h⟩ := lim_some h
 refine Sv.weak (wcn [0] rfl (.cf rfl rfl (.cf rfl rfl (.cf rfl rfl (.cr rfl rfl rfl (.cf rfl rfl .nil))))) (.box (by decide) rfl (blkAs_cells (.sm rfl (.sm rfl (.sm rfl (.sm rfl .nil))))) .nil)) (Z9k h ?_ (fun s hs => hs))
 ·intro any_1 h _ hw2
  refine Sv.weak hw2 <| ssr <| un1 rfl ?_
  obtain ⟨r_2, hr3, h⟩ := bnd h
  refine un <| ac_pure (Z9e hr3) rfl rfl rfl <| un1 rfl <| dnil <| ssr <| un1 rfl <| un1 (v := (.agg (e_TEnv env))) rfl ?_
  obtain ⟨r_3, hr4, h⟩ := bnd h
  refine un <| ac_pure (Z67 hr4) rfl rfl rfl <| un1 rfl <| un1 (v := (B r_3.1)) rfl <| un1 (v := (I r_3.2)) rfl <| un1 rfl <| un1 rfl <| dnil <| Sv.seq <| ssr <| un1 rfl <| un1 (v := (I (r_2.length : Int))) rfl <| un1 (v := (B (decide (400 < (r_2.length : Int))))) rfl <| dnil ?_
  refine Sv.cnd rfl h (fun h => ?_) fun h => ?_
  ·refine ssr <| un1 rfl <| un1 rfl ?_
   refine gjoin 3 (d := 75) (v := (B (r_ && (!r_3.1)))) (fun X hX => ?_) ?_
   ·refine split2 (fun hc7 => ?_) (fun hc7 => ?_)
    ·refine gt rfl <| a1 rfl <| gt rfl <| a1 (v := (B (!r_3.1))) rfl <| un1 (v := (B (!r_3.1))) rfl <| dnil ?_
     exact hX _ (.putEq (by rw [hc7]; rfl) (.skp (.skp (.putEq (by rw [hc7]) (.refl _)) rfl) rfl))
    ·refine gs rfl rfl <| gs rfl rfl <| un1 (v := (B false)) rfl <| dnil ?_
     exact hX _ (.putEq (by rw [hc7]; rfl) (.skp (.skp (.putEq (by rw [hc7]) (.refl _)) rfl) rfl))
   refine un1 rfl ?_
   refine gjoin 3 (d := 79) (v := (B ((r_ && (!r_3.1)) && (decide (r_3.2 = 2))))) (fun X hX => ?_) ?_
   ·refine split2 (fun hc8 => ?_) (fun hc8 => ?_)
    ·refine gt rfl <| a1 rfl <| gt rfl <| a1 (v := (B (decide (r_3.2 = 2)))) rfl <| un1 (v := (B (decide (r_3.2 = 2)))) rfl <| dnil ?_
     exact hX _ (.putEq (by rw [hc8]; rfl) (.skp (.skp (.putEq (by rw [hc8]) (.refl _)) rfl) rfl))
    ·refine gs rfl rfl <| gs rfl rfl <| un1 (v := (B false)) rfl <| dnil ?_
     exact hX _ (.putEq (by rw [hc8]; rfl) (.skp (.skp (.putEq (by rw [hc8]) (.refl _)) rfl) rfl))
   refine un1 rfl <| dnil <| Sv.ret ?_
   exact rt0 h rfl rfl ⟨rfl, rfl, rfl⟩
  ·refine Sv.skip <| Sv.seq <| ssr <| un1 (v := (.agg (e_TEnv env))) rfl <| un <| ac_pure (Z9g (mL := mL) env) rfl rfl rfl <| un1 (v := (B (!(Z16 env)))) rfl <| dnil ?_
   refine Sv.cnd rfl h (fun h => ?_) fun h => ?_
   ·refine ssr <| un1 rfl <| un1 rfl ?_
    refine gjoin 3 (d := 87) (v := (B (r_ && (!r_3.1)))) (fun X hX => ?_) ?_
    ·refine split2 (fun hc10 => ?_) (fun hc10 => ?_)
     ·refine gt rfl <| a1 rfl <| gt rfl <| a1 (v := (B (!r_3.1))) rfl <| un1 (v := (B (!r_3.1))) rfl <| dnil ?_
      exact hX _ (.putEq (by rw [hc10]; rfl) (.skp (.skp (.putEq (by rw [hc10]) (.refl _)) rfl) rfl))
     ·refine gs rfl rfl <| gs rfl rfl <| un1 (v := (B false)) rfl <| dnil ?_
      exact hX _ (.putEq (by rw [hc10]; rfl) (.skp (.skp (.putEq (by rw [hc10]) (.refl _)) rfl) rfl))
    refine un1 rfl ?_
    refine gjoin 3 (d := 91) (v := (B ((r_ && (!r_3.1)) && (decide (r_3.2 = 1))))) (fun X hX => ?_) ?_
    ·refine split2 (fun hc11 => ?_) (fun hc11 => ?_)
     ·refine gt rfl <| a1 rfl <| gt rfl <| a1 (v := (B (decide (r_3.2 = 1)))) rfl <| un1 (v := (B (decide (r_3.2 = 1)))) rfl <| dnil ?_
      exact hX _ (.putEq (by rw [hc11]; rfl) (.skp (.skp (.putEq (by rw [hc11]) (.refl _)) rfl) rfl))
     ·refine gs rfl rfl <| gs rfl rfl <| un1 (v := (B false)) rfl <| dnil ?_
      exact hX _ (.putEq (by rw [hc11]; rfl) (.skp (.skp (.putEq (by rw [hc11]) (.refl _)) rfl) rfl))
    refine un1 rfl <| dnil <| Sv.ret ?_
    exact rt0 h rfl rfl ⟨rfl, rfl, rfl⟩
   ·refine Sv.skip <| ssr <| un1 rfl <| un1 rfl ?_
    refine gjoin 3 (d := 96) (v := (B (r_ && (decide (r_3.2 = 0))))) (fun X hX => ?_) ?_
    ·refine split2 (fun hc12 => ?_) (fun hc12 => ?_)
     ·refine gt rfl <| a1 rfl <| gt rfl <| a1 (v := (B (decide (r_3.2 = 0)))) rfl <| un1 (v := (B (decide (r_3.2 = 0)))) rfl <| dnil ?_
      exact hX _ (.putEq (by rw [hc12]; rfl) (.skp (.skp (.putEq (by rw [hc12]) (.refl _)) rfl) rfl))
     ·refine gs rfl rfl <| gs rfl rfl <| un1 (v := (B false)) rfl <| dnil ?_
      exact hX _ (.putEq (by rw [hc12]; rfl) (.skp (.skp (.putEq (by rw [hc12]) (.refl _)) rfl) rfl))
    refine un1 rfl ?_
    refine gjoin 4 (d := 101) (v := (B ((r_ && (decide (r_3.2 = 0))) && ((r_3.1 == any_1) && true)))) (fun X hX => ?_) ?_
    ·refine split2 (fun hc13 => ?_) (fun hc13 => ?_)
     ·refine gt rfl <| a1 rfl <| gt rfl <| a1 rfl <| gt rfl <| a1 (v := (B ((r_3.1 == any_1) && true))) rfl <| un1 (v := (B ((r_3.1 == any_1) && true))) rfl <| dnil ?_
      exact hX _ (.putEq (by rw [hc13]; rfl) (.skp (.skp (.skp (.putEq (by rw [hc13]) (.refl _)) rfl) rfl) rfl))
     ·refine gs rfl rfl <| gs rfl rfl <| gs rfl rfl <| un1 (v := (B false)) rfl <| dnil ?_
      exact hX _ (.putEq (by rw [hc13]; rfl) (.skp (.skp (.skp (.putEq (by rw [hc13]) (.refl _)) rfl) rfl) rfl))
    refine un1 rfl <| dnil <| Sv.ret ?_
    exact rt0 h rfl rfl ⟨rfl, rfl, rfl⟩
end Go.Proofs.YtkimpaokepfonaaGreatDoorBv
