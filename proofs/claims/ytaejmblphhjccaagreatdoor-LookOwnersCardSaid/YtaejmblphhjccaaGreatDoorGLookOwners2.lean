/- Printed by a program of mine (bgen.py): plain functions, and the walks that show that the code comes to what they answer. -/
import Derived.Test.YtaejmblphhjccaaGreatDoorGLookOwners1
namespace Go.Proofs.YtaejmblphhjccaaGreatDoorBv
open Go
set_option linter.unusedVariables false
set_option linter.unusedSimpArgs false
set_option maxRecDepth 100000
def a4_c0 : ACode := (sr [(mV 44 5), (mV 45 7), (oP 46 (.iaddr 1 (.tmp 44) (.tmp 45))), (oP 47 (.load false 1 (.tmp 46))), (mV 48 8), (oP 49 (.bin .neq (.tmp 47) (.tmp 48)))]
 (.cond (.tmp 49) (sr [(oP 2 (.mov kF))]
 .ret) .skip))
def a4_c1 : ACode := (.region [(mV 36 7), (oP 37 (.bin .add (.tmp 36) (kI 1))), (mV 7 37)])
def a4_c2 : ACode := (.seq (sr [(mV 31 7), (oP 32 (.faddr 0 (.tmp 1))), (oP 33 (.load false 1 (.tmp 32))), (oP 34 (.len (.tmp 33))), (oP 35 (.bin .lss (.tmp 31) (.tmp 34)))]
 (.cond (.tmp 35) .skip (.exit 0)))
 (.seq (.block 1 (sr [(oP 8 (.mov (.const (.c (.str [])))))]
 (.seq (sr [(oP 38 (.load true 2 (.tmp 1))), (mV 39 7), (oP 40 (.call 17 [(.tmp 38), (.tmp 39)]))]
 (.cond (.tmp 40) (.region [(oP 41 (.load true 2 (.tmp 1))), (mV 42 7), (oP 43 (.call 18 [(.tmp 41), (.tmp 42)])), (mV 8 43)]) .skip))
 a4_c0)))
 a4_c1))
def a4 : AFunc := ⟨1, [(.tmp 2)], (sr [(oP 1 (.box (.tmp 0))), (oP 2 (.mov kF))]
 (sr [(oP 10 (.call 14 [(.const (.c (.str [97, 123, 125]))), (.const (.c (.str [49])))])), (mV 9 10), (oP 11 (.ext (.tmp 9) 0)), (oP 12 (.ext (.tmp 9) 1)), (mV 3 11), (mV 4 12)]
 (sr [(oP 14 (.load true 2 (.tmp 1))), (oP 15 (.call 15 [(.tmp 14)])), (mV 13 15), (oP 16 (.ext (.tmp 13) 0)), (oP 17 (.ext (.tmp 13) 1)), (mV 5 16), (mV 6 17)]
 (.seq (sr [(mV 18 6), (oP 19 (.load true 2 (.tmp 1))), (oP 20 (.call 16 [(.tmp 19)])), (oP 21 (.bin .neq (.tmp 18) (.tmp 20))), (mV 22 21), ⟨(some 23), (.mov (.tmp 4)), (some (22, false))⟩, ⟨(some 24), (.bin .neq (.tmp 23) (kI 3)), (some (22, false))⟩, (oP 25 (.pick (.tmp 22) kT (.tmp 24)))]
 (.cond (.tmp 25) (sr [(oP 2 (.mov kF))]
 .ret) .skip))
 (.seq (sr [(mV 26 6), (oP 27 (.bin .neq (.tmp 26) (kI 0)))]
 (.cond (.tmp 27) (sr [(mV 28 5), (oP 29 (.len (.tmp 28))), (oP 30 (.bin .eql (.tmp 29) (kI 0))), (mV 2 30)]
 .ret) .skip))
 (.seq (sr [(oP 7 (.mov (kI 0)))]
 (.block 0 (.loop a4_c2)))
 (sr [(mV 50 5), (oP 51 (.len (.tmp 50))), (oP 52 (.faddr 0 (.tmp 1))), (oP 53 (.load false 1 (.tmp 52))), (oP 54 (.len (.tmp 53))), (oP 55 (.bin .eql (.tmp 51) (.tmp 54))), (mV 2 55)]
 .ret)))))))⟩
theorem c4 : compFunc Tryz.prog 4 = some a4 := by kernel_rfl
def Z5u (r : Bool) : AV → Heap → Nat → Prop := fun v h' n' => v = (B r) ∧ (h' = e0) ∧ n' = 0
abbrev Zd9 (mL : Int) (Q : AExit → St → Prop) : AExit → St → Prop := AThen (Sv Tryz.prog (GG mL) 0 a4_c1 Q) Q
abbrev Zda (mL : Int) (Q : AExit → St → Prop) : AExit → St → Prop := ABlock 1 (Zd9 mL Q)
abbrev Z92 (d_ : TDoc) (F_ : TT → Int → Option Bool) (o : Bool) (R_ : St → Prop) : Prop := ∀ (l_ : TT) (n_ : Int) (zl : Bool) (_ : zl = true → l_ = []), F_ l_ n_ = some o → ∀ s, Weak 0 s ⟨(ue [(7, (I n_)), (5, (lstV zl 1 1 l_.length)), (1, (.c (.ref 0 2 0 0)))]), (upd (upd e0 0 (some (.cells 2 [(e_TDoc d_)]))) 1 (lstB zl 1 (l_.map eStr))), 2⟩ → R_ s
abbrev Z93 (d_ : TDoc) (F_ : TT → Option Bool) (o : Bool) (R_ : St → Prop) : Prop := ∀ (l_1 : TT) (zl_1 : Bool) (_ : zl_1 = true → l_1 = []), F_ l_1 = some o → ∀ s, Weak 0 s ⟨(ue [(5, (lstV zl_1 1 1 l_1.length)), (1, (.c (.ref 0 2 0 0)))]), (upd (upd e0 0 (some (.cells 2 [(e_TDoc d_)]))) 1 (lstB zl_1 1 (l_1.map eStr))), 2⟩ → R_ s
noncomputable def Z44 (n_ : Int) (d_ : TDoc) (self : TT → Int → Option Bool) (K0_ : TT → Option Bool) (l_2 : TT) (want : Tx) : Option Bool :=
 (at? l_2 n_).bind fun x_ =>
 if (!decide (x_ = want)) then
  some false
 else
  self l_2 (wi (n_ + 1))
theorem Z94 {mL : Int} {Q : AExit → St → Prop} {n_ : Int} {d_ : TDoc} {self : TT → Int → Option Bool} {K0_ : TT → Option Bool} {l_2 : TT} {want : Tx} {zl_2 : Bool} (hzl_2 : zl_2 = true → l_2 = []) {o : Bool} (h : Z44 n_ d_ self K0_ l_2 want = some o)
  (hself : Z92 d_ self o (Q .normal))
  (hK0 : Z93 d_ K0_ o (Q (.exit 0)))
  (hr : ∀ s, Ends a4.results 0 (Z5u o) .ret s → Q .ret s) :
  Sv Tryz.prog (GG mL) 0 a4_c0 (Zda mL Q) ⟨(ue [(8, (S want)), (7, (I n_)), (5, (lstV zl_2 1 1 l_2.length)), (1, (.c (.ref 0 2 0 0)))]), (upd (upd e0 0 (some (.cells 2 [(e_TDoc d_)]))) 1 (lstB zl_2 1 (l_2.map eStr))), 2⟩ := by
 unfold Z44 at h
 refine ssr <| un1 rfl <| un1 rfl ?_
 obtain ⟨x_, hx1, h⟩ := bnd h
 refine un1 (v := (.c (.ref 1 1 n_.toNat 0))) (s_iaddrL rfl rfl hzl_2 hx1) <| un1 (v := (S x_)) (s_loadL (z := zl_2) (e := eStr) rfl rfl hzl_2 hx1 rfl rfl) <| un1 rfl <| un1 (v := (B (!decide (x_ = want)))) rfl <| dnil ?_
 refine Sv.cnd rfl h (fun h => ?_) fun h => ?_
 ·refine ssr <| un1 rfl <| dnil <| Sv.ret ?_
  exact hr _ (rt0 h rfl rfl ⟨rfl, rfl, rfl⟩)
 ·refine Sv.skip <| srg <| un1 rfl <| un1 (v := (I (wi (n_ + 1)))) rfl <| un1 rfl <| dnil ?_
  exact hself l_2 (wi (n_ + 1)) zl_2 hzl_2 h _ (wcn [0, 1] rfl (.cf rfl rfl (.cons rfl (.c (lsr rfl rfl)) (.cr rfl rfl rfl .nil))) (.row (by decide) rfl (fr_map fun _ => rfl) (.box (by decide) rfl (blkAs_cells (.sm rfl (.sm rfl .nil))) .nil)))
abbrev Z95 (d_ : TDoc) (F_ : Nat → TT → Int → Option Bool) (o : Bool) : Nat → St → Prop := fun k s => ∃ (l_ : TT), ∃ (n_ : Int), ∃ (zl : Bool), (zl = true → l_ = []) ∧ F_ k l_ n_ = some o ∧ s = ⟨(ue [(7, (I n_)), (5, (lstV zl 1 1 l_.length)), (1, (.c (.ref 0 2 0 0)))]), (upd (upd e0 0 (some (.cells 2 [(e_TDoc d_)]))) 1 (lstB zl 1 (l_.map eStr))), 2⟩
noncomputable def Z12 (d_ : TDoc) (K0_ : TT → Option Bool) : Nat → TT → Int → Option Bool
 | 0, _, _ => none
 | k + 1, l_, n_ =>
  if decide (n_ < (d_.Nodes.length : Int)) then
   (Z2l d_ n_).bind fun r_3 =>
   if r_3 then
    (Z43 d_ n_).bind fun r_4 =>
    Z44 n_ d_ (Z12 d_ K0_ k) K0_ l_ r_4
   else
    Z44 n_ d_ (Z12 d_ K0_ k) K0_ l_ []
  else
   K0_ l_
theorem Zdb {mL : Int} {Q : AExit → St → Prop} {d_ : TDoc} {K0_ : TT → Option Bool} {k : Nat} {l_ : TT} {n_ : Int} {zl : Bool} (hzl : zl = true → l_ = []) {o : Bool} (h : Z12 d_ K0_ k l_ n_ = some o)
  (hK0 : Z93 d_ K0_ o (Q (.exit 0)))
  (hr : ∀ s, Ends a4.results 0 (Z5u o) .ret s → Q .ret s) :
  Sv Tryz.prog (GG mL) 0 (.loop a4_c2) Q ⟨(ue [(7, (I n_)), (5, (lstV zl 1 1 l_.length)), (1, (.c (.ref 0 2 0 0)))]), (upd (upd e0 0 (some (.cells 2 [(e_TDoc d_)]))) 1 (lstB zl 1 (l_.map eStr))), 2⟩ := by
 refine Sv.loop (I := Z95 d_ (Z12 d_ K0_) o) (fun k s hI => ?_) ⟨l_, n_, zl, hzl, h, rfl⟩
 clear h
 clear hzl zl n_ l_
 obtain ⟨l_, n_, zl, hzl, h, rfl⟩ := hI
 cases k with
 | zero => cases h
 | succ k =>
 rw [Z12] at h
 have hself : Z92 d_ (Z12 d_ K0_ k) o (rnd 0 (Z95 d_ (Z12 d_ K0_) o) k Q) := fun l_ n_ zl hzl h s hw => ⟨_, k, hw, Nat.lt_succ_self k, l_, n_, zl, hzl, h, rfl⟩
 refine Sv.seq <| ssr <| un1 rfl <| un1 (v := (.c (.ref 0 2 0 0))) rfl <| un1 (v := (.c (.ro false 6 (d_.Nodes.map e_TNode)))) rfl <| un1 (v := (I (d_.Nodes.length : Int))) (s_len (e := e_TNode) (xs := d_.Nodes) rfl) <| un1 (v := (B (decide (n_ < (d_.Nodes.length : Int))))) rfl <| dnil ?_
 refine Sv.cnd rfl h (fun h => ?_) fun h => ?_
 ·refine Sv.skip <| Sv.seq <| Sv.block <| ssr <| un1 rfl <| dnil <| Sv.seq <| ssr <| un1 (v := (.agg (e_TDoc d_))) rfl <| un1 rfl ?_
  obtain ⟨r_3, hr4, h⟩ := bnd h
  refine un <| ac_pure (Z7s hr4) rfl rfl rfl <| dnil ?_
  refine Sv.cnd rfl h (fun h => ?_) fun h => ?_
  ·refine srg <| un1 (v := (.agg (e_TDoc d_))) rfl <| un1 rfl ?_
   obtain ⟨r_4, hr5, h⟩ := bnd h
   refine un <| ac_pure (Zd8 hr5) rfl rfl rfl <| un1 rfl <| dnil ?_
   exact Sv.weak (wcn [0, 1] rfl (.cf rfl rfl (.cf rfl rfl (.cons rfl (.c (lsr rfl rfl)) (.cr rfl rfl rfl .nil)))) (.row (by decide) rfl (fr_map fun _ => rfl) (.box (by decide) rfl (blkAs_cells (.sm rfl (.sm rfl .nil))) .nil))) (Z94 hzl h hself hK0 hr)
  ·refine Sv.skip ?_
   exact Sv.weak (wcn [0, 1] rfl (.cf rfl rfl (.cf rfl rfl (.cons rfl (.c (lsr rfl rfl)) (.cr rfl rfl rfl .nil)))) (.row (by decide) rfl (fr_map fun _ => rfl) (.box (by decide) rfl (blkAs_cells (.sm rfl (.sm rfl .nil))) .nil))) (Z94 hzl h hself hK0 hr)
 ·refine Sv.exit ?_
  exact hK0 l_ zl hzl h _ (wcn [0, 1] rfl (.cons rfl (.c (lsr rfl rfl)) (.cr rfl rfl rfl .nil)) (.row (by decide) rfl (fr_map fun _ => rfl) (.box (by decide) rfl (blkAs_cells (.sm rfl (.sm rfl .nil))) .nil)))
/-- clerestory/clerestorylaw2.LookOwners -/
noncomputable def Z4o (d_ : TDoc) : Option Bool :=
 (Z39 [97, 123, 125] [49]).bind fun r_ =>
 (Z4e d_).bind fun r_1 =>
 (Z2i d_).bind fun r_2 =>
 if ((!decide (r_1.2 = r_2)) || (!decide (r_.2 = 3))) then
  some false
 else
  if (!decide (r_1.2 = 0)) then
   some (decide ((r_1.1.length : Int) = 0))
  else
   lim fun kk => Z12 d_ (fun (l_1 : TT) => 
     some (decide ((l_1.length : Int) = (d_.Nodes.length : Int)))) kk r_1.1 0
theorem Zdc {mL : Int} {d_ : TDoc} {r : Bool} (h : Z4o d_ = some r) : CPure Tryz.prog (GG mL) 4 [(.agg (e_TDoc d_))] (B r) := by
 refine acalls_of_sv hmix c4 (R := Z5u r) ?_
 unfold Z4o at h
 refine ssr <| un <| a2v (v := (.c (.ref 0 2 0 0))) (h' := upd _ 0 (some (.cells 2 [(e_TDoc d_)]))) (n' := 1) rfl rfl hcs <| un1 rfl <| dnil <| ssr ?_
 obtain ⟨r_, hr1, h⟩ := bnd h
 refine un <| ac_pure (Za8 hr1) rfl rfl rfl <| un1 rfl <| un1 (v := (S r_.1)) rfl <| un1 (v := (I r_.2)) rfl <| un1 rfl <| un1 rfl <| dnil <| ssr <| un1 (v := (.agg (e_TDoc d_))) rfl ?_
 obtain ⟨r_1, hr2, h⟩ := bnd h
 refine un <| ac_gen (bs := []) («as» := [(.agg (e_TDoc d_))]) (h2 := _) (h1 := e0) (Zbv hr2) rfl (.cons (avAs_free rfl) .nil) (hsub_refl _) (.nil _) (fun _ => rfl) (by decide) (by decide) (.cons (avAs_free rfl) .nil) .nil ?_
 rintro _ _ _ hn ⟨z_, hz_, rfl, rfl, rfl⟩
 refine ⟨.inl rfl, (upd (rem [] _) 1 (lstB z_ 1 (r_1.1.map eStr))), fun hbd => (m3_cons (m3_row rfl (fr_map fun _ => rfl)) (m3_rem (in_nil _) (.cons (by decide) .nil) hbd)), (.tup [(lstV z_ 1 1 r_1.1.length), (I r_1.2)]), 2, (by cases z_ <;> rfl), rfl, ?_⟩
 refine un1 rfl <| un1 (v := (lstV z_ 1 1 r_1.1.length)) rfl <| un1 (v := (I r_1.2)) rfl <| un1 rfl <| un1 rfl <| dnil <| Sv.seq <| ssr <| un1 rfl <| un1 (v := (.agg (e_TDoc d_))) rfl ?_
 obtain ⟨r_2, hr3, h⟩ := bnd h
 refine un <| ac_pure (Z7i hr3) rfl rfl rfl <| un1 (v := (B (!decide (r_1.2 = r_2)))) rfl <| un1 rfl ?_
 refine gjoin 3 (d := 25) (v := (B ((!decide (r_1.2 = r_2)) || (!decide (r_.2 = 3))))) (fun X hX => ?_) ?_
 ·refine split2 (fun hc1 => ?_) (fun hc1 => ?_)
  ·refine gs rfl rfl <| gs rfl rfl <| un1 (v := (B true)) rfl <| dnil ?_
   exact hX _ (.putEq (by rw [hc1]; rfl) (.skp (.skp (.putEq (by rw [hc1]) (.refl _)) rfl) rfl))
  ·refine gt rfl <| a1 rfl <| gt rfl <| a1 (v := (B (!decide (r_.2 = 3)))) rfl <| un1 (v := (B (!decide (r_.2 = 3)))) rfl <| dnil ?_
   exact hX _ (.putEq (by rw [hc1]; rfl) (.skp (.skp (.putEq (by rw [hc1]) (.refl _)) rfl) rfl))
 refine dnil ?_
 refine Sv.cnd rfl h (fun h => ?_) fun h => ?_
 ·refine ssr <| un1 rfl <| dnil <| Sv.ret ?_
  exact rt0 h rfl rfl ⟨rfl, rfl, rfl⟩
 ·refine Sv.skip <| Sv.seq <| ssr <| un1 rfl <| un1 (v := (B (!decide (r_1.2 = 0)))) rfl <| dnil ?_
  refine Sv.cnd rfl h (fun h => ?_) fun h => ?_
  ·refine ssr <| un1 rfl <| un1 (v := (I (r_1.1.length : Int))) (s_lenL rfl (len_nil_of hz_)) <| un1 (v := (B (decide ((r_1.1.length : Int) = 0)))) rfl <| un1 rfl <| dnil <| Sv.ret ?_
   exact rt0 h rfl rfl ⟨rfl, rfl, rfl⟩
  ·refine Sv.skip <| Sv.seq <| ssr <| un1 rfl <| dnil <| Sv.block ?_
   obtain ⟨kk, h⟩ := lim_some h
   refine Sv.weak (wcn [0, 1] rfl (.cf rfl rfl (.cons rfl (.c (lsr rfl rfl)) (.cr rfl rfl rfl .nil))) (.row (by decide) rfl (fr_map fun _ => rfl) (.box (by decide) rfl (blkAs_cells (.sm rfl (.sm rfl .nil))) .nil))) (Zdb hz_ h ?_ (fun s hs => hs))
   ·intro l_1 zl_1 hzl_1 h _ hw1
    refine Sv.weak hw1 <| ssr <| un1 rfl <| un1 (v := (I (l_1.length : Int))) (s_lenL rfl (len_nil_of hzl_1)) <| un1 (v := (.c (.ref 0 2 0 0))) rfl <| un1 (v := (.c (.ro false 6 (d_.Nodes.map e_TNode)))) rfl <| un1 (v := (I (d_.Nodes.length : Int))) (s_len (e := e_TNode) (xs := d_.Nodes) rfl) <| un1 (v := (B (decide ((l_1.length : Int) = (d_.Nodes.length : Int))))) rfl <| un1 rfl <| dnil <| Sv.ret ?_
    exact rt0 h rfl rfl ⟨rfl, rfl, rfl⟩
end Go.Proofs.YtaejmblphhjccaaGreatDoorBv
