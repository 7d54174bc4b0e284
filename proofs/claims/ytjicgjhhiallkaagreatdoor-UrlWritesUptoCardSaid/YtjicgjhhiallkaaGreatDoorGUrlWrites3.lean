/- Printed by a program of mine (bgen.py): plain functions, and the walks that show that the code comes to what they answer. -/
import Derived.Test.YtjicgjhhiallkaaGreatDoorGUrlWrites2
namespace Go.Proofs.YtjicgjhhiallkaaGreatDoorBv
open Go
set_option linter.unusedVariables false
set_option linter.unusedSimpArgs false
set_option maxRecDepth 100000
def a9_c0 : ACode := (.seq (.region [(oP 17 (.bin .lss (.tmp 16) (.tmp 15)))])
 (.seq (.cond (.tmp 17) .skip (.exit 0))
 (.seq (.block 1 (.seq (.region [(mV 18 16), (mV 5 18)])
 (.seq (.drawn (.fin [((oP 19 (.faddr 3 (.tmp 2))), (0, 0)), ((oP 20 (.load false 1 (.tmp 19))), (0, 1)), ((mV 21 5), (0, 2)), ((oP 22 (.iaddr 1 (.tmp 20) (.tmp 21))), (0, 3)), ((oP 23 (.load false 1 (.tmp 22))), (0, 4)), ((oP 24 (.faddr 3 (.tmp 3))), (0, 5)), ((oP 25 (.load false 1 (.tmp 24))), (0, 6)), ((mV 26 5), (0, 7)), ((oP 27 (.iaddr 1 (.tmp 25) (.tmp 26))), (0, 8)), ((oP 28 (.load false 1 (.tmp 27))), (0, 9)), ((oP 29 (.bin .neq (.tmp 23) (.tmp 28))), (0, 10))]))
 (.cond (.tmp 29) (.seq (.region [⟨(some 4), (.mov (.const (.c (.val (.bool false))))), none⟩])
 .ret) .skip))))
 (.region [⟨(some 30), (.bin .add (.tmp 16) (kI 1)), none⟩, (mV 16 30)]))))
def a9 : AFunc := ⟨2, [(.tmp 4)], (.seq (.region [(oP 2 (.box (.tmp 0))), (oP 3 (.box (.tmp 1))), ⟨(some 4), (.mov (.const (.c (.val (.bool false))))), none⟩])
 (.seq (.seq (.region [(oP 6 (.faddr 3 (.tmp 2))), (oP 7 (.load false 1 (.tmp 6))), (oP 8 (.len (.tmp 7))), (oP 9 (.faddr 3 (.tmp 3))), (oP 10 (.load false 1 (.tmp 9))), (oP 11 (.len (.tmp 10))), (oP 12 (.bin .neq (.tmp 8) (.tmp 11)))])
 (.cond (.tmp 12) (.seq (.region [⟨(some 4), (.mov (.const (.c (.val (.bool false))))), none⟩])
 .ret) .skip))
 (.seq (.seq (.region [(oP 13 (.faddr 3 (.tmp 2))), (oP 14 (.load false 1 (.tmp 13))), (oP 15 (.len (.tmp 14))), ⟨(some 16), (.mov (kI 0)), none⟩])
 (.block 0 (.loop a9_c0)))
 (.seq (.region [(oP 31 (.faddr 0 (.tmp 2))), (oP 32 (.load false 1 (.tmp 31))), (oP 33 (.faddr 0 (.tmp 3))), (oP 34 (.load false 1 (.tmp 33))), (oP 35 (.bin .eql (.tmp 32) (.tmp 34))), (mV 36 35), ⟨(some 37), (.faddr 1 (.tmp 2)), (some (36, true))⟩, ⟨(some 38), (.load false 1 (.tmp 37)), (some (36, true))⟩, ⟨(some 39), (.faddr 1 (.tmp 3)), (some (36, true))⟩, ⟨(some 40), (.load false 1 (.tmp 39)), (some (36, true))⟩, ⟨(some 41), (.bin .eql (.tmp 38) (.tmp 40)), (some (36, true))⟩, ⟨(some 42), (.pick (.tmp 36) (.tmp 41) (.const (.c (.val (.bool false))))), none⟩, (mV 43 42), ⟨(some 44), (.faddr 2 (.tmp 2)), (some (43, true))⟩, ⟨(some 45), (.load false 1 (.tmp 44)), (some (43, true))⟩, ⟨(some 46), (.faddr 2 (.tmp 3)), (some (43, true))⟩, ⟨(some 47), (.load false 1 (.tmp 46)), (some (43, true))⟩, ⟨(some 48), (.bin .eql (.tmp 45) (.tmp 47)), (some (43, true))⟩, ⟨(some 49), (.pick (.tmp 43) (.tmp 48) (.const (.c (.val (.bool false))))), none⟩, (mV 50 49), ⟨(some 51), (.faddr 4 (.tmp 2)), (some (50, true))⟩, ⟨(some 52), (.load false 1 (.tmp 51)), (some (50, true))⟩, ⟨(some 53), (.faddr 4 (.tmp 3)), (some (50, true))⟩, ⟨(some 54), (.load false 1 (.tmp 53)), (some (50, true))⟩, ⟨(some 55), (.bin .eql (.tmp 52) (.tmp 54)), (some (50, true))⟩, ⟨(some 56), (.pick (.tmp 50) (.tmp 55) (.const (.c (.val (.bool false))))), none⟩, (mV 57 56), ⟨(some 58), (.faddr 5 (.tmp 2)), (some (57, true))⟩, ⟨(some 59), (.load false 1 (.tmp 58)), (some (57, true))⟩, ⟨(some 60), (.faddr 5 (.tmp 3)), (some (57, true))⟩, ⟨(some 61), (.load false 1 (.tmp 60)), (some (57, true))⟩, ⟨(some 62), (.eqs false false [.b] (.tmp 59) (.tmp 61)), (some (57, true))⟩, ⟨(some 63), (.pick (.tmp 57) (.tmp 62) (.const (.c (.val (.bool false))))), none⟩, (mV 64 63), ⟨(some 65), (.faddr 6 (.tmp 2)), (some (64, true))⟩, ⟨(some 66), (.load false 1 (.tmp 65)), (some (64, true))⟩, ⟨(some 67), (.faddr 6 (.tmp 3)), (some (64, true))⟩, ⟨(some 68), (.load false 1 (.tmp 67)), (some (64, true))⟩, ⟨(some 69), (.bin .eql (.tmp 66) (.tmp 68)), (some (64, true))⟩, ⟨(some 70), (.pick (.tmp 64) (.tmp 69) (.const (.c (.val (.bool false))))), none⟩, (mV 71 70), ⟨(some 72), (.faddr 7 (.tmp 2)), (some (71, true))⟩, ⟨(some 73), (.load false 1 (.tmp 72)), (some (71, true))⟩, ⟨(some 74), (.faddr 7 (.tmp 3)), (some (71, true))⟩, ⟨(some 75), (.load false 1 (.tmp 74)), (some (71, true))⟩, ⟨(some 76), (.eqs false false [.b] (.tmp 73) (.tmp 75)), (some (71, true))⟩, ⟨(some 77), (.pick (.tmp 71) (.tmp 76) (.const (.c (.val (.bool false))))), none⟩, (mV 4 77)])
 .ret))))⟩
set_option maxRecDepth 100000 in
theorem c9 : compFunc Tryz.prog 9 = some a9 := by kernel_rfl
def r4_SameUrl_post (r : Bool) : AV → Heap → Nat → Prop := fun v h' n' => v = (B r) ∧ (h' = e0) ∧ n' = 0
noncomputable def r4_SameUrl_l0 (a_ : TJUrl) (b_ : TJUrl) (K0_ : Unit → Option Bool) : Nat → Int → Option Bool
 | 0, _ => none
 | k + 1, v16 =>
  if decide (v16 < (a_.Path.length : Int)) then
   (at? a_.Path v16).bind fun x_ =>
   (at? b_.Path v16).bind fun x_1 =>
   if (!decide (x_ = x_1)) then
    some false
   else
    (r4_SameUrl_l0 a_ b_ K0_ k) (wi (v16 + 1))
  else
   K0_ ()
theorem r4_SameUrl_l0_ok {mL : Int} {Q : AExit → St → Prop} {a_ : TJUrl} {b_ : TJUrl} {K0_ : Unit → Option Bool} {k : Nat} {v16 : Int} {o : Bool} (h : r4_SameUrl_l0 a_ b_ K0_ k v16 = some o)
  (hK0 : ∀ (_ : Unit), K0_ () = some o → ∀ s, Weak 0 s ⟨(upd (upd e0 2 (some (.c (.ref 0 8 0 0)))) 3 (some (.c (.ref 1 8 0 0)))), (upd (upd e0 0 (some (.cells 8 [[.str a_.Scheme, .str a_.Host, cI a_.Port, .ro false 1 (a_.Path.map eStr), .str a_.Query, cB a_.Asks, .str a_.Fragment, cB a_.Points]]))) 1 (some (.cells 8 [[.str b_.Scheme, .str b_.Host, cI b_.Port, .ro false 1 (b_.Path.map eStr), .str b_.Query, cB b_.Asks, .str b_.Fragment, cB b_.Points]]))), 2⟩ → Q (.exit 0) s)
  (hr : ∀ s, Ends a9.results 0 (r4_SameUrl_post o) .ret s → Q .ret s) :
  Sv Tryz.prog (GG mL) 0 (.loop a9_c0) Q ⟨(upd (upd (upd (upd e0 2 (some (.c (.ref 0 8 0 0)))) 3 (some (.c (.ref 1 8 0 0)))) 15 (some (I (a_.Path.length : Int)))) 16 (some (I v16))), (upd (upd e0 0 (some (.cells 8 [[.str a_.Scheme, .str a_.Host, cI a_.Port, .ro false 1 (a_.Path.map eStr), .str a_.Query, cB a_.Asks, .str a_.Fragment, cB a_.Points]]))) 1 (some (.cells 8 [[.str b_.Scheme, .str b_.Host, cI b_.Port, .ro false 1 (b_.Path.map eStr), .str b_.Query, cB b_.Asks, .str b_.Fragment, cB b_.Points]]))), 2⟩ := by
 refine Sv.loop (I := fun k s => ∃ (v16 : Int), r4_SameUrl_l0 a_ b_ K0_ k v16 = some o ∧ s = ⟨(upd (upd (upd (upd e0 2 (some (.c (.ref 0 8 0 0)))) 3 (some (.c (.ref 1 8 0 0)))) 15 (some (I (a_.Path.length : Int)))) 16 (some (I v16))), (upd (upd e0 0 (some (.cells 8 [[.str a_.Scheme, .str a_.Host, cI a_.Port, .ro false 1 (a_.Path.map eStr), .str a_.Query, cB a_.Asks, .str a_.Fragment, cB a_.Points]]))) 1 (some (.cells 8 [[.str b_.Scheme, .str b_.Host, cI b_.Port, .ro false 1 (b_.Path.map eStr), .str b_.Query, cB b_.Asks, .str b_.Fragment, cB b_.Points]]))), 2⟩) (fun k s hI => ?_) ⟨v16, h, rfl⟩
 clear h
 clear v16
 obtain ⟨v16, h, rfl⟩ := hI
 cases k with
 | zero => cases h
 | succ k =>
 rw [r4_SameUrl_l0] at h
 have hself : ∀ (v16 : Int), (r4_SameUrl_l0 a_ b_ K0_ k) v16 = some o → ∀ s, Weak 0 s ⟨(upd (upd (upd (upd e0 2 (some (.c (.ref 0 8 0 0)))) 3 (some (.c (.ref 1 8 0 0)))) 15 (some (I (a_.Path.length : Int)))) 16 (some (I v16))), (upd (upd e0 0 (some (.cells 8 [[.str a_.Scheme, .str a_.Host, cI a_.Port, .ro false 1 (a_.Path.map eStr), .str a_.Query, cB a_.Asks, .str a_.Fragment, cB a_.Points]]))) 1 (some (.cells 8 [[.str b_.Scheme, .str b_.Host, cI b_.Port, .ro false 1 (b_.Path.map eStr), .str b_.Query, cB b_.Asks, .str b_.Fragment, cB b_.Points]]))), 2⟩ → (AThen (fun s' => ∃ s'' k', Weak 0 s' s'' ∧ k' < k + 1 ∧ (fun k s => ∃ (v16 : Int), r4_SameUrl_l0 a_ b_ K0_ k v16 = some o ∧ s = ⟨(upd (upd (upd (upd e0 2 (some (.c (.ref 0 8 0 0)))) 3 (some (.c (.ref 1 8 0 0)))) 15 (some (I (a_.Path.length : Int)))) 16 (some (I v16))), (upd (upd e0 0 (some (.cells 8 [[.str a_.Scheme, .str a_.Host, cI a_.Port, .ro false 1 (a_.Path.map eStr), .str a_.Query, cB a_.Asks, .str a_.Fragment, cB a_.Points]]))) 1 (some (.cells 8 [[.str b_.Scheme, .str b_.Host, cI b_.Port, .ro false 1 (b_.Path.map eStr), .str b_.Query, cB b_.Asks, .str b_.Fragment, cB b_.Points]]))), 2⟩) k' s'') Q) .normal s := fun v16 h s hw => ⟨_, k, hw, Nat.lt_succ_self k, v16, h, rfl⟩
 refine ssr <| un1 (v := (B (decide (v16 < (a_.Path.length : Int))))) rfl <| dnil <| Sv.seq ?_
 refine Sv.cond (b := decide (v16 < (a_.Path.length : Int))) rfl (fun hc2 => ?_) (fun hc2 => ?_)
 ·replace h := ifT hc2 h
  refine Sv.skip <| Sv.seq <| Sv.block <| ssr <| un1 rfl <| un1 rfl <| dnil <| Sv.seq <| Sv.drawn <| un1 (v := (.c (.ref 0 8 0 3))) rfl <| un1 (v := (.c (.ro false 1 (a_.Path.map eStr)))) rfl <| un1 rfl ?_
  obtain ⟨x_, hx1, h⟩ := bnd h
  refine un1 (v := (.c (.rop [.str x_]))) (s_iaddr (e := eStr) (xs := a_.Path) rfl rfl hx1) <| un1 (v := (S x_)) rfl <| un1 (v := (.c (.ref 1 8 0 3))) rfl <| un1 (v := (.c (.ro false 1 (b_.Path.map eStr)))) rfl <| un1 rfl ?_
  obtain ⟨x_1, hx2, h⟩ := bnd h
  refine un1 (v := (.c (.rop [.str x_1]))) (s_iaddr (e := eStr) (xs := b_.Path) rfl rfl hx2) <| un1 (v := (S x_1)) rfl <| un1 (v := (B (!decide (x_ = x_1)))) rfl <| dnil ?_
  refine Sv.cond (b := (!decide (x_ = x_1))) rfl (fun hc3 => ?_) (fun hc3 => ?_)
  ·replace h := ifT hc3 h
   refine ssr <| un1 rfl <| dnil <| Sv.ret ?_
   replace h := Option.some.inj h
   subst h
   exact hr _ ⟨_, .refl _, _, rfl, ⟨upd e0 0 (some (B false)), e0, 0⟩, (B false), weak_canon [] rfl List.nodup_nil (Nat.le_refl _) nlz (.cf rfl rfl .nil) .nil, rfl, rfl, rfl, rfl⟩
  ·replace h := ifF hc3 h
   refine Sv.skip <| srg <| un1 (v := (I (wi (v16 + 1)))) rfl <| un1 rfl <| dnil ?_
   exact hself (wi (v16 + 1)) h _ (wcn [0, 1] rfl (.cf rfl rfl (.cf rfl rfl (.cons rfl (.c (.ref rfl (by decide))) (.cons rfl (.c (.ref rfl (by decide))) .nil)))) (.box (by decide) rfl (blkAs_cells (.sm rfl (.sm rfl (.sm rfl (.sm rfl (.sm rfl (.sm rfl (.sm rfl (.sm rfl .nil))))))))) (.box (by decide) rfl (blkAs_cells (.sm rfl (.sm rfl (.sm rfl (.sm rfl (.sm rfl (.sm rfl (.sm rfl (.sm rfl .nil))))))))) .nil)))
 ·replace h := ifF hc2 h
  refine Sv.exit ?_
  exact hK0 () h _ (wcn [0, 1] rfl (.cons rfl (.c (.ref rfl (by decide))) (.cons rfl (.c (.ref rfl (by decide))) .nil)) (.box (by decide) rfl (blkAs_cells (.sm rfl (.sm rfl (.sm rfl (.sm rfl (.sm rfl (.sm rfl (.sm rfl (.sm rfl .nil))))))))) (.box (by decide) rfl (blkAs_cells (.sm rfl (.sm rfl (.sm rfl (.sm rfl (.sm rfl (.sm rfl (.sm rfl (.sm rfl .nil))))))))) .nil)))
/-- clerestory/clerestoryref4.SameUrl -/
noncomputable def r4_SameUrl (a_ : TJUrl) (b_ : TJUrl) : Option Bool :=
 if (!decide ((a_.Path.length : Int) = (b_.Path.length : Int))) then
  some false
 else
  lim fun kk => r4_SameUrl_l0 a_ b_ (fun (_ : Unit) => 
    some (((((((decide (a_.Scheme = b_.Scheme)) && (decide (a_.Host = b_.Host))) && (decide (a_.Port = b_.Port))) && (decide (a_.Query = b_.Query))) && ((a_.Asks == b_.Asks) && true)) && (decide (a_.Fragment = b_.Fragment))) && ((a_.Points == b_.Points) && true))) kk 0
theorem r4_SameUrl_ok {mL : Int} {a_ : TJUrl} {b_ : TJUrl} {r : Bool} (h : r4_SameUrl a_ b_ = some r) : CPure Tryz.prog (GG mL) 9 [(.agg [.str a_.Scheme, .str a_.Host, cI a_.Port, .ro false 1 (a_.Path.map eStr), .str a_.Query, cB a_.Asks, .str a_.Fragment, cB a_.Points]), (.agg [.str b_.Scheme, .str b_.Host, cI b_.Port, .ro false 1 (b_.Path.map eStr), .str b_.Query, cB b_.Asks, .str b_.Fragment, cB b_.Points])] (B r) := by
 refine acalls_of_sv hmix c9 (R := r4_SameUrl_post r) ?_
 unfold r4_SameUrl at h
 refine ssr <| un <| a2v (v := (.c (.ref 0 8 0 0))) (h' := upd _ 0 (some (.cells 8 [[.str a_.Scheme, .str a_.Host, cI a_.Port, .ro false 1 (a_.Path.map eStr), .str a_.Query, cB a_.Asks, .str a_.Fragment, cB a_.Points]]))) (n' := 1) rfl rfl (fun h => by cases h) <| un <| a2v (v := (.c (.ref 1 8 0 0))) (h' := upd _ 1 (some (.cells 8 [[.str b_.Scheme, .str b_.Host, cI b_.Port, .ro false 1 (b_.Path.map eStr), .str b_.Query, cB b_.Asks, .str b_.Fragment, cB b_.Points]]))) (n' := 2) rfl rfl (fun h => by cases h) <| un1 rfl <| dnil <| Sv.seq <| ssr <| un1 (v := (.c (.ref 0 8 0 3))) rfl <| un1 (v := (.c (.ro false 1 (a_.Path.map eStr)))) rfl <| un1 (v := (I (a_.Path.length : Int))) (s_len (e := eStr) (xs := a_.Path) rfl) <| un1 (v := (.c (.ref 1 8 0 3))) rfl <| un1 (v := (.c (.ro false 1 (b_.Path.map eStr)))) rfl <| un1 (v := (I (b_.Path.length : Int))) (s_len (e := eStr) (xs := b_.Path) rfl) <| un1 (v := (B (!decide ((a_.Path.length : Int) = (b_.Path.length : Int))))) rfl <| dnil ?_
 refine Sv.cond (b := (!decide ((a_.Path.length : Int) = (b_.Path.length : Int)))) rfl (fun hc1 => ?_) (fun hc1 => ?_)
 ·replace h := ifT hc1 h
  refine ssr <| un1 rfl <| dnil <| Sv.ret ?_
  replace h := Option.some.inj h
  subst h
  exact ⟨_, .refl _, _, rfl, ⟨upd e0 0 (some (B false)), e0, 0⟩, (B false), weak_canon [] rfl List.nodup_nil (Nat.le_refl _) nlz (.cf rfl rfl .nil) .nil, rfl, rfl, rfl, rfl⟩
 ·replace h := ifF hc1 h
  refine Sv.skip <| Sv.seq <| ssr <| un1 (v := (.c (.ref 0 8 0 3))) rfl <| un1 (v := (.c (.ro false 1 (a_.Path.map eStr)))) rfl <| un1 (v := (I (a_.Path.length : Int))) (s_len (e := eStr) (xs := a_.Path) rfl) <| un1 rfl <| dnil <| Sv.block ?_
  obtain ⟨kk, h⟩ := lim_some h
  refine Sv.weak (wcn [0, 1] rfl (.cf rfl rfl (.cf rfl rfl (.cons rfl (.c (.ref rfl (by decide))) (.cons rfl (.c (.ref rfl (by decide))) .nil)))) (.box (by decide) rfl (blkAs_cells (.sm rfl (.sm rfl (.sm rfl (.sm rfl (.sm rfl (.sm rfl (.sm rfl (.sm rfl .nil))))))))) (.box (by decide) rfl (blkAs_cells (.sm rfl (.sm rfl (.sm rfl (.sm rfl (.sm rfl (.sm rfl (.sm rfl (.sm rfl .nil))))))))) .nil))) (r4_SameUrl_l0_ok h ?_ (fun s hs => hs))
  ·intro _ h _ hw1
   refine Sv.weak hw1 <| ssr <| un1 (v := (.c (.ref 0 8 0 0))) rfl <| un1 (v := (S a_.Scheme)) rfl <| un1 (v := (.c (.ref 1 8 0 0))) rfl <| un1 (v := (S b_.Scheme)) rfl <| un1 (v := (B (decide (a_.Scheme = b_.Scheme)))) rfl <| un1 rfl ?_
   refine gjoin 6 (d := 42) (v := (B ((decide (a_.Scheme = b_.Scheme)) && (decide (a_.Host = b_.Host))))) (fun X hX => ?_) ?_
   ·refine split2 (fun hc4 => ?_) (fun hc4 => ?_)
    ·refine gt rfl <| a1 (v := (.c (.ref 0 8 0 1))) rfl <| gt rfl <| a1 (v := (S a_.Host)) rfl <| gt rfl <| a1 (v := (.c (.ref 1 8 0 1))) rfl <| gt rfl <| a1 (v := (S b_.Host)) rfl <| gt rfl <| a1 (v := (B (decide (a_.Host = b_.Host)))) rfl <| un1 (v := (B (decide (a_.Host = b_.Host)))) rfl <| dnil ?_
     exact hX _ (.putEq (by rw [hc4]; rfl) (.skip _ _ (.skip _ _ (.skip _ _ (.skip _ _ (.skip _ _ (.putEq (by rw [hc4]) (.refl _)) rfl) rfl) rfl) rfl) rfl))
    ·refine gs rfl rfl <| gs rfl rfl <| gs rfl rfl <| gs rfl rfl <| gs rfl rfl <| un1 (v := (B false)) rfl <| dnil ?_
     exact hX _ (.putEq (by rw [hc4]; rfl) (.skip _ _ (.skip _ _ (.skip _ _ (.skip _ _ (.skip _ _ (.putEq (by rw [hc4]) (.refl _)) rfl) rfl) rfl) rfl) rfl))
   refine un1 rfl ?_
   refine gjoin 6 (d := 49) (v := (B (((decide (a_.Scheme = b_.Scheme)) && (decide (a_.Host = b_.Host))) && (decide (a_.Port = b_.Port))))) (fun X hX => ?_) ?_
   ·refine split2 (fun hc5 => ?_) (fun hc5 => ?_)
    ·refine gt rfl <| a1 (v := (.c (.ref 0 8 0 2))) rfl <| gt rfl <| a1 (v := (I a_.Port)) rfl <| gt rfl <| a1 (v := (.c (.ref 1 8 0 2))) rfl <| gt rfl <| a1 (v := (I b_.Port)) rfl <| gt rfl <| a1 (v := (B (decide (a_.Port = b_.Port)))) rfl <| un1 (v := (B (decide (a_.Port = b_.Port)))) rfl <| dnil ?_
     exact hX _ (.putEq (by rw [hc5]; rfl) (.skip _ _ (.skip _ _ (.skip _ _ (.skip _ _ (.skip _ _ (.putEq (by rw [hc5]) (.refl _)) rfl) rfl) rfl) rfl) rfl))
    ·refine gs rfl rfl <| gs rfl rfl <| gs rfl rfl <| gs rfl rfl <| gs rfl rfl <| un1 (v := (B false)) rfl <| dnil ?_
     exact hX _ (.putEq (by rw [hc5]; rfl) (.skip _ _ (.skip _ _ (.skip _ _ (.skip _ _ (.skip _ _ (.putEq (by rw [hc5]) (.refl _)) rfl) rfl) rfl) rfl) rfl))
   refine un1 rfl ?_
   refine gjoin 6 (d := 56) (v := (B ((((decide (a_.Scheme = b_.Scheme)) && (decide (a_.Host = b_.Host))) && (decide (a_.Port = b_.Port))) && (decide (a_.Query = b_.Query))))) (fun X hX => ?_) ?_
   ·refine split2 (fun hc6 => ?_) (fun hc6 => ?_)
    ·refine gt rfl <| a1 (v := (.c (.ref 0 8 0 4))) rfl <| gt rfl <| a1 (v := (S a_.Query)) rfl <| gt rfl <| a1 (v := (.c (.ref 1 8 0 4))) rfl <| gt rfl <| a1 (v := (S b_.Query)) rfl <| gt rfl <| a1 (v := (B (decide (a_.Query = b_.Query)))) rfl <| un1 (v := (B (decide (a_.Query = b_.Query)))) rfl <| dnil ?_
     exact hX _ (.putEq (by rw [hc6]; rfl) (.skip _ _ (.skip _ _ (.skip _ _ (.skip _ _ (.skip _ _ (.putEq (by rw [hc6]) (.refl _)) rfl) rfl) rfl) rfl) rfl))
    ·refine gs rfl rfl <| gs rfl rfl <| gs rfl rfl <| gs rfl rfl <| gs rfl rfl <| un1 (v := (B false)) rfl <| dnil ?_
     exact hX _ (.putEq (by rw [hc6]; rfl) (.skip _ _ (.skip _ _ (.skip _ _ (.skip _ _ (.skip _ _ (.putEq (by rw [hc6]) (.refl _)) rfl) rfl) rfl) rfl) rfl))
   refine un1 rfl ?_
   refine gjoin 6 (d := 63) (v := (B (((((decide (a_.Scheme = b_.Scheme)) && (decide (a_.Host = b_.Host))) && (decide (a_.Port = b_.Port))) && (decide (a_.Query = b_.Query))) && ((a_.Asks == b_.Asks) && true)))) (fun X hX => ?_) ?_
   ·refine split2 (fun hc7 => ?_) (fun hc7 => ?_)
    ·refine gt rfl <| a1 (v := (.c (.ref 0 8 0 5))) rfl <| gt rfl <| a1 (v := (B a_.Asks)) rfl <| gt rfl <| a1 (v := (.c (.ref 1 8 0 5))) rfl <| gt rfl <| a1 (v := (B b_.Asks)) rfl <| gt rfl <| a1 (v := (B ((a_.Asks == b_.Asks) && true))) rfl <| un1 (v := (B ((a_.Asks == b_.Asks) && true))) rfl <| dnil ?_
     exact hX _ (.putEq (by rw [hc7]; rfl) (.skip _ _ (.skip _ _ (.skip _ _ (.skip _ _ (.skip _ _ (.putEq (by rw [hc7]) (.refl _)) rfl) rfl) rfl) rfl) rfl))
    ·refine gs rfl rfl <| gs rfl rfl <| gs rfl rfl <| gs rfl rfl <| gs rfl rfl <| un1 (v := (B false)) rfl <| dnil ?_
     exact hX _ (.putEq (by rw [hc7]; rfl) (.skip _ _ (.skip _ _ (.skip _ _ (.skip _ _ (.skip _ _ (.putEq (by rw [hc7]) (.refl _)) rfl) rfl) rfl) rfl) rfl))
   refine un1 rfl ?_
   refine gjoin 6 (d := 70) (v := (B ((((((decide (a_.Scheme = b_.Scheme)) && (decide (a_.Host = b_.Host))) && (decide (a_.Port = b_.Port))) && (decide (a_.Query = b_.Query))) && ((a_.Asks == b_.Asks) && true)) && (decide (a_.Fragment = b_.Fragment))))) (fun X hX => ?_) ?_
   ·refine split2 (fun hc8 => ?_) (fun hc8 => ?_)
    ·refine gt rfl <| a1 (v := (.c (.ref 0 8 0 6))) rfl <| gt rfl <| a1 (v := (S a_.Fragment)) rfl <| gt rfl <| a1 (v := (.c (.ref 1 8 0 6))) rfl <| gt rfl <| a1 (v := (S b_.Fragment)) rfl <| gt rfl <| a1 (v := (B (decide (a_.Fragment = b_.Fragment)))) rfl <| un1 (v := (B (decide (a_.Fragment = b_.Fragment)))) rfl <| dnil ?_
     exact hX _ (.putEq (by rw [hc8]; rfl) (.skip _ _ (.skip _ _ (.skip _ _ (.skip _ _ (.skip _ _ (.putEq (by rw [hc8]) (.refl _)) rfl) rfl) rfl) rfl) rfl))
    ·refine gs rfl rfl <| gs rfl rfl <| gs rfl rfl <| gs rfl rfl <| gs rfl rfl <| un1 (v := (B false)) rfl <| dnil ?_
     exact hX _ (.putEq (by rw [hc8]; rfl) (.skip _ _ (.skip _ _ (.skip _ _ (.skip _ _ (.skip _ _ (.putEq (by rw [hc8]) (.refl _)) rfl) rfl) rfl) rfl) rfl))
   refine un1 rfl ?_
   refine gjoin 6 (d := 77) (v := (B (((((((decide (a_.Scheme = b_.Scheme)) && (decide (a_.Host = b_.Host))) && (decide (a_.Port = b_.Port))) && (decide (a_.Query = b_.Query))) && ((a_.Asks == b_.Asks) && true)) && (decide (a_.Fragment = b_.Fragment))) && ((a_.Points == b_.Points) && true)))) (fun X hX => ?_) ?_
   ·refine split2 (fun hc9 => ?_) (fun hc9 => ?_)
    ·refine gt rfl <| a1 (v := (.c (.ref 0 8 0 7))) rfl <| gt rfl <| a1 (v := (B a_.Points)) rfl <| gt rfl <| a1 (v := (.c (.ref 1 8 0 7))) rfl <| gt rfl <| a1 (v := (B b_.Points)) rfl <| gt rfl <| a1 (v := (B ((a_.Points == b_.Points) && true))) rfl <| un1 (v := (B ((a_.Points == b_.Points) && true))) rfl <| dnil ?_
     exact hX _ (.putEq (by rw [hc9]; rfl) (.skip _ _ (.skip _ _ (.skip _ _ (.skip _ _ (.skip _ _ (.putEq (by rw [hc9]) (.refl _)) rfl) rfl) rfl) rfl) rfl))
    ·refine gs rfl rfl <| gs rfl rfl <| gs rfl rfl <| gs rfl rfl <| gs rfl rfl <| un1 (v := (B false)) rfl <| dnil ?_
     exact hX _ (.putEq (by rw [hc9]; rfl) (.skip _ _ (.skip _ _ (.skip _ _ (.skip _ _ (.skip _ _ (.putEq (by rw [hc9]) (.refl _)) rfl) rfl) rfl) rfl) rfl))
   refine un1 rfl <| dnil <| Sv.ret ?_
   replace h := Option.some.inj h
   subst h
   exact ⟨_, .refl _, _, rfl, ⟨upd e0 0 (some (B (((((((decide (a_.Scheme = b_.Scheme)) && (decide (a_.Host = b_.Host))) && (decide (a_.Port = b_.Port))) && (decide (a_.Query = b_.Query))) && ((a_.Asks == b_.Asks) && true)) && (decide (a_.Fragment = b_.Fragment))) && ((a_.Points == b_.Points) && true)))), e0, 0⟩, (B (((((((decide (a_.Scheme = b_.Scheme)) && (decide (a_.Host = b_.Host))) && (decide (a_.Port = b_.Port))) && (decide (a_.Query = b_.Query))) && ((a_.Asks == b_.Asks) && true)) && (decide (a_.Fragment = b_.Fragment))) && ((a_.Points == b_.Points) && true))), weak_canon [] rfl List.nodup_nil (Nat.le_refl _) nlz (.cf rfl rfl .nil) .nil, rfl, rfl, rfl, rfl⟩
def a12_c0 : ACode := (.cond (.tmp 23) (.seq (.region [⟨(some 2), (.mov (kI 3)), none⟩])
 .ret) .skip)
def a12_c1 : ACode := (.seq (.region [⟨(some 2), (.mov (kI 0)), none⟩])
 .ret)
def a12 : AFunc := ⟨1, [(.tmp 2)], (.seq (.region [(oP 1 (.box (.tmp 0))), ⟨(some 2), (.mov (kI 0)), none⟩])
 (.seq (.region [(oP 6 (.load true 8 (.tmp 1))), (oP 7 (.call 14 [(.tmp 6)])), (mV 3 7)])
 (.seq (.seq (.region [(mV 8 3), (oP 9 (.lenS (.tmp 8))), ⟨(some 10), (.bin .gtr (.tmp 9) (kI 500)), none⟩])
 (.cond (.tmp 10) (.seq (.region [⟨(some 2), (.mov (kI 2)), none⟩])
 .ret) .skip))
 (.seq (.seq (.region [(mV 12 3), (oP 13 (.call 8 [(.tmp 12)])), (mV 11 13), (oP 14 (.ext (.tmp 11) 0)), (oP 15 (.ext (.tmp 11) 1)), ⟨(some 4), (.box (.const (.agg [(.str []), (.str []), (.val (.int .i64 0)), (.ro true 1 []), (.str []), (.val (.bool false)), (.str []), (.val (.bool false))]))), none⟩, ⟨none, (.store 8 (.tmp 4) (.tmp 14)), none⟩, (mV 5 15)])
 (.seq (.region [(mV 16 5), ⟨(some 17), (.bin .neq (.tmp 16) (kI 0)), none⟩, (mV 18 17), ⟨(some 19), (.load true 8 (.tmp 1)), (some (18, false))⟩, ⟨(some 20), (.load true 8 (.tmp 4)), (some (18, false))⟩, ⟨(some 21), (.call 9 [(.tmp 19), (.tmp 20)]), (some (18, false))⟩, ⟨(some 22), (.un .not (.tmp 21)), (some (18, false))⟩, ⟨(some 23), (.pick (.tmp 18) (.const (.c (.val (.bool true)))) (.tmp 22)), none⟩])
 a12_c0))
 a12_c1))))⟩
set_option maxRecDepth 100000 in
theorem c12 : compFunc Tryz.prog 12 = some a12 := by kernel_rfl
def r4_UrlRight_post (r : Int) : AV → Heap → Nat → Prop := fun v h' n' => v = (I r) ∧ (h' = e0) ∧ n' = 0
abbrev r4_UrlRight_q0 (mL : Int) (o : Int) : AExit → St → Prop := AThen (Sv Tryz.prog (GG mL) 0 a12_c1 (Ends a12.results 0 (r4_UrlRight_post o))) (Ends a12.results 0 (r4_UrlRight_post o))
noncomputable def r4_UrlRight_j1 (v23 : Bool) : Option Int :=
 if v23 then
  some 3
 else
  some 0
theorem r4_UrlRight_j1_ok {mL : Int} {v23 : Bool} {o : Int} (h : r4_UrlRight_j1 v23 = some o) :
  Sv Tryz.prog (GG mL) 0 a12_c0 (r4_UrlRight_q0 mL o) ⟨(upd e0 23 (some (B v23))), e0, 0⟩ := by
 unfold r4_UrlRight_j1 at h
 refine Sv.cond (b := v23) rfl (fun hc2 => ?_) (fun hc2 => ?_)
 ·replace h := ifT hc2 h
  refine ssr <| un1 rfl <| dnil <| Sv.ret ?_
  replace h := Option.some.inj h
  subst h
  exact ⟨_, .refl _, _, rfl, ⟨upd e0 0 (some (I 3)), e0, 0⟩, (I 3), weak_canon [] rfl List.nodup_nil (Nat.le_refl _) nlz (.cf rfl rfl .nil) .nil, rfl, rfl, rfl, rfl⟩
 ·replace h := ifF hc2 h
  refine Sv.skip <| ssr <| un1 rfl <| dnil <| Sv.ret ?_
  replace h := Option.some.inj h
  subst h
  exact ⟨_, .refl _, _, rfl, ⟨upd e0 0 (some (I 0)), e0, 0⟩, (I 0), weak_canon [] rfl List.nodup_nil (Nat.le_refl _) nlz (.cf rfl rfl .nil) .nil, rfl, rfl, rfl, rfl⟩
/-- clerestory/clerestoryref4.UrlRight -/
noncomputable def r4_UrlRight (u_ : TJUrl) : Option Int :=
 (r4_AddressText u_).bind fun r_ =>
 if decide (500 < (r_.length : Int)) then
  some 2
 else
  (r4_Addressed r_).bind fun r_1 =>
  if (!decide (r_1.2 = 0)) then
   r4_UrlRight_j1 true
  else
   (r4_SameUrl u_ r_1.1).bind fun r_2 =>
   r4_UrlRight_j1 (!r_2)
theorem r4_UrlRight_ok {mL : Int} {u_ : TJUrl} {r : Int} (h : r4_UrlRight u_ = some r) : CPure Tryz.prog (GG mL) 12 [(.agg [.str u_.Scheme, .str u_.Host, cI u_.Port, .ro false 1 (u_.Path.map eStr), .str u_.Query, cB u_.Asks, .str u_.Fragment, cB u_.Points])] (I r) := by
 refine acalls_of_sv hmix c12 (R := r4_UrlRight_post r) ?_
 unfold r4_UrlRight at h
 refine ssr <| un <| a2v (v := (.c (.ref 0 8 0 0))) (h' := upd _ 0 (some (.cells 8 [[.str u_.Scheme, .str u_.Host, cI u_.Port, .ro false 1 (u_.Path.map eStr), .str u_.Query, cB u_.Asks, .str u_.Fragment, cB u_.Points]]))) (n' := 1) rfl rfl (fun h => by cases h) <| un1 rfl <| dnil <| ssr <| un1 (v := (.agg [.str u_.Scheme, .str u_.Host, cI u_.Port, .ro false 1 (u_.Path.map eStr), .str u_.Query, cB u_.Asks, .str u_.Fragment, cB u_.Points])) rfl ?_
 obtain ⟨r_, hr1, h⟩ := bnd h
 refine un <| ac_pure (r4_AddressText_ok hr1) rfl rfl rfl <| un1 rfl <| dnil <| Sv.seq <| ssr <| un1 rfl <| un1 (v := (I (r_.length : Int))) rfl <| un1 (v := (B (decide (500 < (r_.length : Int))))) rfl <| dnil ?_
 refine Sv.cond (b := decide (500 < (r_.length : Int))) rfl (fun hc1 => ?_) (fun hc1 => ?_)
 ·replace h := ifT hc1 h
  refine ssr <| un1 rfl <| dnil <| Sv.ret ?_
  replace h := Option.some.inj h
  subst h
  exact ⟨_, .refl _, _, rfl, ⟨upd e0 0 (some (I 2)), e0, 0⟩, (I 2), weak_canon [] rfl List.nodup_nil (Nat.le_refl _) nlz (.cf rfl rfl .nil) .nil, rfl, rfl, rfl, rfl⟩
 ·replace h := ifF hc1 h
  refine Sv.skip <| Sv.seq <| ssr <| un1 rfl ?_
  obtain ⟨r_1, hr2, h⟩ := bnd h
  refine un <| ac_pure (r4_Addressed_ok hr2) rfl rfl rfl <| un1 rfl <| un1 (v := (.agg [.str r_1.1.Scheme, .str r_1.1.Host, cI r_1.1.Port, .ro false 1 (r_1.1.Path.map eStr), .str r_1.1.Query, cB r_1.1.Asks, .str r_1.1.Fragment, cB r_1.1.Points])) rfl <| un1 (v := (I r_1.2)) rfl <| un <| a2v (v := (.c (.ref 1 8 0 0))) (h' := upd _ 1 (some (.cells 8 [[.str [], .str [], cI 0, .ro true 1 [], .str [], cB false, .str [], cB false]]))) (n' := 2) rfl rfl (fun h => by cases h) <| un <| a2n (h' := upd _ 1 (some (.cells 8 [[.str r_1.1.Scheme, .str r_1.1.Host, cI r_1.1.Port, .ro false 1 (r_1.1.Path.map eStr), .str r_1.1.Query, cB r_1.1.Asks, .str r_1.1.Fragment, cB r_1.1.Points]]))) (n' := 2) rfl rfl (fun h => by cases h) <| un1 rfl <| dnil <| ssr <| un1 rfl <| un1 (v := (B (!decide (r_1.2 = 0)))) rfl <| un1 rfl ?_
  refine split2 (fun hc3 => ?_) (fun hc3 => ?_)
  ·replace h := ifT hc3 h
   refine gs rfl rfl <| gs rfl rfl <| gs rfl rfl <| gs rfl rfl <| un1 (v := (B true)) rfl <| dnil ?_
   exact Sv.weak (wcn [] rfl (.cf rfl rfl .nil) .nil) (r4_UrlRight_j1_ok h)
  ·replace h := ifF hc3 h
   refine gt rfl <| a1 (v := (.agg [.str u_.Scheme, .str u_.Host, cI u_.Port, .ro false 1 (u_.Path.map eStr), .str u_.Query, cB u_.Asks, .str u_.Fragment, cB u_.Points])) rfl <| gt rfl <| a1 (v := (.agg [.str r_1.1.Scheme, .str r_1.1.Host, cI r_1.1.Port, .ro false 1 (r_1.1.Path.map eStr), .str r_1.1.Query, cB r_1.1.Asks, .str r_1.1.Fragment, cB r_1.1.Points])) rfl ?_
   obtain ⟨r_2, hr3, h⟩ := bnd h
   refine gt rfl <| ac_pure (r4_SameUrl_ok hr3) rfl rfl rfl <| gt rfl <| a1 (v := (B (!r_2))) rfl <| un1 (v := (B (!r_2))) rfl <| dnil ?_
   exact Sv.weak (wcn [] rfl (.cf rfl rfl .nil) .nil) (r4_UrlRight_j1_ok h)
def a4_c0 : ACode := .ret
def a4 : AFunc := ⟨1, [(.tmp 2)], (.seq (.region [(oP 1 (.box (.tmp 0))), ⟨(some 2), (.mov (.const (.c (.val (.bool false))))), none⟩])
 (.seq (.region [(oP 7 (.load true 8 (.tmp 1))), (oP 8 (.call 11 [(.tmp 7)])), (mV 6 8), (oP 9 (.ext (.tmp 6) 0)), (oP 10 (.ext (.tmp 6) 1)), (mV 3 9), (mV 4 10)])
 (.seq (.region [(oP 11 (.load true 8 (.tmp 1))), (oP 12 (.call 12 [(.tmp 11)])), (mV 5 12)])
 (.seq (.seq (.region [(oP 13 (.load true 8 (.tmp 1))), (oP 14 (.call 13 [(.tmp 13)])), (mV 15 5), (oP 16 (.bin .neq (.tmp 14) (.tmp 15))), (mV 17 16), ⟨(some 18), (.mov (.tmp 4)), (some (17, false))⟩, ⟨(some 19), (.mov (.tmp 5)), (some (17, false))⟩, ⟨(some 20), (.bin .neq (.tmp 18) (.tmp 19)), (some (17, false))⟩, ⟨(some 21), (.pick (.tmp 17) (.const (.c (.val (.bool true)))) (.tmp 20)), none⟩])
 (.cond (.tmp 21) (.seq (.region [⟨(some 2), (.mov (.const (.c (.val (.bool false))))), none⟩])
 .ret) .skip))
 (.seq (.region [(mV 22 5), ⟨(some 23), (.bin .neq (.tmp 22) (kI 0)), none⟩, (mV 24 23), ⟨(some 25), (.mov (.tmp 3)), (some (24, true))⟩, ⟨(some 26), (.bin .eql (.tmp 25) (.const (.c (.str [])))), (some (24, true))⟩, ⟨(some 27), (.pick (.tmp 24) (.tmp 26) (.const (.c (.val (.bool false))))), none⟩, (mV 28 27), ⟨(some 29), (.mov (.tmp 5)), (some (28, false))⟩, ⟨(some 30), (.bin .eql (.tmp 29) (kI 0)), (some (28, false))⟩, ⟨(some 31), (.mov (.tmp 30)), (some (28, false))⟩, ⟨(some 32), (.mov (.tmp 3)), (some (31, true))⟩, ⟨(some 33), (.load true 8 (.tmp 1)), (some (31, true))⟩, ⟨(some 34), (.call 14 [(.tmp 33)]), (some (31, true))⟩, ⟨(some 35), (.bin .eql (.tmp 32) (.tmp 34)), (some (31, true))⟩, ⟨(some 36), (.pick (.tmp 31) (.tmp 35) (.const (.c (.val (.bool false))))), (some (28, false))⟩, ⟨(some 37), (.pick (.tmp 28) (.const (.c (.val (.bool true)))) (.tmp 36)), none⟩, (mV 2 37)])
 a4_c0)))))⟩
set_option maxRecDepth 100000 in
theorem c4 : compFunc Tryz.prog 4 = some a4 := by kernel_rfl
def l4_UrlWrites_post (r : Bool) : AV → Heap → Nat → Prop := fun v h' n' => v = (B r) ∧ (h' = e0) ∧ n' = 0
noncomputable def l4_UrlWrites_j1 (v2 : Bool) : Option Bool :=
 some v2
theorem l4_UrlWrites_j1_ok {mL : Int} {v2 : Bool} {o : Bool} (h : l4_UrlWrites_j1 v2 = some o) :
  Sv Tryz.prog (GG mL) 0 a4_c0 (Ends a4.results 0 (l4_UrlWrites_post o)) ⟨(upd e0 2 (some (B v2))), e0, 0⟩ := by
 unfold l4_UrlWrites_j1 at h
 refine Sv.ret ?_
 replace h := Option.some.inj h
 subst h
 exact ⟨_, .refl _, _, rfl, ⟨upd e0 0 (some (B v2)), e0, 0⟩, (B v2), weak_canon [] rfl List.nodup_nil (Nat.le_refl _) nlz (.cf rfl rfl .nil) .nil, rfl, rfl, rfl, rfl⟩
/-- clerestory/clerestorylaw4.UrlWrites -/
noncomputable def l4_UrlWrites (u_ : TJUrl) : Option Bool :=
 (url_Write u_).bind fun r_ =>
 (r4_UrlRight u_).bind fun r_1 =>
 (url_Check u_).bind fun r_2 =>
 if ((!decide (r_2 = r_1)) || (!decide (r_.2 = r_1))) then
  some false
 else
  if ((!decide (r_1 = 0)) && (decide (r_.1 = []))) then
   l4_UrlWrites_j1 true
  else
   if decide (r_1 = 0) then
    (r4_AddressText u_).bind fun r_3 =>
    l4_UrlWrites_j1 (decide (r_.1 = r_3))
   else
    l4_UrlWrites_j1 false
theorem l4_UrlWrites_ok {mL : Int} {u_ : TJUrl} {r : Bool} (h : l4_UrlWrites u_ = some r) : CPure Tryz.prog (GG mL) 4 [(.agg [.str u_.Scheme, .str u_.Host, cI u_.Port, .ro false 1 (u_.Path.map eStr), .str u_.Query, cB u_.Asks, .str u_.Fragment, cB u_.Points])] (B r) := by
 refine acalls_of_sv hmix c4 (R := l4_UrlWrites_post r) ?_
 unfold l4_UrlWrites at h
 refine ssr <| un <| a2v (v := (.c (.ref 0 8 0 0))) (h' := upd _ 0 (some (.cells 8 [[.str u_.Scheme, .str u_.Host, cI u_.Port, .ro false 1 (u_.Path.map eStr), .str u_.Query, cB u_.Asks, .str u_.Fragment, cB u_.Points]]))) (n' := 1) rfl rfl (fun h => by cases h) <| un1 rfl <| dnil <| ssr <| un1 (v := (.agg [.str u_.Scheme, .str u_.Host, cI u_.Port, .ro false 1 (u_.Path.map eStr), .str u_.Query, cB u_.Asks, .str u_.Fragment, cB u_.Points])) rfl ?_
 obtain ⟨r_, hr1, h⟩ := bnd h
 refine un <| ac_pure (url_Write_ok hr1) rfl rfl rfl <| un1 rfl <| un1 (v := (S r_.1)) rfl <| un1 (v := (I r_.2)) rfl <| un1 rfl <| un1 rfl <| dnil <| ssr <| un1 (v := (.agg [.str u_.Scheme, .str u_.Host, cI u_.Port, .ro false 1 (u_.Path.map eStr), .str u_.Query, cB u_.Asks, .str u_.Fragment, cB u_.Points])) rfl ?_
 obtain ⟨r_1, hr2, h⟩ := bnd h
 refine un <| ac_pure (r4_UrlRight_ok hr2) rfl rfl rfl <| un1 rfl <| dnil <| Sv.seq <| ssr <| un1 (v := (.agg [.str u_.Scheme, .str u_.Host, cI u_.Port, .ro false 1 (u_.Path.map eStr), .str u_.Query, cB u_.Asks, .str u_.Fragment, cB u_.Points])) rfl ?_
 obtain ⟨r_2, hr3, h⟩ := bnd h
 refine un <| ac_pure (url_Check_ok hr3) rfl rfl rfl <| un1 rfl <| un1 (v := (B (!decide (r_2 = r_1)))) rfl <| un1 rfl ?_
 refine gjoin 4 (d := 21) (v := (B ((!decide (r_2 = r_1)) || (!decide (r_.2 = r_1))))) (fun X hX => ?_) ?_
 ·refine split2 (fun hc1 => ?_) (fun hc1 => ?_)
  ·refine gs rfl rfl <| gs rfl rfl <| gs rfl rfl <| un1 (v := (B true)) rfl <| dnil ?_
   exact hX _ (.putEq (by rw [hc1]; rfl) (.skip _ _ (.skip _ _ (.skip _ _ (.putEq (by rw [hc1]) (.refl _)) rfl) rfl) rfl))
  ·refine gt rfl <| a1 rfl <| gt rfl <| a1 rfl <| gt rfl <| a1 (v := (B (!decide (r_.2 = r_1)))) rfl <| un1 (v := (B (!decide (r_.2 = r_1)))) rfl <| dnil ?_
   exact hX _ (.putEq (by rw [hc1]; rfl) (.skip _ _ (.skip _ _ (.skip _ _ (.putEq (by rw [hc1]) (.refl _)) rfl) rfl) rfl))
 refine dnil ?_
 refine Sv.cond (b := ((!decide (r_2 = r_1)) || (!decide (r_.2 = r_1)))) rfl (fun hc2 => ?_) (fun hc2 => ?_)
 ·replace h := ifT hc2 h
  refine ssr <| un1 rfl <| dnil <| Sv.ret ?_
  replace h := Option.some.inj h
  subst h
  exact ⟨_, .refl _, _, rfl, ⟨upd e0 0 (some (B false)), e0, 0⟩, (B false), weak_canon [] rfl List.nodup_nil (Nat.le_refl _) nlz (.cf rfl rfl .nil) .nil, rfl, rfl, rfl, rfl⟩
 ·replace h := ifF hc2 h
  refine Sv.skip <| ssr <| un1 rfl <| un1 (v := (B (!decide (r_1 = 0)))) rfl <| un1 rfl ?_
  refine gjoin 3 (d := 27) (v := (B ((!decide (r_1 = 0)) && (decide (r_.1 = []))))) (fun X hX => ?_) ?_
  ·refine split2 (fun hc3 => ?_) (fun hc3 => ?_)
   ·refine gt rfl <| a1 rfl <| gt rfl <| a1 (v := (B (decide (r_.1 = [])))) rfl <| un1 (v := (B (decide (r_.1 = [])))) rfl <| dnil ?_
    exact hX _ (.putEq (by rw [hc3]; rfl) (.skip _ _ (.skip _ _ (.putEq (by rw [hc3]) (.refl _)) rfl) rfl))
   ·refine gs rfl rfl <| gs rfl rfl <| un1 (v := (B false)) rfl <| dnil ?_
    exact hX _ (.putEq (by rw [hc3]; rfl) (.skip _ _ (.skip _ _ (.putEq (by rw [hc3]) (.refl _)) rfl) rfl))
  refine un1 rfl ?_
  refine split2 (fun hc4 => ?_) (fun hc4 => ?_)
  ·replace h := ifT hc4 h
   refine gs rfl rfl <| gs rfl rfl <| gs rfl rfl <| gu rfl <| gu rfl <| gu rfl <| gu rfl <| gs rfl rfl <| un1 (v := (B true)) rfl <| un1 rfl <| dnil ?_
   exact Sv.weak (wcn [] rfl (.cf rfl rfl .nil) .nil) (l4_UrlWrites_j1_ok h)
  ·replace h := ifF hc4 h
   refine gt rfl <| a1 rfl <| gt rfl <| a1 (v := (B (decide (r_1 = 0)))) rfl <| gt rfl <| a1 rfl ?_
   refine split2 (fun hc5 => ?_) (fun hc5 => ?_)
   ·replace h := ifT hc5 h
    refine gt rfl <| a1 rfl <| gt rfl <| a1 (v := (.agg [.str u_.Scheme, .str u_.Host, cI u_.Port, .ro false 1 (u_.Path.map eStr), .str u_.Query, cB u_.Asks, .str u_.Fragment, cB u_.Points])) rfl ?_
    obtain ⟨r_3, hr4, h⟩ := bnd h
    refine gt rfl <| ac_pure (r4_AddressText_ok hr4) rfl rfl rfl <| gt rfl <| a1 (v := (B (decide (r_.1 = r_3)))) rfl <| gt rfl <| a1 (v := (B (decide (r_.1 = r_3)))) rfl <| un1 (v := (B (decide (r_.1 = r_3)))) rfl <| un1 rfl <| dnil ?_
    exact Sv.weak (wcn [] rfl (.cf rfl rfl .nil) .nil) (l4_UrlWrites_j1_ok h)
   ·replace h := ifF hc5 h
    refine gs rfl rfl <| gs rfl rfl <| gs rfl rfl <| gs rfl rfl <| gt rfl <| a1 (v := (B false)) rfl <| un1 (v := (B false)) rfl <| un1 rfl <| dnil ?_
    exact Sv.weak (wcn [] rfl (.cf rfl rfl .nil) .nil) (l4_UrlWrites_j1_ok h)
end Go.Proofs.YtjicgjhhiallkaaGreatDoorBv
-- squeezed
