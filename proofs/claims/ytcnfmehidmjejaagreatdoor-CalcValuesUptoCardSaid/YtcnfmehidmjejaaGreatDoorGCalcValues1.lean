/- Printed by a program of mine (bgen.py): plain functions, and the walks that show that the code comes to what they answer. -/
import Derived.Test.YtcnfmehidmjejaaGreatDoorGCalcValues0
namespace Go.Proofs.YtcnfmehidmjejaaGreatDoorBv
open Go
set_option linter.unusedVariables false
set_option linter.unusedSimpArgs false
set_option maxRecDepth 100000
def a19 : AFunc := ⟨2, [], (sr [(mV 4 1), (oP 5 (.un .not (.tmp 4)))]
 (.cond (.tmp 5) (.region [(oP 6 (.build [(.val (.int .i64 0))] [(0, (1, (kI 4)))])), ⟨(some 7), .mkif, none⟩, ⟨none, .bad, none⟩]) .skip))⟩
theorem c19 : compFunc Tryz.prog 19 = some a19 := by kernel_rfl
def Z9s (r : Unit) : AV → Heap → Nat → Prop := fun v h' n' => v = (.tup []) ∧ (h' = e0) ∧ n' = 0
/-- (*clerestory/calc.reader).need -/
noncomputable def Ze (r_ : Treader) (is_ : Bool) : Option Unit :=
 if (!is_) then
  none
 else
  some ()
theorem Zf {mL : Int} {r_ : Treader} {is_ : Bool} {r : Unit} (h : Ze r_ is_ = some r) : CPure Tryz.prog (GG mL) 19 [(.c (.rop [.ro false 4 (r_.f_l.map e_TSToken), cI r_.f_n, cB r_.f_gapped])), (B is_)] (.tup []) := by
 refine acalls_of_sv hmix c19 (R := Z9s r) ?_
 unfold Ze at h
 refine ssr <| un1 rfl <| un1 (v := (B (!is_))) rfl <| dnil ?_
 refine Sv.cnd rfl h (fun h => ?_) fun h => ?_
 ·refine srg <| un1 (v := (.agg [cI 4])) rfl <| un1 (v := (.c (.opq))) rfl ?_
  cases h
 ·refine Sv.skip ?_
  exact rt0 h rfl rfl ⟨rfl, rfl, rfl⟩
def a39_c0 : ACode := (sr [(oP 9 (.bin .lss (.tmp 8) (.tmp 7)))]
 (.seq (.cond (.tmp 9) .skip (.exit 0))
 (.seq (.block 1 (sr [(mV 10 8), (mV 5 10)]
 (sr [(mV 11 1), (mV 12 0), (mV 13 5), (oP 14 (.iaddr 1 (.tmp 12) (.tmp 13))), (oP 15 (.load false 1 (.tmp 14))), (oP 16 (.bin .eql (.tmp 11) (.tmp 15)))]
 (.cond (.tmp 16) (sr [(mV 17 5), (mV 4 17)]
 .ret) .skip))))
 (.region [(oP 18 (.bin .add (.tmp 8) (kI 1))), (mV 8 18)]))))
def a39 : AFunc := ⟨2, [(.tmp 4)], (sr [(oP 4 (.mov (kI 0)))]
 (.seq (sr [(mV 6 0), (oP 7 (.len (.tmp 6))), (oP 8 (.mov (kI 0)))]
 (.block 0 (.loop a39_c0)))
 (sr [(oP 4 (.mov (.const (.c (.val (.int .i64 (-1)))))))]
 .ret)))⟩
theorem c39 : compFunc Tryz.prog 39 = some a39 := by kernel_rfl
def Z6v (r : Int) : AV → Heap → Nat → Prop := fun v h' n' => v = (I r) ∧ (h' = e0) ∧ n' = 0
abbrev Z9t (F_ : Unit → Option Int) (o : Int) (R_ : St → Prop) : Prop := ∀ (_ : Unit), F_ () = some o → ∀ s, Weak 0 s ⟨e0, e0, 0⟩ → R_ s
abbrev Z6w (s_ : TT) (v_ : Tx) (F_ : Nat → Int → Option Int) (o : Int) : Nat → St → Prop := fun k s => ∃ (v8 : Int), F_ k v8 = some o ∧ s = ⟨(ue [(8, (I v8)), (7, (I (s_.length : Int))), (1, (S v_)), (0, (.c (.ro false 1 (s_.map eStr))))]), e0, 0⟩
abbrev Z9u (s_ : TT) (v_ : Tx) (F_ : Int → Option Int) (o : Int) (R_ : St → Prop) : Prop := ∀ (v8 : Int), F_ v8 = some o → ∀ s, Weak 0 s ⟨(ue [(8, (I v8)), (7, (I (s_.length : Int))), (1, (S v_)), (0, (.c (.ro false 1 (s_.map eStr))))]), e0, 0⟩ → R_ s
noncomputable def Z1c (s_ : TT) (v_ : Tx) (K0_ : Unit → Option Int) : Nat → Int → Option Int
 | 0, _ => none
 | k + 1, v8 =>
  if decide (v8 < (s_.length : Int)) then
   (at? s_ v8).bind fun x_ =>
   if decide (v_ = x_) then
    some v8
   else
    (Z1c s_ v_ K0_ k) (wi (v8 + 1))
  else
   K0_ ()
theorem Z9v {mL : Int} {Q : AExit → St → Prop} {s_ : TT} {v_ : Tx} {K0_ : Unit → Option Int} {k : Nat} {v8 : Int} {o : Int} (h : Z1c s_ v_ K0_ k v8 = some o)
  (hK0 : Z9t K0_ o (Q (.exit 0)))
  (hr : ∀ s, Ends a39.results 0 (Z6v o) .ret s → Q .ret s) :
  Sv Tryz.prog (GG mL) 0 (.loop a39_c0) Q ⟨(ue [(8, (I v8)), (7, (I (s_.length : Int))), (1, (S v_)), (0, (.c (.ro false 1 (s_.map eStr))))]), e0, 0⟩ := by
 refine Sv.loop (I := Z6w s_ v_ (Z1c s_ v_ K0_) o) (fun k s hI => ?_) ⟨v8, h, rfl⟩
 clear h
 clear v8
 obtain ⟨v8, h, rfl⟩ := hI
 cases k with
 | zero => cases h
 | succ k =>
 rw [Z1c] at h
 have hself : Z9u s_ v_ (Z1c s_ v_ K0_ k) o (rnd 0 (Z6w s_ v_ (Z1c s_ v_ K0_) o) k Q) := fun v8 h s hw => ⟨_, k, hw, Nat.lt_succ_self k, v8, h, rfl⟩
 refine ssr <| un1 (v := (B (decide (v8 < (s_.length : Int))))) rfl <| dnil <| Sv.seq ?_
 refine Sv.cnd rfl h (fun h => ?_) fun h => ?_
 ·refine Sv.skip <| Sv.seq <| Sv.block <| ssr <| un1 rfl <| un1 rfl <| dnil <| ssr <| un1 rfl <| un1 rfl <| un1 rfl ?_
  obtain ⟨x_, hx1, h⟩ := bnd h
  refine un1 (v := (.c (.rop [.str x_]))) (s_iaddr (e := eStr) (xs := s_) rfl rfl hx1) <| un1 (v := (S x_)) rfl <| un1 (v := (B (decide (v_ = x_)))) rfl <| dnil ?_
  refine Sv.cnd rfl h (fun h => ?_) fun h => ?_
  ·refine ssr <| un1 rfl <| un1 rfl <| dnil <| Sv.ret ?_
   exact hr _ (rt0 h rfl rfl ⟨rfl, rfl, rfl⟩)
  ·refine Sv.skip <| srg <| un1 (v := (I (wi (v8 + 1)))) rfl <| un1 rfl <| dnil ?_
   exact hself (wi (v8 + 1)) h _ (wcn [] rfl (.cf rfl rfl (.cf rfl rfl (.cf rfl rfl (.cf rfl rfl .nil)))) .nil)
 ·refine Sv.exit ?_
  exact hK0 () h _ (wcn [] rfl .nil .nil)
/-- slices.Index(()string,string) -/
noncomputable def Z3j (s_ : TT) (v_ : Tx) : Option Int :=
 limF fun kk => Z1c s_ v_ (fun (_ : Unit) => 
   some (-1)) kk 0
theorem Z6x {mL : Int} {s_ : TT} {v_ : Tx} {r : Int} (h : Z3j s_ v_ = some r) : CPure Tryz.prog (GG mL) 39 [(.c (.ro false 1 (s_.map eStr))), (S v_)] (I r) := by
 refine acalls_of_sv hmix c39 (R := Z6v r) ?_
 unfold Z3j at h
 refine ssr <| un1 rfl <| dnil <| Sv.seq <| ssr <| un1 rfl <| un1 (v := (I (s_.length : Int))) (s_len (e := eStr) (xs := s_) rfl) <| un1 rfl <| dnil <| Sv.block ?_
 obtain ⟨kk, h⟩ := limF_some h
 refine Sv.weak (wcn [] rfl (.cf rfl rfl (.cf rfl rfl (.cf rfl rfl (.cf rfl rfl .nil)))) .nil) (Z9v h ?_ (fun s hs => hs))
 ·intro _ h _ hw1
  refine Sv.weak hw1 <| ssr <| un1 rfl <| dnil <| Sv.ret ?_
  exact rt0 h rfl rfl ⟨rfl, rfl, rfl⟩
def a61 : AFunc := ⟨2, [(.tmp 4)], (sr [(oP 4 (.mov kF))]
 (sr [(mV 5 0), (mV 6 1), (oP 7 (.call 39 [(.tmp 5), (.tmp 6)])), (oP 8 (.bin .geq (.tmp 7) (kI 0))), (mV 4 8)]
 .ret))⟩
theorem c61 : compFunc Tryz.prog 61 = some a61 := by kernel_rfl
def Z9w (r : Bool) : AV → Heap → Nat → Prop := fun v h' n' => v = (B r) ∧ (h' = e0) ∧ n' = 0
/-- slices.Contains(()string,string) -/
noncomputable def Z59 (s_ : TT) (v_ : Tx) : Option Bool :=
 (Z3j s_ v_).bind fun r_ =>
 some (decide (0 ≤ r_))
theorem Z9x {mL : Int} {s_ : TT} {v_ : Tx} {r : Bool} (h : Z59 s_ v_ = some r) : CPure Tryz.prog (GG mL) 61 [(.c (.ro false 1 (s_.map eStr))), (S v_)] (B r) := by
 refine acalls_of_sv hmix c61 (R := Z9w r) ?_
 unfold Z59 at h
 refine ssr <| un1 rfl <| dnil <| ssr <| un1 rfl <| un1 rfl ?_
 obtain ⟨r_, hr1, h⟩ := bnd h
 refine un <| ac_pure (Z6x hr1) rfl rfl rfl <| un1 (v := (B (decide (0 ≤ r_)))) rfl <| un1 rfl <| dnil <| Sv.ret ?_
 exact rt0 h rfl rfl ⟨rfl, rfl, rfl⟩
def a34_c0 : ACode := (.cond (.tmp 25) (sr [(oP 26 (.build [(.val (.int .i64 0)), (.str [])] [])), (oN (.store 2 (.tmp 2) (.tmp 26))), (oP 3 (.mov (kI 4)))]
 .ret) .skip)
def a34_c1 : ACode := (.seq (.drawn (.fin [((mV 27 4), (0, 0)), ((oP 28 (.iaddr 4 (.tmp 27) (kI 0))), (0, 1)), ((oP 29 (.faddr 3 (.tmp 28))), (0, 2)), ((oP 30 (.load false 1 (.tmp 29))), (0, 3)), ((mV 31 4), (0, 4)), ((oP 32 (.iaddr 4 (.tmp 31) (kI 0))), (0, 5)), ((oP 33 (.faddr 2 (.tmp 32))), (0, 6)), ((oP 34 (.load false 1 (.tmp 33))), (0, 7)), ((oP 35 (.build [(.val (.int .i64 0)), (.str [])] [(0, (1, (.tmp 30))), (1, (1, (.tmp 34)))])), (0, 8)), ((oN (.store 2 (.tmp 2) (.tmp 35))), (2, 9)), ((oP 3 (.mov (kI 0))), (0, 10))]))
 .ret)
def a34 : AFunc := ⟨1, [(.cell true 2 2), (.tmp 3)], (sr [(oP 2 (.box (.const (.agg [(.val (.int .i64 0)), (.str [])])))), (oP 3 (.mov (kI 0)))]
 (sr [(mV 5 0), (oP 6 (.call 16 [(.tmp 5)])), (mV 4 6)]
 (.seq (.seq (.drawn (.fin [((mV 7 4), (0, 0)), ((oP 8 (.len (.tmp 7))), (0, 1)), ((oP 9 (.bin .neq (.tmp 8) (kI 1))), (0, 2)), ((mV 10 9), (0, 3)), (⟨(some 11), (.mov (.tmp 4)), (some (10, false))⟩, (0, 4)), (⟨(some 12), (.iaddr 4 (.tmp 11) (kI 0)), (some (10, false))⟩, (0, 5)), (⟨(some 13), (.faddr 0 (.tmp 12)), (some (10, false))⟩, (0, 6)), (⟨(some 14), (.load false 1 (.tmp 13)), (some (10, false))⟩, (0, 7)), (⟨(some 15), (.bin .neq (.tmp 14) (kI 7)), (some (10, false))⟩, (0, 8)), ((oP 16 (.pick (.tmp 10) kT (.tmp 15))), (0, 9)), ((mV 17 16), (0, 10)), (⟨(some 18), (.load false 1 (.glob 0)), (some (17, false))⟩, (0, 11)), (⟨(some 19), (.mov (.tmp 4)), (some (17, false))⟩, (0, 12)), (⟨(some 20), (.iaddr 4 (.tmp 19) (kI 0)), (some (17, false))⟩, (0, 13)), (⟨(some 21), (.faddr 2 (.tmp 20)), (some (17, false))⟩, (0, 14)), (⟨(some 22), (.load false 1 (.tmp 21)), (some (17, false))⟩, (0, 15)), (⟨(some 23), (.call 61 [(.tmp 18), (.tmp 22)]), (some (17, false))⟩, (2, 16)), (⟨(some 24), (.un .not (.tmp 23)), (some (17, false))⟩, (0, 17)), ((oP 25 (.pick (.tmp 17) kT (.tmp 24))), (0, 18))]))
 a34_c0)
 a34_c1)))⟩
theorem c34 : compFunc Tryz.prog 34 = some a34 := by kernel_rfl
def Z5a (r : (TSDim × Int)) : AV → Heap → Nat → Prop := fun v h' n' => v = (.tup [(.agg (e_TSDim r.1)), (I r.2)]) ∧ (h' = e0) ∧ n' = 0
abbrev Z9y (mL : Int) (o : (TSDim × Int)) : AExit → St → Prop := AThen (Sv Tryz.prog (GG mL) 0 a34_c1 (Ends a34.results 0 (Z5a o))) (Ends a34.results 0 (Z5a o))
noncomputable def Z2g (l_ : (List TSToken)) (v25 : Bool) : Option (TSDim × Int) :=
 if v25 then
  some ((⟨0, []⟩ : TSDim), 4)
 else
  (at? l_ 0).bind fun x_ =>
  (at? l_ 0).bind fun x_1 =>
  some ((⟨x_.Num, x_1.Value⟩ : TSDim), 0)
theorem Z5b {mL : Int} {l_ : (List TSToken)} {v25 : Bool} {zl : Bool} (hzl : zl = true → l_ = []) {o : (TSDim × Int)} (h : Z2g l_ v25 = some o) :
  Sv Tryz.prog (GG mL) 0 a34_c0 (Z9y mL o) ⟨(ue [(25, (B v25)), (4, (lstV zl 1 4 l_.length)), (2, (.c (.ref 0 2 0 0)))]), (upd (upd e0 0 (some (.cells 2 [[cI 0, .str []]]))) 1 (lstB zl 4 (l_.map e_TSToken))), 2⟩ := by
 unfold Z2g at h
 refine Sv.cnd rfl h (fun h => ?_) fun h => ?_
 ·refine ssr <| un1 (v := (.agg [cI 0, .str []])) rfl <| un <| a2n (h' := upd _ 0 (some (.cells 2 [[cI 0, .str []]]))) (n' := 2) rfl rfl hcs <| un1 rfl <| dnil <| Sv.ret ?_
  exact rt0 h rfl rfl ⟨rfl, rfl, rfl⟩
 ·refine Sv.skip <| Sv.seq <| Sv.drawn <| un1 rfl ?_
  obtain ⟨x_, hx1, h⟩ := bnd h
  refine un1 (v := (.c (.ref 1 4 (0 : Int).toNat 0))) (s_iaddrL rfl rfl hzl hx1) <| un1 (v := (.c (.ref 1 4 (0 : Int).toNat 3))) rfl <| un1 (v := (I x_.Num)) (s_loadL (z := zl) (e := e_TSToken) rfl rfl hzl hx1 rfl rfl) <| un1 rfl ?_
  obtain ⟨x_1, hx2, h⟩ := bnd h
  refine un1 (v := (.c (.ref 1 4 (0 : Int).toNat 0))) (s_iaddrL rfl rfl hzl hx2) <| un1 (v := (.c (.ref 1 4 (0 : Int).toNat 2))) rfl <| un1 (v := (S x_1.Value)) (s_loadL (z := zl) (e := e_TSToken) rfl rfl hzl hx2 rfl rfl) <| un1 (v := (.agg [cI x_.Num, .str x_1.Value])) rfl <| un <| a2n (h' := upd _ 0 (some (.cells 2 [[cI x_.Num, .str x_1.Value]]))) (n' := 2) rfl rfl hcs <| un1 rfl <| dnil <| Sv.ret ?_
  exact rt0 h rfl rfl ⟨rfl, rfl, rfl⟩
/-- clerestory/dim.Read -/
noncomputable def Z5c (s_ : Tx) : Option (TSDim × Int) :=
 (Z3h s_).bind fun r_ =>
 if (!decide ((r_.length : Int) = 1)) then
  Z2g r_ true
 else
  (at? r_ 0).bind fun x_2 =>
  if (!decide (x_2.Kind = 7)) then
   Z2g r_ true
  else
   (at? r_ 0).bind fun x_3 =>
   (Z59 gl0 x_3.Value).bind fun r_1 =>
   Z2g r_ (!r_1)
theorem Z9z {mL : Int} {s_ : Tx} {r : (TSDim × Int)} (h : Z5c s_ = some r) : CPure Tryz.prog (GG mL) 34 [(S s_)] (.tup [(.agg (e_TSDim r.1)), (I r.2)]) := by
 refine acalls_of_sv hmix c34 (R := Z5a r) ?_
 unfold Z5c at h
 refine ssr <| un <| a2v (v := (.c (.ref 0 2 0 0))) (h' := upd _ 0 (some (.cells 2 [[cI 0, .str []]]))) (n' := 1) rfl rfl hcs <| un1 rfl <| dnil <| ssr <| un1 rfl ?_
 obtain ⟨r_, hr1, h⟩ := bnd h
 refine un <| ac_gen (bs := []) («as» := [(S s_)]) (h2 := _) (h1 := e0) (Z6r hr1) rfl (.cons (avAs_free rfl) .nil) (hsub_refl _) (.nil _) (fun _ => rfl) (by decide) (by decide) (.cons (avAs_free rfl) .nil) .nil ?_
 rintro _ _ _ hn ⟨z_, hz_, rfl, rfl, rfl⟩
 refine ⟨.inl rfl, (upd (rem [] _) 1 (lstB z_ 4 (r_.map e_TSToken))), fun hbd => (m3_cons (m3_row rfl (fr_map fun _ => rfl)) (m3_rem (in_nil _) (.cons (by decide) .nil) hbd)), (lstV z_ 1 4 r_.length), 2, (by cases z_ <;> rfl), rfl, ?_⟩
 refine un1 rfl <| dnil <| Sv.seq <| Sv.seq <| Sv.drawn <| un1 rfl <| un1 (v := (I (r_.length : Int))) (s_lenL rfl (len_nil_of hz_)) <| un1 (v := (B (!decide ((r_.length : Int) = 1)))) rfl <| un1 rfl ?_
 refine spl h (fun h => ?_) fun h => ?_
 ·repeat (first | refine gu rfl ?_ | refine gs rfl rfl ?_)
  refine un1 (v := (B true)) rfl <| un1 rfl ?_
  repeat (first | refine gu rfl ?_ | refine gs rfl rfl ?_)
  refine un1 (v := (B true)) rfl <| dnil ?_
  exact Sv.weak (wcn [0, 1] rfl (.cf rfl rfl (.cons rfl (.c (lsr rfl rfl)) (.cr rfl rfl rfl .nil))) (.row (by decide) rfl (fr_map fun _ => rfl) (.box (by decide) rfl (blkAs_cells (.sm rfl (.sm rfl .nil))) .nil))) (Z5b hz_ h)
 ·refine gt rfl <| a1 rfl ?_
  obtain ⟨x_2, hx3, h⟩ := bnd h
  refine gt rfl <| a1 (v := (.c (.ref 1 4 (0 : Int).toNat 0))) (s_iaddrL rfl rfl hz_ hx3) <| gt rfl <| a1 (v := (.c (.ref 1 4 (0 : Int).toNat 0))) rfl <| gt rfl <| a1 (v := (I x_2.Kind)) (s_loadL (z := z_) (e := e_TSToken) rfl rfl hz_ hx3 rfl rfl) <| gt rfl <| a1 (v := (B (!decide (x_2.Kind = 7)))) rfl <| un1 (v := (B (!decide (x_2.Kind = 7)))) rfl <| un1 rfl ?_
  refine spl h (fun h => ?_) fun h => ?_
  ·repeat (first | refine gu rfl ?_ | refine gs rfl rfl ?_)
   refine un1 (v := (B true)) rfl <| dnil ?_
   exact Sv.weak (wcn [0, 1] rfl (.cf rfl rfl (.cons rfl (.c (lsr rfl rfl)) (.cr rfl rfl rfl .nil))) (.row (by decide) rfl (fr_map fun _ => rfl) (.box (by decide) rfl (blkAs_cells (.sm rfl (.sm rfl .nil))) .nil))) (Z5b hz_ h)
  ·refine gt rfl <| a1 (v := (.c (.ro false 1 (gl0.map eStr)))) rfl <| gt rfl <| a1 rfl ?_
   obtain ⟨x_3, hx4, h⟩ := bnd h
   refine gt rfl <| a1 (v := (.c (.ref 1 4 (0 : Int).toNat 0))) (s_iaddrL rfl rfl hz_ hx4) <| gt rfl <| a1 (v := (.c (.ref 1 4 (0 : Int).toNat 2))) rfl <| gt rfl <| a1 (v := (S x_3.Value)) (s_loadL (z := z_) (e := e_TSToken) rfl rfl hz_ hx4 rfl rfl) ?_
   obtain ⟨r_1, hr2, h⟩ := bnd h
   refine gt rfl <| ac_pure (Z9x hr2) rfl rfl rfl <| gt rfl <| a1 (v := (B (!r_1))) rfl <| un1 (v := (B (!r_1))) rfl <| dnil ?_
   exact Sv.weak (wcn [0, 1] rfl (.cf rfl rfl (.cons rfl (.c (lsr rfl rfl)) (.cr rfl rfl rfl .nil))) (.row (by decide) rfl (fr_map fun _ => rfl) (.box (by decide) rfl (blkAs_cells (.sm rfl (.sm rfl .nil))) .nil))) (Z5b hz_ h)
def a35 : AFunc := ⟨2, [(.cell true 4 4)], (sr [(oP 3 (.box (.tmp 1))), (oP 4 (.box (.const (.agg [(.val (.int .i64 0)), (.val (.int .i64 0)), (.str []), (.ro true 4 [])]))))]
 (.seq (sr [(mV 5 0), (oP 6 (.nilc (.tmp 5))), (oP 7 (.faddr 1 (.tmp 6))), (oP 8 (.load false 1 (.tmp 7))), (oP 9 (.bin .add (.tmp 8) (kI 1))), (oP 10 (.nilc (.tmp 5))), (oP 11 (.faddr 1 (.tmp 10))), (oN (.store 1 (.tmp 11) (.tmp 9)))]
 (sr [(mV 12 0), (oP 13 (.nilc (.tmp 12))), (oP 14 (.faddr 1 (.tmp 13))), (oP 15 (.load false 1 (.tmp 14))), (oP 16 (.bin .gtr (.tmp 15) (kI 30)))]
 (.cond (.tmp 16) (.region [(oP 17 (.build [(.val (.int .i64 0))] [(0, (1, (kI 2)))])), ⟨(some 18), .mkif, none⟩, ⟨none, .bad, none⟩]) .skip)))
 (sr [(oP 19 (.load true 4 (.tmp 3))), (oN (.store 4 (.tmp 4) (.tmp 19)))]
 .ret)))⟩
theorem c35 : compFunc Tryz.prog 35 = some a35 := by kernel_rfl
def Z6y (r : (TSTerm × Treader)) : AV → Heap → Nat → Prop := fun v h' n' => v = (.agg (e_TSTerm r.1)) ∧ (h' = (upd e0 0 (some (.cells 3 [[.ro false 4 (r.2.f_l.map e_TSToken), cI r.2.f_n, cB r.2.f_gapped]])))) ∧ n' = 1
/-- (*clerestory/calc.reader).made -/
noncomputable def Z1o (r_ : Treader) (t_ : TSTerm) : Option (TSTerm × Treader) :=
 if decide (30 < (wi (r_.f_n + 1))) then
  none
 else
  some (t_, (⟨r_.f_l, (wi (r_.f_n + 1)), r_.f_gapped⟩ : Treader))
theorem Z12 {mL : Int} {r_ : Treader} {t_ : TSTerm} {r : (TSTerm × Treader)} (h : Z1o r_ t_ = some r) : ACalls Tryz.prog (GG mL) 35 [(.c (.ref 0 3 0 0)), (.agg (e_TSTerm t_))] (upd e0 0 (some (.cells 3 [[.ro false 4 (r_.f_l.map e_TSToken), cI r_.f_n, cB r_.f_gapped]]))) 1 (Z6y r) := by
 refine acalls_of_sv hmix c35 (R := Z6y r) ?_
 unfold Z1o at h
 refine ssr <| un <| a2v (v := (.c (.ref 1 4 0 0))) (h' := upd _ 1 (some (.cells 4 [(e_TSTerm t_)]))) (n' := 2) rfl rfl hcs <| un <| a2v (v := (.c (.ref 2 4 0 0))) (h' := upd _ 2 (some (.cells 4 [[cI 0, cI 0, .str [], .ro true 4 []]]))) (n' := 3) rfl rfl hcs <| dnil <| Sv.seq <| ssr <| un1 rfl <| un1 (v := (.c (.ref 0 3 0 0))) rfl <| un1 (v := (.c (.ref 0 3 0 1))) rfl <| un1 (v := (I r_.f_n)) rfl <| un1 (v := (I (wi (r_.f_n + 1)))) rfl <| un1 (v := (.c (.ref 0 3 0 0))) rfl <| un1 (v := (.c (.ref 0 3 0 1))) rfl <| un <| a2n (h' := upd _ 0 (some (.cells 3 [[.ro false 4 (r_.f_l.map e_TSToken), cI (wi (r_.f_n + 1)), cB r_.f_gapped]]))) (n' := 3) rfl rfl hcs <| dnil <| ssr <| un1 rfl <| un1 (v := (.c (.ref 0 3 0 0))) rfl <| un1 (v := (.c (.ref 0 3 0 1))) rfl <| un1 (v := (I (wi (r_.f_n + 1)))) rfl <| un1 (v := (B (decide (30 < (wi (r_.f_n + 1)))))) rfl <| dnil ?_
 refine Sv.cnd rfl h (fun h => ?_) fun h => ?_
 ·refine srg <| un1 (v := (.agg [cI 2])) rfl <| un1 (v := (.c (.opq))) rfl ?_
  cases h
 ·refine Sv.skip <| ssr <| un1 (v := (.agg (e_TSTerm t_))) rfl <| un <| a2n (h' := upd _ 2 (some (.cells 4 [(e_TSTerm t_)]))) (n' := 3) rfl rfl hcs <| dnil <| Sv.ret ?_
  replace h := Option.some.inj h
  subst h
  exact ⟨_, .refl _, _, rfl, ⟨upd e0 0 (some (.agg (e_TSTerm t_))), (upd e0 0 (some (.cells 3 [[.ro false 4 (r_.f_l.map e_TSToken), cI (wi (r_.f_n + 1)), cB r_.f_gapped]]))), 1⟩, (.agg (e_TSTerm t_)), weak_canon2 [0] [0] (by decide) (by decide) (by decide) (.cons (by decide) .nil) (.cf rfl rfl .nil) (.box (by decide) rfl (blkAs_cells (.sm rfl (.sm rfl (.sm rfl .nil)))) .nil), rfl, rfl, rfl, rfl⟩
def Z3k (r : (TSTerm × Treader)) : AV → Heap → Nat → Prop := fun v h' n' => v = (.agg (e_TSTerm r.1)) ∧ (h' = (upd e0 0 (some (.cells 3 [[.ro false 4 (r.2.f_l.map e_TSToken), cI r.2.f_n, cB r.2.f_gapped]])))) ∧ n' = 1
def Zi (mL : Int) (recf : Treader → Bool → Option (TSTerm × Treader)) : Prop := ∀ (r_ : Treader) (in_ : Bool) (r : (TSTerm × Treader)), recf r_ in_ = some r → ACalls Tryz.prog (GG mL) 18 [(.c (.ref 0 3 0 0)), (B in_)] (upd e0 0 (some (.cells 3 [[.ro false 4 (r_.f_l.map e_TSToken), cI r_.f_n, cB r_.f_gapped]]))) 1 (Z3k r)
def a37_c0 : ACode := (.cond (.tmp 21) (sr [(oP 4 (.mov kF))]
 .ret) .skip)
def a37_c1 : ACode := (sr [(mV 22 0), (mV 23 0), (oP 24 (.nilc (.tmp 23))), (oP 25 (.faddr 0 (.tmp 24))), (oP 26 (.load false 1 (.tmp 25))), (oP 27 (.slSl 4 (.tmp 26) (some (kI 1)) none none)), (oP 28 (.nilc (.tmp 22))), (oP 29 (.faddr 0 (.tmp 28))), (oN (.store 1 (.tmp 29) (.tmp 27)))]
 (sr [(oP 4 (.mov kT))]
 .ret))
def a37 : AFunc := ⟨2, [(.tmp 4)], (sr [(oP 4 (.mov kF))]
 (.seq (sr [(mV 5 0), (oP 6 (.nilc (.tmp 5))), (oP 7 (.faddr 0 (.tmp 6))), (oP 8 (.load false 1 (.tmp 7))), (oP 9 (.len (.tmp 8))), (oP 10 (.bin .eql (.tmp 9) (kI 0))), (mV 11 10), ⟨(some 12), (.mov (.tmp 0)), (some (11, false))⟩, ⟨(some 13), (.nilc (.tmp 12)), (some (11, false))⟩, ⟨(some 14), (.faddr 0 (.tmp 13)), (some (11, false))⟩, ⟨(some 15), (.load false 1 (.tmp 14)), (some (11, false))⟩, ⟨(some 16), (.iaddr 4 (.tmp 15) (kI 0)), (some (11, false))⟩, ⟨(some 17), (.faddr 1 (.tmp 16)), (some (11, false))⟩, ⟨(some 18), (.load false 1 (.tmp 17)), (some (11, false))⟩, ⟨(some 19), (.mov (.tmp 1)), (some (11, false))⟩, ⟨(some 20), (.bin .neq (.tmp 18) (.tmp 19)), (some (11, false))⟩, (oP 21 (.pick (.tmp 11) kT (.tmp 20)))]
 a37_c0)
 a37_c1))⟩
theorem c37 : compFunc Tryz.prog 37 = some a37 := by kernel_rfl
def Z3l (r : (Bool × Treader)) : AV → Heap → Nat → Prop := fun v h' n' => v = (B r.1) ∧ (h' = (upd e0 0 (some (.cells 3 [[.ro false 4 (r.2.f_l.map e_TSToken), cI r.2.f_n, cB r.2.f_gapped]])))) ∧ n' = 1
abbrev Za0 (mL : Int) (o : (Bool × Treader)) : AExit → St → Prop := AThen (Sv Tryz.prog (GG mL) 1 a37_c1 (Ends a37.results 1 (Z3l o))) (Ends a37.results 1 (Z3l o))
noncomputable def Z3m (r_ : Treader) (v21 : Bool) : Option (Bool × Treader) :=
 if v21 then
  some (false, r_)
 else
  (sub? r_.f_l 1 (r_.f_l.length : Int)).bind fun r_1 =>
  some (true, (⟨r_1, r_.f_n, r_.f_gapped⟩ : Treader))
theorem Z6z {mL : Int} {r_ : Treader} {v21 : Bool} {o : (Bool × Treader)} (h : Z3m r_ v21 = some o) :
  Sv Tryz.prog (GG mL) 1 a37_c0 (Za0 mL o) ⟨(ue [(21, (B v21)), (0, (.c (.ref 0 3 0 0)))]), (upd e0 0 (some (.cells 3 [[.ro false 4 (r_.f_l.map e_TSToken), cI r_.f_n, cB r_.f_gapped]]))), 1⟩ := by
 unfold Z3m at h
 refine Sv.cnd rfl h (fun h => ?_) fun h => ?_
 ·refine ssr <| un1 rfl <| dnil <| Sv.ret ?_
  replace h := Option.some.inj h
  subst h
  exact ⟨_, .refl _, _, rfl, ⟨upd e0 0 (some (B false)), (upd e0 0 (some (.cells 3 [[.ro false 4 (r_.f_l.map e_TSToken), cI r_.f_n, cB r_.f_gapped]]))), 1⟩, (B false), weak_canon2 [0] [0] (by decide) (by decide) (by decide) (.cons (by decide) .nil) (.cf rfl rfl .nil) (.box (by decide) rfl (blkAs_cells (.sm rfl (.sm rfl (.sm rfl .nil)))) .nil), rfl, rfl, rfl, rfl⟩
 ·refine Sv.skip <| ssr <| un1 rfl <| un1 rfl <| un1 (v := (.c (.ref 0 3 0 0))) rfl <| un1 (v := (.c (.ref 0 3 0 0))) rfl <| un1 (v := (.c (.ro false 4 (r_.f_l.map e_TSToken)))) rfl ?_
  obtain ⟨r_1, hx1, h⟩ := bnd h
  refine un1 (v := (.c (.ro false 4 (r_1.map e_TSToken)))) (s_slSl (e := e_TSToken) rfl rfl rfl hx1) <| un1 (v := (.c (.ref 0 3 0 0))) rfl <| un1 (v := (.c (.ref 0 3 0 0))) rfl <| un <| a2n (h' := upd _ 0 (some (.cells 3 [[.ro false 4 (r_1.map e_TSToken), cI r_.f_n, cB r_.f_gapped]]))) (n' := 1) rfl rfl hcs <| dnil <| ssr <| un1 rfl <| dnil <| Sv.ret ?_
  replace h := Option.some.inj h
  subst h
  exact ⟨_, .refl _, _, rfl, ⟨upd e0 0 (some (B true)), (upd e0 0 (some (.cells 3 [[.ro false 4 (r_1.map e_TSToken), cI r_.f_n, cB r_.f_gapped]]))), 1⟩, (B true), weak_canon2 [0] [0] (by decide) (by decide) (by decide) (.cons (by decide) .nil) (.cf rfl rfl .nil) (.box (by decide) rfl (blkAs_cells (.sm rfl (.sm rfl (.sm rfl .nil)))) .nil), rfl, rfl, rfl, rfl⟩
/-- (*clerestory/calc.reader).raw -/
noncomputable def Z13 (r_ : Treader) (s_ : Tx) : Option (Bool × Treader) :=
 if decide ((r_.f_l.length : Int) = 0) then
  Z3m r_ true
 else
  (at? r_.f_l 0).bind fun x_ =>
  Z3m r_ (!decide (x_.Raw = s_))
theorem Zn {mL : Int} {r_ : Treader} {s_ : Tx} {r : (Bool × Treader)} (h : Z13 r_ s_ = some r) : ACalls Tryz.prog (GG mL) 37 [(.c (.ref 0 3 0 0)), (S s_)] (upd e0 0 (some (.cells 3 [[.ro false 4 (r_.f_l.map e_TSToken), cI r_.f_n, cB r_.f_gapped]]))) 1 (Z3l r) := by
 refine acalls_of_sv hmix c37 (R := Z3l r) ?_
 unfold Z13 at h
 refine ssr <| un1 rfl <| dnil <| Sv.seq <| ssr <| un1 rfl <| un1 (v := (.c (.ref 0 3 0 0))) rfl <| un1 (v := (.c (.ref 0 3 0 0))) rfl <| un1 (v := (.c (.ro false 4 (r_.f_l.map e_TSToken)))) rfl <| un1 (v := (I (r_.f_l.length : Int))) (s_len (e := e_TSToken) (xs := r_.f_l) rfl) <| un1 (v := (B (decide ((r_.f_l.length : Int) = 0)))) rfl <| un1 rfl ?_
 refine spl h (fun h => ?_) fun h => ?_
 ·repeat (first | refine gu rfl ?_ | refine gs rfl rfl ?_)
  refine un1 (v := (B true)) rfl <| dnil ?_
  exact Sv.weak (weak_canon [0] rfl (by decide) (by decide) (by decide) (.cf rfl rfl (.cr rfl rfl rfl .nil)) (.box (by decide) rfl (blkAs_cells (.sm rfl (.sm rfl (.sm rfl .nil)))) .nil)) (Z6z h)
 ·refine gt rfl <| a1 rfl <| gt rfl <| a1 (v := (.c (.ref 0 3 0 0))) rfl <| gt rfl <| a1 (v := (.c (.ref 0 3 0 0))) rfl <| gt rfl <| a1 (v := (.c (.ro false 4 (r_.f_l.map e_TSToken)))) rfl ?_
  obtain ⟨x_, hx2, h⟩ := bnd h
  refine gt rfl <| a1 (v := (.c (.rop (e_TSToken x_)))) (s_iaddr (e := e_TSToken) (xs := r_.f_l) rfl rfl hx2) <| gt rfl <| a1 (v := (.c (.rop [.str x_.Raw, .str x_.Value, cI x_.Num]))) rfl <| gt rfl <| a1 (v := (S x_.Raw)) rfl <| gt rfl <| a1 rfl <| gt rfl <| a1 (v := (B (!decide (x_.Raw = s_)))) rfl <| un1 (v := (B (!decide (x_.Raw = s_)))) rfl <| dnil ?_
  exact Sv.weak (weak_canon [0] rfl (by decide) (by decide) (by decide) (.cf rfl rfl (.cr rfl rfl rfl .nil)) (.box (by decide) rfl (blkAs_cells (.sm rfl (.sm rfl (.sm rfl .nil)))) .nil)) (Z6z h)
def a62_c0 : ACode := (sr [(mV 21 0), (oP 22 (.call 17 [(.tmp 21)]))]
 (.drawn (.alt [((mV 23 0), (0, 0)), ((mV 24 4), (0, 1)), ((mV 26 0), (0, 3))] (.fin [((oP 25 (.load true 4 (.tmp 3))), (2, 2)), ((oP 27 (.call 18 [(.tmp 26), kT])), (2, 4)), ((oP 28 (.bslice 4 [(.val (.int .i64 0)), (.val (.int .i64 0)), (.str []), (.ro true 4 [])] 2 [(0, (.tmp 25)), (1, (.tmp 27))])), (2, 5)), ((oP 29 (.build [(.val (.int .i64 0)), (.val (.int .i64 0)), (.str []), (.ro true 4 [])] [(0, (1, (.tmp 24))), (3, (1, (.tmp 28)))])), (0, 6)), ((oP 30 (.call 35 [(.tmp 23), (.tmp 29)])), (2, 7)), ((oN (.store 4 (.tmp 3) (.tmp 30))), (2, 8))]) (.fin [((oP 27 (.call 18 [(.tmp 26), kT])), (2, 4)), ((oP 25 (.load true 4 (.tmp 3))), (2, 2)), ((oP 28 (.bslice 4 [(.val (.int .i64 0)), (.val (.int .i64 0)), (.str []), (.ro true 4 [])] 2 [(0, (.tmp 25)), (1, (.tmp 27))])), (2, 5)), ((oP 29 (.build [(.val (.int .i64 0)), (.val (.int .i64 0)), (.str []), (.ro true 4 [])] [(0, (1, (.tmp 24))), (3, (1, (.tmp 28)))])), (0, 6)), ((oP 30 (.call 35 [(.tmp 23), (.tmp 29)])), (2, 7)), ((oN (.store 4 (.tmp 3) (.tmp 30))), (2, 8))]))))
def a62_c1 : ACode := (.block 1 (sr [(mV 9 0), (mV 10 0), (oP 11 (.call 17 [(.tmp 10)])), (oP 12 (.nilc (.tmp 9))), (oP 13 (.faddr 2 (.tmp 12))), (oN (.store 1 (.tmp 13) (.tmp 11)))]
 (sr [(oP 4 (.mov (kI 0)))]
 (.seq (.block 2 (sr [(mV 16 0), (oP 17 (.call 37 [(.tmp 16), (.const (.c (.str [42])))])), (mV 15 17)]
 (.cond (.tmp 15) (.region [(oP 4 (.mov (kI 4)))]) (sr [(mV 19 0), (oP 20 (.call 37 [(.tmp 19), (.const (.c (.str [47])))])), (mV 18 20)]
 (.cond (.tmp 18) (.region [(oP 4 (.mov (kI 5)))]) (sr [(oP 14 (.load true 4 (.tmp 3))), (oN (.store 4 (.tmp 2) (.tmp 14)))]
 .ret))))))
 a62_c0))))
def a62 : AFunc := ⟨1, [(.cell true 4 2)], (sr [(oP 2 (.box (.const (.agg [(.val (.int .i64 0)), (.val (.int .i64 0)), (.str []), (.ro true 4 [])]))))]
 (sr [(mV 5 0), (oP 6 (.call 17 [(.tmp 5)]))]
 (sr [(mV 7 0), (oP 8 (.call 18 [(.tmp 7), kT])), (oP 3 (.box (.const (.agg [(.val (.int .i64 0)), (.val (.int .i64 0)), (.str []), (.ro true 4 [])])))), (oN (.store 4 (.tmp 3) (.tmp 8)))]
 (.block 0 (.loop a62_c1)))))⟩
theorem c62 : compFunc Tryz.prog 62 = some a62 := by kernel_rfl
def Z3n (r : (TSTerm × Treader)) : AV → Heap → Nat → Prop := fun v h' n' => v = (.agg (e_TSTerm r.1)) ∧ (h' = (upd e0 0 (some (.cells 3 [[.ro false 4 (r.2.f_l.map e_TSToken), cI r.2.f_n, cB r.2.f_gapped]])))) ∧ n' = 1
abbrev Z70 (F_ : (List TSToken) → Int → Bool → Int → Int → Tx → (List Raw) → Option (TSTerm × Treader)) (o : (TSTerm × Treader)) (R_ : St → Prop) : Prop := ∀ (r0 : (List TSToken)) (r1 : Int) (r2 : Bool) (out0 : Int) (out1 : Int) (out2 : Tx) (out3 : (List Raw)), F_ r0 r1 r2 out0 out1 out2 out3 = some o → ∀ s, Weak 1 s ⟨(ue [(3, (.c (.ref 2 4 0 0))), (2, (.c (.ref 1 4 0 0))), (0, (.c (.ref 0 3 0 0)))]), (upd (upd (upd e0 0 (some (.cells 3 [[.ro false 4 (r0.map e_TSToken), cI r1, cB r2]]))) 1 (some (.cells 4 [[cI 0, cI 0, .str [], .ro true 4 []]]))) 2 (some (.cells 4 [[cI out0, cI out1, .str out2, .ro false 4 (out3.map eRaw)]]))), 3⟩ → R_ s
abbrev Za1 (mL : Int) (Q : AExit → St → Prop) : AExit → St → Prop := ABlock 1 Q
noncomputable def Z3o (rec_clerestory_calc_reader_value : Treader → Bool → Option (TSTerm × Treader)) (out0 : Int) (out1 : Int) (out2 : Tx) (out3 : (List Raw)) (self : (List TSToken) → Int → Bool → Int → Int → Tx → (List Raw) → Option (TSTerm × Treader)) (r01 : (List TSToken)) (r11 : Int) (r21 : Bool) (kind : Int) : Option (TSTerm × Treader) :=
 (Z11 (⟨r01, r11, r21⟩ : Treader)).bind fun r_4 =>
 (rec_clerestory_calc_reader_value r_4.2 true).bind fun r_5 =>
 letIn [(⟨e_TSTerm (⟨out0, (⟨out1, out2⟩ : TSDim), out3⟩ : TSTerm), rfl⟩ : Raw), (⟨e_TSTerm r_5.1, rfl⟩ : Raw)] fun row : List Raw =>
 (Z1o r_5.2 (⟨kind, (⟨0, []⟩ : TSDim), row⟩ : TSTerm)).bind fun r_7 =>
 self r_7.2.f_l r_7.2.f_n r_7.2.f_gapped r_7.1.Kind r_7.1.Dim.Num r_7.1.Dim.Unit r_7.1.Subs
theorem Z71 {mL : Int} {Q : AExit → St → Prop} {rec_clerestory_calc_reader_value : Treader → Bool → Option (TSTerm × Treader)} {out0 : Int} {out1 : Int} {out2 : Tx} {out3 : (List Raw)} {self : (List TSToken) → Int → Bool → Int → Int → Tx → (List Raw) → Option (TSTerm × Treader)} {r01 : (List TSToken)} {r11 : Int} {r21 : Bool} {kind : Int} {o : (TSTerm × Treader)} (h : Z3o rec_clerestory_calc_reader_value out0 out1 out2 out3 self r01 r11 r21 kind = some o)
  (hself : Z70 self o (Q .normal))
  (hr : ∀ s, Ends a62.results 1 (Z3n o) .ret s → Q .ret s)
  (hrec_clerestory_calc_reader_value : Zi mL rec_clerestory_calc_reader_value) :
  Sv Tryz.prog (GG mL) 1 a62_c0 (Za1 mL Q) ⟨(ue [(4, (I kind)), (3, (.c (.ref 2 4 0 0))), (2, (.c (.ref 1 4 0 0))), (0, (.c (.ref 0 3 0 0)))]), (upd (upd (upd e0 0 (some (.cells 3 [[.ro false 4 (r01.map e_TSToken), cI r11, cB r21]]))) 1 (some (.cells 4 [[cI 0, cI 0, .str [], .ro true 4 []]]))) 2 (some (.cells 4 [[cI out0, cI out1, .str out2, .ro false 4 (out3.map eRaw)]]))), 3⟩ := by
 unfold Z3o at h
 refine ssr <| un1 rfl ?_
 obtain ⟨r_4, hr4, h⟩ := bnd h
 refine un <| ac_gen (bs := [0]) («as» := [(.c (.ref 0 3 0 0))]) (h2 := _) (h1 := (upd e0 0 (some (.cells 3 [[.ro false 4 (r01.map e_TSToken), cI r11, cB r21]])))) (Z1n hr4) rfl (.cons (.c (.ref rfl (by decide))) .nil) (hsub_refl _) (.cons rfl (.nil _)) hcs (by decide) (by decide) (.cons (.c (.ref rfl (by decide))) .nil) (.box (by decide) rfl (blkAs_cells (.sm rfl (.sm rfl (.sm rfl .nil)))) .nil) ?_
 rintro _ _ _ hn ⟨rfl, rfl, rfl⟩
 refine ⟨.inl rfl, (upd (rem [0] _) 0 (some (.cells 3 [[.ro false 4 (r_4.2.f_l.map e_TSToken), cI r_4.2.f_n, cB r_4.2.f_gapped]]))), fun hbd => (m3_cons (m3_box rfl rfl) (m3_rem (in_cons (by decide) (in_nil _)) (.cons (by decide) .nil) hbd)), (B r_4.1), 3, rfl, rfl, ?_⟩
 refine dnil <| Sv.drawn2 <| un1 rfl <| un1 rfl <| un1 rfl <| dnil ?_
 refine ⟨?_, ?_⟩
 ·refine un1 (v := (.agg [cI out0, cI out1, .str out2, .ro false 4 (out3.map eRaw)])) rfl ?_
  obtain ⟨r_5, hr5, h⟩ := bnd h
  refine un <| ac_gen (bs := [0]) («as» := [(.c (.ref 0 3 0 0)), (B true)]) (h2 := _) (h1 := (upd e0 0 (some (.cells 3 [[.ro false 4 (r_4.2.f_l.map e_TSToken), cI r_4.2.f_n, cB r_4.2.f_gapped]])))) (hrec_clerestory_calc_reader_value r_4.2 true _ hr5) rfl (.cons (.c (.ref rfl (by decide))) (.cons (avAs_free rfl) .nil)) (hsub_refl _) (.cons rfl (.nil _)) hcs (by decide) (by decide) (.cons (.c (.ref rfl (by decide))) (.cons (avAs_free rfl) .nil)) (.box (by decide) rfl (blkAs_cells (.sm rfl (.sm rfl (.sm rfl .nil)))) .nil) ?_
  rintro _ _ _ hn ⟨rfl, rfl, rfl⟩
  refine ⟨.inl rfl, (upd (rem [0] _) 0 (some (.cells 3 [[.ro false 4 (r_5.2.f_l.map e_TSToken), cI r_5.2.f_n, cB r_5.2.f_gapped]]))), fun hbd => (m3_cons (m3_box rfl rfl) (m3_rem (in_cons (by decide) (in_nil _)) (.cons (by decide) .nil) hbd)), (.agg (e_TSTerm r_5.1)), 3, rfl, rfl, ?_⟩
  obtain ⟨row, hrow⟩ : ∃ row : List Raw, row = [(⟨e_TSTerm (⟨out0, (⟨out1, out2⟩ : TSDim), out3⟩ : TSTerm), rfl⟩ : Raw), (⟨e_TSTerm r_5.1, rfl⟩ : Raw)] := ⟨_, rfl⟩
  replace h := letAt hrow h
  refine un <| a2v (v := (lstV false 3 4 row.length)) (h' := upd _ 3 (lstB false 4 (row.map eRaw))) (n' := 4) rfl (by rw [hrow]; rfl) hcs ?_
  clear hrow
  refine un1 (v := (.agg [cI kind, cI 0, .str [], lstC false 3 4 row.length])) rfl <| dweak (show Weak 1 _ ⟨(ue [(29, (.agg [cI kind, cI 0, .str [], .ro false 4 (row.map eRaw)])), (28, (.c (.ro false 4 (row.map eRaw)))), (27, (.agg (e_TSTerm r_5.1))), (26, (.c (.ref 0 3 0 0))), (25, (.agg [cI out0, cI out1, .str out2, .ro false 4 (out3.map eRaw)])), (24, (I kind)), (23, (.c (.ref 0 3 0 0))), (22, (B r_4.1)), (21, (.c (.ref 0 3 0 0))), (4, (I kind)), (3, (.c (.ref 2 4 0 0))), (2, (.c (.ref 1 4 0 0))), (0, (.c (.ref 0 3 0 0)))]), (upd (upd (upd e0 0 (some (.cells 3 [[.ro false 4 (r_5.2.f_l.map e_TSToken), cI r_5.2.f_n, cB r_5.2.f_gapped]]))) 1 (some (.cells 4 [[cI 0, cI 0, .str [], .ro true 4 []]]))) 2 (some (.cells 4 [[cI out0, cI out1, .str out2, .ro false 4 (out3.map eRaw)]]))), 4⟩ from (weak_canon [0, 1, 2, 1003] rfl (by decide) (by decide) (by decide) (.cons rfl (avAs_agg (.sm rfl (.sm rfl (.sm rfl (.cons (lstC_ro (es := List.map eRaw row) rfl (List.length_map eRaw).symm (map_nil_of hcs) (fun b x hx => not_in (bs := [0, 1, 2, 1003]) rfl b (((.cons (by decide) (.cons (by decide) (.cons (by decide) .nil))) : HLt _ _) b x hx)) (fr_map fr_raw)) .nil))))) (.cons rfl (.c (lstC_ro (es := List.map eRaw row) rfl (List.length_map eRaw).symm (map_nil_of hcs) (fun b x hx => not_in (bs := [0, 1, 2, 1003]) rfl b (((.cons (by decide) (.cons (by decide) (.cons (by decide) .nil))) : HLt _ _) b x hx)) (fr_map fr_raw))) (.cf rfl rfl (.cr rfl rfl rfl (.cf rfl rfl (.cf rfl rfl (.cr rfl rfl rfl (.cf rfl rfl (.cr rfl rfl rfl (.cf rfl rfl (.cr rfl rfl rfl (.cr rfl rfl rfl (.cr rfl rfl rfl .nil))))))))))))) (.box (by decide) rfl (blkAs_cells (.sm rfl (.sm rfl (.sm rfl (.sm rfl .nil))))) (.box (by decide) rfl (blkAs_cells (.sm rfl (.sm rfl (.sm rfl (.sm rfl .nil))))) (.box (by decide) rfl (blkAs_cells (.sm rfl (.sm rfl (.sm rfl .nil)))) .nil))))) ?_
  obtain ⟨r_7, hr7, h⟩ := bnd h
  refine un <| ac_gen (bs := [0]) («as» := [(.c (.ref 0 3 0 0)), (.agg [cI kind, cI 0, .str [], .ro false 4 (row.map eRaw)])]) (h2 := _) (h1 := (upd e0 0 (some (.cells 3 [[.ro false 4 (r_5.2.f_l.map e_TSToken), cI r_5.2.f_n, cB r_5.2.f_gapped]])))) (Z12 hr7) rfl (.cons (.c (.ref rfl (by decide))) (.cons (avAs_free rfl) .nil)) (hsub_refl _) (.cons rfl (.nil _)) hcs (by decide) (by decide) (.cons (.c (.ref rfl (by decide))) (.cons (avAs_free rfl) .nil)) (.box (by decide) rfl (blkAs_cells (.sm rfl (.sm rfl (.sm rfl .nil)))) .nil) ?_
  rintro _ _ _ hn ⟨rfl, rfl, rfl⟩
  refine ⟨.inl rfl, (upd (rem [0] _) 0 (some (.cells 3 [[.ro false 4 (r_7.2.f_l.map e_TSToken), cI r_7.2.f_n, cB r_7.2.f_gapped]]))), fun hbd => (m3_cons (m3_box rfl rfl) (m3_rem (in_cons (by decide) (in_nil _)) (.cons (by decide) .nil) hbd)), (.agg (e_TSTerm r_7.1)), 4, rfl, rfl, ?_⟩
  refine un <| a2n (h' := upd _ 2 (some (.cells 4 [(e_TSTerm r_7.1)]))) (n' := 4) rfl rfl hcs <| dnil ?_
  exact hself r_7.2.f_l r_7.2.f_n r_7.2.f_gapped r_7.1.Kind r_7.1.Dim.Num r_7.1.Dim.Unit r_7.1.Subs h _ (weak_canon [0, 1, 2] rfl (by decide) (by decide) (by decide) (.cr rfl rfl rfl (.cr rfl rfl rfl (.cr rfl rfl rfl .nil))) (.box (by decide) rfl (blkAs_cells (.sm rfl (.sm rfl (.sm rfl (.sm rfl .nil))))) (.box (by decide) rfl (blkAs_cells (.sm rfl (.sm rfl (.sm rfl (.sm rfl .nil))))) (.box (by decide) rfl (blkAs_cells (.sm rfl (.sm rfl (.sm rfl .nil)))) .nil))))
 ·obtain ⟨r_5, hr5, h⟩ := bnd h
  refine un <| ac_gen (bs := [0]) («as» := [(.c (.ref 0 3 0 0)), (B true)]) (h2 := _) (h1 := (upd e0 0 (some (.cells 3 [[.ro false 4 (r_4.2.f_l.map e_TSToken), cI r_4.2.f_n, cB r_4.2.f_gapped]])))) (hrec_clerestory_calc_reader_value r_4.2 true _ hr5) rfl (.cons (.c (.ref rfl (by decide))) (.cons (avAs_free rfl) .nil)) (hsub_refl _) (.cons rfl (.nil _)) hcs (by decide) (by decide) (.cons (.c (.ref rfl (by decide))) (.cons (avAs_free rfl) .nil)) (.box (by decide) rfl (blkAs_cells (.sm rfl (.sm rfl (.sm rfl .nil)))) .nil) ?_
  rintro _ _ _ hn ⟨rfl, rfl, rfl⟩
  refine ⟨.inl rfl, (upd (rem [0] _) 0 (some (.cells 3 [[.ro false 4 (r_5.2.f_l.map e_TSToken), cI r_5.2.f_n, cB r_5.2.f_gapped]]))), fun hbd => (m3_cons (m3_box rfl rfl) (m3_rem (in_cons (by decide) (in_nil _)) (.cons (by decide) .nil) hbd)), (.agg (e_TSTerm r_5.1)), 3, rfl, rfl, ?_⟩
  refine un1 (v := (.agg [cI out0, cI out1, .str out2, .ro false 4 (out3.map eRaw)])) rfl ?_
  obtain ⟨row, hrow⟩ : ∃ row : List Raw, row = [(⟨e_TSTerm (⟨out0, (⟨out1, out2⟩ : TSDim), out3⟩ : TSTerm), rfl⟩ : Raw), (⟨e_TSTerm r_5.1, rfl⟩ : Raw)] := ⟨_, rfl⟩
  replace h := letAt hrow h
  refine un <| a2v (v := (lstV false 3 4 row.length)) (h' := upd _ 3 (lstB false 4 (row.map eRaw))) (n' := 4) rfl (by rw [hrow]; rfl) hcs ?_
  clear hrow
  refine un1 (v := (.agg [cI kind, cI 0, .str [], lstC false 3 4 row.length])) rfl <| dweak (show Weak 1 _ ⟨(ue [(29, (.agg [cI kind, cI 0, .str [], .ro false 4 (row.map eRaw)])), (28, (.c (.ro false 4 (row.map eRaw)))), (27, (.agg (e_TSTerm r_5.1))), (26, (.c (.ref 0 3 0 0))), (25, (.agg [cI out0, cI out1, .str out2, .ro false 4 (out3.map eRaw)])), (24, (I kind)), (23, (.c (.ref 0 3 0 0))), (22, (B r_4.1)), (21, (.c (.ref 0 3 0 0))), (4, (I kind)), (3, (.c (.ref 2 4 0 0))), (2, (.c (.ref 1 4 0 0))), (0, (.c (.ref 0 3 0 0)))]), (upd (upd (upd e0 0 (some (.cells 3 [[.ro false 4 (r_5.2.f_l.map e_TSToken), cI r_5.2.f_n, cB r_5.2.f_gapped]]))) 1 (some (.cells 4 [[cI 0, cI 0, .str [], .ro true 4 []]]))) 2 (some (.cells 4 [[cI out0, cI out1, .str out2, .ro false 4 (out3.map eRaw)]]))), 4⟩ from (weak_canon [0, 1, 2, 1003] rfl (by decide) (by decide) (by decide) (.cons rfl (avAs_agg (.sm rfl (.sm rfl (.sm rfl (.cons (lstC_ro (es := List.map eRaw row) rfl (List.length_map eRaw).symm (map_nil_of hcs) (fun b x hx => not_in (bs := [0, 1, 2, 1003]) rfl b (((.cons (by decide) (.cons (by decide) (.cons (by decide) .nil))) : HLt _ _) b x hx)) (fr_map fr_raw)) .nil))))) (.cons rfl (.c (lstC_ro (es := List.map eRaw row) rfl (List.length_map eRaw).symm (map_nil_of hcs) (fun b x hx => not_in (bs := [0, 1, 2, 1003]) rfl b (((.cons (by decide) (.cons (by decide) (.cons (by decide) .nil))) : HLt _ _) b x hx)) (fr_map fr_raw))) (.cf rfl rfl (.cr rfl rfl rfl (.cf rfl rfl (.cf rfl rfl (.cr rfl rfl rfl (.cf rfl rfl (.cr rfl rfl rfl (.cf rfl rfl (.cr rfl rfl rfl (.cr rfl rfl rfl (.cr rfl rfl rfl .nil))))))))))))) (.box (by decide) rfl (blkAs_cells (.sm rfl (.sm rfl (.sm rfl (.sm rfl .nil))))) (.box (by decide) rfl (blkAs_cells (.sm rfl (.sm rfl (.sm rfl (.sm rfl .nil))))) (.box (by decide) rfl (blkAs_cells (.sm rfl (.sm rfl (.sm rfl .nil)))) .nil))))) ?_
  obtain ⟨r_7, hr7, h⟩ := bnd h
  refine un <| ac_gen (bs := [0]) («as» := [(.c (.ref 0 3 0 0)), (.agg [cI kind, cI 0, .str [], .ro false 4 (row.map eRaw)])]) (h2 := _) (h1 := (upd e0 0 (some (.cells 3 [[.ro false 4 (r_5.2.f_l.map e_TSToken), cI r_5.2.f_n, cB r_5.2.f_gapped]])))) (Z12 hr7) rfl (.cons (.c (.ref rfl (by decide))) (.cons (avAs_free rfl) .nil)) (hsub_refl _) (.cons rfl (.nil _)) hcs (by decide) (by decide) (.cons (.c (.ref rfl (by decide))) (.cons (avAs_free rfl) .nil)) (.box (by decide) rfl (blkAs_cells (.sm rfl (.sm rfl (.sm rfl .nil)))) .nil) ?_
  rintro _ _ _ hn ⟨rfl, rfl, rfl⟩
  refine ⟨.inl rfl, (upd (rem [0] _) 0 (some (.cells 3 [[.ro false 4 (r_7.2.f_l.map e_TSToken), cI r_7.2.f_n, cB r_7.2.f_gapped]]))), fun hbd => (m3_cons (m3_box rfl rfl) (m3_rem (in_cons (by decide) (in_nil _)) (.cons (by decide) .nil) hbd)), (.agg (e_TSTerm r_7.1)), 4, rfl, rfl, ?_⟩
  refine un <| a2n (h' := upd _ 2 (some (.cells 4 [(e_TSTerm r_7.1)]))) (n' := 4) rfl rfl hcs <| dnil ?_
  exact hself r_7.2.f_l r_7.2.f_n r_7.2.f_gapped r_7.1.Kind r_7.1.Dim.Num r_7.1.Dim.Unit r_7.1.Subs h _ (weak_canon [0, 1, 2] rfl (by decide) (by decide) (by decide) (.cr rfl rfl rfl (.cr rfl rfl rfl (.cr rfl rfl rfl .nil))) (.box (by decide) rfl (blkAs_cells (.sm rfl (.sm rfl (.sm rfl (.sm rfl .nil))))) (.box (by decide) rfl (blkAs_cells (.sm rfl (.sm rfl (.sm rfl (.sm rfl .nil))))) (.box (by decide) rfl (blkAs_cells (.sm rfl (.sm rfl (.sm rfl .nil)))) .nil))))
abbrev Z72 (F_ : Nat → (List TSToken) → Int → Bool → Int → Int → Tx → (List Raw) → Option (TSTerm × Treader)) (o : (TSTerm × Treader)) : Nat → St → Prop := fun k s => ∃ (r0 : (List TSToken)), ∃ (r1 : Int), ∃ (r2 : Bool), ∃ (out0 : Int), ∃ (out1 : Int), ∃ (out2 : Tx), ∃ (out3 : (List Raw)), F_ k r0 r1 r2 out0 out1 out2 out3 = some o ∧ s = ⟨(ue [(3, (.c (.ref 2 4 0 0))), (2, (.c (.ref 1 4 0 0))), (0, (.c (.ref 0 3 0 0)))]), (upd (upd (upd e0 0 (some (.cells 3 [[.ro false 4 (r0.map e_TSToken), cI r1, cB r2]]))) 1 (some (.cells 4 [[cI 0, cI 0, .str [], .ro true 4 []]]))) 2 (some (.cells 4 [[cI out0, cI out1, .str out2, .ro false 4 (out3.map eRaw)]]))), 3⟩
noncomputable def Z14 (rec_clerestory_calc_reader_value : Treader → Bool → Option (TSTerm × Treader)) : Nat → (List TSToken) → Int → Bool → Int → Int → Tx → (List Raw) → Option (TSTerm × Treader)
 | 0, _, _, _, _, _, _, _ => none
 | k + 1, r0, r1, r2, out0, out1, out2, out3 =>
  (Z11 (⟨r0, r1, r2⟩ : Treader)).bind fun r_3 =>
  (Z13 (⟨r_3.2.f_l, r_3.2.f_n, r_3.1⟩ : Treader) [42]).bind fun r_8 =>
  if r_8.1 then
   Z3o rec_clerestory_calc_reader_value out0 out1 out2 out3 (Z14 rec_clerestory_calc_reader_value k) r_8.2.f_l r_8.2.f_n r_8.2.f_gapped 4
  else
   (Z13 r_8.2 [47]).bind fun r_9 =>
   if r_9.1 then
    Z3o rec_clerestory_calc_reader_value out0 out1 out2 out3 (Z14 rec_clerestory_calc_reader_value k) r_9.2.f_l r_9.2.f_n r_9.2.f_gapped 5
   else
    some ((⟨out0, (⟨out1, out2⟩ : TSDim), out3⟩ : TSTerm), r_9.2)
theorem Za2 {mL : Int} {Q : AExit → St → Prop} {rec_clerestory_calc_reader_value : Treader → Bool → Option (TSTerm × Treader)} {k : Nat} {r0 : (List TSToken)} {r1 : Int} {r2 : Bool} {out0 : Int} {out1 : Int} {out2 : Tx} {out3 : (List Raw)} {o : (TSTerm × Treader)} (h : Z14 rec_clerestory_calc_reader_value k r0 r1 r2 out0 out1 out2 out3 = some o)
  (hr : ∀ s, Ends a62.results 1 (Z3n o) .ret s → Q .ret s)
  (hrec_clerestory_calc_reader_value : Zi mL rec_clerestory_calc_reader_value) :
  Sv Tryz.prog (GG mL) 1 (.loop a62_c1) Q ⟨(ue [(3, (.c (.ref 2 4 0 0))), (2, (.c (.ref 1 4 0 0))), (0, (.c (.ref 0 3 0 0)))]), (upd (upd (upd e0 0 (some (.cells 3 [[.ro false 4 (r0.map e_TSToken), cI r1, cB r2]]))) 1 (some (.cells 4 [[cI 0, cI 0, .str [], .ro true 4 []]]))) 2 (some (.cells 4 [[cI out0, cI out1, .str out2, .ro false 4 (out3.map eRaw)]]))), 3⟩ := by
 refine Sv.loop (I := Z72 (Z14 rec_clerestory_calc_reader_value) o) (fun k s hI => ?_) ⟨r0, r1, r2, out0, out1, out2, out3, h, rfl⟩
 clear h
 clear out3 out2 out1 out0 r2 r1 r0
 obtain ⟨r0, r1, r2, out0, out1, out2, out3, h, rfl⟩ := hI
 cases k with
 | zero => cases h
 | succ k =>
 rw [Z14] at h
 have hself : Z70 (Z14 rec_clerestory_calc_reader_value k) o (rnd 1 (Z72 (Z14 rec_clerestory_calc_reader_value) o) k Q) := fun r0 r1 r2 out0 out1 out2 out3 h s hw => ⟨_, k, hw, Nat.lt_succ_self k, r0, r1, r2, out0, out1, out2, out3, h, rfl⟩
 refine Sv.block <| ssr <| un1 rfl <| un1 rfl ?_
 obtain ⟨r_3, hr3, h⟩ := bnd h
 refine un <| ac_gen (bs := [0]) («as» := [(.c (.ref 0 3 0 0))]) (h2 := _) (h1 := (upd e0 0 (some (.cells 3 [[.ro false 4 (r0.map e_TSToken), cI r1, cB r2]])))) (Z1n hr3) rfl (.cons (.c (.ref rfl (by decide))) .nil) (hsub_refl _) (.cons rfl (.nil _)) hcs (by decide) (by decide) (.cons (.c (.ref rfl (by decide))) .nil) (.box (by decide) rfl (blkAs_cells (.sm rfl (.sm rfl (.sm rfl .nil)))) .nil) ?_
 rintro _ _ _ hn ⟨rfl, rfl, rfl⟩
 refine ⟨.inl rfl, (upd (rem [0] _) 0 (some (.cells 3 [[.ro false 4 (r_3.2.f_l.map e_TSToken), cI r_3.2.f_n, cB r_3.2.f_gapped]]))), fun hbd => (m3_cons (m3_box rfl rfl) (m3_rem (in_cons (by decide) (in_nil _)) (.cons (by decide) .nil) hbd)), (B r_3.1), 3, rfl, rfl, ?_⟩
 refine un1 (v := (.c (.ref 0 3 0 0))) rfl <| un1 (v := (.c (.ref 0 3 0 2))) rfl <| un <| a2n (h' := upd _ 0 (some (.cells 3 [[.ro false 4 (r_3.2.f_l.map e_TSToken), cI r_3.2.f_n, cB r_3.1]]))) (n' := 3) rfl rfl hcs <| dnil <| ssr <| un1 rfl <| dnil <| Sv.seq <| Sv.block <| ssr <| un1 rfl ?_
 obtain ⟨r_8, hr8, h⟩ := bnd h
 refine un <| ac_gen (bs := [0]) («as» := [(.c (.ref 0 3 0 0)), (S [42])]) (h2 := _) (h1 := (upd e0 0 (some (.cells 3 [[.ro false 4 (r_3.2.f_l.map e_TSToken), cI r_3.2.f_n, cB r_3.1]])))) (Zn hr8) rfl (.cons (.c (.ref rfl (by decide))) (.cons (avAs_free rfl) .nil)) (hsub_refl _) (.cons rfl (.nil _)) hcs (by decide) (by decide) (.cons (.c (.ref rfl (by decide))) (.cons (avAs_free rfl) .nil)) (.box (by decide) rfl (blkAs_cells (.sm rfl (.sm rfl (.sm rfl .nil)))) .nil) ?_
 rintro _ _ _ hn ⟨rfl, rfl, rfl⟩
 refine ⟨.inl rfl, (upd (rem [0] _) 0 (some (.cells 3 [[.ro false 4 (r_8.2.f_l.map e_TSToken), cI r_8.2.f_n, cB r_8.2.f_gapped]]))), fun hbd => (m3_cons (m3_box rfl rfl) (m3_rem (in_cons (by decide) (in_nil _)) (.cons (by decide) .nil) hbd)), (B r_8.1), 3, rfl, rfl, ?_⟩
 refine un1 rfl <| dnil ?_
 refine Sv.cnd rfl h (fun h => ?_) fun h => ?_
 ·refine srg <| un1 rfl <| dnil ?_
  exact Sv.weak (weak_canon [0, 1, 2] rfl (by decide) (by decide) (by decide) (.cf rfl rfl (.cr rfl rfl rfl (.cr rfl rfl rfl (.cr rfl rfl rfl .nil)))) (.box (by decide) rfl (blkAs_cells (.sm rfl (.sm rfl (.sm rfl (.sm rfl .nil))))) (.box (by decide) rfl (blkAs_cells (.sm rfl (.sm rfl (.sm rfl (.sm rfl .nil))))) (.box (by decide) rfl (blkAs_cells (.sm rfl (.sm rfl (.sm rfl .nil)))) .nil)))) (Z71 h hself hr hrec_clerestory_calc_reader_value)
 ·refine ssr <| un1 rfl ?_
  obtain ⟨r_9, hr9, h⟩ := bnd h
  refine un <| ac_gen (bs := [0]) («as» := [(.c (.ref 0 3 0 0)), (S [47])]) (h2 := _) (h1 := (upd e0 0 (some (.cells 3 [[.ro false 4 (r_8.2.f_l.map e_TSToken), cI r_8.2.f_n, cB r_8.2.f_gapped]])))) (Zn hr9) rfl (.cons (.c (.ref rfl (by decide))) (.cons (avAs_free rfl) .nil)) (hsub_refl _) (.cons rfl (.nil _)) hcs (by decide) (by decide) (.cons (.c (.ref rfl (by decide))) (.cons (avAs_free rfl) .nil)) (.box (by decide) rfl (blkAs_cells (.sm rfl (.sm rfl (.sm rfl .nil)))) .nil) ?_
  rintro _ _ _ hn ⟨rfl, rfl, rfl⟩
  refine ⟨.inl rfl, (upd (rem [0] _) 0 (some (.cells 3 [[.ro false 4 (r_9.2.f_l.map e_TSToken), cI r_9.2.f_n, cB r_9.2.f_gapped]]))), fun hbd => (m3_cons (m3_box rfl rfl) (m3_rem (in_cons (by decide) (in_nil _)) (.cons (by decide) .nil) hbd)), (B r_9.1), 3, rfl, rfl, ?_⟩
  refine un1 rfl <| dnil ?_
  refine Sv.cnd rfl h (fun h => ?_) fun h => ?_
  ·refine srg <| un1 rfl <| dnil ?_
   exact Sv.weak (weak_canon [0, 1, 2] rfl (by decide) (by decide) (by decide) (.cf rfl rfl (.cr rfl rfl rfl (.cr rfl rfl rfl (.cr rfl rfl rfl .nil)))) (.box (by decide) rfl (blkAs_cells (.sm rfl (.sm rfl (.sm rfl (.sm rfl .nil))))) (.box (by decide) rfl (blkAs_cells (.sm rfl (.sm rfl (.sm rfl (.sm rfl .nil))))) (.box (by decide) rfl (blkAs_cells (.sm rfl (.sm rfl (.sm rfl .nil)))) .nil)))) (Z71 h hself hr hrec_clerestory_calc_reader_value)
  ·refine ssr <| un1 (v := (.agg [cI out0, cI out1, .str out2, .ro false 4 (out3.map eRaw)])) rfl <| un <| a2n (h' := upd _ 1 (some (.cells 4 [[cI out0, cI out1, .str out2, .ro false 4 (out3.map eRaw)]]))) (n' := 3) rfl rfl hcs <| dnil <| Sv.ret ?_
   replace h := Option.some.inj h
   subst h
   exact hr _ ⟨_, .refl _, _, rfl, ⟨upd e0 0 (some (.agg [cI out0, cI out1, .str out2, .ro false 4 (out3.map eRaw)])), (upd e0 0 (some (.cells 3 [[.ro false 4 (r_9.2.f_l.map e_TSToken), cI r_9.2.f_n, cB r_9.2.f_gapped]]))), 1⟩, (.agg [cI out0, cI out1, .str out2, .ro false 4 (out3.map eRaw)]), weak_canon2 [0] [0] (by decide) (by decide) (by decide) (.cons (by decide) .nil) (.cf rfl rfl .nil) (.box (by decide) rfl (blkAs_cells (.sm rfl (.sm rfl (.sm rfl .nil)))) .nil), rfl, rfl, rfl, rfl⟩
/-- (*clerestory/calc.reader).product -/
noncomputable def Z3p (rec_clerestory_calc_reader_value : Treader → Bool → Option (TSTerm × Treader)) (r_ : Treader) : Option (TSTerm × Treader) :=
 (Z11 r_).bind fun r_1 =>
 (rec_clerestory_calc_reader_value r_1.2 true).bind fun r_2 =>
 limF fun kk => Z14 rec_clerestory_calc_reader_value kk r_2.2.f_l r_2.2.f_n r_2.2.f_gapped r_2.1.Kind r_2.1.Dim.Num r_2.1.Dim.Unit r_2.1.Subs
theorem Z5d {mL : Int} {rec_clerestory_calc_reader_value : Treader → Bool → Option (TSTerm × Treader)} (hrec_clerestory_calc_reader_value : Zi mL rec_clerestory_calc_reader_value) {r_ : Treader} {r : (TSTerm × Treader)} (h : Z3p rec_clerestory_calc_reader_value r_ = some r) : ACalls Tryz.prog (GG mL) 62 [(.c (.ref 0 3 0 0))] (upd e0 0 (some (.cells 3 [[.ro false 4 (r_.f_l.map e_TSToken), cI r_.f_n, cB r_.f_gapped]]))) 1 (Z3n r) := by
 refine acalls_of_sv hmix c62 (R := Z3n r) ?_
 unfold Z3p at h
 refine ssr <| un <| a2v (v := (.c (.ref 1 4 0 0))) (h' := upd _ 1 (some (.cells 4 [[cI 0, cI 0, .str [], .ro true 4 []]]))) (n' := 2) rfl rfl hcs <| dnil <| ssr <| un1 rfl ?_
 obtain ⟨r_1, hr1, h⟩ := bnd h
 refine un <| ac_gen (bs := [0]) («as» := [(.c (.ref 0 3 0 0))]) (h2 := _) (h1 := (upd e0 0 (some (.cells 3 [[.ro false 4 (r_.f_l.map e_TSToken), cI r_.f_n, cB r_.f_gapped]])))) (Z1n hr1) rfl (.cons (.c (.ref rfl (by decide))) .nil) (hsub_refl _) (.cons rfl (.nil _)) hcs (by decide) (by decide) (.cons (.c (.ref rfl (by decide))) .nil) (.box (by decide) rfl (blkAs_cells (.sm rfl (.sm rfl (.sm rfl .nil)))) .nil) ?_
 rintro _ _ _ hn ⟨rfl, rfl, rfl⟩
 refine ⟨.inl rfl, (upd (rem [0] _) 0 (some (.cells 3 [[.ro false 4 (r_1.2.f_l.map e_TSToken), cI r_1.2.f_n, cB r_1.2.f_gapped]]))), fun hbd => (m3_cons (m3_box rfl rfl) (m3_rem (in_cons (by decide) (in_nil _)) (.cons (by decide) .nil) hbd)), (B r_1.1), 2, rfl, rfl, ?_⟩
 refine dnil <| ssr <| un1 rfl ?_
 obtain ⟨r_2, hr2, h⟩ := bnd h
 refine un <| ac_gen (bs := [0]) («as» := [(.c (.ref 0 3 0 0)), (B true)]) (h2 := _) (h1 := (upd e0 0 (some (.cells 3 [[.ro false 4 (r_1.2.f_l.map e_TSToken), cI r_1.2.f_n, cB r_1.2.f_gapped]])))) (hrec_clerestory_calc_reader_value r_1.2 true _ hr2) rfl (.cons (.c (.ref rfl (by decide))) (.cons (avAs_free rfl) .nil)) (hsub_refl _) (.cons rfl (.nil _)) hcs (by decide) (by decide) (.cons (.c (.ref rfl (by decide))) (.cons (avAs_free rfl) .nil)) (.box (by decide) rfl (blkAs_cells (.sm rfl (.sm rfl (.sm rfl .nil)))) .nil) ?_
 rintro _ _ _ hn ⟨rfl, rfl, rfl⟩
 refine ⟨.inl rfl, (upd (rem [0] _) 0 (some (.cells 3 [[.ro false 4 (r_2.2.f_l.map e_TSToken), cI r_2.2.f_n, cB r_2.2.f_gapped]]))), fun hbd => (m3_cons (m3_box rfl rfl) (m3_rem (in_cons (by decide) (in_nil _)) (.cons (by decide) .nil) hbd)), (.agg (e_TSTerm r_2.1)), 2, rfl, rfl, ?_⟩
 refine un <| a2v (v := (.c (.ref 2 4 0 0))) (h' := upd _ 2 (some (.cells 4 [[cI 0, cI 0, .str [], .ro true 4 []]]))) (n' := 3) rfl rfl hcs <| un <| a2n (h' := upd _ 2 (some (.cells 4 [(e_TSTerm r_2.1)]))) (n' := 3) rfl rfl hcs <| dnil <| Sv.block ?_
 obtain ⟨kk, h⟩ := limF_some h
 refine Sv.weak (weak_canon [0, 1, 2] rfl (by decide) (by decide) (by decide) (.cr rfl rfl rfl (.cr rfl rfl rfl (.cr rfl rfl rfl .nil))) (.box (by decide) rfl (blkAs_cells (.sm rfl (.sm rfl (.sm rfl (.sm rfl .nil))))) (.box (by decide) rfl (blkAs_cells (.sm rfl (.sm rfl (.sm rfl (.sm rfl .nil))))) (.box (by decide) rfl (blkAs_cells (.sm rfl (.sm rfl (.sm rfl .nil)))) .nil)))) (Za2 h  (fun s hs => hs) hrec_clerestory_calc_reader_value)
def a36_c1 : ACode := (.cond (.tmp 30) (.region [(oP 5 (.mov (kI 3)))]) (sr [(oP 12 (.load true 4 (.tmp 3))), (oN (.store 4 (.tmp 2) (.tmp 12)))]
 .ret))
def a36_c0 : ACode := (.cond (.tmp 13) (.region [(oP 5 (.mov (kI 2)))]) (sr [(mV 31 0), (oP 32 (.nilc (.tmp 31))), (oP 33 (.faddr 0 (.tmp 32))), (oP 34 (.load false 1 (.tmp 33))), (oP 35 (.len (.tmp 34))), (oP 36 (.bin .gtr (.tmp 35) (kI 0))), (mV 37 36), ⟨(some 38), (.mov (.tmp 0)), (some (37, true))⟩, ⟨(some 39), (.nilc (.tmp 38)), (some (37, true))⟩, ⟨(some 40), (.faddr 0 (.tmp 39)), (some (37, true))⟩, ⟨(some 41), (.load false 1 (.tmp 40)), (some (37, true))⟩, ⟨(some 42), (.iaddr 4 (.tmp 41) (kI 0)), (some (37, true))⟩, ⟨(some 43), (.faddr 1 (.tmp 42)), (some (37, true))⟩, ⟨(some 44), (.load false 1 (.tmp 43)), (some (37, true))⟩, ⟨(some 45), (.bin .eql (.tmp 44) (.const (.c (.str [45])))), (some (37, true))⟩, (oP 46 (.pick (.tmp 37) (.tmp 45) kF)), (mV 30 46)]
 a36_c1))
def a36_c3 : ACode := (.drawn (.alt [((mV 62 0), (0, 0)), ((mV 63 5), (0, 1)), ((mV 65 0), (0, 3))] (.fin [((oP 64 (.load true 4 (.tmp 3))), (2, 2)), ((oP 66 (.call 62 [(.tmp 65)])), (2, 4)), ((oP 67 (.bslice 4 [(.val (.int .i64 0)), (.val (.int .i64 0)), (.str []), (.ro true 4 [])] 2 [(0, (.tmp 64)), (1, (.tmp 66))])), (2, 5)), ((oP 68 (.build [(.val (.int .i64 0)), (.val (.int .i64 0)), (.str []), (.ro true 4 [])] [(0, (1, (.tmp 63))), (3, (1, (.tmp 67)))])), (0, 6)), ((oP 69 (.call 35 [(.tmp 62), (.tmp 68)])), (2, 7)), ((oN (.store 4 (.tmp 3) (.tmp 69))), (2, 8))]) (.fin [((oP 66 (.call 62 [(.tmp 65)])), (2, 4)), ((oP 64 (.load true 4 (.tmp 3))), (2, 2)), ((oP 67 (.bslice 4 [(.val (.int .i64 0)), (.val (.int .i64 0)), (.str []), (.ro true 4 [])] 2 [(0, (.tmp 64)), (1, (.tmp 66))])), (2, 5)), ((oP 68 (.build [(.val (.int .i64 0)), (.val (.int .i64 0)), (.str []), (.ro true 4 [])] [(0, (1, (.tmp 63))), (3, (1, (.tmp 67)))])), (0, 6)), ((oP 69 (.call 35 [(.tmp 62), (.tmp 68)])), (2, 7)), ((oN (.store 4 (.tmp 3) (.tmp 69))), (2, 8))])))
def a36_c2 : ACode := (sr [(mV 47 0), (mV 48 0), (oP 49 (.nilc (.tmp 48))), (oP 50 (.faddr 0 (.tmp 49))), (oP 51 (.load false 1 (.tmp 50))), (oP 52 (.slSl 4 (.tmp 51) (some (kI 1)) none none)), (oP 53 (.nilc (.tmp 47))), (oP 54 (.faddr 0 (.tmp 53))), (oN (.store 1 (.tmp 54) (.tmp 52)))]
 (sr [(mV 55 0), (mV 56 4), (mV 57 56), ⟨(some 58), (.mov (.tmp 0)), (some (57, true))⟩, ⟨(some 59), (.call 17 [(.tmp 58)]), (some (57, true))⟩, (oP 60 (.pick (.tmp 57) (.tmp 59) kF)), (oP 61 (.call 19 [(.tmp 55), (.tmp 60)]))]
 a36_c3))
def a36_c4 : ACode := (.block 1 (sr [(mV 8 0), (oP 9 (.nilc (.tmp 8))), (oP 10 (.faddr 2 (.tmp 9))), (oP 11 (.load false 1 (.tmp 10))), (mV 4 11)]
 (sr [(oP 5 (.mov (kI 0)))]
 (.seq (.block 2 (sr [(mV 14 0), (oP 15 (.nilc (.tmp 14))), (oP 16 (.faddr 0 (.tmp 15))), (oP 17 (.load false 1 (.tmp 16))), (oP 18 (.len (.tmp 17))), (oP 19 (.bin .gtr (.tmp 18) (kI 0))), (mV 20 19), ⟨(some 21), (.mov (.tmp 0)), (some (20, true))⟩, ⟨(some 22), (.nilc (.tmp 21)), (some (20, true))⟩, ⟨(some 23), (.faddr 0 (.tmp 22)), (some (20, true))⟩, ⟨(some 24), (.load false 1 (.tmp 23)), (some (20, true))⟩, ⟨(some 25), (.iaddr 4 (.tmp 24) (kI 0)), (some (20, true))⟩, ⟨(some 26), (.faddr 1 (.tmp 25)), (some (20, true))⟩, ⟨(some 27), (.load false 1 (.tmp 26)), (some (20, true))⟩, ⟨(some 28), (.bin .eql (.tmp 27) (.const (.c (.str [43])))), (some (20, true))⟩, (oP 29 (.pick (.tmp 20) (.tmp 28) kF)), (mV 13 29)]
 a36_c0))
 a36_c2))))
def a36 : AFunc := ⟨1, [(.cell true 4 2)], (sr [(oP 2 (.box (.const (.agg [(.val (.int .i64 0)), (.val (.int .i64 0)), (.str []), (.ro true 4 [])]))))]
 (sr [(mV 6 0), (oP 7 (.call 62 [(.tmp 6)])), (oP 3 (.box (.const (.agg [(.val (.int .i64 0)), (.val (.int .i64 0)), (.str []), (.ro true 4 [])])))), (oN (.store 4 (.tmp 3) (.tmp 7)))]
 (.block 0 (.loop a36_c4))))⟩
theorem c36 : compFunc Tryz.prog 36 = some a36 := by kernel_rfl
def Z1d (r : (TSTerm × Treader)) : AV → Heap → Nat → Prop := fun v h' n' => v = (.agg (e_TSTerm r.1)) ∧ (h' = (upd e0 0 (some (.cells 3 [[.ro false 4 (r.2.f_l.map e_TSToken), cI r.2.f_n, cB r.2.f_gapped]])))) ∧ n' = 1
abbrev Z2h (F_ : (List TSToken) → Int → Bool → Int → Int → Tx → (List Raw) → Option (TSTerm × Treader)) (o : (TSTerm × Treader)) (R_ : St → Prop) : Prop := ∀ (r0 : (List TSToken)) (r1 : Int) (r2 : Bool) (out0 : Int) (out1 : Int) (out2 : Tx) (out3 : (List Raw)), F_ r0 r1 r2 out0 out1 out2 out3 = some o → ∀ s, Weak 1 s ⟨(ue [(3, (.c (.ref 2 4 0 0))), (2, (.c (.ref 1 4 0 0))), (0, (.c (.ref 0 3 0 0)))]), (upd (upd (upd e0 0 (some (.cells 3 [[.ro false 4 (r0.map e_TSToken), cI r1, cB r2]]))) 1 (some (.cells 4 [[cI 0, cI 0, .str [], .ro true 4 []]]))) 2 (some (.cells 4 [[cI out0, cI out1, .str out2, .ro false 4 (out3.map eRaw)]]))), 3⟩ → R_ s
abbrev Z3q (mL : Int) (Q : AExit → St → Prop) : AExit → St → Prop := ABlock 1 Q
noncomputable def Z3r (rec_clerestory_calc_reader_value : Treader → Bool → Option (TSTerm × Treader)) (out0 : Int) (out1 : Int) (out2 : Tx) (out3 : (List Raw)) (kind : Int) (self : (List TSToken) → Int → Bool → Int → Int → Tx → (List Raw) → Option (TSTerm × Treader)) (r01 : (List TSToken)) (r11 : Int) (r21 : Bool) : Option (TSTerm × Treader) :=
 (Z3p rec_clerestory_calc_reader_value (⟨r01, r11, r21⟩ : Treader)).bind fun r_3 =>
 letIn [(⟨e_TSTerm (⟨out0, (⟨out1, out2⟩ : TSDim), out3⟩ : TSTerm), rfl⟩ : Raw), (⟨e_TSTerm r_3.1, rfl⟩ : Raw)] fun row : List Raw =>
 (Z1o r_3.2 (⟨kind, (⟨0, []⟩ : TSDim), row⟩ : TSTerm)).bind fun r_5 =>
 self r_5.2.f_l r_5.2.f_n r_5.2.f_gapped r_5.1.Kind r_5.1.Dim.Num r_5.1.Dim.Unit r_5.1.Subs
theorem Z73 {mL : Int} {Q : AExit → St → Prop} {rec_clerestory_calc_reader_value : Treader → Bool → Option (TSTerm × Treader)} {out0 : Int} {out1 : Int} {out2 : Tx} {out3 : (List Raw)} {kind : Int} {self : (List TSToken) → Int → Bool → Int → Int → Tx → (List Raw) → Option (TSTerm × Treader)} {r01 : (List TSToken)} {r11 : Int} {r21 : Bool} {o : (TSTerm × Treader)} (h : Z3r rec_clerestory_calc_reader_value out0 out1 out2 out3 kind self r01 r11 r21 = some o)
  (hself : Z2h self o (Q .normal))
  (hr : ∀ s, Ends a36.results 1 (Z1d o) .ret s → Q .ret s)
  (hrec_clerestory_calc_reader_value : Zi mL rec_clerestory_calc_reader_value) :
  Sv Tryz.prog (GG mL) 1 a36_c3 (Z3q mL Q) ⟨(ue [(5, (I kind)), (3, (.c (.ref 2 4 0 0))), (2, (.c (.ref 1 4 0 0))), (0, (.c (.ref 0 3 0 0)))]), (upd (upd (upd e0 0 (some (.cells 3 [[.ro false 4 (r01.map e_TSToken), cI r11, cB r21]]))) 1 (some (.cells 4 [[cI 0, cI 0, .str [], .ro true 4 []]]))) 2 (some (.cells 4 [[cI out0, cI out1, .str out2, .ro false 4 (out3.map eRaw)]]))), 3⟩ := by
 unfold Z3r at h
 refine Sv.drawn2 <| un1 rfl <| un1 rfl <| un1 rfl <| dnil ?_
 refine ⟨?_, ?_⟩
 ·refine un1 (v := (.agg [cI out0, cI out1, .str out2, .ro false 4 (out3.map eRaw)])) rfl ?_
  obtain ⟨r_3, hr2, h⟩ := bnd h
  refine un <| ac_gen (bs := [0]) («as» := [(.c (.ref 0 3 0 0))]) (h2 := _) (h1 := (upd e0 0 (some (.cells 3 [[.ro false 4 (r01.map e_TSToken), cI r11, cB r21]])))) (Z5d hrec_clerestory_calc_reader_value hr2) rfl (.cons (.c (.ref rfl (by decide))) .nil) (hsub_refl _) (.cons rfl (.nil _)) hcs (by decide) (by decide) (.cons (.c (.ref rfl (by decide))) .nil) (.box (by decide) rfl (blkAs_cells (.sm rfl (.sm rfl (.sm rfl .nil)))) .nil) ?_
  rintro _ _ _ hn ⟨rfl, rfl, rfl⟩
  refine ⟨.inl rfl, (upd (rem [0] _) 0 (some (.cells 3 [[.ro false 4 (r_3.2.f_l.map e_TSToken), cI r_3.2.f_n, cB r_3.2.f_gapped]]))), fun hbd => (m3_cons (m3_box rfl rfl) (m3_rem (in_cons (by decide) (in_nil _)) (.cons (by decide) .nil) hbd)), (.agg (e_TSTerm r_3.1)), 3, rfl, rfl, ?_⟩
  obtain ⟨row, hrow⟩ : ∃ row : List Raw, row = [(⟨e_TSTerm (⟨out0, (⟨out1, out2⟩ : TSDim), out3⟩ : TSTerm), rfl⟩ : Raw), (⟨e_TSTerm r_3.1, rfl⟩ : Raw)] := ⟨_, rfl⟩
  replace h := letAt hrow h
  refine un <| a2v (v := (lstV false 3 4 row.length)) (h' := upd _ 3 (lstB false 4 (row.map eRaw))) (n' := 4) rfl (by rw [hrow]; rfl) hcs ?_
  clear hrow
  refine un1 (v := (.agg [cI kind, cI 0, .str [], lstC false 3 4 row.length])) rfl <| dweak (show Weak 1 _ ⟨(ue [(68, (.agg [cI kind, cI 0, .str [], .ro false 4 (row.map eRaw)])), (67, (.c (.ro false 4 (row.map eRaw)))), (66, (.agg (e_TSTerm r_3.1))), (65, (.c (.ref 0 3 0 0))), (64, (.agg [cI out0, cI out1, .str out2, .ro false 4 (out3.map eRaw)])), (63, (I kind)), (62, (.c (.ref 0 3 0 0))), (5, (I kind)), (3, (.c (.ref 2 4 0 0))), (2, (.c (.ref 1 4 0 0))), (0, (.c (.ref 0 3 0 0)))]), (upd (upd (upd e0 0 (some (.cells 3 [[.ro false 4 (r_3.2.f_l.map e_TSToken), cI r_3.2.f_n, cB r_3.2.f_gapped]]))) 1 (some (.cells 4 [[cI 0, cI 0, .str [], .ro true 4 []]]))) 2 (some (.cells 4 [[cI out0, cI out1, .str out2, .ro false 4 (out3.map eRaw)]]))), 4⟩ from (weak_canon [0, 1, 2, 1003] rfl (by decide) (by decide) (by decide) (.cons rfl (avAs_agg (.sm rfl (.sm rfl (.sm rfl (.cons (lstC_ro (es := List.map eRaw row) rfl (List.length_map eRaw).symm (map_nil_of hcs) (fun b x hx => not_in (bs := [0, 1, 2, 1003]) rfl b (((.cons (by decide) (.cons (by decide) (.cons (by decide) .nil))) : HLt _ _) b x hx)) (fr_map fr_raw)) .nil))))) (.cons rfl (.c (lstC_ro (es := List.map eRaw row) rfl (List.length_map eRaw).symm (map_nil_of hcs) (fun b x hx => not_in (bs := [0, 1, 2, 1003]) rfl b (((.cons (by decide) (.cons (by decide) (.cons (by decide) .nil))) : HLt _ _) b x hx)) (fr_map fr_raw))) (.cf rfl rfl (.cr rfl rfl rfl (.cf rfl rfl (.cf rfl rfl (.cr rfl rfl rfl (.cf rfl rfl (.cr rfl rfl rfl (.cr rfl rfl rfl (.cr rfl rfl rfl .nil))))))))))) (.box (by decide) rfl (blkAs_cells (.sm rfl (.sm rfl (.sm rfl (.sm rfl .nil))))) (.box (by decide) rfl (blkAs_cells (.sm rfl (.sm rfl (.sm rfl (.sm rfl .nil))))) (.box (by decide) rfl (blkAs_cells (.sm rfl (.sm rfl (.sm rfl .nil)))) .nil))))) ?_
  obtain ⟨r_5, hr4, h⟩ := bnd h
  refine un <| ac_gen (bs := [0]) («as» := [(.c (.ref 0 3 0 0)), (.agg [cI kind, cI 0, .str [], .ro false 4 (row.map eRaw)])]) (h2 := _) (h1 := (upd e0 0 (some (.cells 3 [[.ro false 4 (r_3.2.f_l.map e_TSToken), cI r_3.2.f_n, cB r_3.2.f_gapped]])))) (Z12 hr4) rfl (.cons (.c (.ref rfl (by decide))) (.cons (avAs_free rfl) .nil)) (hsub_refl _) (.cons rfl (.nil _)) hcs (by decide) (by decide) (.cons (.c (.ref rfl (by decide))) (.cons (avAs_free rfl) .nil)) (.box (by decide) rfl (blkAs_cells (.sm rfl (.sm rfl (.sm rfl .nil)))) .nil) ?_
  rintro _ _ _ hn ⟨rfl, rfl, rfl⟩
  refine ⟨.inl rfl, (upd (rem [0] _) 0 (some (.cells 3 [[.ro false 4 (r_5.2.f_l.map e_TSToken), cI r_5.2.f_n, cB r_5.2.f_gapped]]))), fun hbd => (m3_cons (m3_box rfl rfl) (m3_rem (in_cons (by decide) (in_nil _)) (.cons (by decide) .nil) hbd)), (.agg (e_TSTerm r_5.1)), 4, rfl, rfl, ?_⟩
  refine un <| a2n (h' := upd _ 2 (some (.cells 4 [(e_TSTerm r_5.1)]))) (n' := 4) rfl rfl hcs <| dnil ?_
  exact hself r_5.2.f_l r_5.2.f_n r_5.2.f_gapped r_5.1.Kind r_5.1.Dim.Num r_5.1.Dim.Unit r_5.1.Subs h _ (weak_canon [0, 1, 2] rfl (by decide) (by decide) (by decide) (.cr rfl rfl rfl (.cr rfl rfl rfl (.cr rfl rfl rfl .nil))) (.box (by decide) rfl (blkAs_cells (.sm rfl (.sm rfl (.sm rfl (.sm rfl .nil))))) (.box (by decide) rfl (blkAs_cells (.sm rfl (.sm rfl (.sm rfl (.sm rfl .nil))))) (.box (by decide) rfl (blkAs_cells (.sm rfl (.sm rfl (.sm rfl .nil)))) .nil))))
 ·obtain ⟨r_3, hr2, h⟩ := bnd h
  refine un <| ac_gen (bs := [0]) («as» := [(.c (.ref 0 3 0 0))]) (h2 := _) (h1 := (upd e0 0 (some (.cells 3 [[.ro false 4 (r01.map e_TSToken), cI r11, cB r21]])))) (Z5d hrec_clerestory_calc_reader_value hr2) rfl (.cons (.c (.ref rfl (by decide))) .nil) (hsub_refl _) (.cons rfl (.nil _)) hcs (by decide) (by decide) (.cons (.c (.ref rfl (by decide))) .nil) (.box (by decide) rfl (blkAs_cells (.sm rfl (.sm rfl (.sm rfl .nil)))) .nil) ?_
  rintro _ _ _ hn ⟨rfl, rfl, rfl⟩
  refine ⟨.inl rfl, (upd (rem [0] _) 0 (some (.cells 3 [[.ro false 4 (r_3.2.f_l.map e_TSToken), cI r_3.2.f_n, cB r_3.2.f_gapped]]))), fun hbd => (m3_cons (m3_box rfl rfl) (m3_rem (in_cons (by decide) (in_nil _)) (.cons (by decide) .nil) hbd)), (.agg (e_TSTerm r_3.1)), 3, rfl, rfl, ?_⟩
  refine un1 (v := (.agg [cI out0, cI out1, .str out2, .ro false 4 (out3.map eRaw)])) rfl ?_
  obtain ⟨row, hrow⟩ : ∃ row : List Raw, row = [(⟨e_TSTerm (⟨out0, (⟨out1, out2⟩ : TSDim), out3⟩ : TSTerm), rfl⟩ : Raw), (⟨e_TSTerm r_3.1, rfl⟩ : Raw)] := ⟨_, rfl⟩
  replace h := letAt hrow h
  refine un <| a2v (v := (lstV false 3 4 row.length)) (h' := upd _ 3 (lstB false 4 (row.map eRaw))) (n' := 4) rfl (by rw [hrow]; rfl) hcs ?_
  clear hrow
  refine un1 (v := (.agg [cI kind, cI 0, .str [], lstC false 3 4 row.length])) rfl <| dweak (show Weak 1 _ ⟨(ue [(68, (.agg [cI kind, cI 0, .str [], .ro false 4 (row.map eRaw)])), (67, (.c (.ro false 4 (row.map eRaw)))), (66, (.agg (e_TSTerm r_3.1))), (65, (.c (.ref 0 3 0 0))), (64, (.agg [cI out0, cI out1, .str out2, .ro false 4 (out3.map eRaw)])), (63, (I kind)), (62, (.c (.ref 0 3 0 0))), (5, (I kind)), (3, (.c (.ref 2 4 0 0))), (2, (.c (.ref 1 4 0 0))), (0, (.c (.ref 0 3 0 0)))]), (upd (upd (upd e0 0 (some (.cells 3 [[.ro false 4 (r_3.2.f_l.map e_TSToken), cI r_3.2.f_n, cB r_3.2.f_gapped]]))) 1 (some (.cells 4 [[cI 0, cI 0, .str [], .ro true 4 []]]))) 2 (some (.cells 4 [[cI out0, cI out1, .str out2, .ro false 4 (out3.map eRaw)]]))), 4⟩ from (weak_canon [0, 1, 2, 1003] rfl (by decide) (by decide) (by decide) (.cons rfl (avAs_agg (.sm rfl (.sm rfl (.sm rfl (.cons (lstC_ro (es := List.map eRaw row) rfl (List.length_map eRaw).symm (map_nil_of hcs) (fun b x hx => not_in (bs := [0, 1, 2, 1003]) rfl b (((.cons (by decide) (.cons (by decide) (.cons (by decide) .nil))) : HLt _ _) b x hx)) (fr_map fr_raw)) .nil))))) (.cons rfl (.c (lstC_ro (es := List.map eRaw row) rfl (List.length_map eRaw).symm (map_nil_of hcs) (fun b x hx => not_in (bs := [0, 1, 2, 1003]) rfl b (((.cons (by decide) (.cons (by decide) (.cons (by decide) .nil))) : HLt _ _) b x hx)) (fr_map fr_raw))) (.cf rfl rfl (.cr rfl rfl rfl (.cf rfl rfl (.cf rfl rfl (.cr rfl rfl rfl (.cf rfl rfl (.cr rfl rfl rfl (.cr rfl rfl rfl (.cr rfl rfl rfl .nil))))))))))) (.box (by decide) rfl (blkAs_cells (.sm rfl (.sm rfl (.sm rfl (.sm rfl .nil))))) (.box (by decide) rfl (blkAs_cells (.sm rfl (.sm rfl (.sm rfl (.sm rfl .nil))))) (.box (by decide) rfl (blkAs_cells (.sm rfl (.sm rfl (.sm rfl .nil)))) .nil))))) ?_
  obtain ⟨r_5, hr4, h⟩ := bnd h
  refine un <| ac_gen (bs := [0]) («as» := [(.c (.ref 0 3 0 0)), (.agg [cI kind, cI 0, .str [], .ro false 4 (row.map eRaw)])]) (h2 := _) (h1 := (upd e0 0 (some (.cells 3 [[.ro false 4 (r_3.2.f_l.map e_TSToken), cI r_3.2.f_n, cB r_3.2.f_gapped]])))) (Z12 hr4) rfl (.cons (.c (.ref rfl (by decide))) (.cons (avAs_free rfl) .nil)) (hsub_refl _) (.cons rfl (.nil _)) hcs (by decide) (by decide) (.cons (.c (.ref rfl (by decide))) (.cons (avAs_free rfl) .nil)) (.box (by decide) rfl (blkAs_cells (.sm rfl (.sm rfl (.sm rfl .nil)))) .nil) ?_
  rintro _ _ _ hn ⟨rfl, rfl, rfl⟩
  refine ⟨.inl rfl, (upd (rem [0] _) 0 (some (.cells 3 [[.ro false 4 (r_5.2.f_l.map e_TSToken), cI r_5.2.f_n, cB r_5.2.f_gapped]]))), fun hbd => (m3_cons (m3_box rfl rfl) (m3_rem (in_cons (by decide) (in_nil _)) (.cons (by decide) .nil) hbd)), (.agg (e_TSTerm r_5.1)), 4, rfl, rfl, ?_⟩
  refine un <| a2n (h' := upd _ 2 (some (.cells 4 [(e_TSTerm r_5.1)]))) (n' := 4) rfl rfl hcs <| dnil ?_
  exact hself r_5.2.f_l r_5.2.f_n r_5.2.f_gapped r_5.1.Kind r_5.1.Dim.Num r_5.1.Dim.Unit r_5.1.Subs h _ (weak_canon [0, 1, 2] rfl (by decide) (by decide) (by decide) (.cr rfl rfl rfl (.cr rfl rfl rfl (.cr rfl rfl rfl .nil))) (.box (by decide) rfl (blkAs_cells (.sm rfl (.sm rfl (.sm rfl (.sm rfl .nil))))) (.box (by decide) rfl (blkAs_cells (.sm rfl (.sm rfl (.sm rfl (.sm rfl .nil))))) (.box (by decide) rfl (blkAs_cells (.sm rfl (.sm rfl (.sm rfl .nil)))) .nil))))
noncomputable def Z3s (r0 : (List TSToken)) (r2 : Bool) (r1 : Int) (rec_clerestory_calc_reader_value : Treader → Bool → Option (TSTerm × Treader)) (out0 : Int) (out1 : Int) (out2 : Tx) (out3 : (List Raw)) (self : (List TSToken) → Int → Bool → Int → Int → Tx → (List Raw) → Option (TSTerm × Treader)) (kind : Int) : Option (TSTerm × Treader) :=
 (sub? r0 1 (r0.length : Int)).bind fun r_2 =>
 if r2 then
  (Z11 (⟨r_2, r1, r2⟩ : Treader)).bind fun r_6 =>
  (Ze r_6.2 r_6.1).bind fun r_7 =>
  Z3r rec_clerestory_calc_reader_value out0 out1 out2 out3 kind self r_6.2.f_l r_6.2.f_n r_6.2.f_gapped
 else
  (Ze (⟨r_2, r1, r2⟩ : Treader) false).bind fun r_8 =>
  Z3r rec_clerestory_calc_reader_value out0 out1 out2 out3 kind self r_2 r1 r2
theorem Z74 {mL : Int} {Q : AExit → St → Prop} {r0 : (List TSToken)} {r2 : Bool} {r1 : Int} {rec_clerestory_calc_reader_value : Treader → Bool → Option (TSTerm × Treader)} {out0 : Int} {out1 : Int} {out2 : Tx} {out3 : (List Raw)} {self : (List TSToken) → Int → Bool → Int → Int → Tx → (List Raw) → Option (TSTerm × Treader)} {kind : Int} {o : (TSTerm × Treader)} (h : Z3s r0 r2 r1 rec_clerestory_calc_reader_value out0 out1 out2 out3 self kind = some o)
  (hself : Z2h self o (Q .normal))
  (hr : ∀ s, Ends a36.results 1 (Z1d o) .ret s → Q .ret s)
  (hrec_clerestory_calc_reader_value : Zi mL rec_clerestory_calc_reader_value) :
  Sv Tryz.prog (GG mL) 1 a36_c2 (Z3q mL Q) ⟨(ue [(5, (I kind)), (4, (B r2)), (3, (.c (.ref 2 4 0 0))), (2, (.c (.ref 1 4 0 0))), (0, (.c (.ref 0 3 0 0)))]), (upd (upd (upd e0 0 (some (.cells 3 [[.ro false 4 (r0.map e_TSToken), cI r1, cB r2]]))) 1 (some (.cells 4 [[cI 0, cI 0, .str [], .ro true 4 []]]))) 2 (some (.cells 4 [[cI out0, cI out1, .str out2, .ro false 4 (out3.map eRaw)]]))), 3⟩ := by
 unfold Z3s at h
 refine ssr <| un1 rfl <| un1 rfl <| un1 (v := (.c (.ref 0 3 0 0))) rfl <| un1 (v := (.c (.ref 0 3 0 0))) rfl <| un1 (v := (.c (.ro false 4 (r0.map e_TSToken)))) rfl ?_
 obtain ⟨r_2, hx1, h⟩ := bnd h
 refine un1 (v := (.c (.ro false 4 (r_2.map e_TSToken)))) (s_slSl (e := e_TSToken) rfl rfl rfl hx1) <| un1 (v := (.c (.ref 0 3 0 0))) rfl <| un1 (v := (.c (.ref 0 3 0 0))) rfl <| un <| a2n (h' := upd _ 0 (some (.cells 3 [[.ro false 4 (r_2.map e_TSToken), cI r1, cB r2]]))) (n' := 3) rfl rfl hcs <| dnil <| ssr <| un1 rfl <| un1 rfl <| un1 rfl ?_
 refine spl h (fun h => ?_) fun h => ?_
 ·refine gt rfl <| a1 rfl ?_
  obtain ⟨r_6, hr5, h⟩ := bnd h
  refine gt rfl <| ac_gen (bs := [0]) («as» := [(.c (.ref 0 3 0 0))]) (h2 := _) (h1 := (upd e0 0 (some (.cells 3 [[.ro false 4 (r_2.map e_TSToken), cI r1, cB r2]])))) (Z1n hr5) rfl (.cons (.c (.ref rfl (by decide))) .nil) (hsub_refl _) (.cons rfl (.nil _)) hcs (by decide) (by decide) (.cons (.c (.ref rfl (by decide))) .nil) (.box (by decide) rfl (blkAs_cells (.sm rfl (.sm rfl (.sm rfl .nil)))) .nil) ?_
  rintro _ _ _ hn ⟨rfl, rfl, rfl⟩
  refine ⟨.inl rfl, (upd (rem [0] _) 0 (some (.cells 3 [[.ro false 4 (r_6.2.f_l.map e_TSToken), cI r_6.2.f_n, cB r_6.2.f_gapped]]))), fun hbd => (m3_cons (m3_box rfl rfl) (m3_rem (in_cons (by decide) (in_nil _)) (.cons (by decide) .nil) hbd)), (B r_6.1), 3, rfl, rfl, ?_⟩
  refine un1 (v := (B r_6.1)) rfl ?_
  obtain ⟨r_7, hr6, h⟩ := bnd h
  refine un <| ac_lend (h2 := (upd _ 0 none)) (Zf hr6) rfl (.cons (.c (ref_ro rfl (gone rfl) (.sm rfl (.sm rfl (.sm rfl .nil))) rfl)) (.cons (avAs_free rfl) .nil)) (hsub_none (hsub_refl _)) rfl rfl (.inr rfl) <| dnil ?_
  exact Sv.weak (weak_canon [0, 1, 2] rfl (by decide) (by decide) (by decide) (.cf rfl rfl (.cr rfl rfl rfl (.cr rfl rfl rfl (.cr rfl rfl rfl .nil)))) (.box (by decide) rfl (blkAs_cells (.sm rfl (.sm rfl (.sm rfl (.sm rfl .nil))))) (.box (by decide) rfl (blkAs_cells (.sm rfl (.sm rfl (.sm rfl (.sm rfl .nil))))) (.box (by decide) rfl (blkAs_cells (.sm rfl (.sm rfl (.sm rfl .nil)))) .nil)))) (Z73 h hself hr hrec_clerestory_calc_reader_value)
 ·refine gs rfl rfl <| gs rfl rfl <| un1 (v := (B false)) rfl ?_
  obtain ⟨r_8, hr7, h⟩ := bnd h
  refine un <| ac_lend (h2 := (upd _ 0 none)) (Zf hr7) rfl (.cons (.c (ref_ro rfl (gone rfl) (.sm rfl (.sm rfl (.sm rfl .nil))) rfl)) (.cons (avAs_free rfl) .nil)) (hsub_none (hsub_refl _)) rfl rfl (.inr rfl) <| dnil ?_
  exact Sv.weak (weak_canon [0, 1, 2] rfl (by decide) (by decide) (by decide) (.cf rfl rfl (.cr rfl rfl rfl (.cr rfl rfl rfl (.cr rfl rfl rfl .nil)))) (.box (by decide) rfl (blkAs_cells (.sm rfl (.sm rfl (.sm rfl (.sm rfl .nil))))) (.box (by decide) rfl (blkAs_cells (.sm rfl (.sm rfl (.sm rfl (.sm rfl .nil))))) (.box (by decide) rfl (blkAs_cells (.sm rfl (.sm rfl (.sm rfl .nil)))) .nil)))) (Z73 h hself hr hrec_clerestory_calc_reader_value)
abbrev Za3 (mL : Int) (Q : AExit → St → Prop) : AExit → St → Prop := AThen (Sv Tryz.prog (GG mL) 1 a36_c2 (Z3q mL Q)) (Z3q mL Q)
abbrev Z75 (mL : Int) (Q : AExit → St → Prop) : AExit → St → Prop := ABlock 2 (Za3 mL Q)
noncomputable def Z3t (r0 : (List TSToken)) (r2 : Bool) (r1 : Int) (rec_clerestory_calc_reader_value : Treader → Bool → Option (TSTerm × Treader)) (out0 : Int) (out1 : Int) (out2 : Tx) (out3 : (List Raw)) (self : (List TSToken) → Int → Bool → Int → Int → Tx → (List Raw) → Option (TSTerm × Treader)) (v30 : Bool) : Option (TSTerm × Treader) :=
 if v30 then
  Z3s r0 r2 r1 rec_clerestory_calc_reader_value out0 out1 out2 out3 self 3
 else
  some ((⟨out0, (⟨out1, out2⟩ : TSDim), out3⟩ : TSTerm), (⟨r0, r1, r2⟩ : Treader))
theorem Z76 {mL : Int} {Q : AExit → St → Prop} {r0 : (List TSToken)} {r2 : Bool} {r1 : Int} {rec_clerestory_calc_reader_value : Treader → Bool → Option (TSTerm × Treader)} {out0 : Int} {out1 : Int} {out2 : Tx} {out3 : (List Raw)} {self : (List TSToken) → Int → Bool → Int → Int → Tx → (List Raw) → Option (TSTerm × Treader)} {v30 : Bool} {o : (TSTerm × Treader)} (h : Z3t r0 r2 r1 rec_clerestory_calc_reader_value out0 out1 out2 out3 self v30 = some o)
  (hself : Z2h self o (Q .normal))
  (hr : ∀ s, Ends a36.results 1 (Z1d o) .ret s → Q .ret s)
  (hrec_clerestory_calc_reader_value : Zi mL rec_clerestory_calc_reader_value) :
  Sv Tryz.prog (GG mL) 1 a36_c1 (Z75 mL Q) ⟨(ue [(30, (B v30)), (4, (B r2)), (3, (.c (.ref 2 4 0 0))), (2, (.c (.ref 1 4 0 0))), (0, (.c (.ref 0 3 0 0)))]), (upd (upd (upd e0 0 (some (.cells 3 [[.ro false 4 (r0.map e_TSToken), cI r1, cB r2]]))) 1 (some (.cells 4 [[cI 0, cI 0, .str [], .ro true 4 []]]))) 2 (some (.cells 4 [[cI out0, cI out1, .str out2, .ro false 4 (out3.map eRaw)]]))), 3⟩ := by
 unfold Z3t at h
 refine Sv.cnd rfl h (fun h => ?_) fun h => ?_
 ·refine srg <| un1 rfl <| dnil ?_
  exact Sv.weak (weak_canon [0, 1, 2] rfl (by decide) (by decide) (by decide) (.cf rfl rfl (.cf rfl rfl (.cr rfl rfl rfl (.cr rfl rfl rfl (.cr rfl rfl rfl .nil))))) (.box (by decide) rfl (blkAs_cells (.sm rfl (.sm rfl (.sm rfl (.sm rfl .nil))))) (.box (by decide) rfl (blkAs_cells (.sm rfl (.sm rfl (.sm rfl (.sm rfl .nil))))) (.box (by decide) rfl (blkAs_cells (.sm rfl (.sm rfl (.sm rfl .nil)))) .nil)))) (Z74 h hself hr hrec_clerestory_calc_reader_value)
 ·refine ssr <| un1 (v := (.agg [cI out0, cI out1, .str out2, .ro false 4 (out3.map eRaw)])) rfl <| un <| a2n (h' := upd _ 1 (some (.cells 4 [[cI out0, cI out1, .str out2, .ro false 4 (out3.map eRaw)]]))) (n' := 3) rfl rfl hcs <| dnil <| Sv.ret ?_
  replace h := Option.some.inj h
  subst h
  exact hr _ ⟨_, .refl _, _, rfl, ⟨upd e0 0 (some (.agg [cI out0, cI out1, .str out2, .ro false 4 (out3.map eRaw)])), (upd e0 0 (some (.cells 3 [[.ro false 4 (r0.map e_TSToken), cI r1, cB r2]]))), 1⟩, (.agg [cI out0, cI out1, .str out2, .ro false 4 (out3.map eRaw)]), weak_canon2 [0] [0] (by decide) (by decide) (by decide) (.cons (by decide) .nil) (.cf rfl rfl .nil) (.box (by decide) rfl (blkAs_cells (.sm rfl (.sm rfl (.sm rfl .nil)))) .nil), rfl, rfl, rfl, rfl⟩
noncomputable def Z3u (r0 : (List TSToken)) (r2 : Bool) (r1 : Int) (rec_clerestory_calc_reader_value : Treader → Bool → Option (TSTerm × Treader)) (out0 : Int) (out1 : Int) (out2 : Tx) (out3 : (List Raw)) (self : (List TSToken) → Int → Bool → Int → Int → Tx → (List Raw) → Option (TSTerm × Treader)) (v13 : Bool) : Option (TSTerm × Treader) :=
 if v13 then
  Z3s r0 r2 r1 rec_clerestory_calc_reader_value out0 out1 out2 out3 self 2
 else
  if decide (0 < (r0.length : Int)) then
   (at? r0 0).bind fun x_ =>
   Z3t r0 r2 r1 rec_clerestory_calc_reader_value out0 out1 out2 out3 self (decide (x_.Raw = [45]))
  else
   Z3t r0 r2 r1 rec_clerestory_calc_reader_value out0 out1 out2 out3 self false
theorem Z77 {mL : Int} {Q : AExit → St → Prop} {r0 : (List TSToken)} {r2 : Bool} {r1 : Int} {rec_clerestory_calc_reader_value : Treader → Bool → Option (TSTerm × Treader)} {out0 : Int} {out1 : Int} {out2 : Tx} {out3 : (List Raw)} {self : (List TSToken) → Int → Bool → Int → Int → Tx → (List Raw) → Option (TSTerm × Treader)} {v13 : Bool} {o : (TSTerm × Treader)} (h : Z3u r0 r2 r1 rec_clerestory_calc_reader_value out0 out1 out2 out3 self v13 = some o)
  (hself : Z2h self o (Q .normal))
  (hr : ∀ s, Ends a36.results 1 (Z1d o) .ret s → Q .ret s)
  (hrec_clerestory_calc_reader_value : Zi mL rec_clerestory_calc_reader_value) :
  Sv Tryz.prog (GG mL) 1 a36_c0 (Z75 mL Q) ⟨(ue [(13, (B v13)), (4, (B r2)), (3, (.c (.ref 2 4 0 0))), (2, (.c (.ref 1 4 0 0))), (0, (.c (.ref 0 3 0 0)))]), (upd (upd (upd e0 0 (some (.cells 3 [[.ro false 4 (r0.map e_TSToken), cI r1, cB r2]]))) 1 (some (.cells 4 [[cI 0, cI 0, .str [], .ro true 4 []]]))) 2 (some (.cells 4 [[cI out0, cI out1, .str out2, .ro false 4 (out3.map eRaw)]]))), 3⟩ := by
 unfold Z3u at h
 refine Sv.cnd rfl h (fun h => ?_) fun h => ?_
 ·refine srg <| un1 rfl <| dnil ?_
  exact Sv.weak (weak_canon [0, 1, 2] rfl (by decide) (by decide) (by decide) (.cf rfl rfl (.cf rfl rfl (.cr rfl rfl rfl (.cr rfl rfl rfl (.cr rfl rfl rfl .nil))))) (.box (by decide) rfl (blkAs_cells (.sm rfl (.sm rfl (.sm rfl (.sm rfl .nil))))) (.box (by decide) rfl (blkAs_cells (.sm rfl (.sm rfl (.sm rfl (.sm rfl .nil))))) (.box (by decide) rfl (blkAs_cells (.sm rfl (.sm rfl (.sm rfl .nil)))) .nil)))) (Z74 h hself hr hrec_clerestory_calc_reader_value)
 ·refine ssr <| un1 rfl <| un1 (v := (.c (.ref 0 3 0 0))) rfl <| un1 (v := (.c (.ref 0 3 0 0))) rfl <| un1 (v := (.c (.ro false 4 (r0.map e_TSToken)))) rfl <| un1 (v := (I (r0.length : Int))) (s_len (e := e_TSToken) (xs := r0) rfl) <| un1 (v := (B (decide (0 < (r0.length : Int))))) rfl <| un1 rfl ?_
  refine spl h (fun h => ?_) fun h => ?_
  ·refine gt rfl <| a1 rfl <| gt rfl <| a1 (v := (.c (.ref 0 3 0 0))) rfl <| gt rfl <| a1 (v := (.c (.ref 0 3 0 0))) rfl <| gt rfl <| a1 (v := (.c (.ro false 4 (r0.map e_TSToken)))) rfl ?_
   obtain ⟨x_, hx2, h⟩ := bnd h
   refine gt rfl <| a1 (v := (.c (.rop (e_TSToken x_)))) (s_iaddr (e := e_TSToken) (xs := r0) rfl rfl hx2) <| gt rfl <| a1 (v := (.c (.rop [.str x_.Raw, .str x_.Value, cI x_.Num]))) rfl <| gt rfl <| a1 (v := (S x_.Raw)) rfl <| gt rfl <| a1 (v := (B (decide (x_.Raw = [45])))) rfl <| un1 (v := (B (decide (x_.Raw = [45])))) rfl <| un1 rfl <| dnil ?_
   exact Sv.weak (weak_canon [0, 1, 2] rfl (by decide) (by decide) (by decide) (.cf rfl rfl (.cf rfl rfl (.cr rfl rfl rfl (.cr rfl rfl rfl (.cr rfl rfl rfl .nil))))) (.box (by decide) rfl (blkAs_cells (.sm rfl (.sm rfl (.sm rfl (.sm rfl .nil))))) (.box (by decide) rfl (blkAs_cells (.sm rfl (.sm rfl (.sm rfl (.sm rfl .nil))))) (.box (by decide) rfl (blkAs_cells (.sm rfl (.sm rfl (.sm rfl .nil)))) .nil)))) (Z76 h hself hr hrec_clerestory_calc_reader_value)
  ·repeat (first | refine gu rfl ?_ | refine gs rfl rfl ?_)
   refine un1 (v := (B false)) rfl <| un1 rfl <| dnil ?_
   exact Sv.weak (weak_canon [0, 1, 2] rfl (by decide) (by decide) (by decide) (.cf rfl rfl (.cf rfl rfl (.cr rfl rfl rfl (.cr rfl rfl rfl (.cr rfl rfl rfl .nil))))) (.box (by decide) rfl (blkAs_cells (.sm rfl (.sm rfl (.sm rfl (.sm rfl .nil))))) (.box (by decide) rfl (blkAs_cells (.sm rfl (.sm rfl (.sm rfl (.sm rfl .nil))))) (.box (by decide) rfl (blkAs_cells (.sm rfl (.sm rfl (.sm rfl .nil)))) .nil)))) (Z76 h hself hr hrec_clerestory_calc_reader_value)
abbrev Z78 (F_ : Nat → (List TSToken) → Int → Bool → Int → Int → Tx → (List Raw) → Option (TSTerm × Treader)) (o : (TSTerm × Treader)) : Nat → St → Prop := fun k s => ∃ (r0 : (List TSToken)), ∃ (r1 : Int), ∃ (r2 : Bool), ∃ (out0 : Int), ∃ (out1 : Int), ∃ (out2 : Tx), ∃ (out3 : (List Raw)), F_ k r0 r1 r2 out0 out1 out2 out3 = some o ∧ s = ⟨(ue [(3, (.c (.ref 2 4 0 0))), (2, (.c (.ref 1 4 0 0))), (0, (.c (.ref 0 3 0 0)))]), (upd (upd (upd e0 0 (some (.cells 3 [[.ro false 4 (r0.map e_TSToken), cI r1, cB r2]]))) 1 (some (.cells 4 [[cI 0, cI 0, .str [], .ro true 4 []]]))) 2 (some (.cells 4 [[cI out0, cI out1, .str out2, .ro false 4 (out3.map eRaw)]]))), 3⟩
noncomputable def Z15 (rec_clerestory_calc_reader_value : Treader → Bool → Option (TSTerm × Treader)) : Nat → (List TSToken) → Int → Bool → Int → Int → Tx → (List Raw) → Option (TSTerm × Treader)
 | 0, _, _, _, _, _, _, _ => none
 | k + 1, r0, r1, r2, out0, out1, out2, out3 =>
  if decide (0 < (r0.length : Int)) then
   (at? r0 0).bind fun x_1 =>
   Z3u r0 r2 r1 rec_clerestory_calc_reader_value out0 out1 out2 out3 (Z15 rec_clerestory_calc_reader_value k) (decide (x_1.Raw = [43]))
  else
   Z3u r0 r2 r1 rec_clerestory_calc_reader_value out0 out1 out2 out3 (Z15 rec_clerestory_calc_reader_value k) false
theorem Za4 {mL : Int} {Q : AExit → St → Prop} {rec_clerestory_calc_reader_value : Treader → Bool → Option (TSTerm × Treader)} {k : Nat} {r0 : (List TSToken)} {r1 : Int} {r2 : Bool} {out0 : Int} {out1 : Int} {out2 : Tx} {out3 : (List Raw)} {o : (TSTerm × Treader)} (h : Z15 rec_clerestory_calc_reader_value k r0 r1 r2 out0 out1 out2 out3 = some o)
  (hr : ∀ s, Ends a36.results 1 (Z1d o) .ret s → Q .ret s)
  (hrec_clerestory_calc_reader_value : Zi mL rec_clerestory_calc_reader_value) :
  Sv Tryz.prog (GG mL) 1 (.loop a36_c4) Q ⟨(ue [(3, (.c (.ref 2 4 0 0))), (2, (.c (.ref 1 4 0 0))), (0, (.c (.ref 0 3 0 0)))]), (upd (upd (upd e0 0 (some (.cells 3 [[.ro false 4 (r0.map e_TSToken), cI r1, cB r2]]))) 1 (some (.cells 4 [[cI 0, cI 0, .str [], .ro true 4 []]]))) 2 (some (.cells 4 [[cI out0, cI out1, .str out2, .ro false 4 (out3.map eRaw)]]))), 3⟩ := by
 refine Sv.loop (I := Z78 (Z15 rec_clerestory_calc_reader_value) o) (fun k s hI => ?_) ⟨r0, r1, r2, out0, out1, out2, out3, h, rfl⟩
 clear h
 clear out3 out2 out1 out0 r2 r1 r0
 obtain ⟨r0, r1, r2, out0, out1, out2, out3, h, rfl⟩ := hI
 cases k with
 | zero => cases h
 | succ k =>
 rw [Z15] at h
 have hself : Z2h (Z15 rec_clerestory_calc_reader_value k) o (rnd 1 (Z78 (Z15 rec_clerestory_calc_reader_value) o) k Q) := fun r0 r1 r2 out0 out1 out2 out3 h s hw => ⟨_, k, hw, Nat.lt_succ_self k, r0, r1, r2, out0, out1, out2, out3, h, rfl⟩
 refine Sv.block <| ssr <| un1 rfl <| un1 (v := (.c (.ref 0 3 0 0))) rfl <| un1 (v := (.c (.ref 0 3 0 2))) rfl <| un1 (v := (B r2)) rfl <| un1 rfl <| dnil <| ssr <| un1 rfl <| dnil <| Sv.seq <| Sv.block <| ssr <| un1 rfl <| un1 (v := (.c (.ref 0 3 0 0))) rfl <| un1 (v := (.c (.ref 0 3 0 0))) rfl <| un1 (v := (.c (.ro false 4 (r0.map e_TSToken)))) rfl <| un1 (v := (I (r0.length : Int))) (s_len (e := e_TSToken) (xs := r0) rfl) <| un1 (v := (B (decide (0 < (r0.length : Int))))) rfl <| un1 rfl ?_
 refine spl h (fun h => ?_) fun h => ?_
 ·refine gt rfl <| a1 rfl <| gt rfl <| a1 (v := (.c (.ref 0 3 0 0))) rfl <| gt rfl <| a1 (v := (.c (.ref 0 3 0 0))) rfl <| gt rfl <| a1 (v := (.c (.ro false 4 (r0.map e_TSToken)))) rfl ?_
  obtain ⟨x_1, hx3, h⟩ := bnd h
  refine gt rfl <| a1 (v := (.c (.rop (e_TSToken x_1)))) (s_iaddr (e := e_TSToken) (xs := r0) rfl rfl hx3) <| gt rfl <| a1 (v := (.c (.rop [.str x_1.Raw, .str x_1.Value, cI x_1.Num]))) rfl <| gt rfl <| a1 (v := (S x_1.Raw)) rfl <| gt rfl <| a1 (v := (B (decide (x_1.Raw = [43])))) rfl <| un1 (v := (B (decide (x_1.Raw = [43])))) rfl <| un1 rfl <| dnil ?_
  exact Sv.weak (weak_canon [0, 1, 2] rfl (by decide) (by decide) (by decide) (.cf rfl rfl (.cf rfl rfl (.cr rfl rfl rfl (.cr rfl rfl rfl (.cr rfl rfl rfl .nil))))) (.box (by decide) rfl (blkAs_cells (.sm rfl (.sm rfl (.sm rfl (.sm rfl .nil))))) (.box (by decide) rfl (blkAs_cells (.sm rfl (.sm rfl (.sm rfl (.sm rfl .nil))))) (.box (by decide) rfl (blkAs_cells (.sm rfl (.sm rfl (.sm rfl .nil)))) .nil)))) (Z77 h hself hr hrec_clerestory_calc_reader_value)
 ·repeat (first | refine gu rfl ?_ | refine gs rfl rfl ?_)
  refine un1 (v := (B false)) rfl <| un1 rfl <| dnil ?_
  exact Sv.weak (weak_canon [0, 1, 2] rfl (by decide) (by decide) (by decide) (.cf rfl rfl (.cf rfl rfl (.cr rfl rfl rfl (.cr rfl rfl rfl (.cr rfl rfl rfl .nil))))) (.box (by decide) rfl (blkAs_cells (.sm rfl (.sm rfl (.sm rfl (.sm rfl .nil))))) (.box (by decide) rfl (blkAs_cells (.sm rfl (.sm rfl (.sm rfl (.sm rfl .nil))))) (.box (by decide) rfl (blkAs_cells (.sm rfl (.sm rfl (.sm rfl .nil)))) .nil)))) (Z77 h hself hr hrec_clerestory_calc_reader_value)
/-- (*clerestory/calc.reader).sum -/
noncomputable def Z2i (rec_clerestory_calc_reader_value : Treader → Bool → Option (TSTerm × Treader)) (r_ : Treader) : Option (TSTerm × Treader) :=
 (Z3p rec_clerestory_calc_reader_value r_).bind fun r_1 =>
 limF fun kk => Z15 rec_clerestory_calc_reader_value kk r_1.2.f_l r_1.2.f_n r_1.2.f_gapped r_1.1.Kind r_1.1.Dim.Num r_1.1.Dim.Unit r_1.1.Subs
theorem Z3v {mL : Int} {rec_clerestory_calc_reader_value : Treader → Bool → Option (TSTerm × Treader)} (hrec_clerestory_calc_reader_value : Zi mL rec_clerestory_calc_reader_value) {r_ : Treader} {r : (TSTerm × Treader)} (h : Z2i rec_clerestory_calc_reader_value r_ = some r) : ACalls Tryz.prog (GG mL) 36 [(.c (.ref 0 3 0 0))] (upd e0 0 (some (.cells 3 [[.ro false 4 (r_.f_l.map e_TSToken), cI r_.f_n, cB r_.f_gapped]]))) 1 (Z1d r) := by
 refine acalls_of_sv hmix c36 (R := Z1d r) ?_
 unfold Z2i at h
 refine ssr <| un <| a2v (v := (.c (.ref 1 4 0 0))) (h' := upd _ 1 (some (.cells 4 [[cI 0, cI 0, .str [], .ro true 4 []]]))) (n' := 2) rfl rfl hcs <| dnil <| ssr <| un1 rfl ?_
 obtain ⟨r_1, hr1, h⟩ := bnd h
 refine un <| ac_gen (bs := [0]) («as» := [(.c (.ref 0 3 0 0))]) (h2 := _) (h1 := (upd e0 0 (some (.cells 3 [[.ro false 4 (r_.f_l.map e_TSToken), cI r_.f_n, cB r_.f_gapped]])))) (Z5d hrec_clerestory_calc_reader_value hr1) rfl (.cons (.c (.ref rfl (by decide))) .nil) (hsub_refl _) (.cons rfl (.nil _)) hcs (by decide) (by decide) (.cons (.c (.ref rfl (by decide))) .nil) (.box (by decide) rfl (blkAs_cells (.sm rfl (.sm rfl (.sm rfl .nil)))) .nil) ?_
 rintro _ _ _ hn ⟨rfl, rfl, rfl⟩
 refine ⟨.inl rfl, (upd (rem [0] _) 0 (some (.cells 3 [[.ro false 4 (r_1.2.f_l.map e_TSToken), cI r_1.2.f_n, cB r_1.2.f_gapped]]))), fun hbd => (m3_cons (m3_box rfl rfl) (m3_rem (in_cons (by decide) (in_nil _)) (.cons (by decide) .nil) hbd)), (.agg (e_TSTerm r_1.1)), 2, rfl, rfl, ?_⟩
 refine un <| a2v (v := (.c (.ref 2 4 0 0))) (h' := upd _ 2 (some (.cells 4 [[cI 0, cI 0, .str [], .ro true 4 []]]))) (n' := 3) rfl rfl hcs <| un <| a2n (h' := upd _ 2 (some (.cells 4 [(e_TSTerm r_1.1)]))) (n' := 3) rfl rfl hcs <| dnil <| Sv.block ?_
 obtain ⟨kk, h⟩ := limF_some h
 refine Sv.weak (weak_canon [0, 1, 2] rfl (by decide) (by decide) (by decide) (.cr rfl rfl rfl (.cr rfl rfl rfl (.cr rfl rfl rfl .nil))) (.box (by decide) rfl (blkAs_cells (.sm rfl (.sm rfl (.sm rfl (.sm rfl .nil))))) (.box (by decide) rfl (blkAs_cells (.sm rfl (.sm rfl (.sm rfl (.sm rfl .nil))))) (.box (by decide) rfl (blkAs_cells (.sm rfl (.sm rfl (.sm rfl .nil)))) .nil)))) (Za4 h  (fun s hs => hs) hrec_clerestory_calc_reader_value)
def a38_c0 : ACode := (.region [(oP 26 (.bin .add (.tmp 10) (kI 1))), (mV 10 26)])
def a38_c1 : ACode := (sr [(oP 11 (.bin .lss (.tmp 10) (.tmp 9)))]
 (.seq (.cond (.tmp 11) .skip (.exit 0))
 (.seq (.block 1 (sr [(mV 12 10), (oP 13 (.iaddr 1 (.tmp 8) (.tmp 10))), (oP 14 (.load false 1 (.tmp 13))), (mV 4 12), (mV 5 14)]
 (sr [(mV 15 5), (oP 16 (.bin .geq (.tmp 15) (.const (.c (.val (.int .u8 65)))))), (mV 17 16), ⟨(some 18), (.mov (.tmp 5)), (some (17, true))⟩, ⟨(some 19), (.bin .leq (.tmp 18) (.const (.c (.val (.int .u8 90))))), (some (17, true))⟩, (oP 20 (.pick (.tmp 17) (.tmp 19) kF))]
 (.cond (.tmp 20) (.region [(mV 21 3), (mV 22 4), (mV 23 5), (oP 24 (.bin .add (.tmp 23) (.const (.c (.val (.int .u8 32)))))), (oP 25 (.iaddr 1 (.tmp 21) (.tmp 22))), (oN (.store 1 (.tmp 25) (.tmp 24)))]) .skip))))
 a38_c0)))
def a38 : AFunc := ⟨1, [(.tmp 2)], (sr [(oP 2 (.mov (.const (.c (.str [])))))]
 (sr [(mV 6 0), (oP 7 (.toBytes (.tmp 6))), (mV 3 7)]
 (.seq (sr [(mV 8 3), (oP 9 (.len (.tmp 8))), (oP 10 (.mov (kI 0)))]
 (.block 0 (.loop a38_c1)))
 (sr [(mV 27 3), (oP 28 (.ofBytes (.tmp 27))), (mV 2 28)]
 .ret))))⟩
theorem c38 : compFunc Tryz.prog 38 = some a38 := by kernel_rfl
def Z5e (r : Tx) : AV → Heap → Nat → Prop := fun v h' n' => v = (S r) ∧ (h' = e0) ∧ n' = 0
abbrev Z79 (F_ : (List Int) → Int → Int → Option Tx) (o : Tx) (R_ : St → Prop) : Prop := ∀ (b_ : (List Int)) (v9 : Int) (v10 : Int) (zb : Bool) (_ : zb = true → b_ = []), F_ b_ v9 v10 = some o → ∀ s, Weak 0 s ⟨(ue [(10, (I v10)), (9, (I v9)), (8, (lstV zb 0 1 b_.length)), (3, (lstV zb 0 1 b_.length))]), (upd e0 0 (lstB zb 1 (b_.map (eK .u8)))), 1⟩ → R_ s
abbrev Z7a (F_ : (List Int) → Option Tx) (o : Tx) (R_ : St → Prop) : Prop := ∀ (b_1 : (List Int)) (zb_1 : Bool) (_ : zb_1 = true → b_1 = []), F_ b_1 = some o → ∀ s, Weak 0 s ⟨(upd e0 3 (some (lstV zb_1 0 1 b_1.length))), (upd e0 0 (lstB zb_1 1 (b_1.map (eK .u8)))), 1⟩ → R_ s
noncomputable def Z3w (v9 : Int) (v10 : Int) (self : (List Int) → Int → Int → Option Tx) (K0_ : (List Int) → Option Tx) (b_2 : (List Int)) : Option Tx :=
 self b_2 v9 (wi (v10 + 1))
theorem Z7b {mL : Int} {Q : AExit → St → Prop} {v9 : Int} {v10 : Int} {self : (List Int) → Int → Int → Option Tx} {K0_ : (List Int) → Option Tx} {b_2 : (List Int)} {zb_2 : Bool} (hzb_2 : zb_2 = true → b_2 = []) {o : Tx} (h : Z3w v9 v10 self K0_ b_2 = some o)
  (hself : Z79 self o (Q .normal))
  (hK0 : Z7a K0_ o (Q (.exit 0)))
  (hr : ∀ s, Ends a38.results 0 (Z5e o) .ret s → Q .ret s) :
  Sv Tryz.prog (GG mL) 0 a38_c0 Q ⟨(ue [(10, (I v10)), (9, (I v9)), (8, (lstV zb_2 0 1 b_2.length)), (3, (lstV zb_2 0 1 b_2.length))]), (upd e0 0 (lstB zb_2 1 (b_2.map (eK .u8)))), 1⟩ := by
 unfold Z3w at h
 refine srg <| un1 (v := (I (wi (v10 + 1)))) rfl <| un1 rfl <| dnil ?_
 exact hself b_2 v9 (wi (v10 + 1)) zb_2 hzb_2 h _ (wcn [0] rfl (.cf rfl rfl (.cf rfl rfl (.cons rfl (.c (lsr rfl rfl)) (.cons rfl (.c (lsr rfl rfl)) .nil)))) (.row (by decide) rfl (fr_map fun _ => rfl) .nil))
abbrev Z7c (F_ : Nat → (List Int) → Int → Int → Option Tx) (o : Tx) : Nat → St → Prop := fun k s => ∃ (b_ : (List Int)), ∃ (v9 : Int), ∃ (v10 : Int), ∃ (zb : Bool), (zb = true → b_ = []) ∧ F_ k b_ v9 v10 = some o ∧ s = ⟨(ue [(10, (I v10)), (9, (I v9)), (8, (lstV zb 0 1 b_.length)), (3, (lstV zb 0 1 b_.length))]), (upd e0 0 (lstB zb 1 (b_.map (eK .u8)))), 1⟩
noncomputable def Z16 (K0_ : (List Int) → Option Tx) : Nat → (List Int) → Int → Int → Option Tx
 | 0, _, _, _ => none
 | k + 1, b_, v9, v10 =>
  if decide (v10 < v9) then
   (at? b_ v10).bind fun x_ =>
   if ((decide (65 ≤ x_)) && (decide (x_ ≤ 90))) then
    (at? b_ v10).bind fun x_1 =>
    Z3w v9 v10 (Z16 K0_ k) K0_ (b_.set v10.toNat (wr .u8 (x_ + 32)))
   else
    Z3w v9 v10 (Z16 K0_ k) K0_ b_
  else
   K0_ b_
theorem Za5 {mL : Int} {Q : AExit → St → Prop} {K0_ : (List Int) → Option Tx} {k : Nat} {b_ : (List Int)} {v9 : Int} {v10 : Int} {zb : Bool} (hzb : zb = true → b_ = []) {o : Tx} (h : Z16 K0_ k b_ v9 v10 = some o)
  (hK0 : Z7a K0_ o (Q (.exit 0)))
  (hr : ∀ s, Ends a38.results 0 (Z5e o) .ret s → Q .ret s) :
  Sv Tryz.prog (GG mL) 0 (.loop a38_c1) Q ⟨(ue [(10, (I v10)), (9, (I v9)), (8, (lstV zb 0 1 b_.length)), (3, (lstV zb 0 1 b_.length))]), (upd e0 0 (lstB zb 1 (b_.map (eK .u8)))), 1⟩ := by
 refine Sv.loop (I := Z7c (Z16 K0_) o) (fun k s hI => ?_) ⟨b_, v9, v10, zb, hzb, h, rfl⟩
 clear h
 clear hzb zb v10 v9 b_
 obtain ⟨b_, v9, v10, zb, hzb, h, rfl⟩ := hI
 cases k with
 | zero => cases h
 | succ k =>
 rw [Z16] at h
 have hself : Z79 (Z16 K0_ k) o (rnd 0 (Z7c (Z16 K0_) o) k Q) := fun b_ v9 v10 zb hzb h s hw => ⟨_, k, hw, Nat.lt_succ_self k, b_, v9, v10, zb, hzb, h, rfl⟩
 refine ssr <| un1 (v := (B (decide (v10 < v9)))) rfl <| dnil <| Sv.seq ?_
 refine Sv.cnd rfl h (fun h => ?_) fun h => ?_
 ·refine Sv.skip <| Sv.seq <| Sv.block <| ssr <| un1 rfl ?_
  obtain ⟨x_, hx1, h⟩ := bnd h
  refine un1 (v := (.c (.ref 0 1 v10.toNat 0))) (s_iaddrL rfl rfl hzb hx1) <| un1 (v := (.c (.val (.int .u8 x_)))) (s_loadL (z := zb) (e := (eK .u8)) rfl rfl hzb hx1 rfl rfl) <| un1 rfl <| un1 rfl <| dnil <| ssr <| un1 rfl <| un1 (v := (B (decide (65 ≤ x_)))) rfl <| un1 rfl ?_
  refine gjoin 3 (d := 20) (v := (B ((decide (65 ≤ x_)) && (decide (x_ ≤ 90))))) (fun X hX => ?_) ?_
  ·refine split2 (fun hc2 => ?_) (fun hc2 => ?_)
   ·refine gt rfl <| a1 rfl <| gt rfl <| a1 (v := (B (decide (x_ ≤ 90)))) rfl <| un1 (v := (B (decide (x_ ≤ 90)))) rfl <| dnil ?_
    exact hX _ (.putEq (by rw [hc2]; rfl) (.skp (.skp (.putEq (by rw [hc2]) (.refl _)) rfl) rfl))
   ·refine gs rfl rfl <| gs rfl rfl <| un1 (v := (B false)) rfl <| dnil ?_
    exact hX _ (.putEq (by rw [hc2]; rfl) (.skp (.skp (.putEq (by rw [hc2]) (.refl _)) rfl) rfl))
  refine dnil ?_
  refine Sv.cnd rfl h (fun h => ?_) fun h => ?_
  ·refine srg <| un1 rfl <| un1 rfl <| un1 rfl <| un1 (v := (.c (.val (.int .u8 (wr .u8 (x_ + 32)))))) rfl ?_
   obtain ⟨x_1, hx2, h⟩ := bnd h
   refine un1 (v := (.c (.ref 0 1 v10.toNat 0))) (s_iaddrL rfl rfl hzb hx2) <| un <| a2n (h' := upd _ 0 (lstB zb 1 ((b_.set v10.toNat (wr .u8 (x_ + 32))).map (eK .u8)))) (n' := 1) rfl (s_storeL (e := (eK .u8)) (q' := (wr .u8 (x_ + 32))) rfl rfl hzb hx2 rfl rfl rfl (Nat.le_of_ble_eq_true rfl) rfl) hcs ?_
   try rw [len_set b_ v10.toNat (wr .u8 (x_ + 32))]
   refine dnil ?_
   exact Sv.weak (wcn [0] rfl (.cf rfl rfl (.cf rfl rfl (.cons rfl (.c (lsr rfl rfl)) (.cons rfl (.c (lsr rfl rfl)) .nil)))) (.row (by decide) rfl (fr_map fun _ => rfl) .nil)) (Z7b (hz_len hzb (len_set b_ v10.toNat (wr .u8 (x_ + 32)))) h hself hK0 hr)
  ·refine Sv.skip ?_
   exact Sv.weak (wcn [0] rfl (.cf rfl rfl (.cf rfl rfl (.cons rfl (.c (lsr rfl rfl)) (.cons rfl (.c (lsr rfl rfl)) .nil)))) (.row (by decide) rfl (fr_map fun _ => rfl) .nil)) (Z7b hzb h hself hK0 hr)
 ·refine Sv.exit ?_
  exact hK0 b_ zb hzb h _ (wcn [0] rfl (.cons rfl (.c (lsr rfl rfl)) .nil) (.row (by decide) rfl (fr_map fun _ => rfl) .nil))
/-- clerestory/calc.lower -/
noncomputable def Z5f (s_ : Tx) : Option Tx :=
 limF fun kk => Z16 (fun (b_1 : (List Int)) => 
   some (byts b_1)) kk (ints s_) ((ints s_).length : Int) 0
theorem Za6 {mL : Int} {s_ : Tx} {r : Tx} (h : Z5f s_ = some r) : CPure Tryz.prog (GG mL) 38 [(S s_)] (S r) := by
 refine acalls_of_sv hmix c38 (R := Z5e r) ?_
 unfold Z5f at h
 refine ssr <| un1 rfl <| dnil <| ssr <| un1 rfl <| un <| a2v (v := (lstV false 0 1 (ints s_).length)) (h' := upd _ 0 (lstB false 1 ((ints s_).map (eK .u8)))) (n' := 1) rfl (s_toBytes rfl) hcs <| un1 rfl <| dnil <| Sv.seq <| ssr <| un1 rfl <| un1 (v := (I ((ints s_).length : Int))) (s_lenL rfl (len_nil_of hcs)) <| un1 rfl <| dnil <| Sv.block ?_
 obtain ⟨kk, h⟩ := limF_some h
 refine Sv.weak (wcn [0] rfl (.cf rfl rfl (.cf rfl rfl (.cons rfl (.c (lsr rfl rfl)) (.cons rfl (.c (lsr rfl rfl)) .nil)))) (.row (by decide) rfl (fr_map fun _ => rfl) .nil)) (Za5 hcs h ?_ (fun s hs => hs))
 ·intro b_1 zb_1 hzb_1 h _ hw1
  refine Sv.weak hw1 <| ssr <| un1 rfl <| un1 (v := (S (byts b_1))) (s_ofBytes (xs := b_1) rfl (slc_lst rfl (List.length_map _).symm (map_nil_of hzb_1))) <| un1 rfl <| dnil <| Sv.ret ?_
  exact rt0 h rfl rfl ⟨rfl, rfl, rfl⟩
def a20_c1 : ACode := (.cond (.tmp 20) (sr [(mV 23 3), (oP 24 (.bin .gtr (.tmp 23) (kI 0))), (mV 2 24)]
 .ret) (sr [(oP 26 (.bin .eql (.tmp 8) (kI 8))), (mV 25 26)]
 (.cond (.tmp 25) (sr [(mV 27 3), (oP 28 (.bin .eql (.tmp 27) (kI 3))), (mV 2 28)]
 .ret) .skip)))
def a20_c0 : ACode := (.cond (.tmp 13) (sr [(mV 18 3), (oP 19 (.bin .eql (.tmp 18) (kI 2))), (mV 2 19)]
 .ret) (.seq (sr [(oP 21 (.bin .eql (.tmp 8) (kI 6))), (mV 20 21)]
 (.cond (.tmp 20) .skip (.region [(oP 22 (.bin .eql (.tmp 8) (kI 7))), (mV 20 22)])))
 a20_c1))
def a20_c2 : ACode := (sr [(oP 2 (.mov kF))]
 .ret)
def a20 : AFunc := ⟨1, [(.tmp 2)], (sr [(oP 1 (.box (.tmp 0))), (oP 2 (.mov kF))]
 (sr [(oP 4 (.faddr 3 (.tmp 1))), (oP 5 (.load false 1 (.tmp 4))), (oP 6 (.len (.tmp 5))), (mV 3 6)]
 (.seq (sr [(oP 7 (.faddr 0 (.tmp 1))), (oP 8 (.load false 1 (.tmp 7)))]
 (.block 0 (sr [(oP 10 (.bin .eql (.tmp 8) (kI 1))), (mV 9 10)]
 (.cond (.tmp 9) (sr [(mV 11 3), (oP 12 (.bin .eql (.tmp 11) (kI 0))), (mV 2 12)]
 .ret) (.seq (sr [(oP 14 (.bin .eql (.tmp 8) (kI 2))), (mV 13 14)]
 (.cond (.tmp 13) .skip (sr [(oP 15 (.bin .eql (.tmp 8) (kI 3))), (mV 13 15)]
 (.cond (.tmp 13) .skip (sr [(oP 16 (.bin .eql (.tmp 8) (kI 4))), (mV 13 16)]
 (.cond (.tmp 13) .skip (.region [(oP 17 (.bin .eql (.tmp 8) (kI 5))), (mV 13 17)])))))))
 a20_c0)))))
 a20_c2)))⟩
theorem c20 : compFunc Tryz.prog 20 = some a20 := by kernel_rfl
def Z5g (r : Bool) : AV → Heap → Nat → Prop := fun v h' n' => v = (B r) ∧ (h' = e0) ∧ n' = 0
abbrev Za7 (mL : Int) (o : Bool) : AExit → St → Prop := AThen (Sv Tryz.prog (GG mL) 0 a20_c2 (Ends a20.results 0 (Z5g o))) (Ends a20.results 0 (Z5g o))
abbrev Z7d (mL : Int) (o : Bool) : AExit → St → Prop := ABlock 0 (Za7 mL o)
def Z3x (t_ : TSTerm) (v20 : Bool) : Bool :=
 if v20 then
  decide (0 < (t_.Subs.length : Int))
 else
  if decide (t_.Kind = 8) then
   decide ((t_.Subs.length : Int) = 3)
  else
   false
theorem Z7e {mL : Int} {t_ : TSTerm} {v20 : Bool} {o : Bool} (h : Z3x t_ v20 = o) :
  Sv Tryz.prog (GG mL) 0 a20_c1 (Z7d mL o) ⟨(ue [(20, (B v20)), (8, (I t_.Kind)), (3, (I (t_.Subs.length : Int)))]), e0, 0⟩ := by
 unfold Z3x at h
 refine Sv.cnd rfl h (fun h => ?_) fun h => ?_
 ·refine ssr <| un1 rfl <| un1 (v := (B (decide (0 < (t_.Subs.length : Int))))) rfl <| un1 rfl <| dnil <| Sv.ret ?_
  subst h
  exact ⟨_, .refl _, _, rfl, ⟨upd e0 0 (some (B (decide (0 < (t_.Subs.length : Int))))), e0, 0⟩, (B (decide (0 < (t_.Subs.length : Int)))), weak_canon [] rfl ndl nll nlz (.cf rfl rfl .nil) .nil, rfl, rfl, rfl, rfl⟩
 ·refine ssr <| un1 (v := (B (decide (t_.Kind = 8)))) rfl <| un1 rfl <| dnil ?_
  refine Sv.cnd rfl h (fun h => ?_) fun h => ?_
  ·refine ssr <| un1 rfl <| un1 (v := (B (decide ((t_.Subs.length : Int) = 3)))) rfl <| un1 rfl <| dnil <| Sv.ret ?_
   subst h
   exact ⟨_, .refl _, _, rfl, ⟨upd e0 0 (some (B (decide ((t_.Subs.length : Int) = 3)))), e0, 0⟩, (B (decide ((t_.Subs.length : Int) = 3))), weak_canon [] rfl ndl nll nlz (.cf rfl rfl .nil) .nil, rfl, rfl, rfl, rfl⟩
  ·refine Sv.skip <| ssr <| un1 rfl <| dnil <| Sv.ret ?_
   subst h
   exact ⟨_, .refl _, _, rfl, ⟨upd e0 0 (some (B false)), e0, 0⟩, (B false), weak_canon [] rfl ndl nll nlz (.cf rfl rfl .nil) .nil, rfl, rfl, rfl, rfl⟩
def Z1p (t_ : TSTerm) (v13 : Bool) : Bool :=
 if v13 then
  decide ((t_.Subs.length : Int) = 2)
 else
  if decide (t_.Kind = 6) then
   Z3x t_ (decide (t_.Kind = 6))
  else
   Z3x t_ (decide (t_.Kind = 7))
theorem Z3y {mL : Int} {t_ : TSTerm} {v13 : Bool} {o : Bool} (h : Z1p t_ v13 = o) :
  Sv Tryz.prog (GG mL) 0 a20_c0 (Z7d mL o) ⟨(ue [(13, (B v13)), (8, (I t_.Kind)), (3, (I (t_.Subs.length : Int)))]), e0, 0⟩ := by
 unfold Z1p at h
 refine Sv.cnd rfl h (fun h => ?_) fun h => ?_
 ·refine ssr <| un1 rfl <| un1 (v := (B (decide ((t_.Subs.length : Int) = 2)))) rfl <| un1 rfl <| dnil <| Sv.ret ?_
  subst h
  exact ⟨_, .refl _, _, rfl, ⟨upd e0 0 (some (B (decide ((t_.Subs.length : Int) = 2)))), e0, 0⟩, (B (decide ((t_.Subs.length : Int) = 2))), weak_canon [] rfl ndl nll nlz (.cf rfl rfl .nil) .nil, rfl, rfl, rfl, rfl⟩
 ·refine Sv.seq <| ssr <| un1 (v := (B (decide (t_.Kind = 6)))) rfl <| un1 rfl <| dnil ?_
  refine Sv.cnd rfl h (fun h => ?_) fun h => ?_
  ·refine Sv.skip ?_
   exact Sv.weak (wcn [] rfl (.cf rfl rfl (.cf rfl rfl (.cf rfl rfl .nil))) .nil) (Z7e h)
  ·refine srg <| un1 (v := (B (decide (t_.Kind = 7)))) rfl <| un1 rfl <| dnil ?_
   exact Sv.weak (wcn [] rfl (.cf rfl rfl (.cf rfl rfl (.cf rfl rfl .nil))) .nil) (Z7e h)
/-- clerestory/calc.shaped -/
def Z9 (t_ : TSTerm) : Bool :=
 if decide (t_.Kind = 1) then
  decide ((t_.Subs.length : Int) = 0)
 else
  if decide (t_.Kind = 2) then
   Z1p t_ (decide (t_.Kind = 2))
  else
   if decide (t_.Kind = 3) then
    Z1p t_ (decide (t_.Kind = 3))
   else
    if decide (t_.Kind = 4) then
     Z1p t_ (decide (t_.Kind = 4))
    else
     Z1p t_ (decide (t_.Kind = 5))
theorem Z3z {mL : Int} (t_ : TSTerm) : CPure Tryz.prog (GG mL) 20 [(.agg (e_TSTerm t_))] (B (Z9 t_)) := by
 generalize h : Z9 t_ = o
 refine acalls_of_sv hmix c20 (R := Z5g o) ?_
 unfold Z9 at h
 refine ssr <| un <| a2v (v := (.c (.ref 0 4 0 0))) (h' := upd _ 0 (some (.cells 4 [(e_TSTerm t_)]))) (n' := 1) rfl rfl hcs <| un1 rfl <| dnil <| ssr <| un1 (v := (.c (.ref 0 4 0 3))) rfl <| un1 (v := (.c (.ro false 4 (t_.Subs.map eRaw)))) rfl <| un1 (v := (I (t_.Subs.length : Int))) (s_len (e := eRaw) (xs := t_.Subs) rfl) <| un1 rfl <| dnil <| Sv.seq <| ssr <| un1 (v := (.c (.ref 0 4 0 0))) rfl <| un1 (v := (I t_.Kind)) rfl <| dnil <| Sv.block <| ssr <| un1 (v := (B (decide (t_.Kind = 1)))) rfl <| un1 rfl <| dnil ?_
 refine Sv.cnd rfl h (fun h => ?_) fun h => ?_
 ·refine ssr <| un1 rfl <| un1 (v := (B (decide ((t_.Subs.length : Int) = 0)))) rfl <| un1 rfl <| dnil <| Sv.ret ?_
  subst h
  exact ⟨_, .refl _, _, rfl, ⟨upd e0 0 (some (B (decide ((t_.Subs.length : Int) = 0)))), e0, 0⟩, (B (decide ((t_.Subs.length : Int) = 0))), weak_canon [] rfl ndl nll nlz (.cf rfl rfl .nil) .nil, rfl, rfl, rfl, rfl⟩
 ·refine Sv.seq <| ssr <| un1 (v := (B (decide (t_.Kind = 2)))) rfl <| un1 rfl <| dnil ?_
  refine Sv.cnd rfl h (fun h => ?_) fun h => ?_
  ·refine Sv.skip ?_
   exact Sv.weak (wcn [] rfl (.cf rfl rfl (.cf rfl rfl (.cf rfl rfl .nil))) .nil) (Z3y h)
  ·refine ssr <| un1 (v := (B (decide (t_.Kind = 3)))) rfl <| un1 rfl <| dnil ?_
   refine Sv.cnd rfl h (fun h => ?_) fun h => ?_
   ·refine Sv.skip ?_
    exact Sv.weak (wcn [] rfl (.cf rfl rfl (.cf rfl rfl (.cf rfl rfl .nil))) .nil) (Z3y h)
   ·refine ssr <| un1 (v := (B (decide (t_.Kind = 4)))) rfl <| un1 rfl <| dnil ?_
    refine Sv.cnd rfl h (fun h => ?_) fun h => ?_
    ·refine Sv.skip ?_
     exact Sv.weak (wcn [] rfl (.cf rfl rfl (.cf rfl rfl (.cf rfl rfl .nil))) .nil) (Z3y h)
    ·refine srg <| un1 (v := (B (decide (t_.Kind = 5)))) rfl <| un1 rfl <| dnil ?_
     exact Sv.weak (wcn [] rfl (.cf rfl rfl (.cf rfl rfl (.cf rfl rfl .nil))) .nil) (Z3y h)
def a18_c0 : ACode := (.block 1 (.seq (.drawn (.alt [((oP 91 (.faddr 3 (.tmp 12))), (0, 0)), ((mV 93 0), (0, 2))] (.fin [((oP 92 (.load false 1 (.tmp 91))), (2, 1)), ((oP 94 (.call 36 [(.tmp 93)])), (2, 3)), ((oP 95 (.bslice 4 [(.val (.int .i64 0)), (.val (.int .i64 0)), (.str []), (.ro true 4 [])] 1 [(0, (.tmp 94))])), (2, 4)), ((oP 96 (.app 4 56 (.tmp 92) (.tmp 95))), (2, 5)), ((oP 97 (.faddr 3 (.tmp 12))), (0, 6)), ((oN (.store 1 (.tmp 97) (.tmp 96))), (2, 7))]) (.alt [((oP 94 (.call 36 [(.tmp 93)])), (2, 3))] (.fin [((oP 92 (.load false 1 (.tmp 91))), (2, 1)), ((oP 95 (.bslice 4 [(.val (.int .i64 0)), (.val (.int .i64 0)), (.str []), (.ro true 4 [])] 1 [(0, (.tmp 94))])), (2, 4)), ((oP 96 (.app 4 56 (.tmp 92) (.tmp 95))), (2, 5)), ((oP 97 (.faddr 3 (.tmp 12))), (0, 6)), ((oN (.store 1 (.tmp 97) (.tmp 96))), (2, 7))]) (.fin [((oP 95 (.bslice 4 [(.val (.int .i64 0)), (.val (.int .i64 0)), (.str []), (.ro true 4 [])] 1 [(0, (.tmp 94))])), (2, 4)), ((oP 92 (.load false 1 (.tmp 91))), (2, 1)), ((oP 96 (.app 4 56 (.tmp 92) (.tmp 95))), (2, 5)), ((oP 97 (.faddr 3 (.tmp 12))), (0, 6)), ((oN (.store 1 (.tmp 97) (.tmp 96))), (2, 7))]))))
 (.seq (sr [(mV 98 0), (oP 99 (.call 37 [(.tmp 98), (.const (.c (.str [44])))]))]
 (.cond (.tmp 99) (.exit 1) .skip))
 (sr [(mV 100 0), (mV 101 0), (oP 102 (.call 37 [(.tmp 101), (.const (.c (.str [41])))])), (mV 103 102), ⟨(some 104), (.load true 4 (.tmp 12)), (some (103, true))⟩, ⟨(some 105), (.call 20 [(.tmp 104)]), (some (103, true))⟩, (oP 106 (.pick (.tmp 103) (.tmp 105) kF)), (oP 107 (.call 19 [(.tmp 100), (.tmp 106)]))]
 (sr [(mV 108 0), (oP 109 (.load true 4 (.tmp 12))), (oP 110 (.call 35 [(.tmp 108), (.tmp 109)])), (oN (.store 4 (.tmp 4) (.tmp 110)))]
 .ret)))))
def a18 : AFunc := ⟨2, [(.cell true 4 4)], (sr [(oP 4 (.box (.const (.agg [(.val (.int .i64 0)), (.val (.int .i64 0)), (.str []), (.ro true 4 [])]))))]
 (sr [(mV 13 0), (mV 14 0), (oP 15 (.nilc (.tmp 14))), (oP 16 (.faddr 0 (.tmp 15))), (oP 17 (.load false 1 (.tmp 16))), (oP 18 (.len (.tmp 17))), (oP 19 (.bin .gtr (.tmp 18) (kI 0))), (oP 20 (.call 19 [(.tmp 13), (.tmp 19)]))]
 (sr [(mV 21 0), (oP 22 (.nilc (.tmp 21))), (oP 23 (.faddr 0 (.tmp 22))), (oP 24 (.load false 1 (.tmp 23))), (oP 25 (.iaddr 4 (.tmp 24) (kI 0))), (oP 26 (.load true 4 (.tmp 25))), (oP 5 (.box (.const (.agg [(.val (.int .i64 0)), (.str []), (.str []), (.val (.int .i64 0))])))), (oN (.store 4 (.tmp 5) (.tmp 26)))]
 (sr [(mV 27 0), (mV 28 0), (oP 29 (.nilc (.tmp 28))), (oP 30 (.faddr 0 (.tmp 29))), (oP 31 (.load false 1 (.tmp 30))), (oP 32 (.slSl 4 (.tmp 31) (some (kI 1)) none none)), (oP 33 (.nilc (.tmp 27))), (oP 34 (.faddr 0 (.tmp 33))), (oN (.store 1 (.tmp 34) (.tmp 32)))]
 (.seq (sr [(oP 35 (.faddr 0 (.tmp 5))), (oP 36 (.load false 1 (.tmp 35))), (oP 37 (.bin .eql (.tmp 36) (kI 7)))]
 (.cond (.tmp 37) (sr [(oP 39 (.faddr 1 (.tmp 5))), (oP 40 (.load false 1 (.tmp 39))), (oP 41 (.call 34 [(.tmp 40)])), (mV 38 41), (oP 42 (.ext (.tmp 38) 0)), (oP 43 (.ext (.tmp 38) 1)), (oP 6 (.box (.const (.agg [(.val (.int .i64 0)), (.str [])])))), (oN (.store 2 (.tmp 6) (.tmp 42))), (mV 7 43)]
 (sr [(mV 44 0), (mV 45 7), (oP 46 (.bin .eql (.tmp 45) (kI 0))), (oP 47 (.call 19 [(.tmp 44), (.tmp 46)]))]
 (sr [(mV 48 0), (oP 49 (.load true 2 (.tmp 6))), (oP 50 (.build [(.val (.int .i64 0)), (.val (.int .i64 0)), (.str []), (.ro true 4 [])] [(0, (1, (kI 1))), (1, (2, (.tmp 49)))])), (oP 51 (.call 35 [(.tmp 48), (.tmp 50)])), (oN (.store 4 (.tmp 4) (.tmp 51)))]
 .ret))) .skip))
 (.seq (sr [(mV 52 1), (mV 53 52), ⟨(some 54), (.faddr 1 (.tmp 5)), (some (53, true))⟩, ⟨(some 55), (.load false 1 (.tmp 54)), (some (53, true))⟩, ⟨(some 56), (.bin .eql (.tmp 55) (.const (.c (.str [40])))), (some (53, true))⟩, (oP 57 (.pick (.tmp 53) (.tmp 56) kF))]
 (.cond (.tmp 57) (sr [(mV 58 0), (oP 59 (.call 36 [(.tmp 58)])), (oP 8 (.box (.const (.agg [(.val (.int .i64 0)), (.val (.int .i64 0)), (.str []), (.ro true 4 [])])))), (oN (.store 4 (.tmp 8) (.tmp 59)))]
 (sr [(mV 60 0), (mV 61 0), (oP 62 (.call 37 [(.tmp 61), (.const (.c (.str [41])))])), (oP 63 (.call 19 [(.tmp 60), (.tmp 62)]))]
 (sr [(oP 64 (.load true 4 (.tmp 8))), (oN (.store 4 (.tmp 4) (.tmp 64)))]
 .ret))) .skip))
 (sr [(mV 65 0), (oP 66 (.faddr 0 (.tmp 5))), (oP 67 (.load false 1 (.tmp 66))), (oP 68 (.bin .eql (.tmp 67) (kI 2))), (oP 69 (.call 19 [(.tmp 65), (.tmp 68)]))]
 (sr [(oP 70 (.faddr 2 (.tmp 5))), (oP 71 (.load false 1 (.tmp 70))), (oP 72 (.call 38 [(.tmp 71)])), (mV 9 72)]
 (.seq (sr [(mV 73 9), (oP 74 (.bin .eql (.tmp 73) (.const (.c (.str [99, 97, 108, 99])))))]
 (.cond (.tmp 74) (sr [(mV 75 0), (oP 76 (.call 36 [(.tmp 75)])), (oP 10 (.box (.const (.agg [(.val (.int .i64 0)), (.val (.int .i64 0)), (.str []), (.ro true 4 [])])))), (oN (.store 4 (.tmp 10) (.tmp 76)))]
 (sr [(mV 77 0), (mV 78 0), (oP 79 (.call 37 [(.tmp 78), (.const (.c (.str [41])))])), (oP 80 (.call 19 [(.tmp 77), (.tmp 79)]))]
 (sr [(oP 81 (.load true 4 (.tmp 10))), (oN (.store 4 (.tmp 4) (.tmp 81)))]
 .ret))) .skip))
 (sr [(oP 82 (.bslice 1 [(.str [])] 9 [(6, (.const (.c (.str [109, 105, 110])))), (7, (.const (.c (.str [109, 97, 120])))), (8, (.const (.c (.str [99, 108, 97, 109, 112]))))])), (mV 83 9), (oP 84 (.call 39 [(.tmp 82), (.tmp 83)])), (mV 11 84)]
 (sr [(mV 85 0), (mV 86 11), (oP 87 (.bin .gtr (.tmp 86) (kI 0))), (oP 88 (.call 19 [(.tmp 85), (.tmp 87)]))]
 (sr [(mV 89 11), (oP 90 (.build [(.val (.int .i64 0)), (.val (.int .i64 0)), (.str []), (.ro true 4 [])] [(0, (1, (.tmp 89)))])), (oP 12 (.box (.const (.agg [(.val (.int .i64 0)), (.val (.int .i64 0)), (.str []), (.ro true 4 [])])))), (oN (.store 4 (.tmp 12) (.tmp 90)))]
 (.block 0 (.loop a18_c0))))))))))))))⟩
theorem c18 : compFunc Tryz.prog 18 = some a18 := by kernel_rfl
def Z40 : TT := [[], [], [], [], [], [], [109, 105, 110], [109, 97, 120], [99, 108, 97, 109, 112]]
abbrev Z7f (r_14 : Int) (F_ : Nat → (List TSToken) → Int → Bool → (List Raw) → Option (TSTerm × Treader)) (o : (TSTerm × Treader)) : Nat → St → Prop := fun k s => ∃ (r0 : (List TSToken)), ∃ (r1 : Int), ∃ (r2 : Bool), ∃ (out3 : (List Raw)), ∃ (zout3 : Bool), (zout3 = true → out3 = []) ∧ F_ k r0 r1 r2 out3 = some o ∧ s = ⟨(ue [(12, (.c (.ref 2 4 0 0))), (4, (.c (.ref 1 4 0 0))), (0, (.c (.ref 0 3 0 0)))]), (upd (upd (upd (upd e0 0 (some (.cells 3 [[.ro false 4 (r0.map e_TSToken), cI r1, cB r2]]))) 1 (some (.cells 4 [[cI 0, cI 0, .str [], .ro true 4 []]]))) 2 (some (.cells 4 [[cI r_14, cI 0, .str [], lstC zout3 3 4 out3.length]]))) 3 (lstB zout3 4 (out3.map eRaw))), 4⟩
abbrev Za8 (r_14 : Int) (F_ : (List TSToken) → Int → Bool → (List Raw) → Option (TSTerm × Treader)) (o : (TSTerm × Treader)) (R_ : St → Prop) : Prop := ∀ (r0 : (List TSToken)) (r1 : Int) (r2 : Bool) (out3 : (List Raw)) (zout3 : Bool) (_ : zout3 = true → out3 = []), F_ r0 r1 r2 out3 = some o → ∀ s, Weak 1 s ⟨(ue [(12, (.c (.ref 2 4 0 0))), (4, (.c (.ref 1 4 0 0))), (0, (.c (.ref 0 3 0 0)))]), (upd (upd (upd (upd e0 0 (some (.cells 3 [[.ro false 4 (r0.map e_TSToken), cI r1, cB r2]]))) 1 (some (.cells 4 [[cI 0, cI 0, .str [], .ro true 4 []]]))) 2 (some (.cells 4 [[cI r_14, cI 0, .str [], lstC zout3 3 4 out3.length]]))) 3 (lstB zout3 4 (out3.map eRaw))), 4⟩ → R_ s
noncomputable def Z1e (recf : Treader → Bool → Option (TSTerm × Treader)) (r_14 : Int) : Nat → (List TSToken) → Int → Bool → (List Raw) → Option (TSTerm × Treader)
 | 0, _, _, _, _ => none
 | k + 1, r0, r1, r2, out3 =>
  (Z2i recf (⟨r0, r1, r2⟩ : Treader)).bind fun r_16 =>
  (app? 56 out3 [(⟨e_TSTerm r_16.1, rfl⟩ : Raw)]).bind fun r_17 =>
  (Z13 r_16.2 [44]).bind fun r_18 =>
  if r_18.1 then
   (Z1e recf r_14 k) r_18.2.f_l r_18.2.f_n r_18.2.f_gapped r_17
  else
   (Z13 r_18.2 [41]).bind fun r_19 =>
   (Ze r_19.2 (r_19.1 && (Z9 (⟨r_14, (⟨0, []⟩ : TSDim), r_17⟩ : TSTerm)))).bind fun r_20 =>
   (Z1o r_19.2 (⟨r_14, (⟨0, []⟩ : TSDim), r_17⟩ : TSTerm)).bind fun r_22 =>
   some (r_22.1, r_22.2)
theorem Za9 {mL : Int} {Q : AExit → St → Prop} {recf : Treader → Bool → Option (TSTerm × Treader)} {r_14 : Int} {k : Nat} {r0 : (List TSToken)} {r1 : Int} {r2 : Bool} {out3 : (List Raw)} {zout3 : Bool} (hzout3 : zout3 = true → out3 = []) {o : (TSTerm × Treader)} (h : Z1e recf r_14 k r0 r1 r2 out3 = some o)
  (hr : ∀ s, Ends a18.results 1 (Z3k o) .ret s → Q .ret s)
  (hrec : Zi mL recf) :
  Sv Tryz.prog (GG mL) 1 (.loop a18_c0) Q ⟨(ue [(12, (.c (.ref 2 4 0 0))), (4, (.c (.ref 1 4 0 0))), (0, (.c (.ref 0 3 0 0)))]), (upd (upd (upd (upd e0 0 (some (.cells 3 [[.ro false 4 (r0.map e_TSToken), cI r1, cB r2]]))) 1 (some (.cells 4 [[cI 0, cI 0, .str [], .ro true 4 []]]))) 2 (some (.cells 4 [[cI r_14, cI 0, .str [], lstC zout3 3 4 out3.length]]))) 3 (lstB zout3 4 (out3.map eRaw))), 4⟩ := by
 refine Sv.loop (I := Z7f r_14 (Z1e recf r_14) o) (fun k s hI => ?_) ⟨r0, r1, r2, out3, zout3, hzout3, h, rfl⟩
 clear h
 clear hzout3 zout3 out3 r2 r1 r0
 obtain ⟨r0, r1, r2, out3, zout3, hzout3, h, rfl⟩ := hI
 cases k with
 | zero => cases h
 | succ k =>
 rw [Z1e] at h
 have hself : Za8 r_14 (Z1e recf r_14 k) o (rnd 1 (Z7f r_14 (Z1e recf r_14) o) k Q) := fun r0 r1 r2 out3 zout3 hzout3 h s hw => ⟨_, k, hw, Nat.lt_succ_self k, r0, r1, r2, out3, zout3, hzout3, h, rfl⟩
 refine Sv.block <| Sv.seq <| Sv.drawn2 <| un1 (v := (.c (.ref 2 4 0 3))) rfl <| un1 rfl <| dnil ?_
 refine ⟨?_, ?_⟩
 ·refine un1 (v := (lstV zout3 3 4 out3.length)) rfl ?_
  obtain ⟨r_16, hr15, h⟩ := bnd h
  refine un <| ac_gen (bs := [0]) («as» := [(.c (.ref 0 3 0 0))]) (h2 := _) (h1 := (upd e0 0 (some (.cells 3 [[.ro false 4 (r0.map e_TSToken), cI r1, cB r2]])))) (Z3v hrec hr15) rfl (.cons (.c (.ref rfl (by decide))) .nil) (hsub_refl _) (.cons rfl (.nil _)) hcs (by decide) (by decide) (.cons (.c (.ref rfl (by decide))) .nil) (.box (by decide) rfl (blkAs_cells (.sm rfl (.sm rfl (.sm rfl .nil)))) .nil) ?_
  rintro _ _ _ hn ⟨rfl, rfl, rfl⟩
  refine ⟨.inl rfl, (upd (rem [0] _) 0 (some (.cells 3 [[.ro false 4 (r_16.2.f_l.map e_TSToken), cI r_16.2.f_n, cB r_16.2.f_gapped]]))), fun hbd => (m3_cons (m3_box rfl rfl) (m3_rem (in_cons (by decide) (in_nil _)) (.cons (by decide) .nil) hbd)), (.agg (e_TSTerm r_16.1)), 4, rfl, rfl, ?_⟩
  refine un <| a2v (v := (lstV false 4 4 [(⟨e_TSTerm r_16.1, rfl⟩ : Raw)].length)) (h' := upd _ 4 (lstB false 4 ([(⟨e_TSTerm r_16.1, rfl⟩ : Raw)].map eRaw))) (n' := 5) rfl rfl hcs ?_
  obtain ⟨r_17, hr16, h⟩ := bnd h
  have hz1 : (zout3 && [(⟨e_TSTerm r_16.1, rfl⟩ : Raw)].isEmpty) = true → r_17 = [] := app_nil (z := zout3) (ys := [(⟨e_TSTerm r_16.1, rfl⟩ : Raw)]) hzout3 hr16
  refine un <| a2v rfl (s_app (xs := out3) (ys := [(⟨e_TSTerm r_16.1, rfl⟩ : Raw)]) (e := eRaw) (z := zout3) (b := 3) rfl rfl hzout3 rfl rfl (slc_lst rfl (List.length_map _).symm (map_nil_of hcs)) hr16) hcs <| un1 (v := (.c (.ref 2 4 0 3))) rfl <| un <| a2n (h' := upd _ 2 (some (.cells 4 [[cI r_14, cI 0, .str [], lstC (zout3 && [(⟨e_TSTerm r_16.1, rfl⟩ : Raw)].isEmpty) 5 4 r_17.length]]))) (n' := 6) rfl rfl hcs <| dnil <| Sv.seq <| ssr <| un1 rfl ?_
  obtain ⟨r_18, hr17, h⟩ := bnd h
  refine un <| ac_gen (bs := [0]) («as» := [(.c (.ref 0 3 0 0)), (S [44])]) (h2 := _) (h1 := (upd e0 0 (some (.cells 3 [[.ro false 4 (r_16.2.f_l.map e_TSToken), cI r_16.2.f_n, cB r_16.2.f_gapped]])))) (Zn hr17) rfl (.cons (.c (.ref rfl (by decide))) (.cons (avAs_free rfl) .nil)) (hsub_refl _) (.cons rfl (.nil _)) hcs (by decide) (by decide) (.cons (.c (.ref rfl (by decide))) (.cons (avAs_free rfl) .nil)) (.box (by decide) rfl (blkAs_cells (.sm rfl (.sm rfl (.sm rfl .nil)))) .nil) ?_
  rintro _ _ _ hn ⟨rfl, rfl, rfl⟩
  refine ⟨.inl rfl, (upd (rem [0] _) 0 (some (.cells 3 [[.ro false 4 (r_18.2.f_l.map e_TSToken), cI r_18.2.f_n, cB r_18.2.f_gapped]]))), fun hbd => (m3_cons (m3_box rfl rfl) (m3_rem (in_cons (by decide) (in_nil _)) (.cons (by decide) .nil) hbd)), (B r_18.1), 6, rfl, rfl, ?_⟩
  refine dnil ?_
  refine Sv.cnd rfl h (fun h => ?_) fun h => ?_
  ·refine Sv.exit ?_
   exact hself r_18.2.f_l r_18.2.f_n r_18.2.f_gapped r_17 (zout3 && [(⟨e_TSTerm r_16.1, rfl⟩ : Raw)].isEmpty) hz1 h _ (weak_canon [0, 1, 2, 5] rfl (by decide) (by decide) (by decide) (.cr rfl rfl rfl (.cr rfl rfl rfl (.cr rfl rfl rfl .nil))) (.row (by decide) rfl (fr_map fr_raw) (.box (by decide) rfl (blkAs_cells (.sm rfl (.sm rfl (.sm rfl (.cons (lstC_ren rfl (by decide)) .nil))))) (.box (by decide) rfl (blkAs_cells (.sm rfl (.sm rfl (.sm rfl (.sm rfl .nil))))) (.box (by decide) rfl (blkAs_cells (.sm rfl (.sm rfl (.sm rfl .nil)))) .nil)))))
  ·refine Sv.skip <| ssr <| un1 rfl <| un1 rfl ?_
   obtain ⟨r_19, hr18, h⟩ := bnd h
   refine un <| ac_gen (bs := [0]) («as» := [(.c (.ref 0 3 0 0)), (S [41])]) (h2 := _) (h1 := (upd e0 0 (some (.cells 3 [[.ro false 4 (r_18.2.f_l.map e_TSToken), cI r_18.2.f_n, cB r_18.2.f_gapped]])))) (Zn hr18) rfl (.cons (.c (.ref rfl (by decide))) (.cons (avAs_free rfl) .nil)) (hsub_refl _) (.cons rfl (.nil _)) hcs (by decide) (by decide) (.cons (.c (.ref rfl (by decide))) (.cons (avAs_free rfl) .nil)) (.box (by decide) rfl (blkAs_cells (.sm rfl (.sm rfl (.sm rfl .nil)))) .nil) ?_
   rintro _ _ _ hn ⟨rfl, rfl, rfl⟩
   refine ⟨.inl rfl, (upd (rem [0] _) 0 (some (.cells 3 [[.ro false 4 (r_19.2.f_l.map e_TSToken), cI r_19.2.f_n, cB r_19.2.f_gapped]]))), fun hbd => (m3_cons (m3_box rfl rfl) (m3_rem (in_cons (by decide) (in_nil _)) (.cons (by decide) .nil) hbd)), (B r_19.1), 6, rfl, rfl, ?_⟩
   refine un1 rfl ?_
   refine gjoin 3 (d := 106) (v := (B (r_19.1 && (Z9 (⟨r_14, (⟨0, []⟩ : TSDim), r_17⟩ : TSTerm))))) (fun X hX => ?_) ?_
   ·refine split2 (fun hc6 => ?_) (fun hc6 => ?_)
    ·refine gt rfl <| a1 (v := (.agg [cI r_14, cI 0, .str [], lstC (zout3 && [(⟨e_TSTerm r_16.1, rfl⟩ : Raw)].isEmpty) 5 4 r_17.length])) rfl <| gt rfl <| ac_lend (h2 := (upd _ 5 none)) (Z3z (mL := mL) (⟨r_14, (⟨0, []⟩ : TSDim), r_17⟩ : TSTerm)) rfl (.cons (avAs_agg (.sm rfl (.sm rfl (.sm rfl (.cons (lstC_ro (es := List.map eRaw r_17) rfl (List.length_map eRaw).symm (map_nil_of hz1) (gone rfl) (fr_map fr_raw)) .nil))))) .nil) (hsub_none (hsub_refl _)) rfl rfl (.inr rfl) <| un1 (v := (B (Z9 (⟨r_14, (⟨0, []⟩ : TSDim), r_17⟩ : TSTerm)))) rfl <| dnil ?_
     exact hX _ (.putEq (by rw [hc6]; rfl) (.skp (.skp (.putEq (by rw [hc6]) (.refl _)) rfl) rfl))
    ·refine gs rfl rfl <| gs rfl rfl <| un1 (v := (B false)) rfl <| dnil ?_
     exact hX _ (.putEq (by rw [hc6]; rfl) (.skp (.skp (.putEq (by rw [hc6]) (.refl _)) rfl) rfl))
   obtain ⟨r_20, hr19, h⟩ := bnd h
   refine un <| ac_lend (h2 := (upd _ 0 none)) (Zf hr19) rfl (.cons (.c (ref_ro rfl (gone rfl) (.sm rfl (.sm rfl (.sm rfl .nil))) rfl)) (.cons (avAs_free rfl) .nil)) (hsub_none (hsub_refl _)) rfl rfl (.inr rfl) <| dnil <| ssr <| un1 rfl <| un1 (v := (.agg [cI r_14, cI 0, .str [], lstC (zout3 && [(⟨e_TSTerm r_16.1, rfl⟩ : Raw)].isEmpty) 5 4 r_17.length])) rfl <| dweak (show Weak 1 _ ⟨(ue [(109, (.agg [cI r_14, cI 0, .str [], .ro false 4 (r_17.map eRaw)])), (108, (.c (.ref 0 3 0 0))), (107, (.tup [])), (106, (B (r_19.1 && (Z9 (⟨r_14, (⟨0, []⟩ : TSDim), r_17⟩ : TSTerm))))), (103, (B r_19.1)), (102, (B r_19.1)), (101, (.c (.ref 0 3 0 0))), (100, (.c (.ref 0 3 0 0))), (99, (B r_18.1)), (98, (.c (.ref 0 3 0 0))), (97, (.c (.ref 2 4 0 3))), (96, (.c (.ro false 4 (r_17.map eRaw)))), (95, (lstV false 4 4 [(⟨e_TSTerm r_16.1, rfl⟩ : Raw)].length)), (94, (.agg (e_TSTerm r_16.1))), (93, (.c (.ref 0 3 0 0))), (91, (.c (.ref 2 4 0 3))), (12, (.c (.ref 2 4 0 0))), (4, (.c (.ref 1 4 0 0))), (0, (.c (.ref 0 3 0 0)))]), (upd (upd (upd (upd e0 0 (some (.cells 3 [[.ro false 4 (r_19.2.f_l.map e_TSToken), cI r_19.2.f_n, cB r_19.2.f_gapped]]))) 1 (some (.cells 4 [[cI 0, cI 0, .str [], .ro true 4 []]]))) 2 (some (.cells 4 [[cI r_14, cI 0, .str [], .ro false 4 (r_17.map eRaw)]]))) 4 (lstB false 4 ([(⟨e_TSTerm r_16.1, rfl⟩ : Raw)].map eRaw))), 6⟩ from (weak_canon [0, 1, 2, 1003, 4, 1005] rfl (by decide) (by decide) (by decide) (.cons rfl (avAs_agg (.sm rfl (.sm rfl (.sm rfl (.cons (lstC_ro (es := List.map eRaw r_17) rfl (List.length_map eRaw).symm (map_nil_of hz1) (fun b x hx => not_in (bs := [0, 1, 2, 1003, 4, 1005]) rfl b (((.cons (by decide) (.cons (by decide) (.cons (by decide) (.cons (by decide) .nil)))) : HLt _ _) b x hx)) (fr_map fr_raw)) .nil))))) (.cr rfl rfl rfl (.cons rfl (avAs_tup .nil) (.cf rfl rfl (.cf rfl rfl (.cf rfl rfl (.cr rfl rfl rfl (.cr rfl rfl rfl (.cf rfl rfl (.cr rfl rfl rfl (.cr rfl rfl rfl (.cons rfl (.c (lstC_ro (es := List.map eRaw r_17) rfl (List.length_map eRaw).symm (map_nil_of hz1) (fun b x hx => not_in (bs := [0, 1, 2, 1003, 4, 1005]) rfl b (((.cons (by decide) (.cons (by decide) (.cons (by decide) (.cons (by decide) .nil)))) : HLt _ _) b x hx)) (fr_map fr_raw))) (.cons rfl (.c (lsr rfl rfl)) (.cf rfl rfl (.cr rfl rfl rfl (.cr rfl rfl rfl (.cr rfl rfl rfl (.cr rfl rfl rfl (.cr rfl rfl rfl .nil))))))))))))))))))) (.row (by decide) rfl (fr_map fr_raw) (.box (by decide) rfl (blkAs_cells (.sm rfl (.sm rfl (.sm rfl (.cons (lstC_ro (es := List.map eRaw r_17) rfl (List.length_map eRaw).symm (map_nil_of hz1) (fun b x hx => not_in (bs := [0, 1, 2, 1003, 4, 1005]) rfl b (((.cons (by decide) (.cons (by decide) (.cons (by decide) (.cons (by decide) .nil)))) : HLt _ _) b x hx)) (fr_map fr_raw)) .nil))))) (.box (by decide) rfl (blkAs_cells (.sm rfl (.sm rfl (.sm rfl (.sm rfl .nil))))) (.box (by decide) rfl (blkAs_cells (.sm rfl (.sm rfl (.sm rfl .nil)))) .nil)))))) ?_
   obtain ⟨r_22, hr21, h⟩ := bnd h
   refine un <| ac_gen (bs := [0]) («as» := [(.c (.ref 0 3 0 0)), (.agg [cI r_14, cI 0, .str [], .ro false 4 (r_17.map eRaw)])]) (h2 := _) (h1 := (upd e0 0 (some (.cells 3 [[.ro false 4 (r_19.2.f_l.map e_TSToken), cI r_19.2.f_n, cB r_19.2.f_gapped]])))) (Z12 hr21) rfl (.cons (.c (.ref rfl (by decide))) (.cons (avAs_free rfl) .nil)) (hsub_refl _) (.cons rfl (.nil _)) hcs (by decide) (by decide) (.cons (.c (.ref rfl (by decide))) (.cons (avAs_free rfl) .nil)) (.box (by decide) rfl (blkAs_cells (.sm rfl (.sm rfl (.sm rfl .nil)))) .nil) ?_
   rintro _ _ _ hn ⟨rfl, rfl, rfl⟩
   refine ⟨.inl rfl, (upd (rem [0] _) 0 (some (.cells 3 [[.ro false 4 (r_22.2.f_l.map e_TSToken), cI r_22.2.f_n, cB r_22.2.f_gapped]]))), fun hbd => (m3_cons (m3_box rfl rfl) (m3_rem (in_cons (by decide) (in_nil _)) (.cons (by decide) .nil) hbd)), (.agg (e_TSTerm r_22.1)), 6, rfl, rfl, ?_⟩
   refine un <| a2n (h' := upd _ 1 (some (.cells 4 [(e_TSTerm r_22.1)]))) (n' := 6) rfl rfl hcs <| dnil <| Sv.ret ?_
   replace h := Option.some.inj h
   subst h
   exact hr _ ⟨_, .refl _, _, rfl, ⟨upd e0 0 (some (.agg (e_TSTerm r_22.1))), (upd e0 0 (some (.cells 3 [[.ro false 4 (r_22.2.f_l.map e_TSToken), cI r_22.2.f_n, cB r_22.2.f_gapped]]))), 1⟩, (.agg (e_TSTerm r_22.1)), weak_canon2 [0] [0] (by decide) (by decide) (by decide) (.cons (by decide) .nil) (.cf rfl rfl .nil) (.box (by decide) rfl (blkAs_cells (.sm rfl (.sm rfl (.sm rfl .nil)))) .nil), rfl, rfl, rfl, rfl⟩
 ·obtain ⟨r_16, hr15, h⟩ := bnd h
  refine un <| ac_gen (bs := [0]) («as» := [(.c (.ref 0 3 0 0))]) (h2 := _) (h1 := (upd e0 0 (some (.cells 3 [[.ro false 4 (r0.map e_TSToken), cI r1, cB r2]])))) (Z3v hrec hr15) rfl (.cons (.c (.ref rfl (by decide))) .nil) (hsub_refl _) (.cons rfl (.nil _)) hcs (by decide) (by decide) (.cons (.c (.ref rfl (by decide))) .nil) (.box (by decide) rfl (blkAs_cells (.sm rfl (.sm rfl (.sm rfl .nil)))) .nil) ?_
  rintro _ _ _ hn ⟨rfl, rfl, rfl⟩
  refine ⟨.inl rfl, (upd (rem [0] _) 0 (some (.cells 3 [[.ro false 4 (r_16.2.f_l.map e_TSToken), cI r_16.2.f_n, cB r_16.2.f_gapped]]))), fun hbd => (m3_cons (m3_box rfl rfl) (m3_rem (in_cons (by decide) (in_nil _)) (.cons (by decide) .nil) hbd)), (.agg (e_TSTerm r_16.1)), 4, rfl, rfl, ?_⟩
  refine dnil ?_
  refine ⟨?_, ?_⟩
  ·refine un1 (v := (lstV zout3 3 4 out3.length)) rfl <| un <| a2v (v := (lstV false 4 4 [(⟨e_TSTerm r_16.1, rfl⟩ : Raw)].length)) (h' := upd _ 4 (lstB false 4 ([(⟨e_TSTerm r_16.1, rfl⟩ : Raw)].map eRaw))) (n' := 5) rfl rfl hcs ?_
   obtain ⟨r_17, hr16, h⟩ := bnd h
   have hz1 : (zout3 && [(⟨e_TSTerm r_16.1, rfl⟩ : Raw)].isEmpty) = true → r_17 = [] := app_nil (z := zout3) (ys := [(⟨e_TSTerm r_16.1, rfl⟩ : Raw)]) hzout3 hr16
   refine un <| a2v rfl (s_app (xs := out3) (ys := [(⟨e_TSTerm r_16.1, rfl⟩ : Raw)]) (e := eRaw) (z := zout3) (b := 3) rfl rfl hzout3 rfl rfl (slc_lst rfl (List.length_map _).symm (map_nil_of hcs)) hr16) hcs <| un1 (v := (.c (.ref 2 4 0 3))) rfl <| un <| a2n (h' := upd _ 2 (some (.cells 4 [[cI r_14, cI 0, .str [], lstC (zout3 && [(⟨e_TSTerm r_16.1, rfl⟩ : Raw)].isEmpty) 5 4 r_17.length]]))) (n' := 6) rfl rfl hcs <| dnil <| Sv.seq <| ssr <| un1 rfl ?_
   obtain ⟨r_18, hr17, h⟩ := bnd h
   refine un <| ac_gen (bs := [0]) («as» := [(.c (.ref 0 3 0 0)), (S [44])]) (h2 := _) (h1 := (upd e0 0 (some (.cells 3 [[.ro false 4 (r_16.2.f_l.map e_TSToken), cI r_16.2.f_n, cB r_16.2.f_gapped]])))) (Zn hr17) rfl (.cons (.c (.ref rfl (by decide))) (.cons (avAs_free rfl) .nil)) (hsub_refl _) (.cons rfl (.nil _)) hcs (by decide) (by decide) (.cons (.c (.ref rfl (by decide))) (.cons (avAs_free rfl) .nil)) (.box (by decide) rfl (blkAs_cells (.sm rfl (.sm rfl (.sm rfl .nil)))) .nil) ?_
   rintro _ _ _ hn ⟨rfl, rfl, rfl⟩
   refine ⟨.inl rfl, (upd (rem [0] _) 0 (some (.cells 3 [[.ro false 4 (r_18.2.f_l.map e_TSToken), cI r_18.2.f_n, cB r_18.2.f_gapped]]))), fun hbd => (m3_cons (m3_box rfl rfl) (m3_rem (in_cons (by decide) (in_nil _)) (.cons (by decide) .nil) hbd)), (B r_18.1), 6, rfl, rfl, ?_⟩
   refine dnil ?_
   refine Sv.cnd rfl h (fun h => ?_) fun h => ?_
   ·refine Sv.exit ?_
    exact hself r_18.2.f_l r_18.2.f_n r_18.2.f_gapped r_17 (zout3 && [(⟨e_TSTerm r_16.1, rfl⟩ : Raw)].isEmpty) hz1 h _ (weak_canon [0, 1, 2, 5] rfl (by decide) (by decide) (by decide) (.cr rfl rfl rfl (.cr rfl rfl rfl (.cr rfl rfl rfl .nil))) (.row (by decide) rfl (fr_map fr_raw) (.box (by decide) rfl (blkAs_cells (.sm rfl (.sm rfl (.sm rfl (.cons (lstC_ren rfl (by decide)) .nil))))) (.box (by decide) rfl (blkAs_cells (.sm rfl (.sm rfl (.sm rfl (.sm rfl .nil))))) (.box (by decide) rfl (blkAs_cells (.sm rfl (.sm rfl (.sm rfl .nil)))) .nil)))))
   ·refine Sv.skip <| ssr <| un1 rfl <| un1 rfl ?_
    obtain ⟨r_19, hr18, h⟩ := bnd h
    refine un <| ac_gen (bs := [0]) («as» := [(.c (.ref 0 3 0 0)), (S [41])]) (h2 := _) (h1 := (upd e0 0 (some (.cells 3 [[.ro false 4 (r_18.2.f_l.map e_TSToken), cI r_18.2.f_n, cB r_18.2.f_gapped]])))) (Zn hr18) rfl (.cons (.c (.ref rfl (by decide))) (.cons (avAs_free rfl) .nil)) (hsub_refl _) (.cons rfl (.nil _)) hcs (by decide) (by decide) (.cons (.c (.ref rfl (by decide))) (.cons (avAs_free rfl) .nil)) (.box (by decide) rfl (blkAs_cells (.sm rfl (.sm rfl (.sm rfl .nil)))) .nil) ?_
    rintro _ _ _ hn ⟨rfl, rfl, rfl⟩
    refine ⟨.inl rfl, (upd (rem [0] _) 0 (some (.cells 3 [[.ro false 4 (r_19.2.f_l.map e_TSToken), cI r_19.2.f_n, cB r_19.2.f_gapped]]))), fun hbd => (m3_cons (m3_box rfl rfl) (m3_rem (in_cons (by decide) (in_nil _)) (.cons (by decide) .nil) hbd)), (B r_19.1), 6, rfl, rfl, ?_⟩
    refine un1 rfl ?_
    refine gjoin 3 (d := 106) (v := (B (r_19.1 && (Z9 (⟨r_14, (⟨0, []⟩ : TSDim), r_17⟩ : TSTerm))))) (fun X hX => ?_) ?_
    ·refine split2 (fun hc6 => ?_) (fun hc6 => ?_)
     ·refine gt rfl <| a1 (v := (.agg [cI r_14, cI 0, .str [], lstC (zout3 && [(⟨e_TSTerm r_16.1, rfl⟩ : Raw)].isEmpty) 5 4 r_17.length])) rfl <| gt rfl <| ac_lend (h2 := (upd _ 5 none)) (Z3z (mL := mL) (⟨r_14, (⟨0, []⟩ : TSDim), r_17⟩ : TSTerm)) rfl (.cons (avAs_agg (.sm rfl (.sm rfl (.sm rfl (.cons (lstC_ro (es := List.map eRaw r_17) rfl (List.length_map eRaw).symm (map_nil_of hz1) (gone rfl) (fr_map fr_raw)) .nil))))) .nil) (hsub_none (hsub_refl _)) rfl rfl (.inr rfl) <| un1 (v := (B (Z9 (⟨r_14, (⟨0, []⟩ : TSDim), r_17⟩ : TSTerm)))) rfl <| dnil ?_
      exact hX _ (.putEq (by rw [hc6]; rfl) (.skp (.skp (.putEq (by rw [hc6]) (.refl _)) rfl) rfl))
     ·refine gs rfl rfl <| gs rfl rfl <| un1 (v := (B false)) rfl <| dnil ?_
      exact hX _ (.putEq (by rw [hc6]; rfl) (.skp (.skp (.putEq (by rw [hc6]) (.refl _)) rfl) rfl))
    obtain ⟨r_20, hr19, h⟩ := bnd h
    refine un <| ac_lend (h2 := (upd _ 0 none)) (Zf hr19) rfl (.cons (.c (ref_ro rfl (gone rfl) (.sm rfl (.sm rfl (.sm rfl .nil))) rfl)) (.cons (avAs_free rfl) .nil)) (hsub_none (hsub_refl _)) rfl rfl (.inr rfl) <| dnil <| ssr <| un1 rfl <| un1 (v := (.agg [cI r_14, cI 0, .str [], lstC (zout3 && [(⟨e_TSTerm r_16.1, rfl⟩ : Raw)].isEmpty) 5 4 r_17.length])) rfl <| dweak (show Weak 1 _ ⟨(ue [(109, (.agg [cI r_14, cI 0, .str [], .ro false 4 (r_17.map eRaw)])), (108, (.c (.ref 0 3 0 0))), (107, (.tup [])), (106, (B (r_19.1 && (Z9 (⟨r_14, (⟨0, []⟩ : TSDim), r_17⟩ : TSTerm))))), (103, (B r_19.1)), (102, (B r_19.1)), (101, (.c (.ref 0 3 0 0))), (100, (.c (.ref 0 3 0 0))), (99, (B r_18.1)), (98, (.c (.ref 0 3 0 0))), (97, (.c (.ref 2 4 0 3))), (96, (.c (.ro false 4 (r_17.map eRaw)))), (95, (lstV false 4 4 [(⟨e_TSTerm r_16.1, rfl⟩ : Raw)].length)), (94, (.agg (e_TSTerm r_16.1))), (93, (.c (.ref 0 3 0 0))), (91, (.c (.ref 2 4 0 3))), (12, (.c (.ref 2 4 0 0))), (4, (.c (.ref 1 4 0 0))), (0, (.c (.ref 0 3 0 0)))]), (upd (upd (upd (upd e0 0 (some (.cells 3 [[.ro false 4 (r_19.2.f_l.map e_TSToken), cI r_19.2.f_n, cB r_19.2.f_gapped]]))) 1 (some (.cells 4 [[cI 0, cI 0, .str [], .ro true 4 []]]))) 2 (some (.cells 4 [[cI r_14, cI 0, .str [], .ro false 4 (r_17.map eRaw)]]))) 4 (lstB false 4 ([(⟨e_TSTerm r_16.1, rfl⟩ : Raw)].map eRaw))), 6⟩ from (weak_canon [0, 1, 2, 1003, 4, 1005] rfl (by decide) (by decide) (by decide) (.cons rfl (avAs_agg (.sm rfl (.sm rfl (.sm rfl (.cons (lstC_ro (es := List.map eRaw r_17) rfl (List.length_map eRaw).symm (map_nil_of hz1) (fun b x hx => not_in (bs := [0, 1, 2, 1003, 4, 1005]) rfl b (((.cons (by decide) (.cons (by decide) (.cons (by decide) (.cons (by decide) .nil)))) : HLt _ _) b x hx)) (fr_map fr_raw)) .nil))))) (.cr rfl rfl rfl (.cons rfl (avAs_tup .nil) (.cf rfl rfl (.cf rfl rfl (.cf rfl rfl (.cr rfl rfl rfl (.cr rfl rfl rfl (.cf rfl rfl (.cr rfl rfl rfl (.cr rfl rfl rfl (.cons rfl (.c (lstC_ro (es := List.map eRaw r_17) rfl (List.length_map eRaw).symm (map_nil_of hz1) (fun b x hx => not_in (bs := [0, 1, 2, 1003, 4, 1005]) rfl b (((.cons (by decide) (.cons (by decide) (.cons (by decide) (.cons (by decide) .nil)))) : HLt _ _) b x hx)) (fr_map fr_raw))) (.cons rfl (.c (lsr rfl rfl)) (.cf rfl rfl (.cr rfl rfl rfl (.cr rfl rfl rfl (.cr rfl rfl rfl (.cr rfl rfl rfl (.cr rfl rfl rfl .nil))))))))))))))))))) (.row (by decide) rfl (fr_map fr_raw) (.box (by decide) rfl (blkAs_cells (.sm rfl (.sm rfl (.sm rfl (.cons (lstC_ro (es := List.map eRaw r_17) rfl (List.length_map eRaw).symm (map_nil_of hz1) (fun b x hx => not_in (bs := [0, 1, 2, 1003, 4, 1005]) rfl b (((.cons (by decide) (.cons (by decide) (.cons (by decide) (.cons (by decide) .nil)))) : HLt _ _) b x hx)) (fr_map fr_raw)) .nil))))) (.box (by decide) rfl (blkAs_cells (.sm rfl (.sm rfl (.sm rfl (.sm rfl .nil))))) (.box (by decide) rfl (blkAs_cells (.sm rfl (.sm rfl (.sm rfl .nil)))) .nil)))))) ?_
    obtain ⟨r_22, hr21, h⟩ := bnd h
    refine un <| ac_gen (bs := [0]) («as» := [(.c (.ref 0 3 0 0)), (.agg [cI r_14, cI 0, .str [], .ro false 4 (r_17.map eRaw)])]) (h2 := _) (h1 := (upd e0 0 (some (.cells 3 [[.ro false 4 (r_19.2.f_l.map e_TSToken), cI r_19.2.f_n, cB r_19.2.f_gapped]])))) (Z12 hr21) rfl (.cons (.c (.ref rfl (by decide))) (.cons (avAs_free rfl) .nil)) (hsub_refl _) (.cons rfl (.nil _)) hcs (by decide) (by decide) (.cons (.c (.ref rfl (by decide))) (.cons (avAs_free rfl) .nil)) (.box (by decide) rfl (blkAs_cells (.sm rfl (.sm rfl (.sm rfl .nil)))) .nil) ?_
    rintro _ _ _ hn ⟨rfl, rfl, rfl⟩
    refine ⟨.inl rfl, (upd (rem [0] _) 0 (some (.cells 3 [[.ro false 4 (r_22.2.f_l.map e_TSToken), cI r_22.2.f_n, cB r_22.2.f_gapped]]))), fun hbd => (m3_cons (m3_box rfl rfl) (m3_rem (in_cons (by decide) (in_nil _)) (.cons (by decide) .nil) hbd)), (.agg (e_TSTerm r_22.1)), 6, rfl, rfl, ?_⟩
    refine un <| a2n (h' := upd _ 1 (some (.cells 4 [(e_TSTerm r_22.1)]))) (n' := 6) rfl rfl hcs <| dnil <| Sv.ret ?_
    replace h := Option.some.inj h
    subst h
    exact hr _ ⟨_, .refl _, _, rfl, ⟨upd e0 0 (some (.agg (e_TSTerm r_22.1))), (upd e0 0 (some (.cells 3 [[.ro false 4 (r_22.2.f_l.map e_TSToken), cI r_22.2.f_n, cB r_22.2.f_gapped]]))), 1⟩, (.agg (e_TSTerm r_22.1)), weak_canon2 [0] [0] (by decide) (by decide) (by decide) (.cons (by decide) .nil) (.cf rfl rfl .nil) (.box (by decide) rfl (blkAs_cells (.sm rfl (.sm rfl (.sm rfl .nil)))) .nil), rfl, rfl, rfl, rfl⟩
  ·refine un <| a2v (v := (lstV false 4 4 [(⟨e_TSTerm r_16.1, rfl⟩ : Raw)].length)) (h' := upd _ 4 (lstB false 4 ([(⟨e_TSTerm r_16.1, rfl⟩ : Raw)].map eRaw))) (n' := 5) rfl rfl hcs <| un1 (v := (lstV zout3 3 4 out3.length)) rfl ?_
   obtain ⟨r_17, hr16, h⟩ := bnd h
   have hz1 : (zout3 && [(⟨e_TSTerm r_16.1, rfl⟩ : Raw)].isEmpty) = true → r_17 = [] := app_nil (z := zout3) (ys := [(⟨e_TSTerm r_16.1, rfl⟩ : Raw)]) hzout3 hr16
   refine un <| a2v rfl (s_app (xs := out3) (ys := [(⟨e_TSTerm r_16.1, rfl⟩ : Raw)]) (e := eRaw) (z := zout3) (b := 3) rfl rfl hzout3 rfl rfl (slc_lst rfl (List.length_map _).symm (map_nil_of hcs)) hr16) hcs <| un1 (v := (.c (.ref 2 4 0 3))) rfl <| un <| a2n (h' := upd _ 2 (some (.cells 4 [[cI r_14, cI 0, .str [], lstC (zout3 && [(⟨e_TSTerm r_16.1, rfl⟩ : Raw)].isEmpty) 5 4 r_17.length]]))) (n' := 6) rfl rfl hcs <| dnil <| Sv.seq <| ssr <| un1 rfl ?_
   obtain ⟨r_18, hr17, h⟩ := bnd h
   refine un <| ac_gen (bs := [0]) («as» := [(.c (.ref 0 3 0 0)), (S [44])]) (h2 := _) (h1 := (upd e0 0 (some (.cells 3 [[.ro false 4 (r_16.2.f_l.map e_TSToken), cI r_16.2.f_n, cB r_16.2.f_gapped]])))) (Zn hr17) rfl (.cons (.c (.ref rfl (by decide))) (.cons (avAs_free rfl) .nil)) (hsub_refl _) (.cons rfl (.nil _)) hcs (by decide) (by decide) (.cons (.c (.ref rfl (by decide))) (.cons (avAs_free rfl) .nil)) (.box (by decide) rfl (blkAs_cells (.sm rfl (.sm rfl (.sm rfl .nil)))) .nil) ?_
   rintro _ _ _ hn ⟨rfl, rfl, rfl⟩
   refine ⟨.inl rfl, (upd (rem [0] _) 0 (some (.cells 3 [[.ro false 4 (r_18.2.f_l.map e_TSToken), cI r_18.2.f_n, cB r_18.2.f_gapped]]))), fun hbd => (m3_cons (m3_box rfl rfl) (m3_rem (in_cons (by decide) (in_nil _)) (.cons (by decide) .nil) hbd)), (B r_18.1), 6, rfl, rfl, ?_⟩
   refine dnil ?_
   refine Sv.cnd rfl h (fun h => ?_) fun h => ?_
   ·refine Sv.exit ?_
    exact hself r_18.2.f_l r_18.2.f_n r_18.2.f_gapped r_17 (zout3 && [(⟨e_TSTerm r_16.1, rfl⟩ : Raw)].isEmpty) hz1 h _ (weak_canon [0, 1, 2, 5] rfl (by decide) (by decide) (by decide) (.cr rfl rfl rfl (.cr rfl rfl rfl (.cr rfl rfl rfl .nil))) (.row (by decide) rfl (fr_map fr_raw) (.box (by decide) rfl (blkAs_cells (.sm rfl (.sm rfl (.sm rfl (.cons (lstC_ren rfl (by decide)) .nil))))) (.box (by decide) rfl (blkAs_cells (.sm rfl (.sm rfl (.sm rfl (.sm rfl .nil))))) (.box (by decide) rfl (blkAs_cells (.sm rfl (.sm rfl (.sm rfl .nil)))) .nil)))))
   ·refine Sv.skip <| ssr <| un1 rfl <| un1 rfl ?_
    obtain ⟨r_19, hr18, h⟩ := bnd h
    refine un <| ac_gen (bs := [0]) («as» := [(.c (.ref 0 3 0 0)), (S [41])]) (h2 := _) (h1 := (upd e0 0 (some (.cells 3 [[.ro false 4 (r_18.2.f_l.map e_TSToken), cI r_18.2.f_n, cB r_18.2.f_gapped]])))) (Zn hr18) rfl (.cons (.c (.ref rfl (by decide))) (.cons (avAs_free rfl) .nil)) (hsub_refl _) (.cons rfl (.nil _)) hcs (by decide) (by decide) (.cons (.c (.ref rfl (by decide))) (.cons (avAs_free rfl) .nil)) (.box (by decide) rfl (blkAs_cells (.sm rfl (.sm rfl (.sm rfl .nil)))) .nil) ?_
    rintro _ _ _ hn ⟨rfl, rfl, rfl⟩
    refine ⟨.inl rfl, (upd (rem [0] _) 0 (some (.cells 3 [[.ro false 4 (r_19.2.f_l.map e_TSToken), cI r_19.2.f_n, cB r_19.2.f_gapped]]))), fun hbd => (m3_cons (m3_box rfl rfl) (m3_rem (in_cons (by decide) (in_nil _)) (.cons (by decide) .nil) hbd)), (B r_19.1), 6, rfl, rfl, ?_⟩
    refine un1 rfl ?_
    refine gjoin 3 (d := 106) (v := (B (r_19.1 && (Z9 (⟨r_14, (⟨0, []⟩ : TSDim), r_17⟩ : TSTerm))))) (fun X hX => ?_) ?_
    ·refine split2 (fun hc6 => ?_) (fun hc6 => ?_)
     ·refine gt rfl <| a1 (v := (.agg [cI r_14, cI 0, .str [], lstC (zout3 && [(⟨e_TSTerm r_16.1, rfl⟩ : Raw)].isEmpty) 5 4 r_17.length])) rfl <| gt rfl <| ac_lend (h2 := (upd _ 5 none)) (Z3z (mL := mL) (⟨r_14, (⟨0, []⟩ : TSDim), r_17⟩ : TSTerm)) rfl (.cons (avAs_agg (.sm rfl (.sm rfl (.sm rfl (.cons (lstC_ro (es := List.map eRaw r_17) rfl (List.length_map eRaw).symm (map_nil_of hz1) (gone rfl) (fr_map fr_raw)) .nil))))) .nil) (hsub_none (hsub_refl _)) rfl rfl (.inr rfl) <| un1 (v := (B (Z9 (⟨r_14, (⟨0, []⟩ : TSDim), r_17⟩ : TSTerm)))) rfl <| dnil ?_
      exact hX _ (.putEq (by rw [hc6]; rfl) (.skp (.skp (.putEq (by rw [hc6]) (.refl _)) rfl) rfl))
     ·refine gs rfl rfl <| gs rfl rfl <| un1 (v := (B false)) rfl <| dnil ?_
      exact hX _ (.putEq (by rw [hc6]; rfl) (.skp (.skp (.putEq (by rw [hc6]) (.refl _)) rfl) rfl))
    obtain ⟨r_20, hr19, h⟩ := bnd h
    refine un <| ac_lend (h2 := (upd _ 0 none)) (Zf hr19) rfl (.cons (.c (ref_ro rfl (gone rfl) (.sm rfl (.sm rfl (.sm rfl .nil))) rfl)) (.cons (avAs_free rfl) .nil)) (hsub_none (hsub_refl _)) rfl rfl (.inr rfl) <| dnil <| ssr <| un1 rfl <| un1 (v := (.agg [cI r_14, cI 0, .str [], lstC (zout3 && [(⟨e_TSTerm r_16.1, rfl⟩ : Raw)].isEmpty) 5 4 r_17.length])) rfl <| dweak (show Weak 1 _ ⟨(ue [(109, (.agg [cI r_14, cI 0, .str [], .ro false 4 (r_17.map eRaw)])), (108, (.c (.ref 0 3 0 0))), (107, (.tup [])), (106, (B (r_19.1 && (Z9 (⟨r_14, (⟨0, []⟩ : TSDim), r_17⟩ : TSTerm))))), (103, (B r_19.1)), (102, (B r_19.1)), (101, (.c (.ref 0 3 0 0))), (100, (.c (.ref 0 3 0 0))), (99, (B r_18.1)), (98, (.c (.ref 0 3 0 0))), (97, (.c (.ref 2 4 0 3))), (96, (.c (.ro false 4 (r_17.map eRaw)))), (95, (lstV false 4 4 [(⟨e_TSTerm r_16.1, rfl⟩ : Raw)].length)), (94, (.agg (e_TSTerm r_16.1))), (93, (.c (.ref 0 3 0 0))), (91, (.c (.ref 2 4 0 3))), (12, (.c (.ref 2 4 0 0))), (4, (.c (.ref 1 4 0 0))), (0, (.c (.ref 0 3 0 0)))]), (upd (upd (upd (upd e0 0 (some (.cells 3 [[.ro false 4 (r_19.2.f_l.map e_TSToken), cI r_19.2.f_n, cB r_19.2.f_gapped]]))) 1 (some (.cells 4 [[cI 0, cI 0, .str [], .ro true 4 []]]))) 2 (some (.cells 4 [[cI r_14, cI 0, .str [], .ro false 4 (r_17.map eRaw)]]))) 4 (lstB false 4 ([(⟨e_TSTerm r_16.1, rfl⟩ : Raw)].map eRaw))), 6⟩ from (weak_canon [0, 1, 2, 1003, 4, 1005] rfl (by decide) (by decide) (by decide) (.cons rfl (avAs_agg (.sm rfl (.sm rfl (.sm rfl (.cons (lstC_ro (es := List.map eRaw r_17) rfl (List.length_map eRaw).symm (map_nil_of hz1) (fun b x hx => not_in (bs := [0, 1, 2, 1003, 4, 1005]) rfl b (((.cons (by decide) (.cons (by decide) (.cons (by decide) (.cons (by decide) .nil)))) : HLt _ _) b x hx)) (fr_map fr_raw)) .nil))))) (.cr rfl rfl rfl (.cons rfl (avAs_tup .nil) (.cf rfl rfl (.cf rfl rfl (.cf rfl rfl (.cr rfl rfl rfl (.cr rfl rfl rfl (.cf rfl rfl (.cr rfl rfl rfl (.cr rfl rfl rfl (.cons rfl (.c (lstC_ro (es := List.map eRaw r_17) rfl (List.length_map eRaw).symm (map_nil_of hz1) (fun b x hx => not_in (bs := [0, 1, 2, 1003, 4, 1005]) rfl b (((.cons (by decide) (.cons (by decide) (.cons (by decide) (.cons (by decide) .nil)))) : HLt _ _) b x hx)) (fr_map fr_raw))) (.cons rfl (.c (lsr rfl rfl)) (.cf rfl rfl (.cr rfl rfl rfl (.cr rfl rfl rfl (.cr rfl rfl rfl (.cr rfl rfl rfl (.cr rfl rfl rfl .nil))))))))))))))))))) (.row (by decide) rfl (fr_map fr_raw) (.box (by decide) rfl (blkAs_cells (.sm rfl (.sm rfl (.sm rfl (.cons (lstC_ro (es := List.map eRaw r_17) rfl (List.length_map eRaw).symm (map_nil_of hz1) (fun b x hx => not_in (bs := [0, 1, 2, 1003, 4, 1005]) rfl b (((.cons (by decide) (.cons (by decide) (.cons (by decide) (.cons (by decide) .nil)))) : HLt _ _) b x hx)) (fr_map fr_raw)) .nil))))) (.box (by decide) rfl (blkAs_cells (.sm rfl (.sm rfl (.sm rfl (.sm rfl .nil))))) (.box (by decide) rfl (blkAs_cells (.sm rfl (.sm rfl (.sm rfl .nil)))) .nil)))))) ?_
    obtain ⟨r_22, hr21, h⟩ := bnd h
    refine un <| ac_gen (bs := [0]) («as» := [(.c (.ref 0 3 0 0)), (.agg [cI r_14, cI 0, .str [], .ro false 4 (r_17.map eRaw)])]) (h2 := _) (h1 := (upd e0 0 (some (.cells 3 [[.ro false 4 (r_19.2.f_l.map e_TSToken), cI r_19.2.f_n, cB r_19.2.f_gapped]])))) (Z12 hr21) rfl (.cons (.c (.ref rfl (by decide))) (.cons (avAs_free rfl) .nil)) (hsub_refl _) (.cons rfl (.nil _)) hcs (by decide) (by decide) (.cons (.c (.ref rfl (by decide))) (.cons (avAs_free rfl) .nil)) (.box (by decide) rfl (blkAs_cells (.sm rfl (.sm rfl (.sm rfl .nil)))) .nil) ?_
    rintro _ _ _ hn ⟨rfl, rfl, rfl⟩
    refine ⟨.inl rfl, (upd (rem [0] _) 0 (some (.cells 3 [[.ro false 4 (r_22.2.f_l.map e_TSToken), cI r_22.2.f_n, cB r_22.2.f_gapped]]))), fun hbd => (m3_cons (m3_box rfl rfl) (m3_rem (in_cons (by decide) (in_nil _)) (.cons (by decide) .nil) hbd)), (.agg (e_TSTerm r_22.1)), 6, rfl, rfl, ?_⟩
    refine un <| a2n (h' := upd _ 1 (some (.cells 4 [(e_TSTerm r_22.1)]))) (n' := 6) rfl rfl hcs <| dnil <| Sv.ret ?_
    replace h := Option.some.inj h
    subst h
    exact hr _ ⟨_, .refl _, _, rfl, ⟨upd e0 0 (some (.agg (e_TSTerm r_22.1))), (upd e0 0 (some (.cells 3 [[.ro false 4 (r_22.2.f_l.map e_TSToken), cI r_22.2.f_n, cB r_22.2.f_gapped]]))), 1⟩, (.agg (e_TSTerm r_22.1)), weak_canon2 [0] [0] (by decide) (by decide) (by decide) (.cons (by decide) .nil) (.cf rfl rfl .nil) (.box (by decide) rfl (blkAs_cells (.sm rfl (.sm rfl (.sm rfl .nil)))) .nil), rfl, rfl, rfl, rfl⟩
/-- (*clerestory/calc.reader).value -/
noncomputable def Z1q : Nat → Treader → Bool → Option (TSTerm × Treader)
 | 0, _, _ => none
 | k + 1, r_, in_ =>
  (Ze r_ (decide (0 < (r_.f_l.length : Int)))).bind fun r_1 =>
  (at? r_.f_l 0).bind fun x_ =>
  (sub? r_.f_l 1 (r_.f_l.length : Int)).bind fun r_2 =>
  if decide (x_.Kind = 7) then
   (Z5c x_.Raw).bind fun r_3 =>
   (Ze (⟨r_2, r_.f_n, r_.f_gapped⟩ : Treader) (decide (r_3.2 = 0))).bind fun r_4 =>
   (Z1o (⟨r_2, r_.f_n, r_.f_gapped⟩ : Treader) (⟨1, r_3.1, []⟩ : TSTerm)).bind fun r_5 =>
   some (r_5.1, r_5.2)
  else
   if (in_ && (decide (x_.Raw = [40]))) then
    (Z2i (Z1q k) (⟨r_2, r_.f_n, r_.f_gapped⟩ : Treader)).bind fun r_6 =>
    (Z13 r_6.2 [41]).bind fun r_7 =>
    (Ze r_7.2 r_7.1).bind fun r_8 =>
    some (r_6.1, r_7.2)
   else
    (Ze (⟨r_2, r_.f_n, r_.f_gapped⟩ : Treader) (decide (x_.Kind = 2))).bind fun r_9 =>
    (Z5f x_.Value).bind fun r_10 =>
    if decide (r_10 = [99, 97, 108, 99]) then
     (Z2i (Z1q k) (⟨r_2, r_.f_n, r_.f_gapped⟩ : Treader)).bind fun r_11 =>
     (Z13 r_11.2 [41]).bind fun r_12 =>
     (Ze r_12.2 r_12.1).bind fun r_13 =>
     some (r_11.1, r_12.2)
    else
     (Z3j Z40 r_10).bind fun r_14 =>
     (Ze (⟨r_2, r_.f_n, r_.f_gapped⟩ : Treader) (decide (0 < r_14))).bind fun r_15 =>
     limF fun kk => Z1e (Z1q k) r_14 kk r_2 r_.f_n r_.f_gapped ([] : List Raw)
noncomputable def Z5h (r_ : Treader) (in_ : Bool) : Option (TSTerm × Treader) :=
 limF fun kr => Z1q kr r_ in_
theorem Zaa {mL : Int} (k : Nat) : Zi mL (Z1q k) := by
 induction k with
 | zero => intro r_ in_ r h; cases h
 | succ k hrec =>
 intro r_ in_ r h
 refine acalls_of_sv hmix c18 (R := Z3k r) ?_
 rw [Z1q] at h
 refine ssr <| un <| a2v (v := (.c (.ref 1 4 0 0))) (h' := upd _ 1 (some (.cells 4 [[cI 0, cI 0, .str [], .ro true 4 []]]))) (n' := 2) rfl rfl hcs <| dnil <| ssr <| un1 rfl <| un1 rfl <| un1 (v := (.c (.ref 0 3 0 0))) rfl <| un1 (v := (.c (.ref 0 3 0 0))) rfl <| un1 (v := (.c (.ro false 4 (r_.f_l.map e_TSToken)))) rfl <| un1 (v := (I (r_.f_l.length : Int))) (s_len (e := e_TSToken) (xs := r_.f_l) rfl) <| un1 (v := (B (decide (0 < (r_.f_l.length : Int))))) rfl ?_
 obtain ⟨r_1, hr1, h⟩ := bnd h
 refine un <| ac_lend (h2 := (upd _ 0 none)) (Zf hr1) rfl (.cons (.c (ref_ro rfl (gone rfl) (.sm rfl (.sm rfl (.sm rfl .nil))) rfl)) (.cons (avAs_free rfl) .nil)) (hsub_none (hsub_refl _)) rfl rfl (.inr rfl) <| dnil <| ssr <| un1 rfl <| un1 (v := (.c (.ref 0 3 0 0))) rfl <| un1 (v := (.c (.ref 0 3 0 0))) rfl <| un1 (v := (.c (.ro false 4 (r_.f_l.map e_TSToken)))) rfl ?_
 obtain ⟨x_, hx1, h⟩ := bnd h
 refine un1 (v := (.c (.rop (e_TSToken x_)))) (s_iaddr (e := e_TSToken) (xs := r_.f_l) rfl rfl hx1) <| un1 (v := (.agg (e_TSToken x_))) rfl <| un <| a2v (v := (.c (.ref 2 4 0 0))) (h' := upd _ 2 (some (.cells 4 [[cI 0, .str [], .str [], cI 0]]))) (n' := 3) rfl rfl hcs <| un <| a2n (h' := upd _ 2 (some (.cells 4 [(e_TSToken x_)]))) (n' := 3) rfl rfl hcs <| dnil <| ssr <| un1 rfl <| un1 rfl <| un1 (v := (.c (.ref 0 3 0 0))) rfl <| un1 (v := (.c (.ref 0 3 0 0))) rfl <| un1 (v := (.c (.ro false 4 (r_.f_l.map e_TSToken)))) rfl ?_
 obtain ⟨r_2, hx2, h⟩ := bnd h
 refine un1 (v := (.c (.ro false 4 (r_2.map e_TSToken)))) (s_slSl (e := e_TSToken) rfl rfl rfl hx2) <| un1 (v := (.c (.ref 0 3 0 0))) rfl <| un1 (v := (.c (.ref 0 3 0 0))) rfl <| un <| a2n (h' := upd _ 0 (some (.cells 3 [[.ro false 4 (r_2.map e_TSToken), cI r_.f_n, cB r_.f_gapped]]))) (n' := 3) rfl rfl hcs <| dnil <| Sv.seq <| ssr <| un1 (v := (.c (.ref 2 4 0 0))) rfl <| un1 (v := (I x_.Kind)) rfl <| un1 (v := (B (decide (x_.Kind = 7)))) rfl <| dnil ?_
 refine Sv.cnd rfl h (fun h => ?_) fun h => ?_
 ·refine ssr <| un1 (v := (.c (.ref 2 4 0 1))) rfl <| un1 (v := (S x_.Raw)) rfl ?_
  obtain ⟨r_3, hr2, h⟩ := bnd h
  refine un <| ac_pure (Z9z hr2) rfl rfl rfl <| un1 rfl <| un1 (v := (.agg (e_TSDim r_3.1))) rfl <| un1 (v := (I r_3.2)) rfl <| un <| a2v (v := (.c (.ref 3 2 0 0))) (h' := upd _ 3 (some (.cells 2 [[cI 0, .str []]]))) (n' := 4) rfl rfl hcs <| un <| a2n (h' := upd _ 3 (some (.cells 2 [(e_TSDim r_3.1)]))) (n' := 4) rfl rfl hcs <| un1 rfl <| dnil <| ssr <| un1 rfl <| un1 rfl <| un1 (v := (B (decide (r_3.2 = 0)))) rfl ?_
  obtain ⟨r_4, hr3, h⟩ := bnd h
  refine un <| ac_lend (h2 := (upd _ 0 none)) (Zf hr3) rfl (.cons (.c (ref_ro rfl (gone rfl) (.sm rfl (.sm rfl (.sm rfl .nil))) rfl)) (.cons (avAs_free rfl) .nil)) (hsub_none (hsub_refl _)) rfl rfl (.inr rfl) <| dnil <| ssr <| un1 rfl <| un1 (v := (.agg (e_TSDim r_3.1))) rfl <| un1 (v := (.agg [cI 1, cI r_3.1.Num, .str r_3.1.Unit, .ro true 4 []])) rfl ?_
  obtain ⟨r_5, hr4, h⟩ := bnd h
  refine un <| ac_gen (bs := [0]) («as» := [(.c (.ref 0 3 0 0)), (.agg [cI 1, cI r_3.1.Num, .str r_3.1.Unit, .ro false 4 (([] : List Raw).map eRaw)])]) (h2 := _) (h1 := (upd e0 0 (some (.cells 3 [[.ro false 4 (r_2.map e_TSToken), cI r_.f_n, cB r_.f_gapped]])))) (Z12 hr4) rfl (.cons (.c (.ref rfl (by decide))) (.cons (avAs_agg (.sm rfl (.sm rfl (.sm rfl (.cons .nil .nil))))) .nil)) (hsub_refl _) (.cons rfl (.nil _)) hcs (by decide) (by decide) (.cons (.c (.ref rfl (by decide))) (.cons (avAs_free rfl) .nil)) (.box (by decide) rfl (blkAs_cells (.sm rfl (.sm rfl (.sm rfl .nil)))) .nil) ?_
  rintro _ _ _ hn ⟨rfl, rfl, rfl⟩
  refine ⟨.inl rfl, (upd (rem [0] _) 0 (some (.cells 3 [[.ro false 4 (r_5.2.f_l.map e_TSToken), cI r_5.2.f_n, cB r_5.2.f_gapped]]))), fun hbd => (m3_cons (m3_box rfl rfl) (m3_rem (in_cons (by decide) (in_nil _)) (.cons (by decide) .nil) hbd)), (.agg (e_TSTerm r_5.1)), 4, rfl, rfl, ?_⟩
  refine un <| a2n (h' := upd _ 1 (some (.cells 4 [(e_TSTerm r_5.1)]))) (n' := 4) rfl rfl hcs <| dnil <| Sv.ret ?_
  replace h := Option.some.inj h
  subst h
  exact ⟨_, .refl _, _, rfl, ⟨upd e0 0 (some (.agg (e_TSTerm r_5.1))), (upd e0 0 (some (.cells 3 [[.ro false 4 (r_5.2.f_l.map e_TSToken), cI r_5.2.f_n, cB r_5.2.f_gapped]]))), 1⟩, (.agg (e_TSTerm r_5.1)), weak_canon2 [0] [0] (by decide) (by decide) (by decide) (.cons (by decide) .nil) (.cf rfl rfl .nil) (.box (by decide) rfl (blkAs_cells (.sm rfl (.sm rfl (.sm rfl .nil)))) .nil), rfl, rfl, rfl, rfl⟩
 ·refine Sv.skip <| Sv.seq <| ssr <| un1 rfl <| un1 rfl ?_
  refine gjoin 4 (d := 57) (v := (B (in_ && (decide (x_.Raw = [40]))))) (fun X hX => ?_) ?_
  ·refine split2 (fun hc2 => ?_) (fun hc2 => ?_)
   ·refine gt rfl <| a1 (v := (.c (.ref 2 4 0 1))) rfl <| gt rfl <| a1 (v := (S x_.Raw)) rfl <| gt rfl <| a1 (v := (B (decide (x_.Raw = [40])))) rfl <| un1 (v := (B (decide (x_.Raw = [40])))) rfl <| dnil ?_
    exact hX _ (.putEq (by rw [hc2]; rfl) (.skp (.skp (.skp (.putEq (by rw [hc2]) (.refl _)) rfl) rfl) rfl))
   ·refine gs rfl rfl <| gs rfl rfl <| gs rfl rfl <| un1 (v := (B false)) rfl <| dnil ?_
    exact hX _ (.putEq (by rw [hc2]; rfl) (.skp (.skp (.skp (.putEq (by rw [hc2]) (.refl _)) rfl) rfl) rfl))
  refine dnil ?_
  refine Sv.cnd rfl h (fun h => ?_) fun h => ?_
  ·refine ssr <| un1 rfl ?_
   obtain ⟨r_6, hr5, h⟩ := bnd h
   refine un <| ac_gen (bs := [0]) («as» := [(.c (.ref 0 3 0 0))]) (h2 := _) (h1 := (upd e0 0 (some (.cells 3 [[.ro false 4 (r_2.map e_TSToken), cI r_.f_n, cB r_.f_gapped]])))) (Z3v hrec hr5) rfl (.cons (.c (.ref rfl (by decide))) .nil) (hsub_refl _) (.cons rfl (.nil _)) hcs (by decide) (by decide) (.cons (.c (.ref rfl (by decide))) .nil) (.box (by decide) rfl (blkAs_cells (.sm rfl (.sm rfl (.sm rfl .nil)))) .nil) ?_
   rintro _ _ _ hn ⟨rfl, rfl, rfl⟩
   refine ⟨.inl rfl, (upd (rem [0] _) 0 (some (.cells 3 [[.ro false 4 (r_6.2.f_l.map e_TSToken), cI r_6.2.f_n, cB r_6.2.f_gapped]]))), fun hbd => (m3_cons (m3_box rfl rfl) (m3_rem (in_cons (by decide) (in_nil _)) (.cons (by decide) .nil) hbd)), (.agg (e_TSTerm r_6.1)), 3, rfl, rfl, ?_⟩
   refine un <| a2v (v := (.c (.ref 3 4 0 0))) (h' := upd _ 3 (some (.cells 4 [[cI 0, cI 0, .str [], .ro true 4 []]]))) (n' := 4) rfl rfl hcs <| un <| a2n (h' := upd _ 3 (some (.cells 4 [(e_TSTerm r_6.1)]))) (n' := 4) rfl rfl hcs <| dnil <| ssr <| un1 rfl <| un1 rfl ?_
   obtain ⟨r_7, hr6, h⟩ := bnd h
   refine un <| ac_gen (bs := [0]) («as» := [(.c (.ref 0 3 0 0)), (S [41])]) (h2 := _) (h1 := (upd e0 0 (some (.cells 3 [[.ro false 4 (r_6.2.f_l.map e_TSToken), cI r_6.2.f_n, cB r_6.2.f_gapped]])))) (Zn hr6) rfl (.cons (.c (.ref rfl (by decide))) (.cons (avAs_free rfl) .nil)) (hsub_refl _) (.cons rfl (.nil _)) hcs (by decide) (by decide) (.cons (.c (.ref rfl (by decide))) (.cons (avAs_free rfl) .nil)) (.box (by decide) rfl (blkAs_cells (.sm rfl (.sm rfl (.sm rfl .nil)))) .nil) ?_
   rintro _ _ _ hn ⟨rfl, rfl, rfl⟩
   refine ⟨.inl rfl, (upd (rem [0] _) 0 (some (.cells 3 [[.ro false 4 (r_7.2.f_l.map e_TSToken), cI r_7.2.f_n, cB r_7.2.f_gapped]]))), fun hbd => (m3_cons (m3_box rfl rfl) (m3_rem (in_cons (by decide) (in_nil _)) (.cons (by decide) .nil) hbd)), (B r_7.1), 4, rfl, rfl, ?_⟩
   obtain ⟨r_8, hr7, h⟩ := bnd h
   refine un <| ac_lend (h2 := (upd _ 0 none)) (Zf hr7) rfl (.cons (.c (ref_ro rfl (gone rfl) (.sm rfl (.sm rfl (.sm rfl .nil))) rfl)) (.cons (avAs_free rfl) .nil)) (hsub_none (hsub_refl _)) rfl rfl (.inr rfl) <| dnil <| ssr <| un1 (v := (.agg (e_TSTerm r_6.1))) rfl <| un <| a2n (h' := upd _ 1 (some (.cells 4 [(e_TSTerm r_6.1)]))) (n' := 4) rfl rfl hcs <| dnil <| Sv.ret ?_
   replace h := Option.some.inj h
   subst h
   exact ⟨_, .refl _, _, rfl, ⟨upd e0 0 (some (.agg (e_TSTerm r_6.1))), (upd e0 0 (some (.cells 3 [[.ro false 4 (r_7.2.f_l.map e_TSToken), cI r_7.2.f_n, cB r_7.2.f_gapped]]))), 1⟩, (.agg (e_TSTerm r_6.1)), weak_canon2 [0] [0] (by decide) (by decide) (by decide) (.cons (by decide) .nil) (.cf rfl rfl .nil) (.box (by decide) rfl (blkAs_cells (.sm rfl (.sm rfl (.sm rfl .nil)))) .nil), rfl, rfl, rfl, rfl⟩
  ·refine Sv.skip <| ssr <| un1 rfl <| un1 (v := (.c (.ref 2 4 0 0))) rfl <| un1 (v := (I x_.Kind)) rfl <| un1 (v := (B (decide (x_.Kind = 2)))) rfl ?_
   obtain ⟨r_9, hr8, h⟩ := bnd h
   refine un <| ac_lend (h2 := (upd _ 0 none)) (Zf hr8) rfl (.cons (.c (ref_ro rfl (gone rfl) (.sm rfl (.sm rfl (.sm rfl .nil))) rfl)) (.cons (avAs_free rfl) .nil)) (hsub_none (hsub_refl _)) rfl rfl (.inr rfl) <| dnil <| ssr <| un1 (v := (.c (.ref 2 4 0 2))) rfl <| un1 (v := (S x_.Value)) rfl ?_
   obtain ⟨r_10, hr9, h⟩ := bnd h
   refine un <| ac_pure (Za6 hr9) rfl rfl rfl <| un1 rfl <| dnil <| Sv.seq <| ssr <| un1 rfl <| un1 (v := (B (decide (r_10 = [99, 97, 108, 99])))) rfl <| dnil ?_
   refine Sv.cnd rfl h (fun h => ?_) fun h => ?_
   ·refine ssr <| un1 rfl ?_
    obtain ⟨r_11, hr10, h⟩ := bnd h
    refine un <| ac_gen (bs := [0]) («as» := [(.c (.ref 0 3 0 0))]) (h2 := _) (h1 := (upd e0 0 (some (.cells 3 [[.ro false 4 (r_2.map e_TSToken), cI r_.f_n, cB r_.f_gapped]])))) (Z3v hrec hr10) rfl (.cons (.c (.ref rfl (by decide))) .nil) (hsub_refl _) (.cons rfl (.nil _)) hcs (by decide) (by decide) (.cons (.c (.ref rfl (by decide))) .nil) (.box (by decide) rfl (blkAs_cells (.sm rfl (.sm rfl (.sm rfl .nil)))) .nil) ?_
    rintro _ _ _ hn ⟨rfl, rfl, rfl⟩
    refine ⟨.inl rfl, (upd (rem [0] _) 0 (some (.cells 3 [[.ro false 4 (r_11.2.f_l.map e_TSToken), cI r_11.2.f_n, cB r_11.2.f_gapped]]))), fun hbd => (m3_cons (m3_box rfl rfl) (m3_rem (in_cons (by decide) (in_nil _)) (.cons (by decide) .nil) hbd)), (.agg (e_TSTerm r_11.1)), 3, rfl, rfl, ?_⟩
    refine un <| a2v (v := (.c (.ref 3 4 0 0))) (h' := upd _ 3 (some (.cells 4 [[cI 0, cI 0, .str [], .ro true 4 []]]))) (n' := 4) rfl rfl hcs <| un <| a2n (h' := upd _ 3 (some (.cells 4 [(e_TSTerm r_11.1)]))) (n' := 4) rfl rfl hcs <| dnil <| ssr <| un1 rfl <| un1 rfl ?_
    obtain ⟨r_12, hr11, h⟩ := bnd h
    refine un <| ac_gen (bs := [0]) («as» := [(.c (.ref 0 3 0 0)), (S [41])]) (h2 := _) (h1 := (upd e0 0 (some (.cells 3 [[.ro false 4 (r_11.2.f_l.map e_TSToken), cI r_11.2.f_n, cB r_11.2.f_gapped]])))) (Zn hr11) rfl (.cons (.c (.ref rfl (by decide))) (.cons (avAs_free rfl) .nil)) (hsub_refl _) (.cons rfl (.nil _)) hcs (by decide) (by decide) (.cons (.c (.ref rfl (by decide))) (.cons (avAs_free rfl) .nil)) (.box (by decide) rfl (blkAs_cells (.sm rfl (.sm rfl (.sm rfl .nil)))) .nil) ?_
    rintro _ _ _ hn ⟨rfl, rfl, rfl⟩
    refine ⟨.inl rfl, (upd (rem [0] _) 0 (some (.cells 3 [[.ro false 4 (r_12.2.f_l.map e_TSToken), cI r_12.2.f_n, cB r_12.2.f_gapped]]))), fun hbd => (m3_cons (m3_box rfl rfl) (m3_rem (in_cons (by decide) (in_nil _)) (.cons (by decide) .nil) hbd)), (B r_12.1), 4, rfl, rfl, ?_⟩
    obtain ⟨r_13, hr12, h⟩ := bnd h
    refine un <| ac_lend (h2 := (upd _ 0 none)) (Zf hr12) rfl (.cons (.c (ref_ro rfl (gone rfl) (.sm rfl (.sm rfl (.sm rfl .nil))) rfl)) (.cons (avAs_free rfl) .nil)) (hsub_none (hsub_refl _)) rfl rfl (.inr rfl) <| dnil <| ssr <| un1 (v := (.agg (e_TSTerm r_11.1))) rfl <| un <| a2n (h' := upd _ 1 (some (.cells 4 [(e_TSTerm r_11.1)]))) (n' := 4) rfl rfl hcs <| dnil <| Sv.ret ?_
    replace h := Option.some.inj h
    subst h
    exact ⟨_, .refl _, _, rfl, ⟨upd e0 0 (some (.agg (e_TSTerm r_11.1))), (upd e0 0 (some (.cells 3 [[.ro false 4 (r_12.2.f_l.map e_TSToken), cI r_12.2.f_n, cB r_12.2.f_gapped]]))), 1⟩, (.agg (e_TSTerm r_11.1)), weak_canon2 [0] [0] (by decide) (by decide) (by decide) (.cons (by decide) .nil) (.cf rfl rfl .nil) (.box (by decide) rfl (blkAs_cells (.sm rfl (.sm rfl (.sm rfl .nil)))) .nil), rfl, rfl, rfl, rfl⟩
   ·refine Sv.skip <| ssr <| un <| a2v (v := (lstV false 3 1 Z40.length)) (h' := upd _ 3 (lstB false 1 (Z40.map eStr))) (n' := 4) rfl rfl hcs <| un1 rfl ?_
    obtain ⟨r_14, hr13, h⟩ := bnd h
    refine un <| ac_lend (h2 := (upd _ 3 none)) (Z6x hr13) rfl (.cons (.c (lstC_ro (es := List.map eStr Z40) rfl (List.length_map eStr).symm (map_nil_of hcs) (gone rfl) (fr_map fun _ => rfl))) (.cons (avAs_free rfl) .nil)) (hsub_none (hsub_refl _)) rfl rfl (.inr rfl) <| un1 rfl <| dnil <| ssr <| un1 rfl <| un1 rfl <| un1 (v := (B (decide (0 < r_14)))) rfl ?_
    obtain ⟨r_15, hr14, h⟩ := bnd h
    refine un <| ac_lend (h2 := (upd _ 0 none)) (Zf hr14) rfl (.cons (.c (ref_ro rfl (gone rfl) (.sm rfl (.sm rfl (.sm rfl .nil))) rfl)) (.cons (avAs_free rfl) .nil)) (hsub_none (hsub_refl _)) rfl rfl (.inr rfl) <| dnil <| ssr <| un1 rfl <| un1 (v := (.agg [cI r_14, cI 0, .str [], .ro true 4 []])) rfl <| un <| a2v (v := (.c (.ref 4 4 0 0))) (h' := upd _ 4 (some (.cells 4 [[cI 0, cI 0, .str [], .ro true 4 []]]))) (n' := 5) rfl rfl hcs <| un <| a2n (h' := upd _ 4 (some (.cells 4 [[cI r_14, cI 0, .str [], .ro true 4 []]]))) (n' := 5) rfl rfl hcs <| dnil <| Sv.block ?_
    obtain ⟨kk, h⟩ := limF_some h
    refine Sv.weak (weak_canon [0, 1, 4, 1000] rfl (by decide) (by decide) (by decide) (.cr rfl rfl rfl (.cr rfl rfl rfl (.cr rfl rfl rfl .nil))) (.non (by decide) (.box (by decide) rfl (blkAs_cells (.sm rfl (.sm rfl (.sm rfl (.sm rfl .nil))))) (.box (by decide) rfl (blkAs_cells (.sm rfl (.sm rfl (.sm rfl (.sm rfl .nil))))) (.box (by decide) rfl (blkAs_cells (.sm rfl (.sm rfl (.sm rfl .nil)))) .nil))))) (Za9 (fun _ => rfl) h  (fun s hs => hs) hrec)
theorem Zab {mL : Int} {r_ : Treader} {in_ : Bool} {r : (TSTerm × Treader)} (h : Z5h r_ in_ = some r) : ACalls Tryz.prog (GG mL) 18 [(.c (.ref 0 3 0 0)), (B in_)] (upd e0 0 (some (.cells 3 [[.ro false 4 (r_.f_l.map e_TSToken), cI r_.f_n, cB r_.f_gapped]]))) 1 (Z3k r) := by
 unfold Z5h at h
 obtain ⟨k, h⟩ := limF_some h
 exact Zaa k r_ in_  r h
def a8 : AFunc := ⟨1, [(.cell true 4 2), (.cell false 1 3)], (sr [(oP 2 (.box (.const (.agg [(.val (.int .i64 0)), (.val (.int .i64 0)), (.str []), (.ro true 4 [])])))), (oP 3 (.box (kI 0)))]
 (.seq (sr [(mV 5 0), (oP 6 (.lenS (.tmp 5))), (oP 7 (.bin .gtr (.tmp 6) (kI 400)))]
 (.cond (.tmp 7) (sr [(oP 8 (.build [(.val (.int .i64 0)), (.val (.int .i64 0)), (.str []), (.ro true 4 [])] [])), (oN (.store 4 (.tmp 2) (.tmp 8))), (oN (.store 1 (.tmp 3) (kI 2)))]
 .ret) .skip))
 (sr [(oP 9 (.mkfn (.func 15) [] [(.tmp 2), (.tmp 3)])), ⟨none, .bad, none⟩]
 (sr [(mV 10 0), (oP 11 (.call 16 [(.tmp 10)])), (oP 12 (.build [(.ro true 4 []), (.val (.int .i64 0)), (.val (.bool false))] [(0, (1, (.tmp 11)))])), (oP 13 (.box (.tmp 12))), (mV 4 13)]
 (sr [(mV 14 4), (oP 15 (.call 17 [(.tmp 14)]))]
 (sr [(mV 16 4), (oP 17 (.call 18 [(.tmp 16), kF])), (oN (.store 4 (.tmp 2) (.tmp 17)))]
 (sr [(mV 18 4), (oP 19 (.call 17 [(.tmp 18)]))]
 (sr [(mV 20 4), (mV 21 4), (oP 22 (.nilc (.tmp 21))), (oP 23 (.faddr 0 (.tmp 22))), (oP 24 (.load false 1 (.tmp 23))), (oP 25 (.len (.tmp 24))), (oP 26 (.bin .eql (.tmp 25) (kI 0))), (oP 27 (.call 19 [(.tmp 20), (.tmp 26)]))]
 (sr [(oP 28 (.load true 4 (.tmp 2))), (oN (.store 4 (.tmp 2) (.tmp 28))), (oN (.store 1 (.tmp 3) (kI 0)))]
 .ret)))))))))⟩
theorem c8 : compFunc Tryz.prog 8 = some a8 := by kernel_rfl
theorem Zac (x0 x1 : Value) : Idle Tryz.prog { target := .fn (.func 15) #[x0, x1], args := #[] } := by
 intro w
 refine ⟨.func 15, #[x0, x1], 15, #[x0, x1], rfl, ?_, ?_⟩
 ·simp [invoke, go_sem]
 ·refine callsD_of_wpS Tryz.func15 rfl fun c₀ cs hu => ?_
  apply wpS_seq
  apply wpS_region
  simp [wpOpsS, go_sem, recoverD, hu, Tryz.ntmps15, Exit.thenS, Array.replicate]
  apply wpS_seq
  apply wpS_region
  simp [wpOpsS, go_sem, Exit.thenS]
  refine wpS_cond (t := false) (by simp [Act.eval]) ?_
  simp only [Bool.false_eq_true, if_false]
  refine wpS_of_wp <| wp_skip ?_
  cases c₀
  simp_all [bodyPostS, results, Tryz.results15]
theorem Zad : ∀ fn c0 c1 c2 c3, Tryz.prog.funcs[8]? = some fn → fn.body = some (.seq c0 (.seq c1 (.seq c2 c3))) → ∃ id ops, c2 = .region id ops false ∧ Puts Tryz.prog ops 9 fn.ntmps := by
 intro fn c0 c1 c2 c3 hf hb
 rw [Tryz.func8] at hf
 cases hf
 simp only [Tryz.f8, Option.some.injEq, Code.seq.injEq] at hb
 replace hb := hb.2.2.1
 refine ⟨_, _, hb.symm, ?_⟩
 intro a w hs hd
 rw [Tryz.ntmps8] at hs
 have hmf : ∀ (fn : Fn) (first cap : Array Value) (w : World), (Instr.makeFunc fn first cap).run Tryz.prog w = .ok (.func fn first cap) w := fun _ _ _ _ => rfl
 refine ⟨_, .func (.func 15) #[] #[a.eval (.tmp 2), a.eval (.tmp 3)], Zac (a.eval (.tmp 2)) (a.eval (.tmp 3)), fun Q hq => ?_⟩
 have h9 : 9 < a.tmps.size := by omega
 simp [wpOps, go_sem, hd, h9, hmf]
 exact .inl (.inl (by simpa [Act.put, Act.eval] using hq))
def Zae (r : (TSTerm × Int)) : AV → Heap → Nat → Prop := fun v h' n' => v = (.tup [(.agg (e_TSTerm r.1)), (I r.2)]) ∧ (h' = e0) ∧ n' = 0
/-- clerestory/calc.Read -/
noncomputable def Z5i (s_ : Tx) : Option (TSTerm × Int) :=
 if decide (400 < (s_.length : Int)) then
  some ((⟨0, (⟨0, []⟩ : TSDim), []⟩ : TSTerm), 2)
 else
  (Z3h s_).bind fun r_ =>
  (Z11 (⟨r_, 0, false⟩ : Treader)).bind fun r_1 =>
  (Z5h r_1.2 false).bind fun r_2 =>
  (Z11 r_2.2).bind fun r_3 =>
  (Ze r_3.2 (decide ((r_3.2.f_l.length : Int) = 0))).bind fun r_4 =>
  some (r_2.1, 0)
theorem Zaf {mL : Int} {s_ : Tx} {r : (TSTerm × Int)} (h : Z5i s_ = some r) : CPure Tryz.prog (GG mL) 8 [(S s_)] (.tup [(.agg (e_TSTerm r.1)), (I r.2)]) := by
 refine acalls_of_dfr hmix c8 (R := Zae r) (t := 9) rfl Zad ?_
 unfold Z5i at h
 refine srg <| un <| a2v (v := (.c (.ref 0 4 0 0))) (h' := upd _ 0 (some (.cells 4 [[cI 0, cI 0, .str [], .ro true 4 []]]))) (n' := 1) rfl rfl hcs <| un <| a2v (v := (.c (.ref 1 1 0 0))) (h' := upd _ 1 (some (.cells 1 [[cI 0]]))) (n' := 2) rfl rfl hcs <| dnil <| ssr <| un1 rfl <| un1 (v := (I (s_.length : Int))) rfl <| un1 (v := (B (decide (400 < (s_.length : Int))))) rfl <| dnil ?_
 refine Sv.cnd rfl h (fun h => ?_) fun h => ?_
 ·refine ssr <| un1 (v := (.agg [cI 0, cI 0, .str [], .ro true 4 []])) rfl <| un <| a2n (h' := upd _ 0 (some (.cells 4 [[cI 0, cI 0, .str [], .ro true 4 []]]))) (n' := 2) rfl rfl hcs <| un <| a2n (h' := upd _ 1 (some (.cells 1 [[cI 2]]))) (n' := 2) rfl rfl hcs <| dnil <| Sv.ret ?_
  replace h := Option.some.inj h
  subst h
  exact ⟨_, .refl _, _, rfl, ⟨upd e0 0 (some (.tup [(.agg [cI 0, cI 0, .str [], .ro false 4 (([] : List Raw).map eRaw)]), (I 2)])), e0, 0⟩, (.tup [(.agg [cI 0, cI 0, .str [], .ro false 4 (([] : List Raw).map eRaw)]), (I 2)]), weak_canon [] rfl ndl nll nlz (.cons rfl (avAs_tup (.cons (avAs_agg (.sm rfl (.sm rfl (.sm rfl (.cons .nil .nil))))) (.cons (avAs_free rfl) .nil))) .nil) .nil, rfl, rfl, rfl, rfl⟩
 ·refine Sv.skip <| And.intro rfl <| ssr <| un1 rfl ?_
  obtain ⟨r_, hr1, h⟩ := bnd h
  refine un <| ac_gen (bs := []) («as» := [(S s_)]) (h2 := _) (h1 := e0) (Z6r hr1) rfl (.cons (avAs_free rfl) .nil) (hsub_refl _) (.nil _) (fun _ => rfl) (by decide) (by decide) (.cons (avAs_free rfl) .nil) .nil ?_
  rintro _ _ _ hn ⟨z_, hz_, rfl, rfl, rfl⟩
  refine ⟨.inl rfl, (upd (rem [] _) 2 (lstB z_ 4 (r_.map e_TSToken))), fun hbd => (m3_cons (m3_row rfl (fr_map fun _ => rfl)) (m3_rem (in_nil _) (.cons (by decide) .nil) hbd)), (lstV z_ 2 4 r_.length), 3, (by cases z_ <;> rfl), rfl, ?_⟩
  refine un1 (v := (.agg [lstC z_ 2 4 r_.length, cI 0, cB false])) rfl <| dweak (show Weak 0 _ ⟨(ue [(12, (.agg [.ro false 4 (r_.map e_TSToken), cI 0, cB false])), (11, (.c (.ro false 4 (r_.map e_TSToken)))), (10, (S s_)), (7, (B (decide (400 < (s_.length : Int))))), (6, (I (s_.length : Int))), (5, (S s_)), (3, (.c (.ref 1 1 0 0))), (2, (.c (.ref 0 4 0 0))), (0, (S s_))]), (upd (upd e0 0 (some (.cells 4 [[cI 0, cI 0, .str [], .ro true 4 []]]))) 1 (some (.cells 1 [[cI 0]]))), 3⟩ from (wcn [0, 1, 1002] rfl (.cons rfl (avAs_agg (.cons (lstC_ro (es := List.map e_TSToken r_) rfl (List.length_map e_TSToken).symm (map_nil_of hz_) (fun b x hx => not_in (bs := [0, 1, 1002]) rfl b (((.cons (by decide) (.cons (by decide) .nil)) : HLt _ _) b x hx)) (fr_map fun _ => rfl)) (.sm rfl (.sm rfl .nil)))) (.cons rfl (.c (lstC_ro (es := List.map e_TSToken r_) rfl (List.length_map e_TSToken).symm (map_nil_of hz_) (fun b x hx => not_in (bs := [0, 1, 1002]) rfl b (((.cons (by decide) (.cons (by decide) .nil)) : HLt _ _) b x hx)) (fr_map fun _ => rfl))) (.cf rfl rfl (.cf rfl rfl (.cf rfl rfl (.cf rfl rfl (.cr rfl rfl rfl (.cr rfl rfl rfl (.cf rfl rfl .nil))))))))) (.box (by decide) rfl (blkAs_cells (.sm rfl .nil)) (.box (by decide) rfl (blkAs_cells (.sm rfl (.sm rfl (.sm rfl (.sm rfl .nil))))) .nil)))) <| un <| a2v (v := (.c (.ref 3 3 0 0))) (h' := upd _ 3 (some (.cells 3 [[.ro false 4 (r_.map e_TSToken), cI 0, cB false]]))) (n' := 4) rfl rfl hcs <| un1 rfl <| dnil <| ssr <| un1 rfl ?_
  obtain ⟨r_1, hr2, h⟩ := bnd h
  refine un <| ac_gen (bs := [3]) («as» := [(.c (.ref 3 3 0 0))]) (h2 := _) (h1 := (upd e0 3 (some (.cells 3 [[.ro false 4 (r_.map e_TSToken), cI 0, cB false]])))) (Z1n hr2) rfl (.cons (.c (.ref rfl (by decide))) .nil) (hsub_refl _) (.cons rfl (.nil _)) hcs (by decide) (by decide) (.cons (.c (.ref rfl (by decide))) .nil) (.box (by decide) rfl (blkAs_cells (.sm rfl (.sm rfl (.sm rfl .nil)))) .nil) ?_
  rintro _ _ _ hn ⟨rfl, rfl, rfl⟩
  refine ⟨.inl rfl, (upd (rem [3] _) 3 (some (.cells 3 [[.ro false 4 (r_1.2.f_l.map e_TSToken), cI r_1.2.f_n, cB r_1.2.f_gapped]]))), fun hbd => (m3_cons (m3_box rfl rfl) (m3_rem (in_cons (by decide) (in_nil _)) (.cons (by decide) .nil) hbd)), (B r_1.1), 4, rfl, rfl, ?_⟩
  refine dnil <| ssr <| un1 rfl ?_
  obtain ⟨r_2, hr3, h⟩ := bnd h
  refine un <| ac_gen (bs := [3]) («as» := [(.c (.ref 3 3 0 0)), (B false)]) (h2 := _) (h1 := (upd e0 3 (some (.cells 3 [[.ro false 4 (r_1.2.f_l.map e_TSToken), cI r_1.2.f_n, cB r_1.2.f_gapped]])))) (Zab hr3) rfl (.cons (.c (.ref rfl (by decide))) (.cons (avAs_free rfl) .nil)) (hsub_refl _) (.cons rfl (.nil _)) hcs (by decide) (by decide) (.cons (.c (.ref rfl (by decide))) (.cons (avAs_free rfl) .nil)) (.box (by decide) rfl (blkAs_cells (.sm rfl (.sm rfl (.sm rfl .nil)))) .nil) ?_
  rintro _ _ _ hn ⟨rfl, rfl, rfl⟩
  refine ⟨.inl rfl, (upd (rem [3] _) 3 (some (.cells 3 [[.ro false 4 (r_2.2.f_l.map e_TSToken), cI r_2.2.f_n, cB r_2.2.f_gapped]]))), fun hbd => (m3_cons (m3_box rfl rfl) (m3_rem (in_cons (by decide) (in_nil _)) (.cons (by decide) .nil) hbd)), (.agg (e_TSTerm r_2.1)), 4, rfl, rfl, ?_⟩
  refine un <| a2n (h' := upd _ 0 (some (.cells 4 [(e_TSTerm r_2.1)]))) (n' := 4) rfl rfl hcs <| dnil <| ssr <| un1 rfl ?_
  obtain ⟨r_3, hr4, h⟩ := bnd h
  refine un <| ac_gen (bs := [3]) («as» := [(.c (.ref 3 3 0 0))]) (h2 := _) (h1 := (upd e0 3 (some (.cells 3 [[.ro false 4 (r_2.2.f_l.map e_TSToken), cI r_2.2.f_n, cB r_2.2.f_gapped]])))) (Z1n hr4) rfl (.cons (.c (.ref rfl (by decide))) .nil) (hsub_refl _) (.cons rfl (.nil _)) hcs (by decide) (by decide) (.cons (.c (.ref rfl (by decide))) .nil) (.box (by decide) rfl (blkAs_cells (.sm rfl (.sm rfl (.sm rfl .nil)))) .nil) ?_
  rintro _ _ _ hn ⟨rfl, rfl, rfl⟩
  refine ⟨.inl rfl, (upd (rem [3] _) 3 (some (.cells 3 [[.ro false 4 (r_3.2.f_l.map e_TSToken), cI r_3.2.f_n, cB r_3.2.f_gapped]]))), fun hbd => (m3_cons (m3_box rfl rfl) (m3_rem (in_cons (by decide) (in_nil _)) (.cons (by decide) .nil) hbd)), (B r_3.1), 4, rfl, rfl, ?_⟩
  refine dnil <| ssr <| un1 rfl <| un1 rfl <| un1 (v := (.c (.ref 3 3 0 0))) rfl <| un1 (v := (.c (.ref 3 3 0 0))) rfl <| un1 (v := (.c (.ro false 4 (r_3.2.f_l.map e_TSToken)))) rfl <| un1 (v := (I (r_3.2.f_l.length : Int))) (s_len (e := e_TSToken) (xs := r_3.2.f_l) rfl) <| un1 (v := (B (decide ((r_3.2.f_l.length : Int) = 0)))) rfl ?_
  obtain ⟨r_4, hr5, h⟩ := bnd h
  refine un <| ac_lend (h2 := (upd _ 3 none)) (Zf hr5) rfl (.cons (.c (ref_ro rfl (gone rfl) (.sm rfl (.sm rfl (.sm rfl .nil))) rfl)) (.cons (avAs_free rfl) .nil)) (hsub_none (hsub_refl _)) rfl rfl (.inr rfl) <| dnil <| ssr <| un1 (v := (.agg (e_TSTerm r_2.1))) rfl <| un <| a2n (h' := upd _ 0 (some (.cells 4 [(e_TSTerm r_2.1)]))) (n' := 4) rfl rfl hcs <| un <| a2n (h' := upd _ 1 (some (.cells 1 [[cI 0]]))) (n' := 4) rfl rfl hcs <| dnil <| Sv.ret ?_
  exact rt0 h rfl rfl ⟨rfl, rfl, rfl⟩
noncomputable abbrev Z5j (i_ : Int) : Option Tx := itoa? i_
/-- strconv.Itoa, by the contract of the shelf -/
theorem Z7g {mL : Int} {i_ : Int} {r : Tx} (h : Z5j i_ = some r) : CPure Tryz.prog (GG mL) 40 [(I i_)] (S r) := itoa_ok (g := 2) Tryz.laysM171 (by kernel_rfl) (by kernel_rfl) h
noncomputable abbrev Z7h (s_ : Tx) (cutset_ : Tx) : Option Tx := trimRight? s_ cutset_
/-- strings.TrimRight, by the contract of the shelf -/
theorem Zag {mL : Int} {s_ : Tx} {cutset_ : Tx} {r : Tx} (h : Z7h s_ cutset_ = some r) : CPure Tryz.prog (GG mL) 41 [(S s_), (S cutset_)] (S r) := trimRight_ok Tryz.lays162 (by kernel_rfl) h
end Go.Proofs.YtcnfmehidmjejaaGreatDoorBv
