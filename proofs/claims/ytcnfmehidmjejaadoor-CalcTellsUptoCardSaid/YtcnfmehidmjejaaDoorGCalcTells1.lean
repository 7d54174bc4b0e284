/- Printed by a program of mine (bgen.py): plain functions, and the walks that show that the code comes to what they answer. -/
import Derived.Test.YtcnfmehidmjejaaDoorGCalcTells0
namespace Go.Proofs.YtcnfmehidmjejaaDoorBv
open Go
set_option linter.unusedVariables false
set_option linter.unusedSimpArgs false
set_option maxRecDepth 100000
def a20 : AFunc := ⟨2, [], (.seq (.region [⟨(some 4), (.mov (.tmp 1)), none⟩, ⟨(some 5), (.un .not (.tmp 4)), none⟩])
 (.cond (.tmp 5) (.region [⟨(some 6), (.build [(.val (.int .i64 0))] [(0, (1, (.const (.c (.val (.int .i64 4))))))]), none⟩, ⟨(some 7), .mkif, none⟩, ⟨none, .bad, none⟩]) .skip))⟩
set_option maxRecDepth 100000 in
theorem c20 : compFunc Tryd.prog 20 = some a20 := by kernel_rfl
def clerestory_calc_reader_need_post (r : Unit) : AV → Heap → Nat → Prop := fun v h' n' => v = (.tup []) ∧ (h' = (fun _ => none)) ∧ n' = 0
/-- (*clerestory/calc.reader).need -/
noncomputable def clerestory_calc_reader_need (r_ : Treader) (is_ : Bool) : Option Unit :=
  if (!is_) then
    none
  else
    some ()
theorem clerestory_calc_reader_need_ok {mL : Int} {r_ : Treader} {is_ : Bool} {r : Unit} (h : clerestory_calc_reader_need r_ is_ = some r) : CPure Tryd.prog (GG mL) 20 [(.c (.rop [.ro false 4 (r_.f_l.map e_TSToken), cI r_.f_n, cB r_.f_gapped])), (B is_)] (.tup []) := by
  refine acalls_of_sv hmix c20 (R := clerestory_calc_reader_need_post r) ?_
  unfold clerestory_calc_reader_need at h
  refine Sv.seq ?_
  refine Sv.region ?_
  refine un (a1 rfl ?_)
  refine un (a1 (v := (B (!is_))) rfl ?_)
  refine dnil ?_
  refine Sv.cond (b := (!is_)) rfl (fun hc1 => ?_) (fun hc1 => ?_)
  · replace h := ifT hc1 h
    refine Sv.region ?_
    refine un (a1 (v := (.agg [cI 4])) rfl ?_)
    refine un (a1 (v := (.c (.opq))) rfl ?_)
    cases h
  · replace h := ifF hc1 h
    refine Sv.skip ?_
    replace h := Option.some.inj h
    subst h
    exact ⟨_, .refl _, _, rfl, ⟨upd (fun _ => none) 0 (some (.tup [])), (fun _ => none), 0⟩, (.tup []), weak_canon [] rfl List.nodup_nil (Nat.le_refl _) (fun b h => absurd h (Nat.not_lt_zero _)) (.cons rfl (avAs_tup .nil) .nil) .nil, rfl, rfl, rfl, rfl⟩
def a33_c0 : ACode := (.seq (.region [⟨(some 9), (.bin .lss (.tmp 8) (.tmp 7)), none⟩])
 (.seq (.cond (.tmp 9) .skip (.exit 0))
 (.seq (.block 1 (.seq (.region [⟨(some 10), (.mov (.tmp 8)), none⟩, ⟨(some 5), (.mov (.tmp 10)), none⟩])
 (.seq (.region [⟨(some 11), (.mov (.tmp 1)), none⟩, ⟨(some 12), (.mov (.tmp 0)), none⟩, ⟨(some 13), (.mov (.tmp 5)), none⟩, ⟨(some 14), (.iaddr 1 (.tmp 12) (.tmp 13)), none⟩, ⟨(some 15), (.load false 1 (.tmp 14)), none⟩, ⟨(some 16), (.bin .eql (.tmp 11) (.tmp 15)), none⟩])
 (.cond (.tmp 16) (.seq (.region [⟨(some 17), (.mov (.tmp 5)), none⟩, ⟨(some 4), (.mov (.tmp 17)), none⟩])
 .ret) .skip))))
 (.region [⟨(some 18), (.bin .add (.tmp 8) (.const (.c (.val (.int .i64 1))))), none⟩, ⟨(some 8), (.mov (.tmp 18)), none⟩]))))
def a33 : AFunc := ⟨2, [(.tmp 4)], (.seq (.region [⟨(some 4), (.mov (.const (.c (.val (.int .i64 0))))), none⟩])
 (.seq (.seq (.region [⟨(some 6), (.mov (.tmp 0)), none⟩, ⟨(some 7), (.len (.tmp 6)), none⟩, ⟨(some 8), (.mov (.const (.c (.val (.int .i64 0))))), none⟩])
 (.block 0 (.loop a33_c0)))
 (.seq (.region [⟨(some 4), (.mov (.const (.c (.val (.int .i64 (-1)))))), none⟩])
 .ret)))⟩
set_option maxRecDepth 100000 in
theorem c33 : compFunc Tryd.prog 33 = some a33 := by kernel_rfl
def slices_Index_string_post (r : Int) : AV → Heap → Nat → Prop := fun v h' n' => v = (I r) ∧ (h' = (fun _ => none)) ∧ n' = 0
abbrev slices_Index_string_l0_E0 (F_ : Unit → Option Int) (o : Int) (R_ : St → Prop) : Prop := ∀ (_ : Unit), F_ () = some o → ∀ s, Weak 0 s ⟨(fun _ => none), (fun _ => none), 0⟩ → R_ s
abbrev slices_Index_string_l0_I (s_ : (List (List UInt8))) (v_ : (List UInt8)) (F_ : Nat → Int → Option Int) (o : Int) : Nat → St → Prop := fun k s => ∃ (v8 : Int), F_ k v8 = some o ∧ s = ⟨(upd (upd (upd (upd (fun _ => none) 0 (some (.c (.ro false 1 (s_.map eStr))))) 1 (some (S v_))) 7 (some (I (s_.length : Int)))) 8 (some (I v8))), (fun _ => none), 0⟩
abbrev slices_Index_string_l0_H (s_ : (List (List UInt8))) (v_ : (List UInt8)) (F_ : Int → Option Int) (o : Int) (R_ : St → Prop) : Prop := ∀ (v8 : Int), F_ v8 = some o → ∀ s, Weak 0 s ⟨(upd (upd (upd (upd (fun _ => none) 0 (some (.c (.ro false 1 (s_.map eStr))))) 1 (some (S v_))) 7 (some (I (s_.length : Int)))) 8 (some (I v8))), (fun _ => none), 0⟩ → R_ s
noncomputable def slices_Index_string_l0 (s_ : (List (List UInt8))) (v_ : (List UInt8)) (K0_ : Unit → Option Int) : Nat → Int → Option Int
  | 0, _ => none
  | k + 1, v8 =>
    if decide (v8 < (s_.length : Int)) then
      (at? s_ v8).bind fun x_ =>
      if decide (v_ = x_) then
        some v8
      else
        (slices_Index_string_l0 s_ v_ K0_ k) (wi (v8 + 1))
    else
      K0_ ()
theorem slices_Index_string_l0_ok {mL : Int} {Q : AExit → St → Prop} {s_ : (List (List UInt8))} {v_ : (List UInt8)} {K0_ : Unit → Option Int} {k : Nat} {v8 : Int} {o : Int} (h : slices_Index_string_l0 s_ v_ K0_ k v8 = some o)
    (hK0 : slices_Index_string_l0_E0 K0_ o (Q (.exit 0)))
    (hr : ∀ s, Ends a33.results 0 (slices_Index_string_post o) .ret s → Q .ret s) :
    Sv Tryd.prog (GG mL) 0 (.loop a33_c0) Q ⟨(upd (upd (upd (upd (fun _ => none) 0 (some (.c (.ro false 1 (s_.map eStr))))) 1 (some (S v_))) 7 (some (I (s_.length : Int)))) 8 (some (I v8))), (fun _ => none), 0⟩ := by
  refine Sv.loop (I := slices_Index_string_l0_I s_ v_ (slices_Index_string_l0 s_ v_ K0_) o) (fun k s hI => ?_) ⟨v8, h, rfl⟩
  clear h
  clear v8
  obtain ⟨v8, h, rfl⟩ := hI
  cases k with
  | zero => cases h
  | succ k =>
  rw [slices_Index_string_l0] at h
  have hself : slices_Index_string_l0_H s_ v_ (slices_Index_string_l0 s_ v_ K0_ k) o (rnd 0 (slices_Index_string_l0_I s_ v_ (slices_Index_string_l0 s_ v_ K0_) o) k Q) := fun v8 h s hw => ⟨_, k, hw, Nat.lt_succ_self k, v8, h, rfl⟩
  refine Sv.seq ?_
  refine Sv.region ?_
  refine un (a1 (v := (B (decide (v8 < (s_.length : Int))))) rfl ?_)
  refine dnil ?_
  refine Sv.seq ?_
  refine Sv.cond (b := decide (v8 < (s_.length : Int))) rfl (fun hc1 => ?_) (fun hc1 => ?_)
  · replace h := ifT hc1 h
    refine Sv.skip ?_
    refine Sv.seq ?_
    refine Sv.block ?_
    refine Sv.seq ?_
    refine Sv.region ?_
    refine un (a1 rfl ?_)
    refine un (a1 rfl ?_)
    refine dnil ?_
    refine Sv.seq ?_
    refine Sv.region ?_
    refine un (a1 rfl ?_)
    refine un (a1 rfl ?_)
    refine un (a1 rfl ?_)
    obtain ⟨x_, hx1, h⟩ := bnd h
    refine un (a1 (v := (.c (.rop [.str x_]))) (s_iaddr (e := eStr) (xs := s_) rfl rfl hx1) ?_)
    refine un (a1 (v := (S x_)) rfl ?_)
    refine un (a1 (v := (B (decide (v_ = x_)))) rfl ?_)
    refine dnil ?_
    refine Sv.cond (b := decide (v_ = x_)) rfl (fun hc2 => ?_) (fun hc2 => ?_)
    · replace h := ifT hc2 h
      refine Sv.seq ?_
      refine Sv.region ?_
      refine un (a1 rfl ?_)
      refine un (a1 rfl ?_)
      refine dnil ?_
      refine Sv.ret ?_
      replace h := Option.some.inj h
      subst h
      exact hr _ ⟨_, .refl _, _, rfl, ⟨upd (fun _ => none) 0 (some (I v8)), (fun _ => none), 0⟩, (I v8), weak_canon [] rfl List.nodup_nil (Nat.le_refl _) (fun b h => absurd h (Nat.not_lt_zero _)) (.cons rfl (avAs_free rfl) .nil) .nil, rfl, rfl, rfl, rfl⟩
    · replace h := ifF hc2 h
      refine Sv.skip ?_
      refine Sv.region ?_
      refine un (a1 (v := (I (wi (v8 + 1)))) rfl ?_)
      refine un (a1 rfl ?_)
      refine dnil ?_
      exact hself (wi (v8 + 1)) h _ (weak_canon [] rfl (by decide) (by decide) (fun b h => absurd h (Nat.not_lt_zero _)) (.cons rfl (avAs_free rfl) (.cons rfl (avAs_free rfl) (.cons rfl (avAs_free rfl) (.cons rfl (avAs_free rfl) .nil)))) .nil)
  · replace h := ifF hc1 h
    refine Sv.exit ?_
    exact hK0 () h _ (weak_canon [] rfl (by decide) (by decide) (fun b h => absurd h (Nat.not_lt_zero _)) .nil .nil)
/-- slices.Index(()string,string) -/
noncomputable def slices_Index_string (s_ : (List (List UInt8))) (v_ : (List UInt8)) : Option Int :=
  limF fun kk => slices_Index_string_l0 s_ v_ (fun (_ : Unit) => 
      some (-1)) kk 0
theorem slices_Index_string_ok {mL : Int} {s_ : (List (List UInt8))} {v_ : (List UInt8)} {r : Int} (h : slices_Index_string s_ v_ = some r) : CPure Tryd.prog (GG mL) 33 [(.c (.ro false 1 (s_.map eStr))), (S v_)] (I r) := by
  refine acalls_of_sv hmix c33 (R := slices_Index_string_post r) ?_
  unfold slices_Index_string at h
  refine Sv.seq ?_
  refine Sv.region ?_
  refine un (a1 rfl ?_)
  refine dnil ?_
  refine Sv.seq ?_
  refine Sv.seq ?_
  refine Sv.region ?_
  refine un (a1 rfl ?_)
  refine un (a1 (v := (I (s_.length : Int))) (s_len (e := eStr) (xs := s_) rfl) ?_)
  refine un (a1 rfl ?_)
  refine dnil ?_
  refine Sv.block ?_
  obtain ⟨kk, h⟩ := limF_some h
  refine Sv.weak (weak_canon [] rfl (by decide) (by decide) (fun b h => absurd h (Nat.not_lt_zero _)) (.cons rfl (avAs_free rfl) (.cons rfl (avAs_free rfl) (.cons rfl (avAs_free rfl) (.cons rfl (avAs_free rfl) .nil)))) .nil) (slices_Index_string_l0_ok h ?_ (fun s hs => hs))
  · intro _ h _ hw1
    refine Sv.weak hw1 ?_
    refine Sv.seq ?_
    refine Sv.region ?_
    refine un (a1 rfl ?_)
    refine dnil ?_
    refine Sv.ret ?_
    replace h := Option.some.inj h
    subst h
    exact ⟨_, .refl _, _, rfl, ⟨upd (fun _ => none) 0 (some (I (-1))), (fun _ => none), 0⟩, (I (-1)), weak_canon [] rfl List.nodup_nil (Nat.le_refl _) (fun b h => absurd h (Nat.not_lt_zero _)) (.cons rfl (avAs_free rfl) .nil) .nil, rfl, rfl, rfl, rfl⟩
def a53 : AFunc := ⟨2, [(.tmp 4)], (.seq (.region [⟨(some 4), (.mov (.const (.c (.val (.bool false))))), none⟩])
 (.seq (.region [⟨(some 5), (.mov (.tmp 0)), none⟩, ⟨(some 6), (.mov (.tmp 1)), none⟩, ⟨(some 7), (.call 33 [(.tmp 5), (.tmp 6)]), none⟩, ⟨(some 8), (.bin .geq (.tmp 7) (.const (.c (.val (.int .i64 0))))), none⟩, ⟨(some 4), (.mov (.tmp 8)), none⟩])
 .ret))⟩
set_option maxRecDepth 100000 in
theorem c53 : compFunc Tryd.prog 53 = some a53 := by kernel_rfl
def slices_Contains_string_post (r : Bool) : AV → Heap → Nat → Prop := fun v h' n' => v = (B r) ∧ (h' = (fun _ => none)) ∧ n' = 0
/-- slices.Contains(()string,string) -/
noncomputable def slices_Contains_string (s_ : (List (List UInt8))) (v_ : (List UInt8)) : Option Bool :=
  (slices_Index_string s_ v_).bind fun r_ =>
  some (decide (0 ≤ r_))
theorem slices_Contains_string_ok {mL : Int} {s_ : (List (List UInt8))} {v_ : (List UInt8)} {r : Bool} (h : slices_Contains_string s_ v_ = some r) : CPure Tryd.prog (GG mL) 53 [(.c (.ro false 1 (s_.map eStr))), (S v_)] (B r) := by
  refine acalls_of_sv hmix c53 (R := slices_Contains_string_post r) ?_
  unfold slices_Contains_string at h
  refine Sv.seq ?_
  refine Sv.region ?_
  refine un (a1 rfl ?_)
  refine dnil ?_
  refine Sv.seq ?_
  refine Sv.region ?_
  refine un (a1 rfl ?_)
  refine un (a1 rfl ?_)
  obtain ⟨r_, hr1, h⟩ := bnd h
  refine un (ac_pure (slices_Index_string_ok hr1) rfl rfl rfl ?_)
  refine un (a1 (v := (B (decide (0 ≤ r_)))) rfl ?_)
  refine un (a1 rfl ?_)
  refine dnil ?_
  refine Sv.ret ?_
  replace h := Option.some.inj h
  subst h
  exact ⟨_, .refl _, _, rfl, ⟨upd (fun _ => none) 0 (some (B (decide (0 ≤ r_)))), (fun _ => none), 0⟩, (B (decide (0 ≤ r_))), weak_canon [] rfl List.nodup_nil (Nat.le_refl _) (fun b h => absurd h (Nat.not_lt_zero _)) (.cons rfl (avAs_free rfl) .nil) .nil, rfl, rfl, rfl, rfl⟩
def a28_c0 : ACode := (.cond (.tmp 25) (.seq (.region [⟨(some 26), (.build [(.val (.int .i64 0)), (.str [])] []), none⟩, ⟨none, (.store 2 (.tmp 2) (.tmp 26)), none⟩, ⟨(some 3), (.mov (.const (.c (.val (.int .i64 4))))), none⟩])
 .ret) .skip)
def a28_c1 : ACode := (.seq (.drawn (.fin [(⟨(some 27), (.mov (.tmp 4)), none⟩, (0, 0)), (⟨(some 28), (.iaddr 4 (.tmp 27) (.const (.c (.val (.int .i64 0))))), none⟩, (0, 1)), (⟨(some 29), (.faddr 3 (.tmp 28)), none⟩, (0, 2)), (⟨(some 30), (.load false 1 (.tmp 29)), none⟩, (0, 3)), (⟨(some 31), (.mov (.tmp 4)), none⟩, (0, 4)), (⟨(some 32), (.iaddr 4 (.tmp 31) (.const (.c (.val (.int .i64 0))))), none⟩, (0, 5)), (⟨(some 33), (.faddr 2 (.tmp 32)), none⟩, (0, 6)), (⟨(some 34), (.load false 1 (.tmp 33)), none⟩, (0, 7)), (⟨(some 35), (.build [(.val (.int .i64 0)), (.str [])] [(0, (1, (.tmp 30))), (1, (1, (.tmp 34)))]), none⟩, (0, 8)), (⟨none, (.store 2 (.tmp 2) (.tmp 35)), none⟩, (2, 9)), (⟨(some 3), (.mov (.const (.c (.val (.int .i64 0))))), none⟩, (0, 10))]))
 .ret)
def a28 : AFunc := ⟨1, [(.cell true 2 2), (.tmp 3)], (.seq (.region [⟨(some 2), (.box (.const (.agg [(.val (.int .i64 0)), (.str [])]))), none⟩, ⟨(some 3), (.mov (.const (.c (.val (.int .i64 0))))), none⟩])
 (.seq (.region [⟨(some 5), (.mov (.tmp 0)), none⟩, ⟨(some 6), (.call 17 [(.tmp 5)]), none⟩, ⟨(some 4), (.mov (.tmp 6)), none⟩])
 (.seq (.seq (.drawn (.fin [(⟨(some 7), (.mov (.tmp 4)), none⟩, (0, 0)), (⟨(some 8), (.len (.tmp 7)), none⟩, (0, 1)), (⟨(some 9), (.bin .neq (.tmp 8) (.const (.c (.val (.int .i64 1))))), none⟩, (0, 2)), (⟨(some 10), (.mov (.tmp 9)), none⟩, (0, 3)), (⟨(some 11), (.mov (.tmp 4)), (some (10, false))⟩, (0, 4)), (⟨(some 12), (.iaddr 4 (.tmp 11) (.const (.c (.val (.int .i64 0))))), (some (10, false))⟩, (0, 5)), (⟨(some 13), (.faddr 0 (.tmp 12)), (some (10, false))⟩, (0, 6)), (⟨(some 14), (.load false 1 (.tmp 13)), (some (10, false))⟩, (0, 7)), (⟨(some 15), (.bin .neq (.tmp 14) (.const (.c (.val (.int .i64 7))))), (some (10, false))⟩, (0, 8)), (⟨(some 16), (.pick (.tmp 10) (.const (.c (.val (.bool true)))) (.tmp 15)), none⟩, (0, 9)), (⟨(some 17), (.mov (.tmp 16)), none⟩, (0, 10)), (⟨(some 18), (.load false 1 (.glob 0)), (some (17, false))⟩, (0, 11)), (⟨(some 19), (.mov (.tmp 4)), (some (17, false))⟩, (0, 12)), (⟨(some 20), (.iaddr 4 (.tmp 19) (.const (.c (.val (.int .i64 0))))), (some (17, false))⟩, (0, 13)), (⟨(some 21), (.faddr 2 (.tmp 20)), (some (17, false))⟩, (0, 14)), (⟨(some 22), (.load false 1 (.tmp 21)), (some (17, false))⟩, (0, 15)), (⟨(some 23), (.call 53 [(.tmp 18), (.tmp 22)]), (some (17, false))⟩, (2, 16)), (⟨(some 24), (.un .not (.tmp 23)), (some (17, false))⟩, (0, 17)), (⟨(some 25), (.pick (.tmp 17) (.const (.c (.val (.bool true)))) (.tmp 24)), none⟩, (0, 18))]))
 a28_c0)
 a28_c1)))⟩
set_option maxRecDepth 100000 in
theorem c28 : compFunc Tryd.prog 28 = some a28 := by kernel_rfl
def dim_Read_post (r : (TSDim × Int)) : AV → Heap → Nat → Prop := fun v h' n' => v = (.tup [(.agg [cI r.1.Num, .str r.1.Unit]), (I r.2)]) ∧ (h' = (fun _ => none)) ∧ n' = 0
abbrev dim_Read_q0 (mL : Int) (o : (TSDim × Int)) : AExit → St → Prop := AThen (Sv Tryd.prog (GG mL) 0 a28_c1 (Ends a28.results 0 (dim_Read_post o))) (Ends a28.results 0 (dim_Read_post o))
noncomputable def dim_Read_j1 (l_ : (List TSToken)) (v25 : Bool) : Option (TSDim × Int) :=
  if v25 then
    some ((⟨0, []⟩ : TSDim), 4)
  else
    (at? l_ 0).bind fun x_ =>
    (at? l_ 0).bind fun x_1 =>
    some ((⟨x_.Num, x_1.Value⟩ : TSDim), 0)
theorem dim_Read_j1_ok {mL : Int} {l_ : (List TSToken)} {v25 : Bool} {zl : Bool} (hzl : zl = true → l_ = []) {o : (TSDim × Int)} (h : dim_Read_j1 l_ v25 = some o) :
    Sv Tryd.prog (GG mL) 0 a28_c0 (dim_Read_q0 mL o) ⟨(upd (upd (upd (fun _ => none) 2 (some (.c (.ref 0 2 0 0)))) 4 (some (lstV zl 1 4 l_.length))) 25 (some (B v25))), (upd (upd (fun _ => none) 0 (some (.cells 2 [[cI 0, .str []]]))) 1 (lstB zl 4 (l_.map e_TSToken))), 2⟩ := by
  unfold dim_Read_j1 at h
  refine Sv.cond (b := v25) rfl (fun hc1 => ?_) (fun hc1 => ?_)
  · replace h := ifT hc1 h
    refine Sv.seq ?_
    refine Sv.region ?_
    refine un (a1 (v := (.agg [cI 0, .str []])) rfl ?_)
    refine un (a2n (h' := upd _ 0 (some (.cells 2 [[cI 0, .str []]]))) (n' := 2) rfl rfl (fun h => by cases h) ?_)
    refine un (a1 rfl ?_)
    refine dnil ?_
    refine Sv.ret ?_
    replace h := Option.some.inj h
    subst h
    exact ⟨_, .refl _, _, rfl, ⟨upd (fun _ => none) 0 (some (.tup [(.agg [cI 0, .str []]), (I 4)])), (fun _ => none), 0⟩, (.tup [(.agg [cI 0, .str []]), (I 4)]), weak_canon [] rfl List.nodup_nil (Nat.le_refl _) (fun b h => absurd h (Nat.not_lt_zero _)) (.cons rfl (avAs_tup (.cons (avAs_free rfl) (.cons (avAs_free rfl) .nil))) .nil) .nil, rfl, rfl, rfl, rfl⟩
  · replace h := ifF hc1 h
    refine Sv.skip ?_
    refine Sv.seq ?_
    refine Sv.drawn ?_
    refine un (a1 rfl ?_)
    obtain ⟨x_, hx1, h⟩ := bnd h
    refine un (a1 (v := (.c (.ref 1 4 (0 : Int).toNat 0))) (s_iaddrL rfl rfl hzl hx1) ?_)
    refine un (a1 (v := (.c (.ref 1 4 (0 : Int).toNat 3))) rfl ?_)
    refine un (a1 (v := (I x_.Num)) (s_loadL (z := zl) (e := e_TSToken) rfl rfl hzl hx1 rfl rfl) ?_)
    refine un (a1 rfl ?_)
    obtain ⟨x_1, hx2, h⟩ := bnd h
    refine un (a1 (v := (.c (.ref 1 4 (0 : Int).toNat 0))) (s_iaddrL rfl rfl hzl hx2) ?_)
    refine un (a1 (v := (.c (.ref 1 4 (0 : Int).toNat 2))) rfl ?_)
    refine un (a1 (v := (S x_1.Value)) (s_loadL (z := zl) (e := e_TSToken) rfl rfl hzl hx2 rfl rfl) ?_)
    refine un (a1 (v := (.agg [cI x_.Num, .str x_1.Value])) rfl ?_)
    refine un (a2n (h' := upd _ 0 (some (.cells 2 [[cI x_.Num, .str x_1.Value]]))) (n' := 2) rfl rfl (fun h => by cases h) ?_)
    refine un (a1 rfl ?_)
    refine dnil ?_
    refine Sv.ret ?_
    replace h := Option.some.inj h
    subst h
    exact ⟨_, .refl _, _, rfl, ⟨upd (fun _ => none) 0 (some (.tup [(.agg [cI x_.Num, .str x_1.Value]), (I 0)])), (fun _ => none), 0⟩, (.tup [(.agg [cI x_.Num, .str x_1.Value]), (I 0)]), weak_canon [] rfl List.nodup_nil (Nat.le_refl _) (fun b h => absurd h (Nat.not_lt_zero _)) (.cons rfl (avAs_tup (.cons (avAs_free rfl) (.cons (avAs_free rfl) .nil))) .nil) .nil, rfl, rfl, rfl, rfl⟩
/-- clerestory/dim.Read -/
noncomputable def dim_Read (s_ : (List UInt8)) : Option (TSDim × Int) :=
  (csstok_Cut s_).bind fun r_ =>
  if (!decide ((r_.length : Int) = 1)) then
    dim_Read_j1 r_ true
  else
    (at? r_ 0).bind fun x_2 =>
    if (!decide (x_2.Kind = 7)) then
      dim_Read_j1 r_ true
    else
      (at? r_ 0).bind fun x_3 =>
      (slices_Contains_string gl0 x_3.Value).bind fun r_1 =>
      dim_Read_j1 r_ (!r_1)
theorem dim_Read_ok {mL : Int} {s_ : (List UInt8)} {r : (TSDim × Int)} (h : dim_Read s_ = some r) : CPure Tryd.prog (GG mL) 28 [(S s_)] (.tup [(.agg [cI r.1.Num, .str r.1.Unit]), (I r.2)]) := by
  refine acalls_of_sv hmix c28 (R := dim_Read_post r) ?_
  unfold dim_Read at h
  refine Sv.seq ?_
  refine Sv.region ?_
  refine un (a2v (v := (.c (.ref 0 2 0 0))) (h' := upd _ 0 (some (.cells 2 [[cI 0, .str []]]))) (n' := 1) rfl rfl (fun h => by cases h) ?_)
  refine un (a1 rfl ?_)
  refine dnil ?_
  refine Sv.seq ?_
  refine Sv.region ?_
  refine un (a1 rfl ?_)
  obtain ⟨r_, hr1, h⟩ := bnd h
  refine un (ac_gen (bs := []) («as» := [(S s_)]) (h2 := _) (h1 := (fun _ => none)) (csstok_Cut_ok hr1) rfl (.cons (avAs_free rfl) .nil) (hsub_refl _) (.nil _) (fun _ => rfl) (by decide) (by decide) (.cons (avAs_free rfl) .nil) .nil ?_)
  rintro _ _ _ hn ⟨z_, hz_, rfl, rfl, rfl⟩
  refine ⟨.inl rfl, (upd (rem [] _) 1 (lstB z_ 4 (r_.map e_TSToken))), fun hbd => (m3_cons (m3_row rfl (fr_map fun _ => rfl)) (m3_rem (in_nil _) (.cons (by decide) .nil) hbd)), (lstV z_ 1 4 r_.length), 2, (by cases z_ <;> rfl), rfl, ?_⟩
  refine un (a1 rfl ?_)
  refine dnil ?_
  refine Sv.seq ?_
  refine Sv.seq ?_
  refine Sv.drawn ?_
  refine un (a1 rfl ?_)
  refine un (a1 (v := (I (r_.length : Int))) (s_lenL rfl (len_nil_of hz_)) ?_)
  refine un (a1 (v := (B (!decide ((r_.length : Int) = 1)))) rfl ?_)
  refine un (a1 rfl ?_)
  refine split2 (fun hc2 => ?_) (fun hc2 => ?_)
  · replace h := ifT hc2 h
    refine gs rfl rfl ?_
    refine gs rfl rfl ?_
    refine gs rfl rfl ?_
    refine gs rfl rfl ?_
    refine gs rfl rfl ?_
    refine un (a1 (v := (B true)) rfl ?_)
    refine un (a1 rfl ?_)
    refine gs rfl rfl ?_
    refine gs rfl rfl ?_
    refine gs rfl rfl ?_
    refine gs rfl rfl ?_
    refine gs rfl rfl ?_
    refine gs rfl rfl ?_
    refine gs rfl rfl ?_
    refine un (a1 (v := (B true)) rfl ?_)
    refine dnil ?_
    exact Sv.weak (weak_canon [0, 1] rfl (by decide) (by decide) (fun b h => absurd h (Nat.not_lt_zero _)) (.cons rfl (avAs_free rfl) (.cons rfl (.c (lstC_ren rfl (by decide))) (.cons rfl (.c (.ref rfl (by decide))) .nil))) (.row (by decide) rfl (fr_map fun _ => rfl) (.box (by decide) rfl (blkAs_cells (.cons (.same rfl) (.cons (.same rfl) .nil))) .nil))) (dim_Read_j1_ok hz_ h)
  · replace h := ifF hc2 h
    refine gt rfl (a1 rfl ?_)
    obtain ⟨x_2, hx3, h⟩ := bnd h
    refine gt rfl (a1 (v := (.c (.ref 1 4 (0 : Int).toNat 0))) (s_iaddrL rfl rfl hz_ hx3) ?_)
    refine gt rfl (a1 (v := (.c (.ref 1 4 (0 : Int).toNat 0))) rfl ?_)
    refine gt rfl (a1 (v := (I x_2.Kind)) (s_loadL (z := z_) (e := e_TSToken) rfl rfl hz_ hx3 rfl rfl) ?_)
    refine gt rfl (a1 (v := (B (!decide (x_2.Kind = 7)))) rfl ?_)
    refine un (a1 (v := (B (!decide (x_2.Kind = 7)))) rfl ?_)
    refine un (a1 rfl ?_)
    refine split2 (fun hc3 => ?_) (fun hc3 => ?_)
    · replace h := ifT hc3 h
      refine gs rfl rfl ?_
      refine gs rfl rfl ?_
      refine gs rfl rfl ?_
      refine gs rfl rfl ?_
      refine gs rfl rfl ?_
      refine gs rfl rfl ?_
      refine gs rfl rfl ?_
      refine un (a1 (v := (B true)) rfl ?_)
      refine dnil ?_
      exact Sv.weak (weak_canon [0, 1] rfl (by decide) (by decide) (fun b h => absurd h (Nat.not_lt_zero _)) (.cons rfl (avAs_free rfl) (.cons rfl (.c (lstC_ren rfl (by decide))) (.cons rfl (.c (.ref rfl (by decide))) .nil))) (.row (by decide) rfl (fr_map fun _ => rfl) (.box (by decide) rfl (blkAs_cells (.cons (.same rfl) (.cons (.same rfl) .nil))) .nil))) (dim_Read_j1_ok hz_ h)
    · replace h := ifF hc3 h
      refine gt rfl (a1 (v := (.c (.ro false 1 (gl0.map eStr)))) rfl ?_)
      refine gt rfl (a1 rfl ?_)
      obtain ⟨x_3, hx4, h⟩ := bnd h
      refine gt rfl (a1 (v := (.c (.ref 1 4 (0 : Int).toNat 0))) (s_iaddrL rfl rfl hz_ hx4) ?_)
      refine gt rfl (a1 (v := (.c (.ref 1 4 (0 : Int).toNat 2))) rfl ?_)
      refine gt rfl (a1 (v := (S x_3.Value)) (s_loadL (z := z_) (e := e_TSToken) rfl rfl hz_ hx4 rfl rfl) ?_)
      obtain ⟨r_1, hr2, h⟩ := bnd h
      refine gt rfl (ac_pure (slices_Contains_string_ok hr2) rfl rfl rfl ?_)
      refine gt rfl (a1 (v := (B (!r_1))) rfl ?_)
      refine un (a1 (v := (B (!r_1))) rfl ?_)
      refine dnil ?_
      exact Sv.weak (weak_canon [0, 1] rfl (by decide) (by decide) (fun b h => absurd h (Nat.not_lt_zero _)) (.cons rfl (avAs_free rfl) (.cons rfl (.c (lstC_ren rfl (by decide))) (.cons rfl (.c (.ref rfl (by decide))) .nil))) (.row (by decide) rfl (fr_map fun _ => rfl) (.box (by decide) rfl (blkAs_cells (.cons (.same rfl) (.cons (.same rfl) .nil))) .nil))) (dim_Read_j1_ok hz_ h)
def a29 : AFunc := ⟨2, [(.cell true 4 4)], (.seq (.region [⟨(some 3), (.box (.tmp 1)), none⟩, ⟨(some 4), (.box (.const (.agg [(.val (.int .i64 0)), (.val (.int .i64 0)), (.str []), (.ro true 4 [])]))), none⟩])
 (.seq (.seq (.region [⟨(some 5), (.mov (.tmp 0)), none⟩, ⟨(some 6), (.nilc (.tmp 5)), none⟩, ⟨(some 7), (.faddr 1 (.tmp 6)), none⟩, ⟨(some 8), (.load false 1 (.tmp 7)), none⟩, ⟨(some 9), (.bin .add (.tmp 8) (.const (.c (.val (.int .i64 1))))), none⟩, ⟨(some 10), (.nilc (.tmp 5)), none⟩, ⟨(some 11), (.faddr 1 (.tmp 10)), none⟩, ⟨none, (.store 1 (.tmp 11) (.tmp 9)), none⟩])
 (.seq (.region [⟨(some 12), (.mov (.tmp 0)), none⟩, ⟨(some 13), (.nilc (.tmp 12)), none⟩, ⟨(some 14), (.faddr 1 (.tmp 13)), none⟩, ⟨(some 15), (.load false 1 (.tmp 14)), none⟩, ⟨(some 16), (.bin .gtr (.tmp 15) (.const (.c (.val (.int .i64 30))))), none⟩])
 (.cond (.tmp 16) (.region [⟨(some 17), (.build [(.val (.int .i64 0))] [(0, (1, (.const (.c (.val (.int .i64 2))))))]), none⟩, ⟨(some 18), .mkif, none⟩, ⟨none, .bad, none⟩]) .skip)))
 (.seq (.region [⟨(some 19), (.load true 4 (.tmp 3)), none⟩, ⟨none, (.store 4 (.tmp 4) (.tmp 19)), none⟩])
 .ret)))⟩
set_option maxRecDepth 100000 in
theorem c29 : compFunc Tryd.prog 29 = some a29 := by kernel_rfl
def clerestory_calc_reader_made_post (r : (TSTerm × Treader)) : AV → Heap → Nat → Prop := fun v h' n' => v = (.agg [cI r.1.Kind, cI r.1.Dim.Num, .str r.1.Dim.Unit, .ro false 4 (r.1.Subs.map eRaw)]) ∧ (h' = (upd (fun _ => none) 0 (some (.cells 3 [[.ro false 4 (r.2.f_l.map e_TSToken), cI r.2.f_n, cB r.2.f_gapped]])))) ∧ n' = 1
/-- (*clerestory/calc.reader).made -/
noncomputable def clerestory_calc_reader_made (r_ : Treader) (t_ : TSTerm) : Option (TSTerm × Treader) :=
  if decide (30 < (wi (r_.f_n + 1))) then
    none
  else
    some (t_, (⟨r_.f_l, (wi (r_.f_n + 1)), r_.f_gapped⟩ : Treader))
theorem clerestory_calc_reader_made_ok {mL : Int} {r_ : Treader} {t_ : TSTerm} {r : (TSTerm × Treader)} (h : clerestory_calc_reader_made r_ t_ = some r) : ACalls Tryd.prog (GG mL) 29 [(.c (.ref 0 3 0 0)), (.agg [cI t_.Kind, cI t_.Dim.Num, .str t_.Dim.Unit, .ro false 4 (t_.Subs.map eRaw)])] (upd (fun _ => none) 0 (some (.cells 3 [[.ro false 4 (r_.f_l.map e_TSToken), cI r_.f_n, cB r_.f_gapped]]))) 1 (clerestory_calc_reader_made_post r) := by
  refine acalls_of_sv hmix c29 (R := clerestory_calc_reader_made_post r) ?_
  unfold clerestory_calc_reader_made at h
  refine Sv.seq ?_
  refine Sv.region ?_
  refine un (a2v (v := (.c (.ref 1 4 0 0))) (h' := upd _ 1 (some (.cells 4 [[cI t_.Kind, cI t_.Dim.Num, .str t_.Dim.Unit, .ro false 4 (t_.Subs.map eRaw)]]))) (n' := 2) rfl rfl (fun h => by cases h) ?_)
  refine un (a2v (v := (.c (.ref 2 4 0 0))) (h' := upd _ 2 (some (.cells 4 [[cI 0, cI 0, .str [], .ro true 4 []]]))) (n' := 3) rfl rfl (fun h => by cases h) ?_)
  refine dnil ?_
  refine Sv.seq ?_
  refine Sv.seq ?_
  refine Sv.region ?_
  refine un (a1 rfl ?_)
  refine un (a1 (v := (.c (.ref 0 3 0 0))) rfl ?_)
  refine un (a1 (v := (.c (.ref 0 3 0 1))) rfl ?_)
  refine un (a1 (v := (I r_.f_n)) rfl ?_)
  refine un (a1 (v := (I (wi (r_.f_n + 1)))) rfl ?_)
  refine un (a1 (v := (.c (.ref 0 3 0 0))) rfl ?_)
  refine un (a1 (v := (.c (.ref 0 3 0 1))) rfl ?_)
  refine un (a2n (h' := upd _ 0 (some (.cells 3 [[.ro false 4 (r_.f_l.map e_TSToken), cI (wi (r_.f_n + 1)), cB r_.f_gapped]]))) (n' := 3) rfl rfl (fun h => by cases h) ?_)
  refine dnil ?_
  refine Sv.seq ?_
  refine Sv.region ?_
  refine un (a1 rfl ?_)
  refine un (a1 (v := (.c (.ref 0 3 0 0))) rfl ?_)
  refine un (a1 (v := (.c (.ref 0 3 0 1))) rfl ?_)
  refine un (a1 (v := (I (wi (r_.f_n + 1)))) rfl ?_)
  refine un (a1 (v := (B (decide (30 < (wi (r_.f_n + 1)))))) rfl ?_)
  refine dnil ?_
  refine Sv.cond (b := decide (30 < (wi (r_.f_n + 1)))) rfl (fun hc1 => ?_) (fun hc1 => ?_)
  · replace h := ifT hc1 h
    refine Sv.region ?_
    refine un (a1 (v := (.agg [cI 2])) rfl ?_)
    refine un (a1 (v := (.c (.opq))) rfl ?_)
    cases h
  · replace h := ifF hc1 h
    refine Sv.skip ?_
    refine Sv.seq ?_
    refine Sv.region ?_
    refine un (a1 (v := (.agg [cI t_.Kind, cI t_.Dim.Num, .str t_.Dim.Unit, .ro false 4 (t_.Subs.map eRaw)])) rfl ?_)
    refine un (a2n (h' := upd _ 2 (some (.cells 4 [[cI t_.Kind, cI t_.Dim.Num, .str t_.Dim.Unit, .ro false 4 (t_.Subs.map eRaw)]]))) (n' := 3) rfl rfl (fun h => by cases h) ?_)
    refine dnil ?_
    refine Sv.ret ?_
    replace h := Option.some.inj h
    subst h
    exact ⟨_, .refl _, _, rfl, ⟨upd (fun _ => none) 0 (some (.agg [cI t_.Kind, cI t_.Dim.Num, .str t_.Dim.Unit, .ro false 4 (t_.Subs.map eRaw)])), (upd (fun _ => none) 0 (some (.cells 3 [[.ro false 4 (r_.f_l.map e_TSToken), cI (wi (r_.f_n + 1)), cB r_.f_gapped]]))), 1⟩, (.agg [cI t_.Kind, cI t_.Dim.Num, .str t_.Dim.Unit, .ro false 4 (t_.Subs.map eRaw)]), weak_canon2 [0] [0] (by decide) (by decide) (by decide) (.cons (by decide) .nil) (.cons rfl (avAs_free rfl) .nil) (.box (by decide) rfl (blkAs_cells (.cons (.same rfl) (.cons (.same rfl) (.cons (.same rfl) .nil)))) .nil), rfl, rfl, rfl, rfl⟩
def clerestory_calc_reader_value_post (r : (TSTerm × Treader)) : AV → Heap → Nat → Prop := fun v h' n' => v = (.agg [cI r.1.Kind, cI r.1.Dim.Num, .str r.1.Dim.Unit, .ro false 4 (r.1.Subs.map eRaw)]) ∧ (h' = (upd (fun _ => none) 0 (some (.cells 3 [[.ro false 4 (r.2.f_l.map e_TSToken), cI r.2.f_n, cB r.2.f_gapped]])))) ∧ n' = 1
def clerestory_calc_reader_value_Rec (mL : Int) (recf : Treader → Bool → Option (TSTerm × Treader)) : Prop := ∀ (r_ : Treader) (in_ : Bool) (r : (TSTerm × Treader)), recf r_ in_ = some r → ACalls Tryd.prog (GG mL) 19 [(.c (.ref 0 3 0 0)), (B in_)] (upd (fun _ => none) 0 (some (.cells 3 [[.ro false 4 (r_.f_l.map e_TSToken), cI r_.f_n, cB r_.f_gapped]]))) 1 (clerestory_calc_reader_value_post r)
def a31_c0 : ACode := (.cond (.tmp 21) (.seq (.region [⟨(some 4), (.mov (.const (.c (.val (.bool false))))), none⟩])
 .ret) .skip)
def a31_c1 : ACode := (.seq (.region [⟨(some 22), (.mov (.tmp 0)), none⟩, ⟨(some 23), (.mov (.tmp 0)), none⟩, ⟨(some 24), (.nilc (.tmp 23)), none⟩, ⟨(some 25), (.faddr 0 (.tmp 24)), none⟩, ⟨(some 26), (.load false 1 (.tmp 25)), none⟩, ⟨(some 27), (.slSl 4 (.tmp 26) (some (.const (.c (.val (.int .i64 1))))) none none), none⟩, ⟨(some 28), (.nilc (.tmp 22)), none⟩, ⟨(some 29), (.faddr 0 (.tmp 28)), none⟩, ⟨none, (.store 1 (.tmp 29) (.tmp 27)), none⟩])
 (.seq (.region [⟨(some 4), (.mov (.const (.c (.val (.bool true))))), none⟩])
 .ret))
def a31 : AFunc := ⟨2, [(.tmp 4)], (.seq (.region [⟨(some 4), (.mov (.const (.c (.val (.bool false))))), none⟩])
 (.seq (.seq (.region [⟨(some 5), (.mov (.tmp 0)), none⟩, ⟨(some 6), (.nilc (.tmp 5)), none⟩, ⟨(some 7), (.faddr 0 (.tmp 6)), none⟩, ⟨(some 8), (.load false 1 (.tmp 7)), none⟩, ⟨(some 9), (.len (.tmp 8)), none⟩, ⟨(some 10), (.bin .eql (.tmp 9) (.const (.c (.val (.int .i64 0))))), none⟩, ⟨(some 11), (.mov (.tmp 10)), none⟩, ⟨(some 12), (.mov (.tmp 0)), (some (11, false))⟩, ⟨(some 13), (.nilc (.tmp 12)), (some (11, false))⟩, ⟨(some 14), (.faddr 0 (.tmp 13)), (some (11, false))⟩, ⟨(some 15), (.load false 1 (.tmp 14)), (some (11, false))⟩, ⟨(some 16), (.iaddr 4 (.tmp 15) (.const (.c (.val (.int .i64 0))))), (some (11, false))⟩, ⟨(some 17), (.faddr 1 (.tmp 16)), (some (11, false))⟩, ⟨(some 18), (.load false 1 (.tmp 17)), (some (11, false))⟩, ⟨(some 19), (.mov (.tmp 1)), (some (11, false))⟩, ⟨(some 20), (.bin .neq (.tmp 18) (.tmp 19)), (some (11, false))⟩, ⟨(some 21), (.pick (.tmp 11) (.const (.c (.val (.bool true)))) (.tmp 20)), none⟩])
 a31_c0)
 a31_c1))⟩
set_option maxRecDepth 100000 in
theorem c31 : compFunc Tryd.prog 31 = some a31 := by kernel_rfl
def clerestory_calc_reader_raw_post (r : (Bool × Treader)) : AV → Heap → Nat → Prop := fun v h' n' => v = (B r.1) ∧ (h' = (upd (fun _ => none) 0 (some (.cells 3 [[.ro false 4 (r.2.f_l.map e_TSToken), cI r.2.f_n, cB r.2.f_gapped]])))) ∧ n' = 1
abbrev clerestory_calc_reader_raw_q0 (mL : Int) (o : (Bool × Treader)) : AExit → St → Prop := AThen (Sv Tryd.prog (GG mL) 1 a31_c1 (Ends a31.results 1 (clerestory_calc_reader_raw_post o))) (Ends a31.results 1 (clerestory_calc_reader_raw_post o))
noncomputable def clerestory_calc_reader_raw_j1 (r_ : Treader) (v21 : Bool) : Option (Bool × Treader) :=
  if v21 then
    some (false, r_)
  else
    (sub? r_.f_l 1 (r_.f_l.length : Int)).bind fun r_1 =>
    some (true, (⟨r_1, r_.f_n, r_.f_gapped⟩ : Treader))
theorem clerestory_calc_reader_raw_j1_ok {mL : Int} {r_ : Treader} {v21 : Bool} {o : (Bool × Treader)} (h : clerestory_calc_reader_raw_j1 r_ v21 = some o) :
    Sv Tryd.prog (GG mL) 1 a31_c0 (clerestory_calc_reader_raw_q0 mL o) ⟨(upd (upd (fun _ => none) 0 (some (.c (.ref 0 3 0 0)))) 21 (some (B v21))), (upd (fun _ => none) 0 (some (.cells 3 [[.ro false 4 (r_.f_l.map e_TSToken), cI r_.f_n, cB r_.f_gapped]]))), 1⟩ := by
  unfold clerestory_calc_reader_raw_j1 at h
  refine Sv.cond (b := v21) rfl (fun hc1 => ?_) (fun hc1 => ?_)
  · replace h := ifT hc1 h
    refine Sv.seq ?_
    refine Sv.region ?_
    refine un (a1 rfl ?_)
    refine dnil ?_
    refine Sv.ret ?_
    replace h := Option.some.inj h
    subst h
    exact ⟨_, .refl _, _, rfl, ⟨upd (fun _ => none) 0 (some (B false)), (upd (fun _ => none) 0 (some (.cells 3 [[.ro false 4 (r_.f_l.map e_TSToken), cI r_.f_n, cB r_.f_gapped]]))), 1⟩, (B false), weak_canon2 [0] [0] (by decide) (by decide) (by decide) (.cons (by decide) .nil) (.cons rfl (avAs_free rfl) .nil) (.box (by decide) rfl (blkAs_cells (.cons (.same rfl) (.cons (.same rfl) (.cons (.same rfl) .nil)))) .nil), rfl, rfl, rfl, rfl⟩
  · replace h := ifF hc1 h
    refine Sv.skip ?_
    refine Sv.seq ?_
    refine Sv.region ?_
    refine un (a1 rfl ?_)
    refine un (a1 rfl ?_)
    refine un (a1 (v := (.c (.ref 0 3 0 0))) rfl ?_)
    refine un (a1 (v := (.c (.ref 0 3 0 0))) rfl ?_)
    refine un (a1 (v := (.c (.ro false 4 (r_.f_l.map e_TSToken)))) rfl ?_)
    obtain ⟨r_1, hx1, h⟩ := bnd h
    refine un (a1 (v := (.c (.ro false 4 (r_1.map e_TSToken)))) (s_slSl (e := e_TSToken) rfl rfl rfl hx1) ?_)
    refine un (a1 (v := (.c (.ref 0 3 0 0))) rfl ?_)
    refine un (a1 (v := (.c (.ref 0 3 0 0))) rfl ?_)
    refine un (a2n (h' := upd _ 0 (some (.cells 3 [[.ro false 4 (r_1.map e_TSToken), cI r_.f_n, cB r_.f_gapped]]))) (n' := 1) rfl rfl (fun h => by cases h) ?_)
    refine dnil ?_
    refine Sv.seq ?_
    refine Sv.region ?_
    refine un (a1 rfl ?_)
    refine dnil ?_
    refine Sv.ret ?_
    replace h := Option.some.inj h
    subst h
    exact ⟨_, .refl _, _, rfl, ⟨upd (fun _ => none) 0 (some (B true)), (upd (fun _ => none) 0 (some (.cells 3 [[.ro false 4 (r_1.map e_TSToken), cI r_.f_n, cB r_.f_gapped]]))), 1⟩, (B true), weak_canon2 [0] [0] (by decide) (by decide) (by decide) (.cons (by decide) .nil) (.cons rfl (avAs_free rfl) .nil) (.box (by decide) rfl (blkAs_cells (.cons (.same rfl) (.cons (.same rfl) (.cons (.same rfl) .nil)))) .nil), rfl, rfl, rfl, rfl⟩
/-- (*clerestory/calc.reader).raw -/
noncomputable def clerestory_calc_reader_raw (r_ : Treader) (s_ : (List UInt8)) : Option (Bool × Treader) :=
  if decide ((r_.f_l.length : Int) = 0) then
    clerestory_calc_reader_raw_j1 r_ true
  else
    (at? r_.f_l 0).bind fun x_ =>
    clerestory_calc_reader_raw_j1 r_ (!decide (x_.Raw = s_))
theorem clerestory_calc_reader_raw_ok {mL : Int} {r_ : Treader} {s_ : (List UInt8)} {r : (Bool × Treader)} (h : clerestory_calc_reader_raw r_ s_ = some r) : ACalls Tryd.prog (GG mL) 31 [(.c (.ref 0 3 0 0)), (S s_)] (upd (fun _ => none) 0 (some (.cells 3 [[.ro false 4 (r_.f_l.map e_TSToken), cI r_.f_n, cB r_.f_gapped]]))) 1 (clerestory_calc_reader_raw_post r) := by
  refine acalls_of_sv hmix c31 (R := clerestory_calc_reader_raw_post r) ?_
  unfold clerestory_calc_reader_raw at h
  refine Sv.seq ?_
  refine Sv.region ?_
  refine un (a1 rfl ?_)
  refine dnil ?_
  refine Sv.seq ?_
  refine Sv.seq ?_
  refine Sv.region ?_
  refine un (a1 rfl ?_)
  refine un (a1 (v := (.c (.ref 0 3 0 0))) rfl ?_)
  refine un (a1 (v := (.c (.ref 0 3 0 0))) rfl ?_)
  refine un (a1 (v := (.c (.ro false 4 (r_.f_l.map e_TSToken)))) rfl ?_)
  refine un (a1 (v := (I (r_.f_l.length : Int))) (s_len (e := e_TSToken) (xs := r_.f_l) rfl) ?_)
  refine un (a1 (v := (B (decide ((r_.f_l.length : Int) = 0)))) rfl ?_)
  refine un (a1 rfl ?_)
  refine split2 (fun hc2 => ?_) (fun hc2 => ?_)
  · replace h := ifT hc2 h
    refine gs rfl rfl ?_
    refine gs rfl rfl ?_
    refine gs rfl rfl ?_
    refine gs rfl rfl ?_
    refine gs rfl rfl ?_
    refine gs rfl rfl ?_
    refine gs rfl rfl ?_
    refine gs rfl rfl ?_
    refine gs rfl rfl ?_
    refine un (a1 (v := (B true)) rfl ?_)
    refine dnil ?_
    exact Sv.weak (weak_canon [0] rfl (by decide) (by decide) (by decide) (.cons rfl (avAs_free rfl) (.cons rfl (.c (.ref rfl (by decide))) .nil)) (.box (by decide) rfl (blkAs_cells (.cons (.same rfl) (.cons (.same rfl) (.cons (.same rfl) .nil)))) .nil)) (clerestory_calc_reader_raw_j1_ok h)
  · replace h := ifF hc2 h
    refine gt rfl (a1 rfl ?_)
    refine gt rfl (a1 (v := (.c (.ref 0 3 0 0))) rfl ?_)
    refine gt rfl (a1 (v := (.c (.ref 0 3 0 0))) rfl ?_)
    refine gt rfl (a1 (v := (.c (.ro false 4 (r_.f_l.map e_TSToken)))) rfl ?_)
    obtain ⟨x_, hx2, h⟩ := bnd h
    refine gt rfl (a1 (v := (.c (.rop [cI x_.Kind, .str x_.Raw, .str x_.Value, cI x_.Num]))) (s_iaddr (e := e_TSToken) (xs := r_.f_l) rfl rfl hx2) ?_)
    refine gt rfl (a1 (v := (.c (.rop [.str x_.Raw, .str x_.Value, cI x_.Num]))) rfl ?_)
    refine gt rfl (a1 (v := (S x_.Raw)) rfl ?_)
    refine gt rfl (a1 rfl ?_)
    refine gt rfl (a1 (v := (B (!decide (x_.Raw = s_)))) rfl ?_)
    refine un (a1 (v := (B (!decide (x_.Raw = s_)))) rfl ?_)
    refine dnil ?_
    exact Sv.weak (weak_canon [0] rfl (by decide) (by decide) (by decide) (.cons rfl (avAs_free rfl) (.cons rfl (.c (.ref rfl (by decide))) .nil)) (.box (by decide) rfl (blkAs_cells (.cons (.same rfl) (.cons (.same rfl) (.cons (.same rfl) .nil)))) .nil)) (clerestory_calc_reader_raw_j1_ok h)
def a54_c0 : ACode := (.seq (.region [⟨(some 21), (.mov (.tmp 0)), none⟩, ⟨(some 22), (.call 18 [(.tmp 21)]), none⟩])
 (.drawn (.alt [(⟨(some 23), (.mov (.tmp 0)), none⟩, (0, 0)), (⟨(some 24), (.mov (.tmp 4)), none⟩, (0, 1)), (⟨(some 26), (.mov (.tmp 0)), none⟩, (0, 3))] (.fin [(⟨(some 25), (.load true 4 (.tmp 3)), none⟩, (2, 2)), (⟨(some 27), (.call 19 [(.tmp 26), (.const (.c (.val (.bool true))))]), none⟩, (2, 4)), (⟨(some 28), (.bslice 4 [(.val (.int .i64 0)), (.val (.int .i64 0)), (.str []), (.ro true 4 [])] 2 [(0, (.tmp 25)), (1, (.tmp 27))]), none⟩, (2, 5)), (⟨(some 29), (.build [(.val (.int .i64 0)), (.val (.int .i64 0)), (.str []), (.ro true 4 [])] [(0, (1, (.tmp 24))), (3, (1, (.tmp 28)))]), none⟩, (0, 6)), (⟨(some 30), (.call 29 [(.tmp 23), (.tmp 29)]), none⟩, (2, 7)), (⟨none, (.store 4 (.tmp 3) (.tmp 30)), none⟩, (2, 8))]) (.fin [(⟨(some 27), (.call 19 [(.tmp 26), (.const (.c (.val (.bool true))))]), none⟩, (2, 4)), (⟨(some 25), (.load true 4 (.tmp 3)), none⟩, (2, 2)), (⟨(some 28), (.bslice 4 [(.val (.int .i64 0)), (.val (.int .i64 0)), (.str []), (.ro true 4 [])] 2 [(0, (.tmp 25)), (1, (.tmp 27))]), none⟩, (2, 5)), (⟨(some 29), (.build [(.val (.int .i64 0)), (.val (.int .i64 0)), (.str []), (.ro true 4 [])] [(0, (1, (.tmp 24))), (3, (1, (.tmp 28)))]), none⟩, (0, 6)), (⟨(some 30), (.call 29 [(.tmp 23), (.tmp 29)]), none⟩, (2, 7)), (⟨none, (.store 4 (.tmp 3) (.tmp 30)), none⟩, (2, 8))]))))
def a54_c1 : ACode := (.block 1 (.seq (.region [⟨(some 9), (.mov (.tmp 0)), none⟩, ⟨(some 10), (.mov (.tmp 0)), none⟩, ⟨(some 11), (.call 18 [(.tmp 10)]), none⟩, ⟨(some 12), (.nilc (.tmp 9)), none⟩, ⟨(some 13), (.faddr 2 (.tmp 12)), none⟩, ⟨none, (.store 1 (.tmp 13) (.tmp 11)), none⟩])
 (.seq (.region [⟨(some 4), (.mov (.const (.c (.val (.int .i64 0))))), none⟩])
 (.seq (.block 2 (.seq (.region [⟨(some 16), (.mov (.tmp 0)), none⟩, ⟨(some 17), (.call 31 [(.tmp 16), (.const (.c (.str [42])))]), none⟩, ⟨(some 15), (.mov (.tmp 17)), none⟩])
 (.cond (.tmp 15) (.region [⟨(some 4), (.mov (.const (.c (.val (.int .i64 4))))), none⟩]) (.seq (.region [⟨(some 19), (.mov (.tmp 0)), none⟩, ⟨(some 20), (.call 31 [(.tmp 19), (.const (.c (.str [47])))]), none⟩, ⟨(some 18), (.mov (.tmp 20)), none⟩])
 (.cond (.tmp 18) (.region [⟨(some 4), (.mov (.const (.c (.val (.int .i64 5))))), none⟩]) (.seq (.region [⟨(some 14), (.load true 4 (.tmp 3)), none⟩, ⟨none, (.store 4 (.tmp 2) (.tmp 14)), none⟩])
 .ret))))))
 a54_c0))))
def a54 : AFunc := ⟨1, [(.cell true 4 2)], (.seq (.region [⟨(some 2), (.box (.const (.agg [(.val (.int .i64 0)), (.val (.int .i64 0)), (.str []), (.ro true 4 [])]))), none⟩])
 (.seq (.region [⟨(some 5), (.mov (.tmp 0)), none⟩, ⟨(some 6), (.call 18 [(.tmp 5)]), none⟩])
 (.seq (.region [⟨(some 7), (.mov (.tmp 0)), none⟩, ⟨(some 8), (.call 19 [(.tmp 7), (.const (.c (.val (.bool true))))]), none⟩, ⟨(some 3), (.box (.const (.agg [(.val (.int .i64 0)), (.val (.int .i64 0)), (.str []), (.ro true 4 [])]))), none⟩, ⟨none, (.store 4 (.tmp 3) (.tmp 8)), none⟩])
 (.block 0 (.loop a54_c1)))))⟩
set_option maxRecDepth 100000 in
theorem c54 : compFunc Tryd.prog 54 = some a54 := by kernel_rfl
def clerestory_calc_reader_product_post (r : (TSTerm × Treader)) : AV → Heap → Nat → Prop := fun v h' n' => v = (.agg [cI r.1.Kind, cI r.1.Dim.Num, .str r.1.Dim.Unit, .ro false 4 (r.1.Subs.map eRaw)]) ∧ (h' = (upd (fun _ => none) 0 (some (.cells 3 [[.ro false 4 (r.2.f_l.map e_TSToken), cI r.2.f_n, cB r.2.f_gapped]])))) ∧ n' = 1
abbrev clerestory_calc_reader_product_l0_H (F_ : (List TSToken) → Int → Bool → Int → Int → (List UInt8) → (List Raw) → Option (TSTerm × Treader)) (o : (TSTerm × Treader)) (R_ : St → Prop) : Prop := ∀ (r0 : (List TSToken)) (r1 : Int) (r2 : Bool) (out0 : Int) (out1 : Int) (out2 : (List UInt8)) (out3 : (List Raw)), F_ r0 r1 r2 out0 out1 out2 out3 = some o → ∀ s, Weak 1 s ⟨(upd (upd (upd (fun _ => none) 0 (some (.c (.ref 0 3 0 0)))) 2 (some (.c (.ref 1 4 0 0)))) 3 (some (.c (.ref 2 4 0 0)))), (upd (upd (upd (fun _ => none) 0 (some (.cells 3 [[.ro false 4 (r0.map e_TSToken), cI r1, cB r2]]))) 1 (some (.cells 4 [[cI 0, cI 0, .str [], .ro true 4 []]]))) 2 (some (.cells 4 [[cI out0, cI out1, .str out2, .ro false 4 (out3.map eRaw)]]))), 3⟩ → R_ s
abbrev clerestory_calc_reader_product_q0 (mL : Int) (Q : AExit → St → Prop) : AExit → St → Prop := ABlock 1 Q
noncomputable def clerestory_calc_reader_product_j3 (rec_clerestory_calc_reader_value : Treader → Bool → Option (TSTerm × Treader)) (out0 : Int) (out1 : Int) (out2 : (List UInt8)) (out3 : (List Raw)) (self : (List TSToken) → Int → Bool → Int → Int → (List UInt8) → (List Raw) → Option (TSTerm × Treader)) (r01 : (List TSToken)) (r11 : Int) (r21 : Bool) (kind : Int) : Option (TSTerm × Treader) :=
  (clerestory_calc_reader_gap (⟨r01, r11, r21⟩ : Treader)).bind fun r_4 =>
  (rec_clerestory_calc_reader_value r_4.2 true).bind fun r_5 =>
  letIn [(⟨e_TSTerm (⟨out0, (⟨out1, out2⟩ : TSDim), out3⟩ : TSTerm), rfl⟩ : Raw), (⟨e_TSTerm r_5.1, rfl⟩ : Raw)] fun row : List Raw =>
  (clerestory_calc_reader_made r_5.2 (⟨kind, (⟨0, []⟩ : TSDim), row⟩ : TSTerm)).bind fun r_7 =>
  self r_7.2.f_l r_7.2.f_n r_7.2.f_gapped r_7.1.Kind r_7.1.Dim.Num r_7.1.Dim.Unit r_7.1.Subs
theorem clerestory_calc_reader_product_j3_ok {mL : Int} {Q : AExit → St → Prop} {rec_clerestory_calc_reader_value : Treader → Bool → Option (TSTerm × Treader)} {out0 : Int} {out1 : Int} {out2 : (List UInt8)} {out3 : (List Raw)} {self : (List TSToken) → Int → Bool → Int → Int → (List UInt8) → (List Raw) → Option (TSTerm × Treader)} {r01 : (List TSToken)} {r11 : Int} {r21 : Bool} {kind : Int} {o : (TSTerm × Treader)} (h : clerestory_calc_reader_product_j3 rec_clerestory_calc_reader_value out0 out1 out2 out3 self r01 r11 r21 kind = some o)
    (hself : clerestory_calc_reader_product_l0_H self o (Q .normal))
    (hr : ∀ s, Ends a54.results 1 (clerestory_calc_reader_product_post o) .ret s → Q .ret s)
    (hrec_clerestory_calc_reader_value : clerestory_calc_reader_value_Rec mL rec_clerestory_calc_reader_value) :
    Sv Tryd.prog (GG mL) 1 a54_c0 (clerestory_calc_reader_product_q0 mL Q) ⟨(upd (upd (upd (upd (fun _ => none) 0 (some (.c (.ref 0 3 0 0)))) 2 (some (.c (.ref 1 4 0 0)))) 3 (some (.c (.ref 2 4 0 0)))) 4 (some (I kind))), (upd (upd (upd (fun _ => none) 0 (some (.cells 3 [[.ro false 4 (r01.map e_TSToken), cI r11, cB r21]]))) 1 (some (.cells 4 [[cI 0, cI 0, .str [], .ro true 4 []]]))) 2 (some (.cells 4 [[cI out0, cI out1, .str out2, .ro false 4 (out3.map eRaw)]]))), 3⟩ := by
  unfold clerestory_calc_reader_product_j3 at h
  refine Sv.seq ?_
  refine Sv.region ?_
  refine un (a1 rfl ?_)
  obtain ⟨r_4, hr4, h⟩ := bnd h
  refine un (ac_gen (bs := [0]) («as» := [(.c (.ref 0 3 0 0))]) (h2 := _) (h1 := (upd (fun _ => none) 0 (some (.cells 3 [[.ro false 4 (r01.map e_TSToken), cI r11, cB r21]])))) (clerestory_calc_reader_gap_ok hr4) rfl (.cons (.c (.ref rfl (by decide))) .nil) (hsub_refl _) (.cons rfl (.nil _)) (fun h => by cases h) (by decide) (by decide) (.cons (.c (.ref rfl (by decide))) .nil) (.box (by decide) rfl (blkAs_cells (.cons (.same rfl) (.cons (.same rfl) (.cons (.same rfl) .nil)))) .nil) ?_)
  rintro _ _ _ hn ⟨rfl, rfl, rfl⟩
  refine ⟨.inl rfl, (upd (rem [0] _) 0 (some (.cells 3 [[.ro false 4 (r_4.2.f_l.map e_TSToken), cI r_4.2.f_n, cB r_4.2.f_gapped]]))), fun hbd => (m3_cons (m3_box rfl rfl) (m3_rem (in_cons (by decide) (in_nil _)) (.cons (by decide) .nil) hbd)), (B r_4.1), 3, rfl, rfl, ?_⟩
  refine dnil ?_
  refine Sv.drawn2 ?_
  refine un (a1 rfl ?_)
  refine un (a1 rfl ?_)
  refine un (a1 rfl ?_)
  refine dnil ?_
  refine ⟨?_, ?_⟩
  · refine un (a1 (v := (.agg [cI out0, cI out1, .str out2, .ro false 4 (out3.map eRaw)])) rfl ?_)
    obtain ⟨r_5, hr5, h⟩ := bnd h
    refine un (ac_gen (bs := [0]) («as» := [(.c (.ref 0 3 0 0)), (B true)]) (h2 := _) (h1 := (upd (fun _ => none) 0 (some (.cells 3 [[.ro false 4 (r_4.2.f_l.map e_TSToken), cI r_4.2.f_n, cB r_4.2.f_gapped]])))) (hrec_clerestory_calc_reader_value r_4.2 true _ hr5) rfl (.cons (.c (.ref rfl (by decide))) (.cons (avAs_free rfl) .nil)) (hsub_refl _) (.cons rfl (.nil _)) (fun h => by cases h) (by decide) (by decide) (.cons (.c (.ref rfl (by decide))) (.cons (avAs_free rfl) .nil)) (.box (by decide) rfl (blkAs_cells (.cons (.same rfl) (.cons (.same rfl) (.cons (.same rfl) .nil)))) .nil) ?_)
    rintro _ _ _ hn ⟨rfl, rfl, rfl⟩
    refine ⟨.inl rfl, (upd (rem [0] _) 0 (some (.cells 3 [[.ro false 4 (r_5.2.f_l.map e_TSToken), cI r_5.2.f_n, cB r_5.2.f_gapped]]))), fun hbd => (m3_cons (m3_box rfl rfl) (m3_rem (in_cons (by decide) (in_nil _)) (.cons (by decide) .nil) hbd)), (.agg [cI r_5.1.Kind, cI r_5.1.Dim.Num, .str r_5.1.Dim.Unit, .ro false 4 (r_5.1.Subs.map eRaw)]), 3, rfl, rfl, ?_⟩
    obtain ⟨row, hrow⟩ : ∃ row : List Raw, row = [(⟨e_TSTerm (⟨out0, (⟨out1, out2⟩ : TSDim), out3⟩ : TSTerm), rfl⟩ : Raw), (⟨e_TSTerm r_5.1, rfl⟩ : Raw)] := ⟨_, rfl⟩
    replace h := letAt hrow h
    refine un (a2v (v := (lstV false 3 4 row.length)) (h' := upd _ 3 (lstB false 4 (row.map eRaw))) (n' := 4) rfl (by rw [hrow]; rfl) (fun h => by cases h) ?_)
    clear hrow
    refine un (a1 (v := (.agg [cI kind, cI 0, .str [], lstC false 3 4 row.length])) rfl ?_)
    refine dweak (show Weak 1 _ ⟨(upd (upd (upd (upd (upd (upd (upd (upd (upd (upd (upd (upd (upd (fun _ => none) 0 (some (.c (.ref 0 3 0 0)))) 2 (some (.c (.ref 1 4 0 0)))) 3 (some (.c (.ref 2 4 0 0)))) 4 (some (I kind))) 21 (some (.c (.ref 0 3 0 0)))) 22 (some (B r_4.1))) 23 (some (.c (.ref 0 3 0 0)))) 24 (some (I kind))) 25 (some (.agg [cI out0, cI out1, .str out2, .ro false 4 (out3.map eRaw)]))) 26 (some (.c (.ref 0 3 0 0)))) 27 (some (.agg [cI r_5.1.Kind, cI r_5.1.Dim.Num, .str r_5.1.Dim.Unit, .ro false 4 (r_5.1.Subs.map eRaw)]))) 28 (some (.c (.ro false 4 (row.map eRaw))))) 29 (some (.agg [cI kind, cI 0, .str [], .ro false 4 (row.map eRaw)]))), (upd (upd (upd (fun _ => none) 0 (some (.cells 3 [[.ro false 4 (r_5.2.f_l.map e_TSToken), cI r_5.2.f_n, cB r_5.2.f_gapped]]))) 1 (some (.cells 4 [[cI 0, cI 0, .str [], .ro true 4 []]]))) 2 (some (.cells 4 [[cI out0, cI out1, .str out2, .ro false 4 (out3.map eRaw)]]))), 4⟩ from (weak_canon [0, 1, 2, 1003] rfl (by decide) (by decide) (by decide) (.cons rfl (avAs_agg (.cons (.same rfl) (.cons (.same rfl) (.cons (.same rfl) (.cons (lstC_ro (es := List.map eRaw row) rfl (List.length_map eRaw).symm (map_nil_of (fun h => by cases h)) (fun b x hx => not_in (bs := [0, 1, 2, 1003]) rfl b (((.cons (by decide) (.cons (by decide) (.cons (by decide) .nil))) : HLt _ _) b x hx)) (fr_map fr_raw)) .nil))))) (.cons rfl (.c (lstC_ro (es := List.map eRaw row) rfl (List.length_map eRaw).symm (map_nil_of (fun h => by cases h)) (fun b x hx => not_in (bs := [0, 1, 2, 1003]) rfl b (((.cons (by decide) (.cons (by decide) (.cons (by decide) .nil))) : HLt _ _) b x hx)) (fr_map fr_raw))) (.cons rfl (avAs_free rfl) (.cons rfl (.c (.ref rfl (by decide))) (.cons rfl (avAs_free rfl) (.cons rfl (avAs_free rfl) (.cons rfl (.c (.ref rfl (by decide))) (.cons rfl (avAs_free rfl) (.cons rfl (.c (.ref rfl (by decide))) (.cons rfl (avAs_free rfl) (.cons rfl (.c (.ref rfl (by decide))) (.cons rfl (.c (.ref rfl (by decide))) (.cons rfl (.c (.ref rfl (by decide))) .nil))))))))))))) (.box (by decide) rfl (blkAs_cells (.cons (.same rfl) (.cons (.same rfl) (.cons (.same rfl) (.cons (.same rfl) .nil))))) (.box (by decide) rfl (blkAs_cells (.cons (.same rfl) (.cons (.same rfl) (.cons (.same rfl) (.cons (.same rfl) .nil))))) (.box (by decide) rfl (blkAs_cells (.cons (.same rfl) (.cons (.same rfl) (.cons (.same rfl) .nil)))) .nil))))) ?_
    obtain ⟨r_7, hr7, h⟩ := bnd h
    refine un (ac_gen (bs := [0]) («as» := [(.c (.ref 0 3 0 0)), (.agg [cI kind, cI 0, .str [], .ro false 4 (row.map eRaw)])]) (h2 := _) (h1 := (upd (fun _ => none) 0 (some (.cells 3 [[.ro false 4 (r_5.2.f_l.map e_TSToken), cI r_5.2.f_n, cB r_5.2.f_gapped]])))) (clerestory_calc_reader_made_ok hr7) rfl (.cons (.c (.ref rfl (by decide))) (.cons (avAs_free rfl) .nil)) (hsub_refl _) (.cons rfl (.nil _)) (fun h => by cases h) (by decide) (by decide) (.cons (.c (.ref rfl (by decide))) (.cons (avAs_free rfl) .nil)) (.box (by decide) rfl (blkAs_cells (.cons (.same rfl) (.cons (.same rfl) (.cons (.same rfl) .nil)))) .nil) ?_)
    rintro _ _ _ hn ⟨rfl, rfl, rfl⟩
    refine ⟨.inl rfl, (upd (rem [0] _) 0 (some (.cells 3 [[.ro false 4 (r_7.2.f_l.map e_TSToken), cI r_7.2.f_n, cB r_7.2.f_gapped]]))), fun hbd => (m3_cons (m3_box rfl rfl) (m3_rem (in_cons (by decide) (in_nil _)) (.cons (by decide) .nil) hbd)), (.agg [cI r_7.1.Kind, cI r_7.1.Dim.Num, .str r_7.1.Dim.Unit, .ro false 4 (r_7.1.Subs.map eRaw)]), 4, rfl, rfl, ?_⟩
    refine un (a2n (h' := upd _ 2 (some (.cells 4 [[cI r_7.1.Kind, cI r_7.1.Dim.Num, .str r_7.1.Dim.Unit, .ro false 4 (r_7.1.Subs.map eRaw)]]))) (n' := 4) rfl rfl (fun h => by cases h) ?_)
    refine dnil ?_
    exact hself r_7.2.f_l r_7.2.f_n r_7.2.f_gapped r_7.1.Kind r_7.1.Dim.Num r_7.1.Dim.Unit r_7.1.Subs h _ (weak_canon [0, 1, 2] rfl (by decide) (by decide) (by decide) (.cons rfl (.c (.ref rfl (by decide))) (.cons rfl (.c (.ref rfl (by decide))) (.cons rfl (.c (.ref rfl (by decide))) .nil))) (.box (by decide) rfl (blkAs_cells (.cons (.same rfl) (.cons (.same rfl) (.cons (.same rfl) (.cons (.same rfl) .nil))))) (.box (by decide) rfl (blkAs_cells (.cons (.same rfl) (.cons (.same rfl) (.cons (.same rfl) (.cons (.same rfl) .nil))))) (.box (by decide) rfl (blkAs_cells (.cons (.same rfl) (.cons (.same rfl) (.cons (.same rfl) .nil)))) .nil))))
  · obtain ⟨r_5, hr5, h⟩ := bnd h
    refine un (ac_gen (bs := [0]) («as» := [(.c (.ref 0 3 0 0)), (B true)]) (h2 := _) (h1 := (upd (fun _ => none) 0 (some (.cells 3 [[.ro false 4 (r_4.2.f_l.map e_TSToken), cI r_4.2.f_n, cB r_4.2.f_gapped]])))) (hrec_clerestory_calc_reader_value r_4.2 true _ hr5) rfl (.cons (.c (.ref rfl (by decide))) (.cons (avAs_free rfl) .nil)) (hsub_refl _) (.cons rfl (.nil _)) (fun h => by cases h) (by decide) (by decide) (.cons (.c (.ref rfl (by decide))) (.cons (avAs_free rfl) .nil)) (.box (by decide) rfl (blkAs_cells (.cons (.same rfl) (.cons (.same rfl) (.cons (.same rfl) .nil)))) .nil) ?_)
    rintro _ _ _ hn ⟨rfl, rfl, rfl⟩
    refine ⟨.inl rfl, (upd (rem [0] _) 0 (some (.cells 3 [[.ro false 4 (r_5.2.f_l.map e_TSToken), cI r_5.2.f_n, cB r_5.2.f_gapped]]))), fun hbd => (m3_cons (m3_box rfl rfl) (m3_rem (in_cons (by decide) (in_nil _)) (.cons (by decide) .nil) hbd)), (.agg [cI r_5.1.Kind, cI r_5.1.Dim.Num, .str r_5.1.Dim.Unit, .ro false 4 (r_5.1.Subs.map eRaw)]), 3, rfl, rfl, ?_⟩
    refine un (a1 (v := (.agg [cI out0, cI out1, .str out2, .ro false 4 (out3.map eRaw)])) rfl ?_)
    obtain ⟨row, hrow⟩ : ∃ row : List Raw, row = [(⟨e_TSTerm (⟨out0, (⟨out1, out2⟩ : TSDim), out3⟩ : TSTerm), rfl⟩ : Raw), (⟨e_TSTerm r_5.1, rfl⟩ : Raw)] := ⟨_, rfl⟩
    replace h := letAt hrow h
    refine un (a2v (v := (lstV false 3 4 row.length)) (h' := upd _ 3 (lstB false 4 (row.map eRaw))) (n' := 4) rfl (by rw [hrow]; rfl) (fun h => by cases h) ?_)
    clear hrow
    refine un (a1 (v := (.agg [cI kind, cI 0, .str [], lstC false 3 4 row.length])) rfl ?_)
    refine dweak (show Weak 1 _ ⟨(upd (upd (upd (upd (upd (upd (upd (upd (upd (upd (upd (upd (upd (fun _ => none) 0 (some (.c (.ref 0 3 0 0)))) 2 (some (.c (.ref 1 4 0 0)))) 3 (some (.c (.ref 2 4 0 0)))) 4 (some (I kind))) 21 (some (.c (.ref 0 3 0 0)))) 22 (some (B r_4.1))) 23 (some (.c (.ref 0 3 0 0)))) 24 (some (I kind))) 25 (some (.agg [cI out0, cI out1, .str out2, .ro false 4 (out3.map eRaw)]))) 26 (some (.c (.ref 0 3 0 0)))) 27 (some (.agg [cI r_5.1.Kind, cI r_5.1.Dim.Num, .str r_5.1.Dim.Unit, .ro false 4 (r_5.1.Subs.map eRaw)]))) 28 (some (.c (.ro false 4 (row.map eRaw))))) 29 (some (.agg [cI kind, cI 0, .str [], .ro false 4 (row.map eRaw)]))), (upd (upd (upd (fun _ => none) 0 (some (.cells 3 [[.ro false 4 (r_5.2.f_l.map e_TSToken), cI r_5.2.f_n, cB r_5.2.f_gapped]]))) 1 (some (.cells 4 [[cI 0, cI 0, .str [], .ro true 4 []]]))) 2 (some (.cells 4 [[cI out0, cI out1, .str out2, .ro false 4 (out3.map eRaw)]]))), 4⟩ from (weak_canon [0, 1, 2, 1003] rfl (by decide) (by decide) (by decide) (.cons rfl (avAs_agg (.cons (.same rfl) (.cons (.same rfl) (.cons (.same rfl) (.cons (lstC_ro (es := List.map eRaw row) rfl (List.length_map eRaw).symm (map_nil_of (fun h => by cases h)) (fun b x hx => not_in (bs := [0, 1, 2, 1003]) rfl b (((.cons (by decide) (.cons (by decide) (.cons (by decide) .nil))) : HLt _ _) b x hx)) (fr_map fr_raw)) .nil))))) (.cons rfl (.c (lstC_ro (es := List.map eRaw row) rfl (List.length_map eRaw).symm (map_nil_of (fun h => by cases h)) (fun b x hx => not_in (bs := [0, 1, 2, 1003]) rfl b (((.cons (by decide) (.cons (by decide) (.cons (by decide) .nil))) : HLt _ _) b x hx)) (fr_map fr_raw))) (.cons rfl (avAs_free rfl) (.cons rfl (.c (.ref rfl (by decide))) (.cons rfl (avAs_free rfl) (.cons rfl (avAs_free rfl) (.cons rfl (.c (.ref rfl (by decide))) (.cons rfl (avAs_free rfl) (.cons rfl (.c (.ref rfl (by decide))) (.cons rfl (avAs_free rfl) (.cons rfl (.c (.ref rfl (by decide))) (.cons rfl (.c (.ref rfl (by decide))) (.cons rfl (.c (.ref rfl (by decide))) .nil))))))))))))) (.box (by decide) rfl (blkAs_cells (.cons (.same rfl) (.cons (.same rfl) (.cons (.same rfl) (.cons (.same rfl) .nil))))) (.box (by decide) rfl (blkAs_cells (.cons (.same rfl) (.cons (.same rfl) (.cons (.same rfl) (.cons (.same rfl) .nil))))) (.box (by decide) rfl (blkAs_cells (.cons (.same rfl) (.cons (.same rfl) (.cons (.same rfl) .nil)))) .nil))))) ?_
    obtain ⟨r_7, hr7, h⟩ := bnd h
    refine un (ac_gen (bs := [0]) («as» := [(.c (.ref 0 3 0 0)), (.agg [cI kind, cI 0, .str [], .ro false 4 (row.map eRaw)])]) (h2 := _) (h1 := (upd (fun _ => none) 0 (some (.cells 3 [[.ro false 4 (r_5.2.f_l.map e_TSToken), cI r_5.2.f_n, cB r_5.2.f_gapped]])))) (clerestory_calc_reader_made_ok hr7) rfl (.cons (.c (.ref rfl (by decide))) (.cons (avAs_free rfl) .nil)) (hsub_refl _) (.cons rfl (.nil _)) (fun h => by cases h) (by decide) (by decide) (.cons (.c (.ref rfl (by decide))) (.cons (avAs_free rfl) .nil)) (.box (by decide) rfl (blkAs_cells (.cons (.same rfl) (.cons (.same rfl) (.cons (.same rfl) .nil)))) .nil) ?_)
    rintro _ _ _ hn ⟨rfl, rfl, rfl⟩
    refine ⟨.inl rfl, (upd (rem [0] _) 0 (some (.cells 3 [[.ro false 4 (r_7.2.f_l.map e_TSToken), cI r_7.2.f_n, cB r_7.2.f_gapped]]))), fun hbd => (m3_cons (m3_box rfl rfl) (m3_rem (in_cons (by decide) (in_nil _)) (.cons (by decide) .nil) hbd)), (.agg [cI r_7.1.Kind, cI r_7.1.Dim.Num, .str r_7.1.Dim.Unit, .ro false 4 (r_7.1.Subs.map eRaw)]), 4, rfl, rfl, ?_⟩
    refine un (a2n (h' := upd _ 2 (some (.cells 4 [[cI r_7.1.Kind, cI r_7.1.Dim.Num, .str r_7.1.Dim.Unit, .ro false 4 (r_7.1.Subs.map eRaw)]]))) (n' := 4) rfl rfl (fun h => by cases h) ?_)
    refine dnil ?_
    exact hself r_7.2.f_l r_7.2.f_n r_7.2.f_gapped r_7.1.Kind r_7.1.Dim.Num r_7.1.Dim.Unit r_7.1.Subs h _ (weak_canon [0, 1, 2] rfl (by decide) (by decide) (by decide) (.cons rfl (.c (.ref rfl (by decide))) (.cons rfl (.c (.ref rfl (by decide))) (.cons rfl (.c (.ref rfl (by decide))) .nil))) (.box (by decide) rfl (blkAs_cells (.cons (.same rfl) (.cons (.same rfl) (.cons (.same rfl) (.cons (.same rfl) .nil))))) (.box (by decide) rfl (blkAs_cells (.cons (.same rfl) (.cons (.same rfl) (.cons (.same rfl) (.cons (.same rfl) .nil))))) (.box (by decide) rfl (blkAs_cells (.cons (.same rfl) (.cons (.same rfl) (.cons (.same rfl) .nil)))) .nil))))
abbrev clerestory_calc_reader_product_l0_I (F_ : Nat → (List TSToken) → Int → Bool → Int → Int → (List UInt8) → (List Raw) → Option (TSTerm × Treader)) (o : (TSTerm × Treader)) : Nat → St → Prop := fun k s => ∃ (r0 : (List TSToken)), ∃ (r1 : Int), ∃ (r2 : Bool), ∃ (out0 : Int), ∃ (out1 : Int), ∃ (out2 : (List UInt8)), ∃ (out3 : (List Raw)), F_ k r0 r1 r2 out0 out1 out2 out3 = some o ∧ s = ⟨(upd (upd (upd (fun _ => none) 0 (some (.c (.ref 0 3 0 0)))) 2 (some (.c (.ref 1 4 0 0)))) 3 (some (.c (.ref 2 4 0 0)))), (upd (upd (upd (fun _ => none) 0 (some (.cells 3 [[.ro false 4 (r0.map e_TSToken), cI r1, cB r2]]))) 1 (some (.cells 4 [[cI 0, cI 0, .str [], .ro true 4 []]]))) 2 (some (.cells 4 [[cI out0, cI out1, .str out2, .ro false 4 (out3.map eRaw)]]))), 3⟩
noncomputable def clerestory_calc_reader_product_l0 (rec_clerestory_calc_reader_value : Treader → Bool → Option (TSTerm × Treader)) : Nat → (List TSToken) → Int → Bool → Int → Int → (List UInt8) → (List Raw) → Option (TSTerm × Treader)
  | 0, _, _, _, _, _, _, _ => none
  | k + 1, r0, r1, r2, out0, out1, out2, out3 =>
    (clerestory_calc_reader_gap (⟨r0, r1, r2⟩ : Treader)).bind fun r_3 =>
    (clerestory_calc_reader_raw (⟨r_3.2.f_l, r_3.2.f_n, r_3.1⟩ : Treader) [42]).bind fun r_8 =>
    if r_8.1 then
      clerestory_calc_reader_product_j3 rec_clerestory_calc_reader_value out0 out1 out2 out3 (clerestory_calc_reader_product_l0 rec_clerestory_calc_reader_value k) r_8.2.f_l r_8.2.f_n r_8.2.f_gapped 4
    else
      (clerestory_calc_reader_raw r_8.2 [47]).bind fun r_9 =>
      if r_9.1 then
        clerestory_calc_reader_product_j3 rec_clerestory_calc_reader_value out0 out1 out2 out3 (clerestory_calc_reader_product_l0 rec_clerestory_calc_reader_value k) r_9.2.f_l r_9.2.f_n r_9.2.f_gapped 5
      else
        some ((⟨out0, (⟨out1, out2⟩ : TSDim), out3⟩ : TSTerm), r_9.2)
theorem clerestory_calc_reader_product_l0_ok {mL : Int} {Q : AExit → St → Prop} {rec_clerestory_calc_reader_value : Treader → Bool → Option (TSTerm × Treader)} {k : Nat} {r0 : (List TSToken)} {r1 : Int} {r2 : Bool} {out0 : Int} {out1 : Int} {out2 : (List UInt8)} {out3 : (List Raw)} {o : (TSTerm × Treader)} (h : clerestory_calc_reader_product_l0 rec_clerestory_calc_reader_value k r0 r1 r2 out0 out1 out2 out3 = some o)
    (hr : ∀ s, Ends a54.results 1 (clerestory_calc_reader_product_post o) .ret s → Q .ret s)
    (hrec_clerestory_calc_reader_value : clerestory_calc_reader_value_Rec mL rec_clerestory_calc_reader_value) :
    Sv Tryd.prog (GG mL) 1 (.loop a54_c1) Q ⟨(upd (upd (upd (fun _ => none) 0 (some (.c (.ref 0 3 0 0)))) 2 (some (.c (.ref 1 4 0 0)))) 3 (some (.c (.ref 2 4 0 0)))), (upd (upd (upd (fun _ => none) 0 (some (.cells 3 [[.ro false 4 (r0.map e_TSToken), cI r1, cB r2]]))) 1 (some (.cells 4 [[cI 0, cI 0, .str [], .ro true 4 []]]))) 2 (some (.cells 4 [[cI out0, cI out1, .str out2, .ro false 4 (out3.map eRaw)]]))), 3⟩ := by
  refine Sv.loop (I := clerestory_calc_reader_product_l0_I (clerestory_calc_reader_product_l0 rec_clerestory_calc_reader_value) o) (fun k s hI => ?_) ⟨r0, r1, r2, out0, out1, out2, out3, h, rfl⟩
  clear h
  clear out3 out2 out1 out0 r2 r1 r0
  obtain ⟨r0, r1, r2, out0, out1, out2, out3, h, rfl⟩ := hI
  cases k with
  | zero => cases h
  | succ k =>
  rw [clerestory_calc_reader_product_l0] at h
  have hself : clerestory_calc_reader_product_l0_H (clerestory_calc_reader_product_l0 rec_clerestory_calc_reader_value k) o (rnd 1 (clerestory_calc_reader_product_l0_I (clerestory_calc_reader_product_l0 rec_clerestory_calc_reader_value) o) k Q) := fun r0 r1 r2 out0 out1 out2 out3 h s hw => ⟨_, k, hw, Nat.lt_succ_self k, r0, r1, r2, out0, out1, out2, out3, h, rfl⟩
  refine Sv.block ?_
  refine Sv.seq ?_
  refine Sv.region ?_
  refine un (a1 rfl ?_)
  refine un (a1 rfl ?_)
  obtain ⟨r_3, hr3, h⟩ := bnd h
  refine un (ac_gen (bs := [0]) («as» := [(.c (.ref 0 3 0 0))]) (h2 := _) (h1 := (upd (fun _ => none) 0 (some (.cells 3 [[.ro false 4 (r0.map e_TSToken), cI r1, cB r2]])))) (clerestory_calc_reader_gap_ok hr3) rfl (.cons (.c (.ref rfl (by decide))) .nil) (hsub_refl _) (.cons rfl (.nil _)) (fun h => by cases h) (by decide) (by decide) (.cons (.c (.ref rfl (by decide))) .nil) (.box (by decide) rfl (blkAs_cells (.cons (.same rfl) (.cons (.same rfl) (.cons (.same rfl) .nil)))) .nil) ?_)
  rintro _ _ _ hn ⟨rfl, rfl, rfl⟩
  refine ⟨.inl rfl, (upd (rem [0] _) 0 (some (.cells 3 [[.ro false 4 (r_3.2.f_l.map e_TSToken), cI r_3.2.f_n, cB r_3.2.f_gapped]]))), fun hbd => (m3_cons (m3_box rfl rfl) (m3_rem (in_cons (by decide) (in_nil _)) (.cons (by decide) .nil) hbd)), (B r_3.1), 3, rfl, rfl, ?_⟩
  refine un (a1 (v := (.c (.ref 0 3 0 0))) rfl ?_)
  refine un (a1 (v := (.c (.ref 0 3 0 2))) rfl ?_)
  refine un (a2n (h' := upd _ 0 (some (.cells 3 [[.ro false 4 (r_3.2.f_l.map e_TSToken), cI r_3.2.f_n, cB r_3.1]]))) (n' := 3) rfl rfl (fun h => by cases h) ?_)
  refine dnil ?_
  refine Sv.seq ?_
  refine Sv.region ?_
  refine un (a1 rfl ?_)
  refine dnil ?_
  refine Sv.seq ?_
  refine Sv.block ?_
  refine Sv.seq ?_
  refine Sv.region ?_
  refine un (a1 rfl ?_)
  obtain ⟨r_8, hr8, h⟩ := bnd h
  refine un (ac_gen (bs := [0]) («as» := [(.c (.ref 0 3 0 0)), (S [42])]) (h2 := _) (h1 := (upd (fun _ => none) 0 (some (.cells 3 [[.ro false 4 (r_3.2.f_l.map e_TSToken), cI r_3.2.f_n, cB r_3.1]])))) (clerestory_calc_reader_raw_ok hr8) rfl (.cons (.c (.ref rfl (by decide))) (.cons (avAs_free rfl) .nil)) (hsub_refl _) (.cons rfl (.nil _)) (fun h => by cases h) (by decide) (by decide) (.cons (.c (.ref rfl (by decide))) (.cons (avAs_free rfl) .nil)) (.box (by decide) rfl (blkAs_cells (.cons (.same rfl) (.cons (.same rfl) (.cons (.same rfl) .nil)))) .nil) ?_)
  rintro _ _ _ hn ⟨rfl, rfl, rfl⟩
  refine ⟨.inl rfl, (upd (rem [0] _) 0 (some (.cells 3 [[.ro false 4 (r_8.2.f_l.map e_TSToken), cI r_8.2.f_n, cB r_8.2.f_gapped]]))), fun hbd => (m3_cons (m3_box rfl rfl) (m3_rem (in_cons (by decide) (in_nil _)) (.cons (by decide) .nil) hbd)), (B r_8.1), 3, rfl, rfl, ?_⟩
  refine un (a1 rfl ?_)
  refine dnil ?_
  refine Sv.cond (b := r_8.1) rfl (fun hc1 => ?_) (fun hc1 => ?_)
  · replace h := ifT hc1 h
    refine Sv.region ?_
    refine un (a1 rfl ?_)
    refine dnil ?_
    exact Sv.weak (weak_canon [0, 1, 2] rfl (by decide) (by decide) (by decide) (.cons rfl (avAs_free rfl) (.cons rfl (.c (.ref rfl (by decide))) (.cons rfl (.c (.ref rfl (by decide))) (.cons rfl (.c (.ref rfl (by decide))) .nil)))) (.box (by decide) rfl (blkAs_cells (.cons (.same rfl) (.cons (.same rfl) (.cons (.same rfl) (.cons (.same rfl) .nil))))) (.box (by decide) rfl (blkAs_cells (.cons (.same rfl) (.cons (.same rfl) (.cons (.same rfl) (.cons (.same rfl) .nil))))) (.box (by decide) rfl (blkAs_cells (.cons (.same rfl) (.cons (.same rfl) (.cons (.same rfl) .nil)))) .nil)))) (clerestory_calc_reader_product_j3_ok h hself hr hrec_clerestory_calc_reader_value)
  · replace h := ifF hc1 h
    refine Sv.seq ?_
    refine Sv.region ?_
    refine un (a1 rfl ?_)
    obtain ⟨r_9, hr9, h⟩ := bnd h
    refine un (ac_gen (bs := [0]) («as» := [(.c (.ref 0 3 0 0)), (S [47])]) (h2 := _) (h1 := (upd (fun _ => none) 0 (some (.cells 3 [[.ro false 4 (r_8.2.f_l.map e_TSToken), cI r_8.2.f_n, cB r_8.2.f_gapped]])))) (clerestory_calc_reader_raw_ok hr9) rfl (.cons (.c (.ref rfl (by decide))) (.cons (avAs_free rfl) .nil)) (hsub_refl _) (.cons rfl (.nil _)) (fun h => by cases h) (by decide) (by decide) (.cons (.c (.ref rfl (by decide))) (.cons (avAs_free rfl) .nil)) (.box (by decide) rfl (blkAs_cells (.cons (.same rfl) (.cons (.same rfl) (.cons (.same rfl) .nil)))) .nil) ?_)
    rintro _ _ _ hn ⟨rfl, rfl, rfl⟩
    refine ⟨.inl rfl, (upd (rem [0] _) 0 (some (.cells 3 [[.ro false 4 (r_9.2.f_l.map e_TSToken), cI r_9.2.f_n, cB r_9.2.f_gapped]]))), fun hbd => (m3_cons (m3_box rfl rfl) (m3_rem (in_cons (by decide) (in_nil _)) (.cons (by decide) .nil) hbd)), (B r_9.1), 3, rfl, rfl, ?_⟩
    refine un (a1 rfl ?_)
    refine dnil ?_
    refine Sv.cond (b := r_9.1) rfl (fun hc2 => ?_) (fun hc2 => ?_)
    · replace h := ifT hc2 h
      refine Sv.region ?_
      refine un (a1 rfl ?_)
      refine dnil ?_
      exact Sv.weak (weak_canon [0, 1, 2] rfl (by decide) (by decide) (by decide) (.cons rfl (avAs_free rfl) (.cons rfl (.c (.ref rfl (by decide))) (.cons rfl (.c (.ref rfl (by decide))) (.cons rfl (.c (.ref rfl (by decide))) .nil)))) (.box (by decide) rfl (blkAs_cells (.cons (.same rfl) (.cons (.same rfl) (.cons (.same rfl) (.cons (.same rfl) .nil))))) (.box (by decide) rfl (blkAs_cells (.cons (.same rfl) (.cons (.same rfl) (.cons (.same rfl) (.cons (.same rfl) .nil))))) (.box (by decide) rfl (blkAs_cells (.cons (.same rfl) (.cons (.same rfl) (.cons (.same rfl) .nil)))) .nil)))) (clerestory_calc_reader_product_j3_ok h hself hr hrec_clerestory_calc_reader_value)
    · replace h := ifF hc2 h
      refine Sv.seq ?_
      refine Sv.region ?_
      refine un (a1 (v := (.agg [cI out0, cI out1, .str out2, .ro false 4 (out3.map eRaw)])) rfl ?_)
      refine un (a2n (h' := upd _ 1 (some (.cells 4 [[cI out0, cI out1, .str out2, .ro false 4 (out3.map eRaw)]]))) (n' := 3) rfl rfl (fun h => by cases h) ?_)
      refine dnil ?_
      refine Sv.ret ?_
      replace h := Option.some.inj h
      subst h
      exact hr _ ⟨_, .refl _, _, rfl, ⟨upd (fun _ => none) 0 (some (.agg [cI out0, cI out1, .str out2, .ro false 4 (out3.map eRaw)])), (upd (fun _ => none) 0 (some (.cells 3 [[.ro false 4 (r_9.2.f_l.map e_TSToken), cI r_9.2.f_n, cB r_9.2.f_gapped]]))), 1⟩, (.agg [cI out0, cI out1, .str out2, .ro false 4 (out3.map eRaw)]), weak_canon2 [0] [0] (by decide) (by decide) (by decide) (.cons (by decide) .nil) (.cons rfl (avAs_free rfl) .nil) (.box (by decide) rfl (blkAs_cells (.cons (.same rfl) (.cons (.same rfl) (.cons (.same rfl) .nil)))) .nil), rfl, rfl, rfl, rfl⟩
/-- (*clerestory/calc.reader).product -/
noncomputable def clerestory_calc_reader_product (rec_clerestory_calc_reader_value : Treader → Bool → Option (TSTerm × Treader)) (r_ : Treader) : Option (TSTerm × Treader) :=
  (clerestory_calc_reader_gap r_).bind fun r_1 =>
  (rec_clerestory_calc_reader_value r_1.2 true).bind fun r_2 =>
  limF fun kk => clerestory_calc_reader_product_l0 rec_clerestory_calc_reader_value kk r_2.2.f_l r_2.2.f_n r_2.2.f_gapped r_2.1.Kind r_2.1.Dim.Num r_2.1.Dim.Unit r_2.1.Subs
theorem clerestory_calc_reader_product_ok {mL : Int} {rec_clerestory_calc_reader_value : Treader → Bool → Option (TSTerm × Treader)} (hrec_clerestory_calc_reader_value : clerestory_calc_reader_value_Rec mL rec_clerestory_calc_reader_value) {r_ : Treader} {r : (TSTerm × Treader)} (h : clerestory_calc_reader_product rec_clerestory_calc_reader_value r_ = some r) : ACalls Tryd.prog (GG mL) 54 [(.c (.ref 0 3 0 0))] (upd (fun _ => none) 0 (some (.cells 3 [[.ro false 4 (r_.f_l.map e_TSToken), cI r_.f_n, cB r_.f_gapped]]))) 1 (clerestory_calc_reader_product_post r) := by
  refine acalls_of_sv hmix c54 (R := clerestory_calc_reader_product_post r) ?_
  unfold clerestory_calc_reader_product at h
  refine Sv.seq ?_
  refine Sv.region ?_
  refine un (a2v (v := (.c (.ref 1 4 0 0))) (h' := upd _ 1 (some (.cells 4 [[cI 0, cI 0, .str [], .ro true 4 []]]))) (n' := 2) rfl rfl (fun h => by cases h) ?_)
  refine dnil ?_
  refine Sv.seq ?_
  refine Sv.region ?_
  refine un (a1 rfl ?_)
  obtain ⟨r_1, hr1, h⟩ := bnd h
  refine un (ac_gen (bs := [0]) («as» := [(.c (.ref 0 3 0 0))]) (h2 := _) (h1 := (upd (fun _ => none) 0 (some (.cells 3 [[.ro false 4 (r_.f_l.map e_TSToken), cI r_.f_n, cB r_.f_gapped]])))) (clerestory_calc_reader_gap_ok hr1) rfl (.cons (.c (.ref rfl (by decide))) .nil) (hsub_refl _) (.cons rfl (.nil _)) (fun h => by cases h) (by decide) (by decide) (.cons (.c (.ref rfl (by decide))) .nil) (.box (by decide) rfl (blkAs_cells (.cons (.same rfl) (.cons (.same rfl) (.cons (.same rfl) .nil)))) .nil) ?_)
  rintro _ _ _ hn ⟨rfl, rfl, rfl⟩
  refine ⟨.inl rfl, (upd (rem [0] _) 0 (some (.cells 3 [[.ro false 4 (r_1.2.f_l.map e_TSToken), cI r_1.2.f_n, cB r_1.2.f_gapped]]))), fun hbd => (m3_cons (m3_box rfl rfl) (m3_rem (in_cons (by decide) (in_nil _)) (.cons (by decide) .nil) hbd)), (B r_1.1), 2, rfl, rfl, ?_⟩
  refine dnil ?_
  refine Sv.seq ?_
  refine Sv.region ?_
  refine un (a1 rfl ?_)
  obtain ⟨r_2, hr2, h⟩ := bnd h
  refine un (ac_gen (bs := [0]) («as» := [(.c (.ref 0 3 0 0)), (B true)]) (h2 := _) (h1 := (upd (fun _ => none) 0 (some (.cells 3 [[.ro false 4 (r_1.2.f_l.map e_TSToken), cI r_1.2.f_n, cB r_1.2.f_gapped]])))) (hrec_clerestory_calc_reader_value r_1.2 true _ hr2) rfl (.cons (.c (.ref rfl (by decide))) (.cons (avAs_free rfl) .nil)) (hsub_refl _) (.cons rfl (.nil _)) (fun h => by cases h) (by decide) (by decide) (.cons (.c (.ref rfl (by decide))) (.cons (avAs_free rfl) .nil)) (.box (by decide) rfl (blkAs_cells (.cons (.same rfl) (.cons (.same rfl) (.cons (.same rfl) .nil)))) .nil) ?_)
  rintro _ _ _ hn ⟨rfl, rfl, rfl⟩
  refine ⟨.inl rfl, (upd (rem [0] _) 0 (some (.cells 3 [[.ro false 4 (r_2.2.f_l.map e_TSToken), cI r_2.2.f_n, cB r_2.2.f_gapped]]))), fun hbd => (m3_cons (m3_box rfl rfl) (m3_rem (in_cons (by decide) (in_nil _)) (.cons (by decide) .nil) hbd)), (.agg [cI r_2.1.Kind, cI r_2.1.Dim.Num, .str r_2.1.Dim.Unit, .ro false 4 (r_2.1.Subs.map eRaw)]), 2, rfl, rfl, ?_⟩
  refine un (a2v (v := (.c (.ref 2 4 0 0))) (h' := upd _ 2 (some (.cells 4 [[cI 0, cI 0, .str [], .ro true 4 []]]))) (n' := 3) rfl rfl (fun h => by cases h) ?_)
  refine un (a2n (h' := upd _ 2 (some (.cells 4 [[cI r_2.1.Kind, cI r_2.1.Dim.Num, .str r_2.1.Dim.Unit, .ro false 4 (r_2.1.Subs.map eRaw)]]))) (n' := 3) rfl rfl (fun h => by cases h) ?_)
  refine dnil ?_
  refine Sv.block ?_
  obtain ⟨kk, h⟩ := limF_some h
  refine Sv.weak (weak_canon [0, 1, 2] rfl (by decide) (by decide) (by decide) (.cons rfl (.c (.ref rfl (by decide))) (.cons rfl (.c (.ref rfl (by decide))) (.cons rfl (.c (.ref rfl (by decide))) .nil))) (.box (by decide) rfl (blkAs_cells (.cons (.same rfl) (.cons (.same rfl) (.cons (.same rfl) (.cons (.same rfl) .nil))))) (.box (by decide) rfl (blkAs_cells (.cons (.same rfl) (.cons (.same rfl) (.cons (.same rfl) (.cons (.same rfl) .nil))))) (.box (by decide) rfl (blkAs_cells (.cons (.same rfl) (.cons (.same rfl) (.cons (.same rfl) .nil)))) .nil)))) (clerestory_calc_reader_product_l0_ok h  (fun s hs => hs) hrec_clerestory_calc_reader_value)
def a30_c1 : ACode := (.cond (.tmp 30) (.region [⟨(some 5), (.mov (.const (.c (.val (.int .i64 3))))), none⟩]) (.seq (.region [⟨(some 12), (.load true 4 (.tmp 3)), none⟩, ⟨none, (.store 4 (.tmp 2) (.tmp 12)), none⟩])
 .ret))
def a30_c0 : ACode := (.cond (.tmp 13) (.region [⟨(some 5), (.mov (.const (.c (.val (.int .i64 2))))), none⟩]) (.seq (.region [⟨(some 31), (.mov (.tmp 0)), none⟩, ⟨(some 32), (.nilc (.tmp 31)), none⟩, ⟨(some 33), (.faddr 0 (.tmp 32)), none⟩, ⟨(some 34), (.load false 1 (.tmp 33)), none⟩, ⟨(some 35), (.len (.tmp 34)), none⟩, ⟨(some 36), (.bin .gtr (.tmp 35) (.const (.c (.val (.int .i64 0))))), none⟩, ⟨(some 37), (.mov (.tmp 36)), none⟩, ⟨(some 38), (.mov (.tmp 0)), (some (37, true))⟩, ⟨(some 39), (.nilc (.tmp 38)), (some (37, true))⟩, ⟨(some 40), (.faddr 0 (.tmp 39)), (some (37, true))⟩, ⟨(some 41), (.load false 1 (.tmp 40)), (some (37, true))⟩, ⟨(some 42), (.iaddr 4 (.tmp 41) (.const (.c (.val (.int .i64 0))))), (some (37, true))⟩, ⟨(some 43), (.faddr 1 (.tmp 42)), (some (37, true))⟩, ⟨(some 44), (.load false 1 (.tmp 43)), (some (37, true))⟩, ⟨(some 45), (.bin .eql (.tmp 44) (.const (.c (.str [45])))), (some (37, true))⟩, ⟨(some 46), (.pick (.tmp 37) (.tmp 45) (.const (.c (.val (.bool false))))), none⟩, ⟨(some 30), (.mov (.tmp 46)), none⟩])
 a30_c1))
def a30_c3 : ACode := (.drawn (.alt [(⟨(some 62), (.mov (.tmp 0)), none⟩, (0, 0)), (⟨(some 63), (.mov (.tmp 5)), none⟩, (0, 1)), (⟨(some 65), (.mov (.tmp 0)), none⟩, (0, 3))] (.fin [(⟨(some 64), (.load true 4 (.tmp 3)), none⟩, (2, 2)), (⟨(some 66), (.call 54 [(.tmp 65)]), none⟩, (2, 4)), (⟨(some 67), (.bslice 4 [(.val (.int .i64 0)), (.val (.int .i64 0)), (.str []), (.ro true 4 [])] 2 [(0, (.tmp 64)), (1, (.tmp 66))]), none⟩, (2, 5)), (⟨(some 68), (.build [(.val (.int .i64 0)), (.val (.int .i64 0)), (.str []), (.ro true 4 [])] [(0, (1, (.tmp 63))), (3, (1, (.tmp 67)))]), none⟩, (0, 6)), (⟨(some 69), (.call 29 [(.tmp 62), (.tmp 68)]), none⟩, (2, 7)), (⟨none, (.store 4 (.tmp 3) (.tmp 69)), none⟩, (2, 8))]) (.fin [(⟨(some 66), (.call 54 [(.tmp 65)]), none⟩, (2, 4)), (⟨(some 64), (.load true 4 (.tmp 3)), none⟩, (2, 2)), (⟨(some 67), (.bslice 4 [(.val (.int .i64 0)), (.val (.int .i64 0)), (.str []), (.ro true 4 [])] 2 [(0, (.tmp 64)), (1, (.tmp 66))]), none⟩, (2, 5)), (⟨(some 68), (.build [(.val (.int .i64 0)), (.val (.int .i64 0)), (.str []), (.ro true 4 [])] [(0, (1, (.tmp 63))), (3, (1, (.tmp 67)))]), none⟩, (0, 6)), (⟨(some 69), (.call 29 [(.tmp 62), (.tmp 68)]), none⟩, (2, 7)), (⟨none, (.store 4 (.tmp 3) (.tmp 69)), none⟩, (2, 8))])))
def a30_c2 : ACode := (.seq (.region [⟨(some 47), (.mov (.tmp 0)), none⟩, ⟨(some 48), (.mov (.tmp 0)), none⟩, ⟨(some 49), (.nilc (.tmp 48)), none⟩, ⟨(some 50), (.faddr 0 (.tmp 49)), none⟩, ⟨(some 51), (.load false 1 (.tmp 50)), none⟩, ⟨(some 52), (.slSl 4 (.tmp 51) (some (.const (.c (.val (.int .i64 1))))) none none), none⟩, ⟨(some 53), (.nilc (.tmp 47)), none⟩, ⟨(some 54), (.faddr 0 (.tmp 53)), none⟩, ⟨none, (.store 1 (.tmp 54) (.tmp 52)), none⟩])
 (.seq (.region [⟨(some 55), (.mov (.tmp 0)), none⟩, ⟨(some 56), (.mov (.tmp 4)), none⟩, ⟨(some 57), (.mov (.tmp 56)), none⟩, ⟨(some 58), (.mov (.tmp 0)), (some (57, true))⟩, ⟨(some 59), (.call 18 [(.tmp 58)]), (some (57, true))⟩, ⟨(some 60), (.pick (.tmp 57) (.tmp 59) (.const (.c (.val (.bool false))))), none⟩, ⟨(some 61), (.call 20 [(.tmp 55), (.tmp 60)]), none⟩])
 a30_c3))
def a30_c4 : ACode := (.block 1 (.seq (.region [⟨(some 8), (.mov (.tmp 0)), none⟩, ⟨(some 9), (.nilc (.tmp 8)), none⟩, ⟨(some 10), (.faddr 2 (.tmp 9)), none⟩, ⟨(some 11), (.load false 1 (.tmp 10)), none⟩, ⟨(some 4), (.mov (.tmp 11)), none⟩])
 (.seq (.region [⟨(some 5), (.mov (.const (.c (.val (.int .i64 0))))), none⟩])
 (.seq (.block 2 (.seq (.region [⟨(some 14), (.mov (.tmp 0)), none⟩, ⟨(some 15), (.nilc (.tmp 14)), none⟩, ⟨(some 16), (.faddr 0 (.tmp 15)), none⟩, ⟨(some 17), (.load false 1 (.tmp 16)), none⟩, ⟨(some 18), (.len (.tmp 17)), none⟩, ⟨(some 19), (.bin .gtr (.tmp 18) (.const (.c (.val (.int .i64 0))))), none⟩, ⟨(some 20), (.mov (.tmp 19)), none⟩, ⟨(some 21), (.mov (.tmp 0)), (some (20, true))⟩, ⟨(some 22), (.nilc (.tmp 21)), (some (20, true))⟩, ⟨(some 23), (.faddr 0 (.tmp 22)), (some (20, true))⟩, ⟨(some 24), (.load false 1 (.tmp 23)), (some (20, true))⟩, ⟨(some 25), (.iaddr 4 (.tmp 24) (.const (.c (.val (.int .i64 0))))), (some (20, true))⟩, ⟨(some 26), (.faddr 1 (.tmp 25)), (some (20, true))⟩, ⟨(some 27), (.load false 1 (.tmp 26)), (some (20, true))⟩, ⟨(some 28), (.bin .eql (.tmp 27) (.const (.c (.str [43])))), (some (20, true))⟩, ⟨(some 29), (.pick (.tmp 20) (.tmp 28) (.const (.c (.val (.bool false))))), none⟩, ⟨(some 13), (.mov (.tmp 29)), none⟩])
 a30_c0))
 a30_c2))))
def a30 : AFunc := ⟨1, [(.cell true 4 2)], (.seq (.region [⟨(some 2), (.box (.const (.agg [(.val (.int .i64 0)), (.val (.int .i64 0)), (.str []), (.ro true 4 [])]))), none⟩])
 (.seq (.region [⟨(some 6), (.mov (.tmp 0)), none⟩, ⟨(some 7), (.call 54 [(.tmp 6)]), none⟩, ⟨(some 3), (.box (.const (.agg [(.val (.int .i64 0)), (.val (.int .i64 0)), (.str []), (.ro true 4 [])]))), none⟩, ⟨none, (.store 4 (.tmp 3) (.tmp 7)), none⟩])
 (.block 0 (.loop a30_c4))))⟩
set_option maxRecDepth 100000 in
theorem c30 : compFunc Tryd.prog 30 = some a30 := by kernel_rfl
def clerestory_calc_reader_sum_post (r : (TSTerm × Treader)) : AV → Heap → Nat → Prop := fun v h' n' => v = (.agg [cI r.1.Kind, cI r.1.Dim.Num, .str r.1.Dim.Unit, .ro false 4 (r.1.Subs.map eRaw)]) ∧ (h' = (upd (fun _ => none) 0 (some (.cells 3 [[.ro false 4 (r.2.f_l.map e_TSToken), cI r.2.f_n, cB r.2.f_gapped]])))) ∧ n' = 1
abbrev clerestory_calc_reader_sum_l0_H (F_ : (List TSToken) → Int → Bool → Int → Int → (List UInt8) → (List Raw) → Option (TSTerm × Treader)) (o : (TSTerm × Treader)) (R_ : St → Prop) : Prop := ∀ (r0 : (List TSToken)) (r1 : Int) (r2 : Bool) (out0 : Int) (out1 : Int) (out2 : (List UInt8)) (out3 : (List Raw)), F_ r0 r1 r2 out0 out1 out2 out3 = some o → ∀ s, Weak 1 s ⟨(upd (upd (upd (fun _ => none) 0 (some (.c (.ref 0 3 0 0)))) 2 (some (.c (.ref 1 4 0 0)))) 3 (some (.c (.ref 2 4 0 0)))), (upd (upd (upd (fun _ => none) 0 (some (.cells 3 [[.ro false 4 (r0.map e_TSToken), cI r1, cB r2]]))) 1 (some (.cells 4 [[cI 0, cI 0, .str [], .ro true 4 []]]))) 2 (some (.cells 4 [[cI out0, cI out1, .str out2, .ro false 4 (out3.map eRaw)]]))), 3⟩ → R_ s
abbrev clerestory_calc_reader_sum_q0 (mL : Int) (Q : AExit → St → Prop) : AExit → St → Prop := ABlock 1 Q
noncomputable def clerestory_calc_reader_sum_j22 (rec_clerestory_calc_reader_value : Treader → Bool → Option (TSTerm × Treader)) (out0 : Int) (out1 : Int) (out2 : (List UInt8)) (out3 : (List Raw)) (kind : Int) (self : (List TSToken) → Int → Bool → Int → Int → (List UInt8) → (List Raw) → Option (TSTerm × Treader)) (r01 : (List TSToken)) (r11 : Int) (r21 : Bool) : Option (TSTerm × Treader) :=
  (clerestory_calc_reader_product rec_clerestory_calc_reader_value (⟨r01, r11, r21⟩ : Treader)).bind fun r_3 =>
  letIn [(⟨e_TSTerm (⟨out0, (⟨out1, out2⟩ : TSDim), out3⟩ : TSTerm), rfl⟩ : Raw), (⟨e_TSTerm r_3.1, rfl⟩ : Raw)] fun row : List Raw =>
  (clerestory_calc_reader_made r_3.2 (⟨kind, (⟨0, []⟩ : TSDim), row⟩ : TSTerm)).bind fun r_5 =>
  self r_5.2.f_l r_5.2.f_n r_5.2.f_gapped r_5.1.Kind r_5.1.Dim.Num r_5.1.Dim.Unit r_5.1.Subs
theorem clerestory_calc_reader_sum_j22_ok {mL : Int} {Q : AExit → St → Prop} {rec_clerestory_calc_reader_value : Treader → Bool → Option (TSTerm × Treader)} {out0 : Int} {out1 : Int} {out2 : (List UInt8)} {out3 : (List Raw)} {kind : Int} {self : (List TSToken) → Int → Bool → Int → Int → (List UInt8) → (List Raw) → Option (TSTerm × Treader)} {r01 : (List TSToken)} {r11 : Int} {r21 : Bool} {o : (TSTerm × Treader)} (h : clerestory_calc_reader_sum_j22 rec_clerestory_calc_reader_value out0 out1 out2 out3 kind self r01 r11 r21 = some o)
    (hself : clerestory_calc_reader_sum_l0_H self o (Q .normal))
    (hr : ∀ s, Ends a30.results 1 (clerestory_calc_reader_sum_post o) .ret s → Q .ret s)
    (hrec_clerestory_calc_reader_value : clerestory_calc_reader_value_Rec mL rec_clerestory_calc_reader_value) :
    Sv Tryd.prog (GG mL) 1 a30_c3 (clerestory_calc_reader_sum_q0 mL Q) ⟨(upd (upd (upd (upd (fun _ => none) 0 (some (.c (.ref 0 3 0 0)))) 2 (some (.c (.ref 1 4 0 0)))) 3 (some (.c (.ref 2 4 0 0)))) 5 (some (I kind))), (upd (upd (upd (fun _ => none) 0 (some (.cells 3 [[.ro false 4 (r01.map e_TSToken), cI r11, cB r21]]))) 1 (some (.cells 4 [[cI 0, cI 0, .str [], .ro true 4 []]]))) 2 (some (.cells 4 [[cI out0, cI out1, .str out2, .ro false 4 (out3.map eRaw)]]))), 3⟩ := by
  unfold clerestory_calc_reader_sum_j22 at h
  refine Sv.drawn2 ?_
  refine un (a1 rfl ?_)
  refine un (a1 rfl ?_)
  refine un (a1 rfl ?_)
  refine dnil ?_
  refine ⟨?_, ?_⟩
  · refine un (a1 (v := (.agg [cI out0, cI out1, .str out2, .ro false 4 (out3.map eRaw)])) rfl ?_)
    obtain ⟨r_3, hr2, h⟩ := bnd h
    refine un (ac_gen (bs := [0]) («as» := [(.c (.ref 0 3 0 0))]) (h2 := _) (h1 := (upd (fun _ => none) 0 (some (.cells 3 [[.ro false 4 (r01.map e_TSToken), cI r11, cB r21]])))) (clerestory_calc_reader_product_ok hrec_clerestory_calc_reader_value hr2) rfl (.cons (.c (.ref rfl (by decide))) .nil) (hsub_refl _) (.cons rfl (.nil _)) (fun h => by cases h) (by decide) (by decide) (.cons (.c (.ref rfl (by decide))) .nil) (.box (by decide) rfl (blkAs_cells (.cons (.same rfl) (.cons (.same rfl) (.cons (.same rfl) .nil)))) .nil) ?_)
    rintro _ _ _ hn ⟨rfl, rfl, rfl⟩
    refine ⟨.inl rfl, (upd (rem [0] _) 0 (some (.cells 3 [[.ro false 4 (r_3.2.f_l.map e_TSToken), cI r_3.2.f_n, cB r_3.2.f_gapped]]))), fun hbd => (m3_cons (m3_box rfl rfl) (m3_rem (in_cons (by decide) (in_nil _)) (.cons (by decide) .nil) hbd)), (.agg [cI r_3.1.Kind, cI r_3.1.Dim.Num, .str r_3.1.Dim.Unit, .ro false 4 (r_3.1.Subs.map eRaw)]), 3, rfl, rfl, ?_⟩
    obtain ⟨row, hrow⟩ : ∃ row : List Raw, row = [(⟨e_TSTerm (⟨out0, (⟨out1, out2⟩ : TSDim), out3⟩ : TSTerm), rfl⟩ : Raw), (⟨e_TSTerm r_3.1, rfl⟩ : Raw)] := ⟨_, rfl⟩
    replace h := letAt hrow h
    refine un (a2v (v := (lstV false 3 4 row.length)) (h' := upd _ 3 (lstB false 4 (row.map eRaw))) (n' := 4) rfl (by rw [hrow]; rfl) (fun h => by cases h) ?_)
    clear hrow
    refine un (a1 (v := (.agg [cI kind, cI 0, .str [], lstC false 3 4 row.length])) rfl ?_)
    refine dweak (show Weak 1 _ ⟨(upd (upd (upd (upd (upd (upd (upd (upd (upd (upd (upd (fun _ => none) 0 (some (.c (.ref 0 3 0 0)))) 2 (some (.c (.ref 1 4 0 0)))) 3 (some (.c (.ref 2 4 0 0)))) 5 (some (I kind))) 62 (some (.c (.ref 0 3 0 0)))) 63 (some (I kind))) 64 (some (.agg [cI out0, cI out1, .str out2, .ro false 4 (out3.map eRaw)]))) 65 (some (.c (.ref 0 3 0 0)))) 66 (some (.agg [cI r_3.1.Kind, cI r_3.1.Dim.Num, .str r_3.1.Dim.Unit, .ro false 4 (r_3.1.Subs.map eRaw)]))) 67 (some (.c (.ro false 4 (row.map eRaw))))) 68 (some (.agg [cI kind, cI 0, .str [], .ro false 4 (row.map eRaw)]))), (upd (upd (upd (fun _ => none) 0 (some (.cells 3 [[.ro false 4 (r_3.2.f_l.map e_TSToken), cI r_3.2.f_n, cB r_3.2.f_gapped]]))) 1 (some (.cells 4 [[cI 0, cI 0, .str [], .ro true 4 []]]))) 2 (some (.cells 4 [[cI out0, cI out1, .str out2, .ro false 4 (out3.map eRaw)]]))), 4⟩ from (weak_canon [0, 1, 2, 1003] rfl (by decide) (by decide) (by decide) (.cons rfl (avAs_agg (.cons (.same rfl) (.cons (.same rfl) (.cons (.same rfl) (.cons (lstC_ro (es := List.map eRaw row) rfl (List.length_map eRaw).symm (map_nil_of (fun h => by cases h)) (fun b x hx => not_in (bs := [0, 1, 2, 1003]) rfl b (((.cons (by decide) (.cons (by decide) (.cons (by decide) .nil))) : HLt _ _) b x hx)) (fr_map fr_raw)) .nil))))) (.cons rfl (.c (lstC_ro (es := List.map eRaw row) rfl (List.length_map eRaw).symm (map_nil_of (fun h => by cases h)) (fun b x hx => not_in (bs := [0, 1, 2, 1003]) rfl b (((.cons (by decide) (.cons (by decide) (.cons (by decide) .nil))) : HLt _ _) b x hx)) (fr_map fr_raw))) (.cons rfl (avAs_free rfl) (.cons rfl (.c (.ref rfl (by decide))) (.cons rfl (avAs_free rfl) (.cons rfl (avAs_free rfl) (.cons rfl (.c (.ref rfl (by decide))) (.cons rfl (avAs_free rfl) (.cons rfl (.c (.ref rfl (by decide))) (.cons rfl (.c (.ref rfl (by decide))) (.cons rfl (.c (.ref rfl (by decide))) .nil))))))))))) (.box (by decide) rfl (blkAs_cells (.cons (.same rfl) (.cons (.same rfl) (.cons (.same rfl) (.cons (.same rfl) .nil))))) (.box (by decide) rfl (blkAs_cells (.cons (.same rfl) (.cons (.same rfl) (.cons (.same rfl) (.cons (.same rfl) .nil))))) (.box (by decide) rfl (blkAs_cells (.cons (.same rfl) (.cons (.same rfl) (.cons (.same rfl) .nil)))) .nil))))) ?_
    obtain ⟨r_5, hr4, h⟩ := bnd h
    refine un (ac_gen (bs := [0]) («as» := [(.c (.ref 0 3 0 0)), (.agg [cI kind, cI 0, .str [], .ro false 4 (row.map eRaw)])]) (h2 := _) (h1 := (upd (fun _ => none) 0 (some (.cells 3 [[.ro false 4 (r_3.2.f_l.map e_TSToken), cI r_3.2.f_n, cB r_3.2.f_gapped]])))) (clerestory_calc_reader_made_ok hr4) rfl (.cons (.c (.ref rfl (by decide))) (.cons (avAs_free rfl) .nil)) (hsub_refl _) (.cons rfl (.nil _)) (fun h => by cases h) (by decide) (by decide) (.cons (.c (.ref rfl (by decide))) (.cons (avAs_free rfl) .nil)) (.box (by decide) rfl (blkAs_cells (.cons (.same rfl) (.cons (.same rfl) (.cons (.same rfl) .nil)))) .nil) ?_)
    rintro _ _ _ hn ⟨rfl, rfl, rfl⟩
    refine ⟨.inl rfl, (upd (rem [0] _) 0 (some (.cells 3 [[.ro false 4 (r_5.2.f_l.map e_TSToken), cI r_5.2.f_n, cB r_5.2.f_gapped]]))), fun hbd => (m3_cons (m3_box rfl rfl) (m3_rem (in_cons (by decide) (in_nil _)) (.cons (by decide) .nil) hbd)), (.agg [cI r_5.1.Kind, cI r_5.1.Dim.Num, .str r_5.1.Dim.Unit, .ro false 4 (r_5.1.Subs.map eRaw)]), 4, rfl, rfl, ?_⟩
    refine un (a2n (h' := upd _ 2 (some (.cells 4 [[cI r_5.1.Kind, cI r_5.1.Dim.Num, .str r_5.1.Dim.Unit, .ro false 4 (r_5.1.Subs.map eRaw)]]))) (n' := 4) rfl rfl (fun h => by cases h) ?_)
    refine dnil ?_
    exact hself r_5.2.f_l r_5.2.f_n r_5.2.f_gapped r_5.1.Kind r_5.1.Dim.Num r_5.1.Dim.Unit r_5.1.Subs h _ (weak_canon [0, 1, 2] rfl (by decide) (by decide) (by decide) (.cons rfl (.c (.ref rfl (by decide))) (.cons rfl (.c (.ref rfl (by decide))) (.cons rfl (.c (.ref rfl (by decide))) .nil))) (.box (by decide) rfl (blkAs_cells (.cons (.same rfl) (.cons (.same rfl) (.cons (.same rfl) (.cons (.same rfl) .nil))))) (.box (by decide) rfl (blkAs_cells (.cons (.same rfl) (.cons (.same rfl) (.cons (.same rfl) (.cons (.same rfl) .nil))))) (.box (by decide) rfl (blkAs_cells (.cons (.same rfl) (.cons (.same rfl) (.cons (.same rfl) .nil)))) .nil))))
  · obtain ⟨r_3, hr2, h⟩ := bnd h
    refine un (ac_gen (bs := [0]) («as» := [(.c (.ref 0 3 0 0))]) (h2 := _) (h1 := (upd (fun _ => none) 0 (some (.cells 3 [[.ro false 4 (r01.map e_TSToken), cI r11, cB r21]])))) (clerestory_calc_reader_product_ok hrec_clerestory_calc_reader_value hr2) rfl (.cons (.c (.ref rfl (by decide))) .nil) (hsub_refl _) (.cons rfl (.nil _)) (fun h => by cases h) (by decide) (by decide) (.cons (.c (.ref rfl (by decide))) .nil) (.box (by decide) rfl (blkAs_cells (.cons (.same rfl) (.cons (.same rfl) (.cons (.same rfl) .nil)))) .nil) ?_)
    rintro _ _ _ hn ⟨rfl, rfl, rfl⟩
    refine ⟨.inl rfl, (upd (rem [0] _) 0 (some (.cells 3 [[.ro false 4 (r_3.2.f_l.map e_TSToken), cI r_3.2.f_n, cB r_3.2.f_gapped]]))), fun hbd => (m3_cons (m3_box rfl rfl) (m3_rem (in_cons (by decide) (in_nil _)) (.cons (by decide) .nil) hbd)), (.agg [cI r_3.1.Kind, cI r_3.1.Dim.Num, .str r_3.1.Dim.Unit, .ro false 4 (r_3.1.Subs.map eRaw)]), 3, rfl, rfl, ?_⟩
    refine un (a1 (v := (.agg [cI out0, cI out1, .str out2, .ro false 4 (out3.map eRaw)])) rfl ?_)
    obtain ⟨row, hrow⟩ : ∃ row : List Raw, row = [(⟨e_TSTerm (⟨out0, (⟨out1, out2⟩ : TSDim), out3⟩ : TSTerm), rfl⟩ : Raw), (⟨e_TSTerm r_3.1, rfl⟩ : Raw)] := ⟨_, rfl⟩
    replace h := letAt hrow h
    refine un (a2v (v := (lstV false 3 4 row.length)) (h' := upd _ 3 (lstB false 4 (row.map eRaw))) (n' := 4) rfl (by rw [hrow]; rfl) (fun h => by cases h) ?_)
    clear hrow
    refine un (a1 (v := (.agg [cI kind, cI 0, .str [], lstC false 3 4 row.length])) rfl ?_)
    refine dweak (show Weak 1 _ ⟨(upd (upd (upd (upd (upd (upd (upd (upd (upd (upd (upd (fun _ => none) 0 (some (.c (.ref 0 3 0 0)))) 2 (some (.c (.ref 1 4 0 0)))) 3 (some (.c (.ref 2 4 0 0)))) 5 (some (I kind))) 62 (some (.c (.ref 0 3 0 0)))) 63 (some (I kind))) 64 (some (.agg [cI out0, cI out1, .str out2, .ro false 4 (out3.map eRaw)]))) 65 (some (.c (.ref 0 3 0 0)))) 66 (some (.agg [cI r_3.1.Kind, cI r_3.1.Dim.Num, .str r_3.1.Dim.Unit, .ro false 4 (r_3.1.Subs.map eRaw)]))) 67 (some (.c (.ro false 4 (row.map eRaw))))) 68 (some (.agg [cI kind, cI 0, .str [], .ro false 4 (row.map eRaw)]))), (upd (upd (upd (fun _ => none) 0 (some (.cells 3 [[.ro false 4 (r_3.2.f_l.map e_TSToken), cI r_3.2.f_n, cB r_3.2.f_gapped]]))) 1 (some (.cells 4 [[cI 0, cI 0, .str [], .ro true 4 []]]))) 2 (some (.cells 4 [[cI out0, cI out1, .str out2, .ro false 4 (out3.map eRaw)]]))), 4⟩ from (weak_canon [0, 1, 2, 1003] rfl (by decide) (by decide) (by decide) (.cons rfl (avAs_agg (.cons (.same rfl) (.cons (.same rfl) (.cons (.same rfl) (.cons (lstC_ro (es := List.map eRaw row) rfl (List.length_map eRaw).symm (map_nil_of (fun h => by cases h)) (fun b x hx => not_in (bs := [0, 1, 2, 1003]) rfl b (((.cons (by decide) (.cons (by decide) (.cons (by decide) .nil))) : HLt _ _) b x hx)) (fr_map fr_raw)) .nil))))) (.cons rfl (.c (lstC_ro (es := List.map eRaw row) rfl (List.length_map eRaw).symm (map_nil_of (fun h => by cases h)) (fun b x hx => not_in (bs := [0, 1, 2, 1003]) rfl b (((.cons (by decide) (.cons (by decide) (.cons (by decide) .nil))) : HLt _ _) b x hx)) (fr_map fr_raw))) (.cons rfl (avAs_free rfl) (.cons rfl (.c (.ref rfl (by decide))) (.cons rfl (avAs_free rfl) (.cons rfl (avAs_free rfl) (.cons rfl (.c (.ref rfl (by decide))) (.cons rfl (avAs_free rfl) (.cons rfl (.c (.ref rfl (by decide))) (.cons rfl (.c (.ref rfl (by decide))) (.cons rfl (.c (.ref rfl (by decide))) .nil))))))))))) (.box (by decide) rfl (blkAs_cells (.cons (.same rfl) (.cons (.same rfl) (.cons (.same rfl) (.cons (.same rfl) .nil))))) (.box (by decide) rfl (blkAs_cells (.cons (.same rfl) (.cons (.same rfl) (.cons (.same rfl) (.cons (.same rfl) .nil))))) (.box (by decide) rfl (blkAs_cells (.cons (.same rfl) (.cons (.same rfl) (.cons (.same rfl) .nil)))) .nil))))) ?_
    obtain ⟨r_5, hr4, h⟩ := bnd h
    refine un (ac_gen (bs := [0]) («as» := [(.c (.ref 0 3 0 0)), (.agg [cI kind, cI 0, .str [], .ro false 4 (row.map eRaw)])]) (h2 := _) (h1 := (upd (fun _ => none) 0 (some (.cells 3 [[.ro false 4 (r_3.2.f_l.map e_TSToken), cI r_3.2.f_n, cB r_3.2.f_gapped]])))) (clerestory_calc_reader_made_ok hr4) rfl (.cons (.c (.ref rfl (by decide))) (.cons (avAs_free rfl) .nil)) (hsub_refl _) (.cons rfl (.nil _)) (fun h => by cases h) (by decide) (by decide) (.cons (.c (.ref rfl (by decide))) (.cons (avAs_free rfl) .nil)) (.box (by decide) rfl (blkAs_cells (.cons (.same rfl) (.cons (.same rfl) (.cons (.same rfl) .nil)))) .nil) ?_)
    rintro _ _ _ hn ⟨rfl, rfl, rfl⟩
    refine ⟨.inl rfl, (upd (rem [0] _) 0 (some (.cells 3 [[.ro false 4 (r_5.2.f_l.map e_TSToken), cI r_5.2.f_n, cB r_5.2.f_gapped]]))), fun hbd => (m3_cons (m3_box rfl rfl) (m3_rem (in_cons (by decide) (in_nil _)) (.cons (by decide) .nil) hbd)), (.agg [cI r_5.1.Kind, cI r_5.1.Dim.Num, .str r_5.1.Dim.Unit, .ro false 4 (r_5.1.Subs.map eRaw)]), 4, rfl, rfl, ?_⟩
    refine un (a2n (h' := upd _ 2 (some (.cells 4 [[cI r_5.1.Kind, cI r_5.1.Dim.Num, .str r_5.1.Dim.Unit, .ro false 4 (r_5.1.Subs.map eRaw)]]))) (n' := 4) rfl rfl (fun h => by cases h) ?_)
    refine dnil ?_
    exact hself r_5.2.f_l r_5.2.f_n r_5.2.f_gapped r_5.1.Kind r_5.1.Dim.Num r_5.1.Dim.Unit r_5.1.Subs h _ (weak_canon [0, 1, 2] rfl (by decide) (by decide) (by decide) (.cons rfl (.c (.ref rfl (by decide))) (.cons rfl (.c (.ref rfl (by decide))) (.cons rfl (.c (.ref rfl (by decide))) .nil))) (.box (by decide) rfl (blkAs_cells (.cons (.same rfl) (.cons (.same rfl) (.cons (.same rfl) (.cons (.same rfl) .nil))))) (.box (by decide) rfl (blkAs_cells (.cons (.same rfl) (.cons (.same rfl) (.cons (.same rfl) (.cons (.same rfl) .nil))))) (.box (by decide) rfl (blkAs_cells (.cons (.same rfl) (.cons (.same rfl) (.cons (.same rfl) .nil)))) .nil))))
noncomputable def clerestory_calc_reader_sum_j21 (r0 : (List TSToken)) (r2 : Bool) (r1 : Int) (rec_clerestory_calc_reader_value : Treader → Bool → Option (TSTerm × Treader)) (out0 : Int) (out1 : Int) (out2 : (List UInt8)) (out3 : (List Raw)) (self : (List TSToken) → Int → Bool → Int → Int → (List UInt8) → (List Raw) → Option (TSTerm × Treader)) (kind : Int) : Option (TSTerm × Treader) :=
  (sub? r0 1 (r0.length : Int)).bind fun r_2 =>
  if r2 then
    (clerestory_calc_reader_gap (⟨r_2, r1, r2⟩ : Treader)).bind fun r_6 =>
    (clerestory_calc_reader_need r_6.2 r_6.1).bind fun r_7 =>
    clerestory_calc_reader_sum_j22 rec_clerestory_calc_reader_value out0 out1 out2 out3 kind self r_6.2.f_l r_6.2.f_n r_6.2.f_gapped
  else
    (clerestory_calc_reader_need (⟨r_2, r1, r2⟩ : Treader) false).bind fun r_8 =>
    clerestory_calc_reader_sum_j22 rec_clerestory_calc_reader_value out0 out1 out2 out3 kind self r_2 r1 r2
theorem clerestory_calc_reader_sum_j21_ok {mL : Int} {Q : AExit → St → Prop} {r0 : (List TSToken)} {r2 : Bool} {r1 : Int} {rec_clerestory_calc_reader_value : Treader → Bool → Option (TSTerm × Treader)} {out0 : Int} {out1 : Int} {out2 : (List UInt8)} {out3 : (List Raw)} {self : (List TSToken) → Int → Bool → Int → Int → (List UInt8) → (List Raw) → Option (TSTerm × Treader)} {kind : Int} {o : (TSTerm × Treader)} (h : clerestory_calc_reader_sum_j21 r0 r2 r1 rec_clerestory_calc_reader_value out0 out1 out2 out3 self kind = some o)
    (hself : clerestory_calc_reader_sum_l0_H self o (Q .normal))
    (hr : ∀ s, Ends a30.results 1 (clerestory_calc_reader_sum_post o) .ret s → Q .ret s)
    (hrec_clerestory_calc_reader_value : clerestory_calc_reader_value_Rec mL rec_clerestory_calc_reader_value) :
    Sv Tryd.prog (GG mL) 1 a30_c2 (clerestory_calc_reader_sum_q0 mL Q) ⟨(upd (upd (upd (upd (upd (fun _ => none) 0 (some (.c (.ref 0 3 0 0)))) 2 (some (.c (.ref 1 4 0 0)))) 3 (some (.c (.ref 2 4 0 0)))) 4 (some (B r2))) 5 (some (I kind))), (upd (upd (upd (fun _ => none) 0 (some (.cells 3 [[.ro false 4 (r0.map e_TSToken), cI r1, cB r2]]))) 1 (some (.cells 4 [[cI 0, cI 0, .str [], .ro true 4 []]]))) 2 (some (.cells 4 [[cI out0, cI out1, .str out2, .ro false 4 (out3.map eRaw)]]))), 3⟩ := by
  unfold clerestory_calc_reader_sum_j21 at h
  refine Sv.seq ?_
  refine Sv.region ?_
  refine un (a1 rfl ?_)
  refine un (a1 rfl ?_)
  refine un (a1 (v := (.c (.ref 0 3 0 0))) rfl ?_)
  refine un (a1 (v := (.c (.ref 0 3 0 0))) rfl ?_)
  refine un (a1 (v := (.c (.ro false 4 (r0.map e_TSToken)))) rfl ?_)
  obtain ⟨r_2, hx1, h⟩ := bnd h
  refine un (a1 (v := (.c (.ro false 4 (r_2.map e_TSToken)))) (s_slSl (e := e_TSToken) rfl rfl rfl hx1) ?_)
  refine un (a1 (v := (.c (.ref 0 3 0 0))) rfl ?_)
  refine un (a1 (v := (.c (.ref 0 3 0 0))) rfl ?_)
  refine un (a2n (h' := upd _ 0 (some (.cells 3 [[.ro false 4 (r_2.map e_TSToken), cI r1, cB r2]]))) (n' := 3) rfl rfl (fun h => by cases h) ?_)
  refine dnil ?_
  refine Sv.seq ?_
  refine Sv.region ?_
  refine un (a1 rfl ?_)
  refine un (a1 rfl ?_)
  refine un (a1 rfl ?_)
  refine split2 (fun hc1 => ?_) (fun hc1 => ?_)
  · replace h := ifT hc1 h
    refine gt rfl (a1 rfl ?_)
    obtain ⟨r_6, hr5, h⟩ := bnd h
    refine gt rfl (ac_gen (bs := [0]) («as» := [(.c (.ref 0 3 0 0))]) (h2 := _) (h1 := (upd (fun _ => none) 0 (some (.cells 3 [[.ro false 4 (r_2.map e_TSToken), cI r1, cB r2]])))) (clerestory_calc_reader_gap_ok hr5) rfl (.cons (.c (.ref rfl (by decide))) .nil) (hsub_refl _) (.cons rfl (.nil _)) (fun h => by cases h) (by decide) (by decide) (.cons (.c (.ref rfl (by decide))) .nil) (.box (by decide) rfl (blkAs_cells (.cons (.same rfl) (.cons (.same rfl) (.cons (.same rfl) .nil)))) .nil) ?_)
    rintro _ _ _ hn ⟨rfl, rfl, rfl⟩
    refine ⟨.inl rfl, (upd (rem [0] _) 0 (some (.cells 3 [[.ro false 4 (r_6.2.f_l.map e_TSToken), cI r_6.2.f_n, cB r_6.2.f_gapped]]))), fun hbd => (m3_cons (m3_box rfl rfl) (m3_rem (in_cons (by decide) (in_nil _)) (.cons (by decide) .nil) hbd)), (B r_6.1), 3, rfl, rfl, ?_⟩
    refine un (a1 (v := (B r_6.1)) rfl ?_)
    obtain ⟨r_7, hr6, h⟩ := bnd h
    refine un (ac_lend (h2 := (upd _ 0 none)) (clerestory_calc_reader_need_ok hr6) rfl (.cons (.c (ref_ro rfl (gone rfl) (.cons (.same rfl) (.cons (.same rfl) (.cons (.same rfl) .nil))) rfl)) (.cons (avAs_free rfl) .nil)) (hsub_none (hsub_refl _)) rfl rfl (.inr rfl) ?_)
    refine dnil ?_
    exact Sv.weak (weak_canon [0, 1, 2] rfl (by decide) (by decide) (by decide) (.cons rfl (avAs_free rfl) (.cons rfl (.c (.ref rfl (by decide))) (.cons rfl (.c (.ref rfl (by decide))) (.cons rfl (.c (.ref rfl (by decide))) .nil)))) (.box (by decide) rfl (blkAs_cells (.cons (.same rfl) (.cons (.same rfl) (.cons (.same rfl) (.cons (.same rfl) .nil))))) (.box (by decide) rfl (blkAs_cells (.cons (.same rfl) (.cons (.same rfl) (.cons (.same rfl) (.cons (.same rfl) .nil))))) (.box (by decide) rfl (blkAs_cells (.cons (.same rfl) (.cons (.same rfl) (.cons (.same rfl) .nil)))) .nil)))) (clerestory_calc_reader_sum_j22_ok h hself hr hrec_clerestory_calc_reader_value)
  · replace h := ifF hc1 h
    refine gs rfl rfl ?_
    refine gs rfl rfl ?_
    refine un (a1 (v := (B false)) rfl ?_)
    obtain ⟨r_8, hr7, h⟩ := bnd h
    refine un (ac_lend (h2 := (upd _ 0 none)) (clerestory_calc_reader_need_ok hr7) rfl (.cons (.c (ref_ro rfl (gone rfl) (.cons (.same rfl) (.cons (.same rfl) (.cons (.same rfl) .nil))) rfl)) (.cons (avAs_free rfl) .nil)) (hsub_none (hsub_refl _)) rfl rfl (.inr rfl) ?_)
    refine dnil ?_
    exact Sv.weak (weak_canon [0, 1, 2] rfl (by decide) (by decide) (by decide) (.cons rfl (avAs_free rfl) (.cons rfl (.c (.ref rfl (by decide))) (.cons rfl (.c (.ref rfl (by decide))) (.cons rfl (.c (.ref rfl (by decide))) .nil)))) (.box (by decide) rfl (blkAs_cells (.cons (.same rfl) (.cons (.same rfl) (.cons (.same rfl) (.cons (.same rfl) .nil))))) (.box (by decide) rfl (blkAs_cells (.cons (.same rfl) (.cons (.same rfl) (.cons (.same rfl) (.cons (.same rfl) .nil))))) (.box (by decide) rfl (blkAs_cells (.cons (.same rfl) (.cons (.same rfl) (.cons (.same rfl) .nil)))) .nil)))) (clerestory_calc_reader_sum_j22_ok h hself hr hrec_clerestory_calc_reader_value)
abbrev clerestory_calc_reader_sum_q1 (mL : Int) (Q : AExit → St → Prop) : AExit → St → Prop := AThen (Sv Tryd.prog (GG mL) 1 a30_c2 (clerestory_calc_reader_sum_q0 mL Q)) (clerestory_calc_reader_sum_q0 mL Q)
abbrev clerestory_calc_reader_sum_q2 (mL : Int) (Q : AExit → St → Prop) : AExit → St → Prop := ABlock 2 (clerestory_calc_reader_sum_q1 mL Q)
noncomputable def clerestory_calc_reader_sum_j24 (r0 : (List TSToken)) (r2 : Bool) (r1 : Int) (rec_clerestory_calc_reader_value : Treader → Bool → Option (TSTerm × Treader)) (out0 : Int) (out1 : Int) (out2 : (List UInt8)) (out3 : (List Raw)) (self : (List TSToken) → Int → Bool → Int → Int → (List UInt8) → (List Raw) → Option (TSTerm × Treader)) (v30 : Bool) : Option (TSTerm × Treader) :=
  if v30 then
    clerestory_calc_reader_sum_j21 r0 r2 r1 rec_clerestory_calc_reader_value out0 out1 out2 out3 self 3
  else
    some ((⟨out0, (⟨out1, out2⟩ : TSDim), out3⟩ : TSTerm), (⟨r0, r1, r2⟩ : Treader))
theorem clerestory_calc_reader_sum_j24_ok {mL : Int} {Q : AExit → St → Prop} {r0 : (List TSToken)} {r2 : Bool} {r1 : Int} {rec_clerestory_calc_reader_value : Treader → Bool → Option (TSTerm × Treader)} {out0 : Int} {out1 : Int} {out2 : (List UInt8)} {out3 : (List Raw)} {self : (List TSToken) → Int → Bool → Int → Int → (List UInt8) → (List Raw) → Option (TSTerm × Treader)} {v30 : Bool} {o : (TSTerm × Treader)} (h : clerestory_calc_reader_sum_j24 r0 r2 r1 rec_clerestory_calc_reader_value out0 out1 out2 out3 self v30 = some o)
    (hself : clerestory_calc_reader_sum_l0_H self o (Q .normal))
    (hr : ∀ s, Ends a30.results 1 (clerestory_calc_reader_sum_post o) .ret s → Q .ret s)
    (hrec_clerestory_calc_reader_value : clerestory_calc_reader_value_Rec mL rec_clerestory_calc_reader_value) :
    Sv Tryd.prog (GG mL) 1 a30_c1 (clerestory_calc_reader_sum_q2 mL Q) ⟨(upd (upd (upd (upd (upd (fun _ => none) 0 (some (.c (.ref 0 3 0 0)))) 2 (some (.c (.ref 1 4 0 0)))) 3 (some (.c (.ref 2 4 0 0)))) 4 (some (B r2))) 30 (some (B v30))), (upd (upd (upd (fun _ => none) 0 (some (.cells 3 [[.ro false 4 (r0.map e_TSToken), cI r1, cB r2]]))) 1 (some (.cells 4 [[cI 0, cI 0, .str [], .ro true 4 []]]))) 2 (some (.cells 4 [[cI out0, cI out1, .str out2, .ro false 4 (out3.map eRaw)]]))), 3⟩ := by
  unfold clerestory_calc_reader_sum_j24 at h
  refine Sv.cond (b := v30) rfl (fun hc3 => ?_) (fun hc3 => ?_)
  · replace h := ifT hc3 h
    refine Sv.region ?_
    refine un (a1 rfl ?_)
    refine dnil ?_
    exact Sv.weak (weak_canon [0, 1, 2] rfl (by decide) (by decide) (by decide) (.cons rfl (avAs_free rfl) (.cons rfl (avAs_free rfl) (.cons rfl (.c (.ref rfl (by decide))) (.cons rfl (.c (.ref rfl (by decide))) (.cons rfl (.c (.ref rfl (by decide))) .nil))))) (.box (by decide) rfl (blkAs_cells (.cons (.same rfl) (.cons (.same rfl) (.cons (.same rfl) (.cons (.same rfl) .nil))))) (.box (by decide) rfl (blkAs_cells (.cons (.same rfl) (.cons (.same rfl) (.cons (.same rfl) (.cons (.same rfl) .nil))))) (.box (by decide) rfl (blkAs_cells (.cons (.same rfl) (.cons (.same rfl) (.cons (.same rfl) .nil)))) .nil)))) (clerestory_calc_reader_sum_j21_ok h hself hr hrec_clerestory_calc_reader_value)
  · replace h := ifF hc3 h
    refine Sv.seq ?_
    refine Sv.region ?_
    refine un (a1 (v := (.agg [cI out0, cI out1, .str out2, .ro false 4 (out3.map eRaw)])) rfl ?_)
    refine un (a2n (h' := upd _ 1 (some (.cells 4 [[cI out0, cI out1, .str out2, .ro false 4 (out3.map eRaw)]]))) (n' := 3) rfl rfl (fun h => by cases h) ?_)
    refine dnil ?_
    refine Sv.ret ?_
    replace h := Option.some.inj h
    subst h
    exact hr _ ⟨_, .refl _, _, rfl, ⟨upd (fun _ => none) 0 (some (.agg [cI out0, cI out1, .str out2, .ro false 4 (out3.map eRaw)])), (upd (fun _ => none) 0 (some (.cells 3 [[.ro false 4 (r0.map e_TSToken), cI r1, cB r2]]))), 1⟩, (.agg [cI out0, cI out1, .str out2, .ro false 4 (out3.map eRaw)]), weak_canon2 [0] [0] (by decide) (by decide) (by decide) (.cons (by decide) .nil) (.cons rfl (avAs_free rfl) .nil) (.box (by decide) rfl (blkAs_cells (.cons (.same rfl) (.cons (.same rfl) (.cons (.same rfl) .nil)))) .nil), rfl, rfl, rfl, rfl⟩
noncomputable def clerestory_calc_reader_sum_j23 (r0 : (List TSToken)) (r2 : Bool) (r1 : Int) (rec_clerestory_calc_reader_value : Treader → Bool → Option (TSTerm × Treader)) (out0 : Int) (out1 : Int) (out2 : (List UInt8)) (out3 : (List Raw)) (self : (List TSToken) → Int → Bool → Int → Int → (List UInt8) → (List Raw) → Option (TSTerm × Treader)) (v13 : Bool) : Option (TSTerm × Treader) :=
  if v13 then
    clerestory_calc_reader_sum_j21 r0 r2 r1 rec_clerestory_calc_reader_value out0 out1 out2 out3 self 2
  else
    if decide (0 < (r0.length : Int)) then
      (at? r0 0).bind fun x_ =>
      clerestory_calc_reader_sum_j24 r0 r2 r1 rec_clerestory_calc_reader_value out0 out1 out2 out3 self (decide (x_.Raw = [45]))
    else
      clerestory_calc_reader_sum_j24 r0 r2 r1 rec_clerestory_calc_reader_value out0 out1 out2 out3 self false
theorem clerestory_calc_reader_sum_j23_ok {mL : Int} {Q : AExit → St → Prop} {r0 : (List TSToken)} {r2 : Bool} {r1 : Int} {rec_clerestory_calc_reader_value : Treader → Bool → Option (TSTerm × Treader)} {out0 : Int} {out1 : Int} {out2 : (List UInt8)} {out3 : (List Raw)} {self : (List TSToken) → Int → Bool → Int → Int → (List UInt8) → (List Raw) → Option (TSTerm × Treader)} {v13 : Bool} {o : (TSTerm × Treader)} (h : clerestory_calc_reader_sum_j23 r0 r2 r1 rec_clerestory_calc_reader_value out0 out1 out2 out3 self v13 = some o)
    (hself : clerestory_calc_reader_sum_l0_H self o (Q .normal))
    (hr : ∀ s, Ends a30.results 1 (clerestory_calc_reader_sum_post o) .ret s → Q .ret s)
    (hrec_clerestory_calc_reader_value : clerestory_calc_reader_value_Rec mL rec_clerestory_calc_reader_value) :
    Sv Tryd.prog (GG mL) 1 a30_c0 (clerestory_calc_reader_sum_q2 mL Q) ⟨(upd (upd (upd (upd (upd (fun _ => none) 0 (some (.c (.ref 0 3 0 0)))) 2 (some (.c (.ref 1 4 0 0)))) 3 (some (.c (.ref 2 4 0 0)))) 4 (some (B r2))) 13 (some (B v13))), (upd (upd (upd (fun _ => none) 0 (some (.cells 3 [[.ro false 4 (r0.map e_TSToken), cI r1, cB r2]]))) 1 (some (.cells 4 [[cI 0, cI 0, .str [], .ro true 4 []]]))) 2 (some (.cells 4 [[cI out0, cI out1, .str out2, .ro false 4 (out3.map eRaw)]]))), 3⟩ := by
  unfold clerestory_calc_reader_sum_j23 at h
  refine Sv.cond (b := v13) rfl (fun hc2 => ?_) (fun hc2 => ?_)
  · replace h := ifT hc2 h
    refine Sv.region ?_
    refine un (a1 rfl ?_)
    refine dnil ?_
    exact Sv.weak (weak_canon [0, 1, 2] rfl (by decide) (by decide) (by decide) (.cons rfl (avAs_free rfl) (.cons rfl (avAs_free rfl) (.cons rfl (.c (.ref rfl (by decide))) (.cons rfl (.c (.ref rfl (by decide))) (.cons rfl (.c (.ref rfl (by decide))) .nil))))) (.box (by decide) rfl (blkAs_cells (.cons (.same rfl) (.cons (.same rfl) (.cons (.same rfl) (.cons (.same rfl) .nil))))) (.box (by decide) rfl (blkAs_cells (.cons (.same rfl) (.cons (.same rfl) (.cons (.same rfl) (.cons (.same rfl) .nil))))) (.box (by decide) rfl (blkAs_cells (.cons (.same rfl) (.cons (.same rfl) (.cons (.same rfl) .nil)))) .nil)))) (clerestory_calc_reader_sum_j21_ok h hself hr hrec_clerestory_calc_reader_value)
  · replace h := ifF hc2 h
    refine Sv.seq ?_
    refine Sv.region ?_
    refine un (a1 rfl ?_)
    refine un (a1 (v := (.c (.ref 0 3 0 0))) rfl ?_)
    refine un (a1 (v := (.c (.ref 0 3 0 0))) rfl ?_)
    refine un (a1 (v := (.c (.ro false 4 (r0.map e_TSToken)))) rfl ?_)
    refine un (a1 (v := (I (r0.length : Int))) (s_len (e := e_TSToken) (xs := r0) rfl) ?_)
    refine un (a1 (v := (B (decide (0 < (r0.length : Int))))) rfl ?_)
    refine un (a1 rfl ?_)
    refine split2 (fun hc4 => ?_) (fun hc4 => ?_)
    · replace h := ifT hc4 h
      refine gt rfl (a1 rfl ?_)
      refine gt rfl (a1 (v := (.c (.ref 0 3 0 0))) rfl ?_)
      refine gt rfl (a1 (v := (.c (.ref 0 3 0 0))) rfl ?_)
      refine gt rfl (a1 (v := (.c (.ro false 4 (r0.map e_TSToken)))) rfl ?_)
      obtain ⟨x_, hx2, h⟩ := bnd h
      refine gt rfl (a1 (v := (.c (.rop [cI x_.Kind, .str x_.Raw, .str x_.Value, cI x_.Num]))) (s_iaddr (e := e_TSToken) (xs := r0) rfl rfl hx2) ?_)
      refine gt rfl (a1 (v := (.c (.rop [.str x_.Raw, .str x_.Value, cI x_.Num]))) rfl ?_)
      refine gt rfl (a1 (v := (S x_.Raw)) rfl ?_)
      refine gt rfl (a1 (v := (B (decide (x_.Raw = [45])))) rfl ?_)
      refine un (a1 (v := (B (decide (x_.Raw = [45])))) rfl ?_)
      refine un (a1 rfl ?_)
      refine dnil ?_
      exact Sv.weak (weak_canon [0, 1, 2] rfl (by decide) (by decide) (by decide) (.cons rfl (avAs_free rfl) (.cons rfl (avAs_free rfl) (.cons rfl (.c (.ref rfl (by decide))) (.cons rfl (.c (.ref rfl (by decide))) (.cons rfl (.c (.ref rfl (by decide))) .nil))))) (.box (by decide) rfl (blkAs_cells (.cons (.same rfl) (.cons (.same rfl) (.cons (.same rfl) (.cons (.same rfl) .nil))))) (.box (by decide) rfl (blkAs_cells (.cons (.same rfl) (.cons (.same rfl) (.cons (.same rfl) (.cons (.same rfl) .nil))))) (.box (by decide) rfl (blkAs_cells (.cons (.same rfl) (.cons (.same rfl) (.cons (.same rfl) .nil)))) .nil)))) (clerestory_calc_reader_sum_j24_ok h hself hr hrec_clerestory_calc_reader_value)
    · replace h := ifF hc4 h
      refine gs rfl rfl ?_
      refine gs rfl rfl ?_
      refine gs rfl rfl ?_
      refine gs rfl rfl ?_
      refine gs rfl rfl ?_
      refine gs rfl rfl ?_
      refine gs rfl rfl ?_
      refine gs rfl rfl ?_
      refine un (a1 (v := (B false)) rfl ?_)
      refine un (a1 rfl ?_)
      refine dnil ?_
      exact Sv.weak (weak_canon [0, 1, 2] rfl (by decide) (by decide) (by decide) (.cons rfl (avAs_free rfl) (.cons rfl (avAs_free rfl) (.cons rfl (.c (.ref rfl (by decide))) (.cons rfl (.c (.ref rfl (by decide))) (.cons rfl (.c (.ref rfl (by decide))) .nil))))) (.box (by decide) rfl (blkAs_cells (.cons (.same rfl) (.cons (.same rfl) (.cons (.same rfl) (.cons (.same rfl) .nil))))) (.box (by decide) rfl (blkAs_cells (.cons (.same rfl) (.cons (.same rfl) (.cons (.same rfl) (.cons (.same rfl) .nil))))) (.box (by decide) rfl (blkAs_cells (.cons (.same rfl) (.cons (.same rfl) (.cons (.same rfl) .nil)))) .nil)))) (clerestory_calc_reader_sum_j24_ok h hself hr hrec_clerestory_calc_reader_value)
abbrev clerestory_calc_reader_sum_l0_I (F_ : Nat → (List TSToken) → Int → Bool → Int → Int → (List UInt8) → (List Raw) → Option (TSTerm × Treader)) (o : (TSTerm × Treader)) : Nat → St → Prop := fun k s => ∃ (r0 : (List TSToken)), ∃ (r1 : Int), ∃ (r2 : Bool), ∃ (out0 : Int), ∃ (out1 : Int), ∃ (out2 : (List UInt8)), ∃ (out3 : (List Raw)), F_ k r0 r1 r2 out0 out1 out2 out3 = some o ∧ s = ⟨(upd (upd (upd (fun _ => none) 0 (some (.c (.ref 0 3 0 0)))) 2 (some (.c (.ref 1 4 0 0)))) 3 (some (.c (.ref 2 4 0 0)))), (upd (upd (upd (fun _ => none) 0 (some (.cells 3 [[.ro false 4 (r0.map e_TSToken), cI r1, cB r2]]))) 1 (some (.cells 4 [[cI 0, cI 0, .str [], .ro true 4 []]]))) 2 (some (.cells 4 [[cI out0, cI out1, .str out2, .ro false 4 (out3.map eRaw)]]))), 3⟩
noncomputable def clerestory_calc_reader_sum_l0 (rec_clerestory_calc_reader_value : Treader → Bool → Option (TSTerm × Treader)) : Nat → (List TSToken) → Int → Bool → Int → Int → (List UInt8) → (List Raw) → Option (TSTerm × Treader)
  | 0, _, _, _, _, _, _, _ => none
  | k + 1, r0, r1, r2, out0, out1, out2, out3 =>
    if decide (0 < (r0.length : Int)) then
      (at? r0 0).bind fun x_1 =>
      clerestory_calc_reader_sum_j23 r0 r2 r1 rec_clerestory_calc_reader_value out0 out1 out2 out3 (clerestory_calc_reader_sum_l0 rec_clerestory_calc_reader_value k) (decide (x_1.Raw = [43]))
    else
      clerestory_calc_reader_sum_j23 r0 r2 r1 rec_clerestory_calc_reader_value out0 out1 out2 out3 (clerestory_calc_reader_sum_l0 rec_clerestory_calc_reader_value k) false
theorem clerestory_calc_reader_sum_l0_ok {mL : Int} {Q : AExit → St → Prop} {rec_clerestory_calc_reader_value : Treader → Bool → Option (TSTerm × Treader)} {k : Nat} {r0 : (List TSToken)} {r1 : Int} {r2 : Bool} {out0 : Int} {out1 : Int} {out2 : (List UInt8)} {out3 : (List Raw)} {o : (TSTerm × Treader)} (h : clerestory_calc_reader_sum_l0 rec_clerestory_calc_reader_value k r0 r1 r2 out0 out1 out2 out3 = some o)
    (hr : ∀ s, Ends a30.results 1 (clerestory_calc_reader_sum_post o) .ret s → Q .ret s)
    (hrec_clerestory_calc_reader_value : clerestory_calc_reader_value_Rec mL rec_clerestory_calc_reader_value) :
    Sv Tryd.prog (GG mL) 1 (.loop a30_c4) Q ⟨(upd (upd (upd (fun _ => none) 0 (some (.c (.ref 0 3 0 0)))) 2 (some (.c (.ref 1 4 0 0)))) 3 (some (.c (.ref 2 4 0 0)))), (upd (upd (upd (fun _ => none) 0 (some (.cells 3 [[.ro false 4 (r0.map e_TSToken), cI r1, cB r2]]))) 1 (some (.cells 4 [[cI 0, cI 0, .str [], .ro true 4 []]]))) 2 (some (.cells 4 [[cI out0, cI out1, .str out2, .ro false 4 (out3.map eRaw)]]))), 3⟩ := by
  refine Sv.loop (I := clerestory_calc_reader_sum_l0_I (clerestory_calc_reader_sum_l0 rec_clerestory_calc_reader_value) o) (fun k s hI => ?_) ⟨r0, r1, r2, out0, out1, out2, out3, h, rfl⟩
  clear h
  clear out3 out2 out1 out0 r2 r1 r0
  obtain ⟨r0, r1, r2, out0, out1, out2, out3, h, rfl⟩ := hI
  cases k with
  | zero => cases h
  | succ k =>
  rw [clerestory_calc_reader_sum_l0] at h
  have hself : clerestory_calc_reader_sum_l0_H (clerestory_calc_reader_sum_l0 rec_clerestory_calc_reader_value k) o (rnd 1 (clerestory_calc_reader_sum_l0_I (clerestory_calc_reader_sum_l0 rec_clerestory_calc_reader_value) o) k Q) := fun r0 r1 r2 out0 out1 out2 out3 h s hw => ⟨_, k, hw, Nat.lt_succ_self k, r0, r1, r2, out0, out1, out2, out3, h, rfl⟩
  refine Sv.block ?_
  refine Sv.seq ?_
  refine Sv.region ?_
  refine un (a1 rfl ?_)
  refine un (a1 (v := (.c (.ref 0 3 0 0))) rfl ?_)
  refine un (a1 (v := (.c (.ref 0 3 0 2))) rfl ?_)
  refine un (a1 (v := (B r2)) rfl ?_)
  refine un (a1 rfl ?_)
  refine dnil ?_
  refine Sv.seq ?_
  refine Sv.region ?_
  refine un (a1 rfl ?_)
  refine dnil ?_
  refine Sv.seq ?_
  refine Sv.block ?_
  refine Sv.seq ?_
  refine Sv.region ?_
  refine un (a1 rfl ?_)
  refine un (a1 (v := (.c (.ref 0 3 0 0))) rfl ?_)
  refine un (a1 (v := (.c (.ref 0 3 0 0))) rfl ?_)
  refine un (a1 (v := (.c (.ro false 4 (r0.map e_TSToken)))) rfl ?_)
  refine un (a1 (v := (I (r0.length : Int))) (s_len (e := e_TSToken) (xs := r0) rfl) ?_)
  refine un (a1 (v := (B (decide (0 < (r0.length : Int))))) rfl ?_)
  refine un (a1 rfl ?_)
  refine split2 (fun hc5 => ?_) (fun hc5 => ?_)
  · replace h := ifT hc5 h
    refine gt rfl (a1 rfl ?_)
    refine gt rfl (a1 (v := (.c (.ref 0 3 0 0))) rfl ?_)
    refine gt rfl (a1 (v := (.c (.ref 0 3 0 0))) rfl ?_)
    refine gt rfl (a1 (v := (.c (.ro false 4 (r0.map e_TSToken)))) rfl ?_)
    obtain ⟨x_1, hx3, h⟩ := bnd h
    refine gt rfl (a1 (v := (.c (.rop [cI x_1.Kind, .str x_1.Raw, .str x_1.Value, cI x_1.Num]))) (s_iaddr (e := e_TSToken) (xs := r0) rfl rfl hx3) ?_)
    refine gt rfl (a1 (v := (.c (.rop [.str x_1.Raw, .str x_1.Value, cI x_1.Num]))) rfl ?_)
    refine gt rfl (a1 (v := (S x_1.Raw)) rfl ?_)
    refine gt rfl (a1 (v := (B (decide (x_1.Raw = [43])))) rfl ?_)
    refine un (a1 (v := (B (decide (x_1.Raw = [43])))) rfl ?_)
    refine un (a1 rfl ?_)
    refine dnil ?_
    exact Sv.weak (weak_canon [0, 1, 2] rfl (by decide) (by decide) (by decide) (.cons rfl (avAs_free rfl) (.cons rfl (avAs_free rfl) (.cons rfl (.c (.ref rfl (by decide))) (.cons rfl (.c (.ref rfl (by decide))) (.cons rfl (.c (.ref rfl (by decide))) .nil))))) (.box (by decide) rfl (blkAs_cells (.cons (.same rfl) (.cons (.same rfl) (.cons (.same rfl) (.cons (.same rfl) .nil))))) (.box (by decide) rfl (blkAs_cells (.cons (.same rfl) (.cons (.same rfl) (.cons (.same rfl) (.cons (.same rfl) .nil))))) (.box (by decide) rfl (blkAs_cells (.cons (.same rfl) (.cons (.same rfl) (.cons (.same rfl) .nil)))) .nil)))) (clerestory_calc_reader_sum_j23_ok h hself hr hrec_clerestory_calc_reader_value)
  · replace h := ifF hc5 h
    refine gs rfl rfl ?_
    refine gs rfl rfl ?_
    refine gs rfl rfl ?_
    refine gs rfl rfl ?_
    refine gs rfl rfl ?_
    refine gs rfl rfl ?_
    refine gs rfl rfl ?_
    refine gs rfl rfl ?_
    refine un (a1 (v := (B false)) rfl ?_)
    refine un (a1 rfl ?_)
    refine dnil ?_
    exact Sv.weak (weak_canon [0, 1, 2] rfl (by decide) (by decide) (by decide) (.cons rfl (avAs_free rfl) (.cons rfl (avAs_free rfl) (.cons rfl (.c (.ref rfl (by decide))) (.cons rfl (.c (.ref rfl (by decide))) (.cons rfl (.c (.ref rfl (by decide))) .nil))))) (.box (by decide) rfl (blkAs_cells (.cons (.same rfl) (.cons (.same rfl) (.cons (.same rfl) (.cons (.same rfl) .nil))))) (.box (by decide) rfl (blkAs_cells (.cons (.same rfl) (.cons (.same rfl) (.cons (.same rfl) (.cons (.same rfl) .nil))))) (.box (by decide) rfl (blkAs_cells (.cons (.same rfl) (.cons (.same rfl) (.cons (.same rfl) .nil)))) .nil)))) (clerestory_calc_reader_sum_j23_ok h hself hr hrec_clerestory_calc_reader_value)
/-- (*clerestory/calc.reader).sum -/
noncomputable def clerestory_calc_reader_sum (rec_clerestory_calc_reader_value : Treader → Bool → Option (TSTerm × Treader)) (r_ : Treader) : Option (TSTerm × Treader) :=
  (clerestory_calc_reader_product rec_clerestory_calc_reader_value r_).bind fun r_1 =>
  limF fun kk => clerestory_calc_reader_sum_l0 rec_clerestory_calc_reader_value kk r_1.2.f_l r_1.2.f_n r_1.2.f_gapped r_1.1.Kind r_1.1.Dim.Num r_1.1.Dim.Unit r_1.1.Subs
theorem clerestory_calc_reader_sum_ok {mL : Int} {rec_clerestory_calc_reader_value : Treader → Bool → Option (TSTerm × Treader)} (hrec_clerestory_calc_reader_value : clerestory_calc_reader_value_Rec mL rec_clerestory_calc_reader_value) {r_ : Treader} {r : (TSTerm × Treader)} (h : clerestory_calc_reader_sum rec_clerestory_calc_reader_value r_ = some r) : ACalls Tryd.prog (GG mL) 30 [(.c (.ref 0 3 0 0))] (upd (fun _ => none) 0 (some (.cells 3 [[.ro false 4 (r_.f_l.map e_TSToken), cI r_.f_n, cB r_.f_gapped]]))) 1 (clerestory_calc_reader_sum_post r) := by
  refine acalls_of_sv hmix c30 (R := clerestory_calc_reader_sum_post r) ?_
  unfold clerestory_calc_reader_sum at h
  refine Sv.seq ?_
  refine Sv.region ?_
  refine un (a2v (v := (.c (.ref 1 4 0 0))) (h' := upd _ 1 (some (.cells 4 [[cI 0, cI 0, .str [], .ro true 4 []]]))) (n' := 2) rfl rfl (fun h => by cases h) ?_)
  refine dnil ?_
  refine Sv.seq ?_
  refine Sv.region ?_
  refine un (a1 rfl ?_)
  obtain ⟨r_1, hr1, h⟩ := bnd h
  refine un (ac_gen (bs := [0]) («as» := [(.c (.ref 0 3 0 0))]) (h2 := _) (h1 := (upd (fun _ => none) 0 (some (.cells 3 [[.ro false 4 (r_.f_l.map e_TSToken), cI r_.f_n, cB r_.f_gapped]])))) (clerestory_calc_reader_product_ok hrec_clerestory_calc_reader_value hr1) rfl (.cons (.c (.ref rfl (by decide))) .nil) (hsub_refl _) (.cons rfl (.nil _)) (fun h => by cases h) (by decide) (by decide) (.cons (.c (.ref rfl (by decide))) .nil) (.box (by decide) rfl (blkAs_cells (.cons (.same rfl) (.cons (.same rfl) (.cons (.same rfl) .nil)))) .nil) ?_)
  rintro _ _ _ hn ⟨rfl, rfl, rfl⟩
  refine ⟨.inl rfl, (upd (rem [0] _) 0 (some (.cells 3 [[.ro false 4 (r_1.2.f_l.map e_TSToken), cI r_1.2.f_n, cB r_1.2.f_gapped]]))), fun hbd => (m3_cons (m3_box rfl rfl) (m3_rem (in_cons (by decide) (in_nil _)) (.cons (by decide) .nil) hbd)), (.agg [cI r_1.1.Kind, cI r_1.1.Dim.Num, .str r_1.1.Dim.Unit, .ro false 4 (r_1.1.Subs.map eRaw)]), 2, rfl, rfl, ?_⟩
  refine un (a2v (v := (.c (.ref 2 4 0 0))) (h' := upd _ 2 (some (.cells 4 [[cI 0, cI 0, .str [], .ro true 4 []]]))) (n' := 3) rfl rfl (fun h => by cases h) ?_)
  refine un (a2n (h' := upd _ 2 (some (.cells 4 [[cI r_1.1.Kind, cI r_1.1.Dim.Num, .str r_1.1.Dim.Unit, .ro false 4 (r_1.1.Subs.map eRaw)]]))) (n' := 3) rfl rfl (fun h => by cases h) ?_)
  refine dnil ?_
  refine Sv.block ?_
  obtain ⟨kk, h⟩ := limF_some h
  refine Sv.weak (weak_canon [0, 1, 2] rfl (by decide) (by decide) (by decide) (.cons rfl (.c (.ref rfl (by decide))) (.cons rfl (.c (.ref rfl (by decide))) (.cons rfl (.c (.ref rfl (by decide))) .nil))) (.box (by decide) rfl (blkAs_cells (.cons (.same rfl) (.cons (.same rfl) (.cons (.same rfl) (.cons (.same rfl) .nil))))) (.box (by decide) rfl (blkAs_cells (.cons (.same rfl) (.cons (.same rfl) (.cons (.same rfl) (.cons (.same rfl) .nil))))) (.box (by decide) rfl (blkAs_cells (.cons (.same rfl) (.cons (.same rfl) (.cons (.same rfl) .nil)))) .nil)))) (clerestory_calc_reader_sum_l0_ok h  (fun s hs => hs) hrec_clerestory_calc_reader_value)
def a32_c0 : ACode := (.region [⟨(some 26), (.bin .add (.tmp 10) (.const (.c (.val (.int .i64 1))))), none⟩, ⟨(some 10), (.mov (.tmp 26)), none⟩])
def a32_c1 : ACode := (.seq (.region [⟨(some 11), (.bin .lss (.tmp 10) (.tmp 9)), none⟩])
 (.seq (.cond (.tmp 11) .skip (.exit 0))
 (.seq (.block 1 (.seq (.region [⟨(some 12), (.mov (.tmp 10)), none⟩, ⟨(some 13), (.iaddr 1 (.tmp 8) (.tmp 10)), none⟩, ⟨(some 14), (.load false 1 (.tmp 13)), none⟩, ⟨(some 4), (.mov (.tmp 12)), none⟩, ⟨(some 5), (.mov (.tmp 14)), none⟩])
 (.seq (.region [⟨(some 15), (.mov (.tmp 5)), none⟩, ⟨(some 16), (.bin .geq (.tmp 15) (.const (.c (.val (.int .u8 65))))), none⟩, ⟨(some 17), (.mov (.tmp 16)), none⟩, ⟨(some 18), (.mov (.tmp 5)), (some (17, true))⟩, ⟨(some 19), (.bin .leq (.tmp 18) (.const (.c (.val (.int .u8 90))))), (some (17, true))⟩, ⟨(some 20), (.pick (.tmp 17) (.tmp 19) (.const (.c (.val (.bool false))))), none⟩])
 (.cond (.tmp 20) (.region [⟨(some 21), (.mov (.tmp 3)), none⟩, ⟨(some 22), (.mov (.tmp 4)), none⟩, ⟨(some 23), (.mov (.tmp 5)), none⟩, ⟨(some 24), (.bin .add (.tmp 23) (.const (.c (.val (.int .u8 32))))), none⟩, ⟨(some 25), (.iaddr 1 (.tmp 21) (.tmp 22)), none⟩, ⟨none, (.store 1 (.tmp 25) (.tmp 24)), none⟩]) .skip))))
 a32_c0)))
def a32 : AFunc := ⟨1, [(.tmp 2)], (.seq (.region [⟨(some 2), (.mov (.const (.c (.str [])))), none⟩])
 (.seq (.region [⟨(some 6), (.mov (.tmp 0)), none⟩, ⟨(some 7), (.toBytes (.tmp 6)), none⟩, ⟨(some 3), (.mov (.tmp 7)), none⟩])
 (.seq (.seq (.region [⟨(some 8), (.mov (.tmp 3)), none⟩, ⟨(some 9), (.len (.tmp 8)), none⟩, ⟨(some 10), (.mov (.const (.c (.val (.int .i64 0))))), none⟩])
 (.block 0 (.loop a32_c1)))
 (.seq (.region [⟨(some 27), (.mov (.tmp 3)), none⟩, ⟨(some 28), (.ofBytes (.tmp 27)), none⟩, ⟨(some 2), (.mov (.tmp 28)), none⟩])
 .ret))))⟩
set_option maxRecDepth 100000 in
theorem c32 : compFunc Tryd.prog 32 = some a32 := by kernel_rfl
def calc_lower_post (r : (List UInt8)) : AV → Heap → Nat → Prop := fun v h' n' => v = (S r) ∧ (h' = (fun _ => none)) ∧ n' = 0
abbrev calc_lower_l0_H (F_ : (List Int) → Int → Int → Option (List UInt8)) (o : (List UInt8)) (R_ : St → Prop) : Prop := ∀ (b_ : (List Int)) (v9 : Int) (v10 : Int) (zb : Bool) (_ : zb = true → b_ = []), F_ b_ v9 v10 = some o → ∀ s, Weak 0 s ⟨(upd (upd (upd (upd (fun _ => none) 3 (some (lstV zb 0 1 b_.length))) 8 (some (lstV zb 0 1 b_.length))) 9 (some (I v9))) 10 (some (I v10))), (upd (fun _ => none) 0 (lstB zb 1 (b_.map (eK .u8)))), 1⟩ → R_ s
abbrev calc_lower_l0_E0 (F_ : (List Int) → Option (List UInt8)) (o : (List UInt8)) (R_ : St → Prop) : Prop := ∀ (b_1 : (List Int)) (zb_1 : Bool) (_ : zb_1 = true → b_1 = []), F_ b_1 = some o → ∀ s, Weak 0 s ⟨(upd (fun _ => none) 3 (some (lstV zb_1 0 1 b_1.length))), (upd (fun _ => none) 0 (lstB zb_1 1 (b_1.map (eK .u8)))), 1⟩ → R_ s
noncomputable def calc_lower_j3 (v9 : Int) (v10 : Int) (self : (List Int) → Int → Int → Option (List UInt8)) (K0_ : (List Int) → Option (List UInt8)) (b_2 : (List Int)) : Option (List UInt8) :=
  self b_2 v9 (wi (v10 + 1))
theorem calc_lower_j3_ok {mL : Int} {Q : AExit → St → Prop} {v9 : Int} {v10 : Int} {self : (List Int) → Int → Int → Option (List UInt8)} {K0_ : (List Int) → Option (List UInt8)} {b_2 : (List Int)} {zb_2 : Bool} (hzb_2 : zb_2 = true → b_2 = []) {o : (List UInt8)} (h : calc_lower_j3 v9 v10 self K0_ b_2 = some o)
    (hself : calc_lower_l0_H self o (Q .normal))
    (hK0 : calc_lower_l0_E0 K0_ o (Q (.exit 0)))
    (hr : ∀ s, Ends a32.results 0 (calc_lower_post o) .ret s → Q .ret s) :
    Sv Tryd.prog (GG mL) 0 a32_c0 Q ⟨(upd (upd (upd (upd (fun _ => none) 3 (some (lstV zb_2 0 1 b_2.length))) 8 (some (lstV zb_2 0 1 b_2.length))) 9 (some (I v9))) 10 (some (I v10))), (upd (fun _ => none) 0 (lstB zb_2 1 (b_2.map (eK .u8)))), 1⟩ := by
  unfold calc_lower_j3 at h
  refine Sv.region ?_
  refine un (a1 (v := (I (wi (v10 + 1)))) rfl ?_)
  refine un (a1 rfl ?_)
  refine dnil ?_
  exact hself b_2 v9 (wi (v10 + 1)) zb_2 hzb_2 h _ (weak_canon [0] rfl (by decide) (by decide) (fun b h => absurd h (Nat.not_lt_zero _)) (.cons rfl (avAs_free rfl) (.cons rfl (avAs_free rfl) (.cons rfl (.c (lstC_ren rfl (by decide))) (.cons rfl (.c (lstC_ren rfl (by decide))) .nil)))) (.row (by decide) rfl (fr_map fun _ => rfl) .nil))
abbrev calc_lower_l0_I (F_ : Nat → (List Int) → Int → Int → Option (List UInt8)) (o : (List UInt8)) : Nat → St → Prop := fun k s => ∃ (b_ : (List Int)), ∃ (v9 : Int), ∃ (v10 : Int), ∃ (zb : Bool), (zb = true → b_ = []) ∧ F_ k b_ v9 v10 = some o ∧ s = ⟨(upd (upd (upd (upd (fun _ => none) 3 (some (lstV zb 0 1 b_.length))) 8 (some (lstV zb 0 1 b_.length))) 9 (some (I v9))) 10 (some (I v10))), (upd (fun _ => none) 0 (lstB zb 1 (b_.map (eK .u8)))), 1⟩
noncomputable def calc_lower_l0 (K0_ : (List Int) → Option (List UInt8)) : Nat → (List Int) → Int → Int → Option (List UInt8)
  | 0, _, _, _ => none
  | k + 1, b_, v9, v10 =>
    if decide (v10 < v9) then
      (at? b_ v10).bind fun x_ =>
      if ((decide (65 ≤ x_)) && (decide (x_ ≤ 90))) then
        (at? b_ v10).bind fun x_1 =>
        calc_lower_j3 v9 v10 (calc_lower_l0 K0_ k) K0_ (b_.set v10.toNat (wr .u8 (x_ + 32)))
      else
        calc_lower_j3 v9 v10 (calc_lower_l0 K0_ k) K0_ b_
    else
      K0_ b_
theorem calc_lower_l0_ok {mL : Int} {Q : AExit → St → Prop} {K0_ : (List Int) → Option (List UInt8)} {k : Nat} {b_ : (List Int)} {v9 : Int} {v10 : Int} {zb : Bool} (hzb : zb = true → b_ = []) {o : (List UInt8)} (h : calc_lower_l0 K0_ k b_ v9 v10 = some o)
    (hK0 : calc_lower_l0_E0 K0_ o (Q (.exit 0)))
    (hr : ∀ s, Ends a32.results 0 (calc_lower_post o) .ret s → Q .ret s) :
    Sv Tryd.prog (GG mL) 0 (.loop a32_c1) Q ⟨(upd (upd (upd (upd (fun _ => none) 3 (some (lstV zb 0 1 b_.length))) 8 (some (lstV zb 0 1 b_.length))) 9 (some (I v9))) 10 (some (I v10))), (upd (fun _ => none) 0 (lstB zb 1 (b_.map (eK .u8)))), 1⟩ := by
  refine Sv.loop (I := calc_lower_l0_I (calc_lower_l0 K0_) o) (fun k s hI => ?_) ⟨b_, v9, v10, zb, hzb, h, rfl⟩
  clear h
  clear hzb zb v10 v9 b_
  obtain ⟨b_, v9, v10, zb, hzb, h, rfl⟩ := hI
  cases k with
  | zero => cases h
  | succ k =>
  rw [calc_lower_l0] at h
  have hself : calc_lower_l0_H (calc_lower_l0 K0_ k) o (rnd 0 (calc_lower_l0_I (calc_lower_l0 K0_) o) k Q) := fun b_ v9 v10 zb hzb h s hw => ⟨_, k, hw, Nat.lt_succ_self k, b_, v9, v10, zb, hzb, h, rfl⟩
  refine Sv.seq ?_
  refine Sv.region ?_
  refine un (a1 (v := (B (decide (v10 < v9)))) rfl ?_)
  refine dnil ?_
  refine Sv.seq ?_
  refine Sv.cond (b := decide (v10 < v9)) rfl (fun hc1 => ?_) (fun hc1 => ?_)
  · replace h := ifT hc1 h
    refine Sv.skip ?_
    refine Sv.seq ?_
    refine Sv.block ?_
    refine Sv.seq ?_
    refine Sv.region ?_
    refine un (a1 rfl ?_)
    obtain ⟨x_, hx1, h⟩ := bnd h
    refine un (a1 (v := (.c (.ref 0 1 v10.toNat 0))) (s_iaddrL rfl rfl hzb hx1) ?_)
    refine un (a1 (v := (.c (.val (.int .u8 x_)))) (s_loadL (z := zb) (e := (eK .u8)) rfl rfl hzb hx1 rfl rfl) ?_)
    refine un (a1 rfl ?_)
    refine un (a1 rfl ?_)
    refine dnil ?_
    refine Sv.seq ?_
    refine Sv.region ?_
    refine un (a1 rfl ?_)
    refine un (a1 (v := (B (decide (65 ≤ x_)))) rfl ?_)
    refine un (a1 rfl ?_)
    refine gjoin 3 (d := 20) (v := (B ((decide (65 ≤ x_)) && (decide (x_ ≤ 90))))) (fun X hX => ?_) ?_
    · refine split2 (fun hc2 => ?_) (fun hc2 => ?_)
      · refine gt rfl (a1 rfl ?_)
        refine gt rfl (a1 (v := (B (decide (x_ ≤ 90)))) rfl ?_)
        refine un (a1 (v := (B (decide (x_ ≤ 90)))) rfl ?_)
        refine dnil ?_
        exact hX _ (.putEq (by rw [hc2]; rfl) (.skip _ _ (.skip _ _ (.putEq (by rw [hc2]) (.refl _)) rfl) rfl))
      · refine gs rfl rfl ?_
        refine gs rfl rfl ?_
        refine un (a1 (v := (B false)) rfl ?_)
        refine dnil ?_
        exact hX _ (.putEq (by rw [hc2]; rfl) (.skip _ _ (.skip _ _ (.putEq (by rw [hc2]) (.refl _)) rfl) rfl))
    refine dnil ?_
    refine Sv.cond (b := ((decide (65 ≤ x_)) && (decide (x_ ≤ 90)))) rfl (fun hc3 => ?_) (fun hc3 => ?_)
    · replace h := ifT hc3 h
      refine Sv.region ?_
      refine un (a1 rfl ?_)
      refine un (a1 rfl ?_)
      refine un (a1 rfl ?_)
      refine un (a1 (v := (.c (.val (.int .u8 (wr .u8 (x_ + 32)))))) rfl ?_)
      obtain ⟨x_1, hx2, h⟩ := bnd h
      refine un (a1 (v := (.c (.ref 0 1 v10.toNat 0))) (s_iaddrL rfl rfl hzb hx2) ?_)
      refine un (a2n (h' := upd _ 0 (lstB zb 1 ((b_.set v10.toNat (wr .u8 (x_ + 32))).map (eK .u8)))) (n' := 1) rfl (s_storeL (e := (eK .u8)) (q' := (wr .u8 (x_ + 32))) rfl rfl hzb hx2 rfl rfl rfl (Nat.le_of_ble_eq_true rfl) rfl) (fun h => by cases h) ?_)
      try rw [len_set b_ v10.toNat (wr .u8 (x_ + 32))]
      refine dnil ?_
      exact Sv.weak (weak_canon [0] rfl (by decide) (by decide) (fun b h => absurd h (Nat.not_lt_zero _)) (.cons rfl (avAs_free rfl) (.cons rfl (avAs_free rfl) (.cons rfl (.c (lstC_ren rfl (by decide))) (.cons rfl (.c (lstC_ren rfl (by decide))) .nil)))) (.row (by decide) rfl (fr_map fun _ => rfl) .nil)) (calc_lower_j3_ok (hz_len hzb (len_set b_ v10.toNat (wr .u8 (x_ + 32)))) h hself hK0 hr)
    · replace h := ifF hc3 h
      refine Sv.skip ?_
      exact Sv.weak (weak_canon [0] rfl (by decide) (by decide) (fun b h => absurd h (Nat.not_lt_zero _)) (.cons rfl (avAs_free rfl) (.cons rfl (avAs_free rfl) (.cons rfl (.c (lstC_ren rfl (by decide))) (.cons rfl (.c (lstC_ren rfl (by decide))) .nil)))) (.row (by decide) rfl (fr_map fun _ => rfl) .nil)) (calc_lower_j3_ok hzb h hself hK0 hr)
  · replace h := ifF hc1 h
    refine Sv.exit ?_
    exact hK0 b_ zb hzb h _ (weak_canon [0] rfl (by decide) (by decide) (fun b h => absurd h (Nat.not_lt_zero _)) (.cons rfl (.c (lstC_ren rfl (by decide))) .nil) (.row (by decide) rfl (fr_map fun _ => rfl) .nil))
/-- clerestory/calc.lower -/
noncomputable def calc_lower (s_ : (List UInt8)) : Option (List UInt8) :=
  limF fun kk => calc_lower_l0 (fun (b_1 : (List Int)) => 
      some (byts b_1)) kk (ints s_) ((ints s_).length : Int) 0
theorem calc_lower_ok {mL : Int} {s_ : (List UInt8)} {r : (List UInt8)} (h : calc_lower s_ = some r) : CPure Tryd.prog (GG mL) 32 [(S s_)] (S r) := by
  refine acalls_of_sv hmix c32 (R := calc_lower_post r) ?_
  unfold calc_lower at h
  refine Sv.seq ?_
  refine Sv.region ?_
  refine un (a1 rfl ?_)
  refine dnil ?_
  refine Sv.seq ?_
  refine Sv.region ?_
  refine un (a1 rfl ?_)
  refine un (a2v (v := (lstV false 0 1 (ints s_).length)) (h' := upd _ 0 (lstB false 1 ((ints s_).map (eK .u8)))) (n' := 1) rfl (s_toBytes rfl) (fun h => by cases h) ?_)
  refine un (a1 rfl ?_)
  refine dnil ?_
  refine Sv.seq ?_
  refine Sv.seq ?_
  refine Sv.region ?_
  refine un (a1 rfl ?_)
  refine un (a1 (v := (I ((ints s_).length : Int))) (s_lenL rfl (len_nil_of (fun h => by cases h))) ?_)
  refine un (a1 rfl ?_)
  refine dnil ?_
  refine Sv.block ?_
  obtain ⟨kk, h⟩ := limF_some h
  refine Sv.weak (weak_canon [0] rfl (by decide) (by decide) (fun b h => absurd h (Nat.not_lt_zero _)) (.cons rfl (avAs_free rfl) (.cons rfl (avAs_free rfl) (.cons rfl (.c (lstC_ren rfl (by decide))) (.cons rfl (.c (lstC_ren rfl (by decide))) .nil)))) (.row (by decide) rfl (fr_map fun _ => rfl) .nil)) (calc_lower_l0_ok (fun h => by cases h) h ?_ (fun s hs => hs))
  · intro b_1 zb_1 hzb_1 h _ hw1
    refine Sv.weak hw1 ?_
    refine Sv.seq ?_
    refine Sv.region ?_
    refine un (a1 rfl ?_)
    refine un (a1 (v := (S (byts b_1))) (s_ofBytes (xs := b_1) rfl (slc_lst rfl (List.length_map _).symm (map_nil_of hzb_1))) ?_)
    refine un (a1 rfl ?_)
    refine dnil ?_
    refine Sv.ret ?_
    replace h := Option.some.inj h
    subst h
    exact ⟨_, .refl _, _, rfl, ⟨upd (fun _ => none) 0 (some (S (byts b_1))), (fun _ => none), 0⟩, (S (byts b_1)), weak_canon [] rfl List.nodup_nil (Nat.le_refl _) (fun b h => absurd h (Nat.not_lt_zero _)) (.cons rfl (avAs_free rfl) .nil) .nil, rfl, rfl, rfl, rfl⟩
def a10_c1 : ACode := (.cond (.tmp 20) (.seq (.region [⟨(some 23), (.mov (.tmp 3)), none⟩, ⟨(some 24), (.bin .gtr (.tmp 23) (.const (.c (.val (.int .i64 0))))), none⟩, ⟨(some 2), (.mov (.tmp 24)), none⟩])
 .ret) (.seq (.region [⟨(some 26), (.bin .eql (.tmp 8) (.const (.c (.val (.int .i64 8))))), none⟩, ⟨(some 25), (.mov (.tmp 26)), none⟩])
 (.cond (.tmp 25) (.seq (.region [⟨(some 27), (.mov (.tmp 3)), none⟩, ⟨(some 28), (.bin .eql (.tmp 27) (.const (.c (.val (.int .i64 3))))), none⟩, ⟨(some 2), (.mov (.tmp 28)), none⟩])
 .ret) .skip)))
def a10_c0 : ACode := (.cond (.tmp 13) (.seq (.region [⟨(some 18), (.mov (.tmp 3)), none⟩, ⟨(some 19), (.bin .eql (.tmp 18) (.const (.c (.val (.int .i64 2))))), none⟩, ⟨(some 2), (.mov (.tmp 19)), none⟩])
 .ret) (.seq (.seq (.region [⟨(some 21), (.bin .eql (.tmp 8) (.const (.c (.val (.int .i64 6))))), none⟩, ⟨(some 20), (.mov (.tmp 21)), none⟩])
 (.cond (.tmp 20) .skip (.region [⟨(some 22), (.bin .eql (.tmp 8) (.const (.c (.val (.int .i64 7))))), none⟩, ⟨(some 20), (.mov (.tmp 22)), none⟩])))
 a10_c1))
def a10_c2 : ACode := (.seq (.region [⟨(some 2), (.mov (.const (.c (.val (.bool false))))), none⟩])
 .ret)
def a10 : AFunc := ⟨1, [(.tmp 2)], (.seq (.region [⟨(some 1), (.box (.tmp 0)), none⟩, ⟨(some 2), (.mov (.const (.c (.val (.bool false))))), none⟩])
 (.seq (.region [⟨(some 4), (.faddr 3 (.tmp 1)), none⟩, ⟨(some 5), (.load false 1 (.tmp 4)), none⟩, ⟨(some 6), (.len (.tmp 5)), none⟩, ⟨(some 3), (.mov (.tmp 6)), none⟩])
 (.seq (.seq (.region [⟨(some 7), (.faddr 0 (.tmp 1)), none⟩, ⟨(some 8), (.load false 1 (.tmp 7)), none⟩])
 (.block 0 (.seq (.region [⟨(some 10), (.bin .eql (.tmp 8) (.const (.c (.val (.int .i64 1))))), none⟩, ⟨(some 9), (.mov (.tmp 10)), none⟩])
 (.cond (.tmp 9) (.seq (.region [⟨(some 11), (.mov (.tmp 3)), none⟩, ⟨(some 12), (.bin .eql (.tmp 11) (.const (.c (.val (.int .i64 0))))), none⟩, ⟨(some 2), (.mov (.tmp 12)), none⟩])
 .ret) (.seq (.seq (.region [⟨(some 14), (.bin .eql (.tmp 8) (.const (.c (.val (.int .i64 2))))), none⟩, ⟨(some 13), (.mov (.tmp 14)), none⟩])
 (.cond (.tmp 13) .skip (.seq (.region [⟨(some 15), (.bin .eql (.tmp 8) (.const (.c (.val (.int .i64 3))))), none⟩, ⟨(some 13), (.mov (.tmp 15)), none⟩])
 (.cond (.tmp 13) .skip (.seq (.region [⟨(some 16), (.bin .eql (.tmp 8) (.const (.c (.val (.int .i64 4))))), none⟩, ⟨(some 13), (.mov (.tmp 16)), none⟩])
 (.cond (.tmp 13) .skip (.region [⟨(some 17), (.bin .eql (.tmp 8) (.const (.c (.val (.int .i64 5))))), none⟩, ⟨(some 13), (.mov (.tmp 17)), none⟩])))))))
 a10_c0)))))
 a10_c2)))⟩
set_option maxRecDepth 100000 in
theorem c10 : compFunc Tryd.prog 10 = some a10 := by kernel_rfl
def calc_shaped_post (r : Bool) : AV → Heap → Nat → Prop := fun v h' n' => v = (B r) ∧ (h' = (fun _ => none)) ∧ n' = 0
abbrev calc_shaped_q0 (mL : Int) (o : Bool) : AExit → St → Prop := AThen (Sv Tryd.prog (GG mL) 0 a10_c2 (Ends a10.results 0 (calc_shaped_post o))) (Ends a10.results 0 (calc_shaped_post o))
abbrev calc_shaped_q1 (mL : Int) (o : Bool) : AExit → St → Prop := ABlock 0 (calc_shaped_q0 mL o)
def calc_shaped_j2 (t_ : TSTerm) (v20 : Bool) : Bool :=
  if v20 then
    decide (0 < (t_.Subs.length : Int))
  else
    if decide (t_.Kind = 8) then
      decide ((t_.Subs.length : Int) = 3)
    else
      false
theorem calc_shaped_j2_ok {mL : Int} {t_ : TSTerm} {v20 : Bool} {o : Bool} (h : calc_shaped_j2 t_ v20 = o) :
    Sv Tryd.prog (GG mL) 0 a10_c1 (calc_shaped_q1 mL o) ⟨(upd (upd (upd (fun _ => none) 3 (some (I (t_.Subs.length : Int)))) 8 (some (I t_.Kind))) 20 (some (B v20))), (fun _ => none), 0⟩ := by
  unfold calc_shaped_j2 at h
  refine Sv.cond (b := v20) rfl (fun hc3 => ?_) (fun hc3 => ?_)
  · replace h := ifT hc3 h
    refine Sv.seq ?_
    refine Sv.region ?_
    refine un (a1 rfl ?_)
    refine un (a1 (v := (B (decide (0 < (t_.Subs.length : Int))))) rfl ?_)
    refine un (a1 rfl ?_)
    refine dnil ?_
    refine Sv.ret ?_
    subst h
    exact ⟨_, .refl _, _, rfl, ⟨upd (fun _ => none) 0 (some (B (decide (0 < (t_.Subs.length : Int))))), (fun _ => none), 0⟩, (B (decide (0 < (t_.Subs.length : Int)))), weak_canon [] rfl List.nodup_nil (Nat.le_refl _) (fun b h => absurd h (Nat.not_lt_zero _)) (.cons rfl (avAs_free rfl) .nil) .nil, rfl, rfl, rfl, rfl⟩
  · replace h := ifF hc3 h
    refine Sv.seq ?_
    refine Sv.region ?_
    refine un (a1 (v := (B (decide (t_.Kind = 8)))) rfl ?_)
    refine un (a1 rfl ?_)
    refine dnil ?_
    refine Sv.cond (b := decide (t_.Kind = 8)) rfl (fun hc4 => ?_) (fun hc4 => ?_)
    · replace h := ifT hc4 h
      refine Sv.seq ?_
      refine Sv.region ?_
      refine un (a1 rfl ?_)
      refine un (a1 (v := (B (decide ((t_.Subs.length : Int) = 3)))) rfl ?_)
      refine un (a1 rfl ?_)
      refine dnil ?_
      refine Sv.ret ?_
      subst h
      exact ⟨_, .refl _, _, rfl, ⟨upd (fun _ => none) 0 (some (B (decide ((t_.Subs.length : Int) = 3)))), (fun _ => none), 0⟩, (B (decide ((t_.Subs.length : Int) = 3))), weak_canon [] rfl List.nodup_nil (Nat.le_refl _) (fun b h => absurd h (Nat.not_lt_zero _)) (.cons rfl (avAs_free rfl) .nil) .nil, rfl, rfl, rfl, rfl⟩
    · replace h := ifF hc4 h
      refine Sv.skip ?_
      refine Sv.seq ?_
      refine Sv.region ?_
      refine un (a1 rfl ?_)
      refine dnil ?_
      refine Sv.ret ?_
      subst h
      exact ⟨_, .refl _, _, rfl, ⟨upd (fun _ => none) 0 (some (B false)), (fun _ => none), 0⟩, (B false), weak_canon [] rfl List.nodup_nil (Nat.le_refl _) (fun b h => absurd h (Nat.not_lt_zero _)) (.cons rfl (avAs_free rfl) .nil) .nil, rfl, rfl, rfl, rfl⟩
def calc_shaped_j1 (t_ : TSTerm) (v13 : Bool) : Bool :=
  if v13 then
    decide ((t_.Subs.length : Int) = 2)
  else
    if decide (t_.Kind = 6) then
      calc_shaped_j2 t_ (decide (t_.Kind = 6))
    else
      calc_shaped_j2 t_ (decide (t_.Kind = 7))
theorem calc_shaped_j1_ok {mL : Int} {t_ : TSTerm} {v13 : Bool} {o : Bool} (h : calc_shaped_j1 t_ v13 = o) :
    Sv Tryd.prog (GG mL) 0 a10_c0 (calc_shaped_q1 mL o) ⟨(upd (upd (upd (fun _ => none) 3 (some (I (t_.Subs.length : Int)))) 8 (some (I t_.Kind))) 13 (some (B v13))), (fun _ => none), 0⟩ := by
  unfold calc_shaped_j1 at h
  refine Sv.cond (b := v13) rfl (fun hc2 => ?_) (fun hc2 => ?_)
  · replace h := ifT hc2 h
    refine Sv.seq ?_
    refine Sv.region ?_
    refine un (a1 rfl ?_)
    refine un (a1 (v := (B (decide ((t_.Subs.length : Int) = 2)))) rfl ?_)
    refine un (a1 rfl ?_)
    refine dnil ?_
    refine Sv.ret ?_
    subst h
    exact ⟨_, .refl _, _, rfl, ⟨upd (fun _ => none) 0 (some (B (decide ((t_.Subs.length : Int) = 2)))), (fun _ => none), 0⟩, (B (decide ((t_.Subs.length : Int) = 2))), weak_canon [] rfl List.nodup_nil (Nat.le_refl _) (fun b h => absurd h (Nat.not_lt_zero _)) (.cons rfl (avAs_free rfl) .nil) .nil, rfl, rfl, rfl, rfl⟩
  · replace h := ifF hc2 h
    refine Sv.seq ?_
    refine Sv.seq ?_
    refine Sv.region ?_
    refine un (a1 (v := (B (decide (t_.Kind = 6)))) rfl ?_)
    refine un (a1 rfl ?_)
    refine dnil ?_
    refine Sv.cond (b := decide (t_.Kind = 6)) rfl (fun hc5 => ?_) (fun hc5 => ?_)
    · replace h := ifT hc5 h
      refine Sv.skip ?_
      exact Sv.weak (weak_canon [] rfl (by decide) (by decide) (fun b h => absurd h (Nat.not_lt_zero _)) (.cons rfl (avAs_free rfl) (.cons rfl (avAs_free rfl) (.cons rfl (avAs_free rfl) .nil))) .nil) (calc_shaped_j2_ok h)
    · replace h := ifF hc5 h
      refine Sv.region ?_
      refine un (a1 (v := (B (decide (t_.Kind = 7)))) rfl ?_)
      refine un (a1 rfl ?_)
      refine dnil ?_
      exact Sv.weak (weak_canon [] rfl (by decide) (by decide) (fun b h => absurd h (Nat.not_lt_zero _)) (.cons rfl (avAs_free rfl) (.cons rfl (avAs_free rfl) (.cons rfl (avAs_free rfl) .nil))) .nil) (calc_shaped_j2_ok h)
/-- clerestory/calc.shaped -/
def calc_shaped (t_ : TSTerm) : Bool :=
  if decide (t_.Kind = 1) then
    decide ((t_.Subs.length : Int) = 0)
  else
    if decide (t_.Kind = 2) then
      calc_shaped_j1 t_ (decide (t_.Kind = 2))
    else
      if decide (t_.Kind = 3) then
        calc_shaped_j1 t_ (decide (t_.Kind = 3))
      else
        if decide (t_.Kind = 4) then
          calc_shaped_j1 t_ (decide (t_.Kind = 4))
        else
          calc_shaped_j1 t_ (decide (t_.Kind = 5))
theorem calc_shaped_ok {mL : Int} (t_ : TSTerm) : CPure Tryd.prog (GG mL) 10 [(.agg [cI t_.Kind, cI t_.Dim.Num, .str t_.Dim.Unit, .ro false 4 (t_.Subs.map eRaw)])] (B (calc_shaped t_)) := by
  generalize h : calc_shaped t_ = o
  refine acalls_of_sv hmix c10 (R := calc_shaped_post o) ?_
  unfold calc_shaped at h
  refine Sv.seq ?_
  refine Sv.region ?_
  refine un (a2v (v := (.c (.ref 0 4 0 0))) (h' := upd _ 0 (some (.cells 4 [[cI t_.Kind, cI t_.Dim.Num, .str t_.Dim.Unit, .ro false 4 (t_.Subs.map eRaw)]]))) (n' := 1) rfl rfl (fun h => by cases h) ?_)
  refine un (a1 rfl ?_)
  refine dnil ?_
  refine Sv.seq ?_
  refine Sv.region ?_
  refine un (a1 (v := (.c (.ref 0 4 0 3))) rfl ?_)
  refine un (a1 (v := (.c (.ro false 4 (t_.Subs.map eRaw)))) rfl ?_)
  refine un (a1 (v := (I (t_.Subs.length : Int))) (s_len (e := eRaw) (xs := t_.Subs) rfl) ?_)
  refine un (a1 rfl ?_)
  refine dnil ?_
  refine Sv.seq ?_
  refine Sv.seq ?_
  refine Sv.region ?_
  refine un (a1 (v := (.c (.ref 0 4 0 0))) rfl ?_)
  refine un (a1 (v := (I t_.Kind)) rfl ?_)
  refine dnil ?_
  refine Sv.block ?_
  refine Sv.seq ?_
  refine Sv.region ?_
  refine un (a1 (v := (B (decide (t_.Kind = 1)))) rfl ?_)
  refine un (a1 rfl ?_)
  refine dnil ?_
  refine Sv.cond (b := decide (t_.Kind = 1)) rfl (fun hc1 => ?_) (fun hc1 => ?_)
  · replace h := ifT hc1 h
    refine Sv.seq ?_
    refine Sv.region ?_
    refine un (a1 rfl ?_)
    refine un (a1 (v := (B (decide ((t_.Subs.length : Int) = 0)))) rfl ?_)
    refine un (a1 rfl ?_)
    refine dnil ?_
    refine Sv.ret ?_
    subst h
    exact ⟨_, .refl _, _, rfl, ⟨upd (fun _ => none) 0 (some (B (decide ((t_.Subs.length : Int) = 0)))), (fun _ => none), 0⟩, (B (decide ((t_.Subs.length : Int) = 0))), weak_canon [] rfl List.nodup_nil (Nat.le_refl _) (fun b h => absurd h (Nat.not_lt_zero _)) (.cons rfl (avAs_free rfl) .nil) .nil, rfl, rfl, rfl, rfl⟩
  · replace h := ifF hc1 h
    refine Sv.seq ?_
    refine Sv.seq ?_
    refine Sv.region ?_
    refine un (a1 (v := (B (decide (t_.Kind = 2)))) rfl ?_)
    refine un (a1 rfl ?_)
    refine dnil ?_
    refine Sv.cond (b := decide (t_.Kind = 2)) rfl (fun hc6 => ?_) (fun hc6 => ?_)
    · replace h := ifT hc6 h
      refine Sv.skip ?_
      exact Sv.weak (weak_canon [] rfl (by decide) (by decide) (fun b h => absurd h (Nat.not_lt_zero _)) (.cons rfl (avAs_free rfl) (.cons rfl (avAs_free rfl) (.cons rfl (avAs_free rfl) .nil))) .nil) (calc_shaped_j1_ok h)
    · replace h := ifF hc6 h
      refine Sv.seq ?_
      refine Sv.region ?_
      refine un (a1 (v := (B (decide (t_.Kind = 3)))) rfl ?_)
      refine un (a1 rfl ?_)
      refine dnil ?_
      refine Sv.cond (b := decide (t_.Kind = 3)) rfl (fun hc7 => ?_) (fun hc7 => ?_)
      · replace h := ifT hc7 h
        refine Sv.skip ?_
        exact Sv.weak (weak_canon [] rfl (by decide) (by decide) (fun b h => absurd h (Nat.not_lt_zero _)) (.cons rfl (avAs_free rfl) (.cons rfl (avAs_free rfl) (.cons rfl (avAs_free rfl) .nil))) .nil) (calc_shaped_j1_ok h)
      · replace h := ifF hc7 h
        refine Sv.seq ?_
        refine Sv.region ?_
        refine un (a1 (v := (B (decide (t_.Kind = 4)))) rfl ?_)
        refine un (a1 rfl ?_)
        refine dnil ?_
        refine Sv.cond (b := decide (t_.Kind = 4)) rfl (fun hc8 => ?_) (fun hc8 => ?_)
        · replace h := ifT hc8 h
          refine Sv.skip ?_
          exact Sv.weak (weak_canon [] rfl (by decide) (by decide) (fun b h => absurd h (Nat.not_lt_zero _)) (.cons rfl (avAs_free rfl) (.cons rfl (avAs_free rfl) (.cons rfl (avAs_free rfl) .nil))) .nil) (calc_shaped_j1_ok h)
        · replace h := ifF hc8 h
          refine Sv.region ?_
          refine un (a1 (v := (B (decide (t_.Kind = 5)))) rfl ?_)
          refine un (a1 rfl ?_)
          refine dnil ?_
          exact Sv.weak (weak_canon [] rfl (by decide) (by decide) (fun b h => absurd h (Nat.not_lt_zero _)) (.cons rfl (avAs_free rfl) (.cons rfl (avAs_free rfl) (.cons rfl (avAs_free rfl) .nil))) .nil) (calc_shaped_j1_ok h)
def a19_c0 : ACode := (.block 1 (.seq (.drawn (.alt [(⟨(some 91), (.faddr 3 (.tmp 12)), none⟩, (0, 0)), (⟨(some 93), (.mov (.tmp 0)), none⟩, (0, 2))] (.fin [(⟨(some 92), (.load false 1 (.tmp 91)), none⟩, (2, 1)), (⟨(some 94), (.call 30 [(.tmp 93)]), none⟩, (2, 3)), (⟨(some 95), (.bslice 4 [(.val (.int .i64 0)), (.val (.int .i64 0)), (.str []), (.ro true 4 [])] 1 [(0, (.tmp 94))]), none⟩, (2, 4)), (⟨(some 96), (.app 4 56 (.tmp 92) (.tmp 95)), none⟩, (2, 5)), (⟨(some 97), (.faddr 3 (.tmp 12)), none⟩, (0, 6)), (⟨none, (.store 1 (.tmp 97) (.tmp 96)), none⟩, (2, 7))]) (.alt [(⟨(some 94), (.call 30 [(.tmp 93)]), none⟩, (2, 3))] (.fin [(⟨(some 92), (.load false 1 (.tmp 91)), none⟩, (2, 1)), (⟨(some 95), (.bslice 4 [(.val (.int .i64 0)), (.val (.int .i64 0)), (.str []), (.ro true 4 [])] 1 [(0, (.tmp 94))]), none⟩, (2, 4)), (⟨(some 96), (.app 4 56 (.tmp 92) (.tmp 95)), none⟩, (2, 5)), (⟨(some 97), (.faddr 3 (.tmp 12)), none⟩, (0, 6)), (⟨none, (.store 1 (.tmp 97) (.tmp 96)), none⟩, (2, 7))]) (.fin [(⟨(some 95), (.bslice 4 [(.val (.int .i64 0)), (.val (.int .i64 0)), (.str []), (.ro true 4 [])] 1 [(0, (.tmp 94))]), none⟩, (2, 4)), (⟨(some 92), (.load false 1 (.tmp 91)), none⟩, (2, 1)), (⟨(some 96), (.app 4 56 (.tmp 92) (.tmp 95)), none⟩, (2, 5)), (⟨(some 97), (.faddr 3 (.tmp 12)), none⟩, (0, 6)), (⟨none, (.store 1 (.tmp 97) (.tmp 96)), none⟩, (2, 7))]))))
 (.seq (.seq (.region [⟨(some 98), (.mov (.tmp 0)), none⟩, ⟨(some 99), (.call 31 [(.tmp 98), (.const (.c (.str [44])))]), none⟩])
 (.cond (.tmp 99) (.exit 1) .skip))
 (.seq (.region [⟨(some 100), (.mov (.tmp 0)), none⟩, ⟨(some 101), (.mov (.tmp 0)), none⟩, ⟨(some 102), (.call 31 [(.tmp 101), (.const (.c (.str [41])))]), none⟩, ⟨(some 103), (.mov (.tmp 102)), none⟩, ⟨(some 104), (.load true 4 (.tmp 12)), (some (103, true))⟩, ⟨(some 105), (.call 10 [(.tmp 104)]), (some (103, true))⟩, ⟨(some 106), (.pick (.tmp 103) (.tmp 105) (.const (.c (.val (.bool false))))), none⟩, ⟨(some 107), (.call 20 [(.tmp 100), (.tmp 106)]), none⟩])
 (.seq (.region [⟨(some 108), (.mov (.tmp 0)), none⟩, ⟨(some 109), (.load true 4 (.tmp 12)), none⟩, ⟨(some 110), (.call 29 [(.tmp 108), (.tmp 109)]), none⟩, ⟨none, (.store 4 (.tmp 4) (.tmp 110)), none⟩])
 .ret)))))
def a19 : AFunc := ⟨2, [(.cell true 4 4)], (.seq (.region [⟨(some 4), (.box (.const (.agg [(.val (.int .i64 0)), (.val (.int .i64 0)), (.str []), (.ro true 4 [])]))), none⟩])
 (.seq (.region [⟨(some 13), (.mov (.tmp 0)), none⟩, ⟨(some 14), (.mov (.tmp 0)), none⟩, ⟨(some 15), (.nilc (.tmp 14)), none⟩, ⟨(some 16), (.faddr 0 (.tmp 15)), none⟩, ⟨(some 17), (.load false 1 (.tmp 16)), none⟩, ⟨(some 18), (.len (.tmp 17)), none⟩, ⟨(some 19), (.bin .gtr (.tmp 18) (.const (.c (.val (.int .i64 0))))), none⟩, ⟨(some 20), (.call 20 [(.tmp 13), (.tmp 19)]), none⟩])
 (.seq (.region [⟨(some 21), (.mov (.tmp 0)), none⟩, ⟨(some 22), (.nilc (.tmp 21)), none⟩, ⟨(some 23), (.faddr 0 (.tmp 22)), none⟩, ⟨(some 24), (.load false 1 (.tmp 23)), none⟩, ⟨(some 25), (.iaddr 4 (.tmp 24) (.const (.c (.val (.int .i64 0))))), none⟩, ⟨(some 26), (.load true 4 (.tmp 25)), none⟩, ⟨(some 5), (.box (.const (.agg [(.val (.int .i64 0)), (.str []), (.str []), (.val (.int .i64 0))]))), none⟩, ⟨none, (.store 4 (.tmp 5) (.tmp 26)), none⟩])
 (.seq (.region [⟨(some 27), (.mov (.tmp 0)), none⟩, ⟨(some 28), (.mov (.tmp 0)), none⟩, ⟨(some 29), (.nilc (.tmp 28)), none⟩, ⟨(some 30), (.faddr 0 (.tmp 29)), none⟩, ⟨(some 31), (.load false 1 (.tmp 30)), none⟩, ⟨(some 32), (.slSl 4 (.tmp 31) (some (.const (.c (.val (.int .i64 1))))) none none), none⟩, ⟨(some 33), (.nilc (.tmp 27)), none⟩, ⟨(some 34), (.faddr 0 (.tmp 33)), none⟩, ⟨none, (.store 1 (.tmp 34) (.tmp 32)), none⟩])
 (.seq (.seq (.region [⟨(some 35), (.faddr 0 (.tmp 5)), none⟩, ⟨(some 36), (.load false 1 (.tmp 35)), none⟩, ⟨(some 37), (.bin .eql (.tmp 36) (.const (.c (.val (.int .i64 7))))), none⟩])
 (.cond (.tmp 37) (.seq (.region [⟨(some 39), (.faddr 1 (.tmp 5)), none⟩, ⟨(some 40), (.load false 1 (.tmp 39)), none⟩, ⟨(some 41), (.call 28 [(.tmp 40)]), none⟩, ⟨(some 38), (.mov (.tmp 41)), none⟩, ⟨(some 42), (.ext (.tmp 38) 0), none⟩, ⟨(some 43), (.ext (.tmp 38) 1), none⟩, ⟨(some 6), (.box (.const (.agg [(.val (.int .i64 0)), (.str [])]))), none⟩, ⟨none, (.store 2 (.tmp 6) (.tmp 42)), none⟩, ⟨(some 7), (.mov (.tmp 43)), none⟩])
 (.seq (.region [⟨(some 44), (.mov (.tmp 0)), none⟩, ⟨(some 45), (.mov (.tmp 7)), none⟩, ⟨(some 46), (.bin .eql (.tmp 45) (.const (.c (.val (.int .i64 0))))), none⟩, ⟨(some 47), (.call 20 [(.tmp 44), (.tmp 46)]), none⟩])
 (.seq (.region [⟨(some 48), (.mov (.tmp 0)), none⟩, ⟨(some 49), (.load true 2 (.tmp 6)), none⟩, ⟨(some 50), (.build [(.val (.int .i64 0)), (.val (.int .i64 0)), (.str []), (.ro true 4 [])] [(0, (1, (.const (.c (.val (.int .i64 1)))))), (1, (2, (.tmp 49)))]), none⟩, ⟨(some 51), (.call 29 [(.tmp 48), (.tmp 50)]), none⟩, ⟨none, (.store 4 (.tmp 4) (.tmp 51)), none⟩])
 .ret))) .skip))
 (.seq (.seq (.region [⟨(some 52), (.mov (.tmp 1)), none⟩, ⟨(some 53), (.mov (.tmp 52)), none⟩, ⟨(some 54), (.faddr 1 (.tmp 5)), (some (53, true))⟩, ⟨(some 55), (.load false 1 (.tmp 54)), (some (53, true))⟩, ⟨(some 56), (.bin .eql (.tmp 55) (.const (.c (.str [40])))), (some (53, true))⟩, ⟨(some 57), (.pick (.tmp 53) (.tmp 56) (.const (.c (.val (.bool false))))), none⟩])
 (.cond (.tmp 57) (.seq (.region [⟨(some 58), (.mov (.tmp 0)), none⟩, ⟨(some 59), (.call 30 [(.tmp 58)]), none⟩, ⟨(some 8), (.box (.const (.agg [(.val (.int .i64 0)), (.val (.int .i64 0)), (.str []), (.ro true 4 [])]))), none⟩, ⟨none, (.store 4 (.tmp 8) (.tmp 59)), none⟩])
 (.seq (.region [⟨(some 60), (.mov (.tmp 0)), none⟩, ⟨(some 61), (.mov (.tmp 0)), none⟩, ⟨(some 62), (.call 31 [(.tmp 61), (.const (.c (.str [41])))]), none⟩, ⟨(some 63), (.call 20 [(.tmp 60), (.tmp 62)]), none⟩])
 (.seq (.region [⟨(some 64), (.load true 4 (.tmp 8)), none⟩, ⟨none, (.store 4 (.tmp 4) (.tmp 64)), none⟩])
 .ret))) .skip))
 (.seq (.region [⟨(some 65), (.mov (.tmp 0)), none⟩, ⟨(some 66), (.faddr 0 (.tmp 5)), none⟩, ⟨(some 67), (.load false 1 (.tmp 66)), none⟩, ⟨(some 68), (.bin .eql (.tmp 67) (.const (.c (.val (.int .i64 2))))), none⟩, ⟨(some 69), (.call 20 [(.tmp 65), (.tmp 68)]), none⟩])
 (.seq (.region [⟨(some 70), (.faddr 2 (.tmp 5)), none⟩, ⟨(some 71), (.load false 1 (.tmp 70)), none⟩, ⟨(some 72), (.call 32 [(.tmp 71)]), none⟩, ⟨(some 9), (.mov (.tmp 72)), none⟩])
 (.seq (.seq (.region [⟨(some 73), (.mov (.tmp 9)), none⟩, ⟨(some 74), (.bin .eql (.tmp 73) (.const (.c (.str [99, 97, 108, 99])))), none⟩])
 (.cond (.tmp 74) (.seq (.region [⟨(some 75), (.mov (.tmp 0)), none⟩, ⟨(some 76), (.call 30 [(.tmp 75)]), none⟩, ⟨(some 10), (.box (.const (.agg [(.val (.int .i64 0)), (.val (.int .i64 0)), (.str []), (.ro true 4 [])]))), none⟩, ⟨none, (.store 4 (.tmp 10) (.tmp 76)), none⟩])
 (.seq (.region [⟨(some 77), (.mov (.tmp 0)), none⟩, ⟨(some 78), (.mov (.tmp 0)), none⟩, ⟨(some 79), (.call 31 [(.tmp 78), (.const (.c (.str [41])))]), none⟩, ⟨(some 80), (.call 20 [(.tmp 77), (.tmp 79)]), none⟩])
 (.seq (.region [⟨(some 81), (.load true 4 (.tmp 10)), none⟩, ⟨none, (.store 4 (.tmp 4) (.tmp 81)), none⟩])
 .ret))) .skip))
 (.seq (.region [⟨(some 82), (.bslice 1 [(.str [])] 9 [(6, (.const (.c (.str [109, 105, 110])))), (7, (.const (.c (.str [109, 97, 120])))), (8, (.const (.c (.str [99, 108, 97, 109, 112]))))]), none⟩, ⟨(some 83), (.mov (.tmp 9)), none⟩, ⟨(some 84), (.call 33 [(.tmp 82), (.tmp 83)]), none⟩, ⟨(some 11), (.mov (.tmp 84)), none⟩])
 (.seq (.region [⟨(some 85), (.mov (.tmp 0)), none⟩, ⟨(some 86), (.mov (.tmp 11)), none⟩, ⟨(some 87), (.bin .gtr (.tmp 86) (.const (.c (.val (.int .i64 0))))), none⟩, ⟨(some 88), (.call 20 [(.tmp 85), (.tmp 87)]), none⟩])
 (.seq (.region [⟨(some 89), (.mov (.tmp 11)), none⟩, ⟨(some 90), (.build [(.val (.int .i64 0)), (.val (.int .i64 0)), (.str []), (.ro true 4 [])] [(0, (1, (.tmp 89)))]), none⟩, ⟨(some 12), (.box (.const (.agg [(.val (.int .i64 0)), (.val (.int .i64 0)), (.str []), (.ro true 4 [])]))), none⟩, ⟨none, (.store 4 (.tmp 12) (.tmp 90)), none⟩])
 (.block 0 (.loop a19_c0))))))))))))))⟩
set_option maxRecDepth 100000 in
theorem c19 : compFunc Tryd.prog 19 = some a19 := by kernel_rfl
def clerestory_calc_reader_value_t0 : List (List UInt8) := [[], [], [], [], [], [], [109, 105, 110], [109, 97, 120], [99, 108, 97, 109, 112]]
abbrev clerestory_calc_reader_value_l0_I (r_14 : Int) (F_ : Nat → (List TSToken) → Int → Bool → (List Raw) → Option (TSTerm × Treader)) (o : (TSTerm × Treader)) : Nat → St → Prop := fun k s => ∃ (r0 : (List TSToken)), ∃ (r1 : Int), ∃ (r2 : Bool), ∃ (out3 : (List Raw)), ∃ (zout3 : Bool), (zout3 = true → out3 = []) ∧ F_ k r0 r1 r2 out3 = some o ∧ s = ⟨(upd (upd (upd (fun _ => none) 0 (some (.c (.ref 0 3 0 0)))) 4 (some (.c (.ref 1 4 0 0)))) 12 (some (.c (.ref 2 4 0 0)))), (upd (upd (upd (upd (fun _ => none) 0 (some (.cells 3 [[.ro false 4 (r0.map e_TSToken), cI r1, cB r2]]))) 1 (some (.cells 4 [[cI 0, cI 0, .str [], .ro true 4 []]]))) 2 (some (.cells 4 [[cI r_14, cI 0, .str [], lstC zout3 3 4 out3.length]]))) 3 (lstB zout3 4 (out3.map eRaw))), 4⟩
abbrev clerestory_calc_reader_value_l0_H (r_14 : Int) (F_ : (List TSToken) → Int → Bool → (List Raw) → Option (TSTerm × Treader)) (o : (TSTerm × Treader)) (R_ : St → Prop) : Prop := ∀ (r0 : (List TSToken)) (r1 : Int) (r2 : Bool) (out3 : (List Raw)) (zout3 : Bool) (_ : zout3 = true → out3 = []), F_ r0 r1 r2 out3 = some o → ∀ s, Weak 1 s ⟨(upd (upd (upd (fun _ => none) 0 (some (.c (.ref 0 3 0 0)))) 4 (some (.c (.ref 1 4 0 0)))) 12 (some (.c (.ref 2 4 0 0)))), (upd (upd (upd (upd (fun _ => none) 0 (some (.cells 3 [[.ro false 4 (r0.map e_TSToken), cI r1, cB r2]]))) 1 (some (.cells 4 [[cI 0, cI 0, .str [], .ro true 4 []]]))) 2 (some (.cells 4 [[cI r_14, cI 0, .str [], lstC zout3 3 4 out3.length]]))) 3 (lstB zout3 4 (out3.map eRaw))), 4⟩ → R_ s
noncomputable def clerestory_calc_reader_value_l0 (recf : Treader → Bool → Option (TSTerm × Treader)) (r_14 : Int) : Nat → (List TSToken) → Int → Bool → (List Raw) → Option (TSTerm × Treader)
  | 0, _, _, _, _ => none
  | k + 1, r0, r1, r2, out3 =>
    (clerestory_calc_reader_sum recf (⟨r0, r1, r2⟩ : Treader)).bind fun r_16 =>
    (app? 56 out3 [(⟨e_TSTerm r_16.1, rfl⟩ : Raw)]).bind fun r_17 =>
    (clerestory_calc_reader_raw r_16.2 [44]).bind fun r_18 =>
    if r_18.1 then
      (clerestory_calc_reader_value_l0 recf r_14 k) r_18.2.f_l r_18.2.f_n r_18.2.f_gapped r_17
    else
      (clerestory_calc_reader_raw r_18.2 [41]).bind fun r_19 =>
      (clerestory_calc_reader_need r_19.2 (r_19.1 && (calc_shaped (⟨r_14, (⟨0, []⟩ : TSDim), r_17⟩ : TSTerm)))).bind fun r_20 =>
      (clerestory_calc_reader_made r_19.2 (⟨r_14, (⟨0, []⟩ : TSDim), r_17⟩ : TSTerm)).bind fun r_22 =>
      some (r_22.1, r_22.2)
theorem clerestory_calc_reader_value_l0_ok {mL : Int} {Q : AExit → St → Prop} {recf : Treader → Bool → Option (TSTerm × Treader)} {r_14 : Int} {k : Nat} {r0 : (List TSToken)} {r1 : Int} {r2 : Bool} {out3 : (List Raw)} {zout3 : Bool} (hzout3 : zout3 = true → out3 = []) {o : (TSTerm × Treader)} (h : clerestory_calc_reader_value_l0 recf r_14 k r0 r1 r2 out3 = some o)
    (hr : ∀ s, Ends a19.results 1 (clerestory_calc_reader_value_post o) .ret s → Q .ret s)
    (hrec : clerestory_calc_reader_value_Rec mL recf) :
    Sv Tryd.prog (GG mL) 1 (.loop a19_c0) Q ⟨(upd (upd (upd (fun _ => none) 0 (some (.c (.ref 0 3 0 0)))) 4 (some (.c (.ref 1 4 0 0)))) 12 (some (.c (.ref 2 4 0 0)))), (upd (upd (upd (upd (fun _ => none) 0 (some (.cells 3 [[.ro false 4 (r0.map e_TSToken), cI r1, cB r2]]))) 1 (some (.cells 4 [[cI 0, cI 0, .str [], .ro true 4 []]]))) 2 (some (.cells 4 [[cI r_14, cI 0, .str [], lstC zout3 3 4 out3.length]]))) 3 (lstB zout3 4 (out3.map eRaw))), 4⟩ := by
  refine Sv.loop (I := clerestory_calc_reader_value_l0_I r_14 (clerestory_calc_reader_value_l0 recf r_14) o) (fun k s hI => ?_) ⟨r0, r1, r2, out3, zout3, hzout3, h, rfl⟩
  clear h
  clear hzout3 zout3 out3 r2 r1 r0
  obtain ⟨r0, r1, r2, out3, zout3, hzout3, h, rfl⟩ := hI
  cases k with
  | zero => cases h
  | succ k =>
  rw [clerestory_calc_reader_value_l0] at h
  have hself : clerestory_calc_reader_value_l0_H r_14 (clerestory_calc_reader_value_l0 recf r_14 k) o (rnd 1 (clerestory_calc_reader_value_l0_I r_14 (clerestory_calc_reader_value_l0 recf r_14) o) k Q) := fun r0 r1 r2 out3 zout3 hzout3 h s hw => ⟨_, k, hw, Nat.lt_succ_self k, r0, r1, r2, out3, zout3, hzout3, h, rfl⟩
  refine Sv.block ?_
  refine Sv.seq ?_
  refine Sv.drawn2 ?_
  refine un (a1 (v := (.c (.ref 2 4 0 3))) rfl ?_)
  refine un (a1 rfl ?_)
  refine dnil ?_
  refine ⟨?_, ?_⟩
  · refine un (a1 (v := (lstV zout3 3 4 out3.length)) rfl ?_)
    obtain ⟨r_16, hr15, h⟩ := bnd h
    refine un (ac_gen (bs := [0]) («as» := [(.c (.ref 0 3 0 0))]) (h2 := _) (h1 := (upd (fun _ => none) 0 (some (.cells 3 [[.ro false 4 (r0.map e_TSToken), cI r1, cB r2]])))) (clerestory_calc_reader_sum_ok hrec hr15) rfl (.cons (.c (.ref rfl (by decide))) .nil) (hsub_refl _) (.cons rfl (.nil _)) (fun h => by cases h) (by decide) (by decide) (.cons (.c (.ref rfl (by decide))) .nil) (.box (by decide) rfl (blkAs_cells (.cons (.same rfl) (.cons (.same rfl) (.cons (.same rfl) .nil)))) .nil) ?_)
    rintro _ _ _ hn ⟨rfl, rfl, rfl⟩
    refine ⟨.inl rfl, (upd (rem [0] _) 0 (some (.cells 3 [[.ro false 4 (r_16.2.f_l.map e_TSToken), cI r_16.2.f_n, cB r_16.2.f_gapped]]))), fun hbd => (m3_cons (m3_box rfl rfl) (m3_rem (in_cons (by decide) (in_nil _)) (.cons (by decide) .nil) hbd)), (.agg [cI r_16.1.Kind, cI r_16.1.Dim.Num, .str r_16.1.Dim.Unit, .ro false 4 (r_16.1.Subs.map eRaw)]), 4, rfl, rfl, ?_⟩
    refine un (a2v (v := (lstV false 4 4 [(⟨e_TSTerm r_16.1, rfl⟩ : Raw)].length)) (h' := upd _ 4 (lstB false 4 ([(⟨e_TSTerm r_16.1, rfl⟩ : Raw)].map eRaw))) (n' := 5) rfl rfl (fun h => by cases h) ?_)
    obtain ⟨r_17, hr16, h⟩ := bnd h
    have hz1 : (zout3 && [(⟨e_TSTerm r_16.1, rfl⟩ : Raw)].isEmpty) = true → r_17 = [] := app_nil (z := zout3) (ys := [(⟨e_TSTerm r_16.1, rfl⟩ : Raw)]) hzout3 hr16
    refine un (a2v rfl (s_app (xs := out3) (ys := [(⟨e_TSTerm r_16.1, rfl⟩ : Raw)]) (e := eRaw) (z := zout3) (b := 3) rfl rfl hzout3 rfl rfl (slc_lst rfl (List.length_map _).symm (map_nil_of (fun h => by cases h))) hr16) (fun h => by cases h) ?_)
    refine un (a1 (v := (.c (.ref 2 4 0 3))) rfl ?_)
    refine un (a2n (h' := upd _ 2 (some (.cells 4 [[cI r_14, cI 0, .str [], lstC (zout3 && [(⟨e_TSTerm r_16.1, rfl⟩ : Raw)].isEmpty) 5 4 r_17.length]]))) (n' := 6) rfl rfl (fun h => by cases h) ?_)
    refine dnil ?_
    refine Sv.seq ?_
    refine Sv.seq ?_
    refine Sv.region ?_
    refine un (a1 rfl ?_)
    obtain ⟨r_18, hr17, h⟩ := bnd h
    refine un (ac_gen (bs := [0]) («as» := [(.c (.ref 0 3 0 0)), (S [44])]) (h2 := _) (h1 := (upd (fun _ => none) 0 (some (.cells 3 [[.ro false 4 (r_16.2.f_l.map e_TSToken), cI r_16.2.f_n, cB r_16.2.f_gapped]])))) (clerestory_calc_reader_raw_ok hr17) rfl (.cons (.c (.ref rfl (by decide))) (.cons (avAs_free rfl) .nil)) (hsub_refl _) (.cons rfl (.nil _)) (fun h => by cases h) (by decide) (by decide) (.cons (.c (.ref rfl (by decide))) (.cons (avAs_free rfl) .nil)) (.box (by decide) rfl (blkAs_cells (.cons (.same rfl) (.cons (.same rfl) (.cons (.same rfl) .nil)))) .nil) ?_)
    rintro _ _ _ hn ⟨rfl, rfl, rfl⟩
    refine ⟨.inl rfl, (upd (rem [0] _) 0 (some (.cells 3 [[.ro false 4 (r_18.2.f_l.map e_TSToken), cI r_18.2.f_n, cB r_18.2.f_gapped]]))), fun hbd => (m3_cons (m3_box rfl rfl) (m3_rem (in_cons (by decide) (in_nil _)) (.cons (by decide) .nil) hbd)), (B r_18.1), 6, rfl, rfl, ?_⟩
    refine dnil ?_
    refine Sv.cond (b := r_18.1) rfl (fun hc5 => ?_) (fun hc5 => ?_)
    · replace h := ifT hc5 h
      refine Sv.exit ?_
      exact hself r_18.2.f_l r_18.2.f_n r_18.2.f_gapped r_17 (zout3 && [(⟨e_TSTerm r_16.1, rfl⟩ : Raw)].isEmpty) hz1 h _ (weak_canon [0, 1, 2, 5] rfl (by decide) (by decide) (by decide) (.cons rfl (.c (.ref rfl (by decide))) (.cons rfl (.c (.ref rfl (by decide))) (.cons rfl (.c (.ref rfl (by decide))) .nil))) (.row (by decide) rfl (fr_map fr_raw) (.box (by decide) rfl (blkAs_cells (.cons (.same rfl) (.cons (.same rfl) (.cons (.same rfl) (.cons (lstC_ren rfl (by decide)) .nil))))) (.box (by decide) rfl (blkAs_cells (.cons (.same rfl) (.cons (.same rfl) (.cons (.same rfl) (.cons (.same rfl) .nil))))) (.box (by decide) rfl (blkAs_cells (.cons (.same rfl) (.cons (.same rfl) (.cons (.same rfl) .nil)))) .nil)))))
    · replace h := ifF hc5 h
      refine Sv.skip ?_
      refine Sv.seq ?_
      refine Sv.region ?_
      refine un (a1 rfl ?_)
      refine un (a1 rfl ?_)
      obtain ⟨r_19, hr18, h⟩ := bnd h
      refine un (ac_gen (bs := [0]) («as» := [(.c (.ref 0 3 0 0)), (S [41])]) (h2 := _) (h1 := (upd (fun _ => none) 0 (some (.cells 3 [[.ro false 4 (r_18.2.f_l.map e_TSToken), cI r_18.2.f_n, cB r_18.2.f_gapped]])))) (clerestory_calc_reader_raw_ok hr18) rfl (.cons (.c (.ref rfl (by decide))) (.cons (avAs_free rfl) .nil)) (hsub_refl _) (.cons rfl (.nil _)) (fun h => by cases h) (by decide) (by decide) (.cons (.c (.ref rfl (by decide))) (.cons (avAs_free rfl) .nil)) (.box (by decide) rfl (blkAs_cells (.cons (.same rfl) (.cons (.same rfl) (.cons (.same rfl) .nil)))) .nil) ?_)
      rintro _ _ _ hn ⟨rfl, rfl, rfl⟩
      refine ⟨.inl rfl, (upd (rem [0] _) 0 (some (.cells 3 [[.ro false 4 (r_19.2.f_l.map e_TSToken), cI r_19.2.f_n, cB r_19.2.f_gapped]]))), fun hbd => (m3_cons (m3_box rfl rfl) (m3_rem (in_cons (by decide) (in_nil _)) (.cons (by decide) .nil) hbd)), (B r_19.1), 6, rfl, rfl, ?_⟩
      refine un (a1 rfl ?_)
      refine gjoin 3 (d := 106) (v := (B (r_19.1 && (calc_shaped (⟨r_14, (⟨0, []⟩ : TSDim), r_17⟩ : TSTerm))))) (fun X hX => ?_) ?_
      · refine split2 (fun hc6 => ?_) (fun hc6 => ?_)
        · refine gt rfl (a1 (v := (.agg [cI r_14, cI 0, .str [], lstC (zout3 && [(⟨e_TSTerm r_16.1, rfl⟩ : Raw)].isEmpty) 5 4 r_17.length])) rfl ?_)
          refine gt rfl (ac_lend (h2 := (upd _ 5 none)) (calc_shaped_ok (mL := mL) (⟨r_14, (⟨0, []⟩ : TSDim), r_17⟩ : TSTerm)) rfl (.cons (avAs_agg (.cons (.same rfl) (.cons (.same rfl) (.cons (.same rfl) (.cons (lstC_ro (es := List.map eRaw r_17) rfl (List.length_map eRaw).symm (map_nil_of hz1) (gone rfl) (fr_map fr_raw)) .nil))))) .nil) (hsub_none (hsub_refl _)) rfl rfl (.inr rfl) ?_)
          refine un (a1 (v := (B (calc_shaped (⟨r_14, (⟨0, []⟩ : TSDim), r_17⟩ : TSTerm)))) rfl ?_)
          refine dnil ?_
          exact hX _ (.putEq (by rw [hc6]; rfl) (.skip _ _ (.skip _ _ (.putEq (by rw [hc6]) (.refl _)) rfl) rfl))
        · refine gs rfl rfl ?_
          refine gs rfl rfl ?_
          refine un (a1 (v := (B false)) rfl ?_)
          refine dnil ?_
          exact hX _ (.putEq (by rw [hc6]; rfl) (.skip _ _ (.skip _ _ (.putEq (by rw [hc6]) (.refl _)) rfl) rfl))
      obtain ⟨r_20, hr19, h⟩ := bnd h
      refine un (ac_lend (h2 := (upd _ 0 none)) (clerestory_calc_reader_need_ok hr19) rfl (.cons (.c (ref_ro rfl (gone rfl) (.cons (.same rfl) (.cons (.same rfl) (.cons (.same rfl) .nil))) rfl)) (.cons (avAs_free rfl) .nil)) (hsub_none (hsub_refl _)) rfl rfl (.inr rfl) ?_)
      refine dnil ?_
      refine Sv.seq ?_
      refine Sv.region ?_
      refine un (a1 rfl ?_)
      refine un (a1 (v := (.agg [cI r_14, cI 0, .str [], lstC (zout3 && [(⟨e_TSTerm r_16.1, rfl⟩ : Raw)].isEmpty) 5 4 r_17.length])) rfl ?_)
      refine dweak (show Weak 1 _ ⟨(upd (upd (upd (upd (upd (upd (upd (upd (upd (upd (upd (upd (upd (upd (upd (upd (upd (upd (upd (fun _ => none) 0 (some (.c (.ref 0 3 0 0)))) 4 (some (.c (.ref 1 4 0 0)))) 12 (some (.c (.ref 2 4 0 0)))) 91 (some (.c (.ref 2 4 0 3)))) 93 (some (.c (.ref 0 3 0 0)))) 94 (some (.agg [cI r_16.1.Kind, cI r_16.1.Dim.Num, .str r_16.1.Dim.Unit, .ro false 4 (r_16.1.Subs.map eRaw)]))) 95 (some (lstV false 4 4 [(⟨e_TSTerm r_16.1, rfl⟩ : Raw)].length))) 96 (some (.c (.ro false 4 (r_17.map eRaw))))) 97 (some (.c (.ref 2 4 0 3)))) 98 (some (.c (.ref 0 3 0 0)))) 99 (some (B r_18.1))) 100 (some (.c (.ref 0 3 0 0)))) 101 (some (.c (.ref 0 3 0 0)))) 102 (some (B r_19.1))) 103 (some (B r_19.1))) 106 (some (B (r_19.1 && (calc_shaped (⟨r_14, (⟨0, []⟩ : TSDim), r_17⟩ : TSTerm)))))) 107 (some (.tup []))) 108 (some (.c (.ref 0 3 0 0)))) 109 (some (.agg [cI r_14, cI 0, .str [], .ro false 4 (r_17.map eRaw)]))), (upd (upd (upd (upd (fun _ => none) 0 (some (.cells 3 [[.ro false 4 (r_19.2.f_l.map e_TSToken), cI r_19.2.f_n, cB r_19.2.f_gapped]]))) 1 (some (.cells 4 [[cI 0, cI 0, .str [], .ro true 4 []]]))) 2 (some (.cells 4 [[cI r_14, cI 0, .str [], .ro false 4 (r_17.map eRaw)]]))) 4 (lstB false 4 ([(⟨e_TSTerm r_16.1, rfl⟩ : Raw)].map eRaw))), 6⟩ from (weak_canon [0, 1, 2, 1003, 4, 1005] rfl (by decide) (by decide) (by decide) (.cons rfl (avAs_agg (.cons (.same rfl) (.cons (.same rfl) (.cons (.same rfl) (.cons (lstC_ro (es := List.map eRaw r_17) rfl (List.length_map eRaw).symm (map_nil_of hz1) (fun b x hx => not_in (bs := [0, 1, 2, 1003, 4, 1005]) rfl b (((.cons (by decide) (.cons (by decide) (.cons (by decide) (.cons (by decide) .nil)))) : HLt _ _) b x hx)) (fr_map fr_raw)) .nil))))) (.cons rfl (.c (.ref rfl (by decide))) (.cons rfl (avAs_tup .nil) (.cons rfl (avAs_free rfl) (.cons rfl (avAs_free rfl) (.cons rfl (avAs_free rfl) (.cons rfl (.c (.ref rfl (by decide))) (.cons rfl (.c (.ref rfl (by decide))) (.cons rfl (avAs_free rfl) (.cons rfl (.c (.ref rfl (by decide))) (.cons rfl (.c (.ref rfl (by decide))) (.cons rfl (.c (lstC_ro (es := List.map eRaw r_17) rfl (List.length_map eRaw).symm (map_nil_of hz1) (fun b x hx => not_in (bs := [0, 1, 2, 1003, 4, 1005]) rfl b (((.cons (by decide) (.cons (by decide) (.cons (by decide) (.cons (by decide) .nil)))) : HLt _ _) b x hx)) (fr_map fr_raw))) (.cons rfl (.c (lstC_ren rfl (by decide))) (.cons rfl (avAs_free rfl) (.cons rfl (.c (.ref rfl (by decide))) (.cons rfl (.c (.ref rfl (by decide))) (.cons rfl (.c (.ref rfl (by decide))) (.cons rfl (.c (.ref rfl (by decide))) (.cons rfl (.c (.ref rfl (by decide))) .nil))))))))))))))))))) (.row (by decide) rfl (fr_map fr_raw) (.box (by decide) rfl (blkAs_cells (.cons (.same rfl) (.cons (.same rfl) (.cons (.same rfl) (.cons (lstC_ro (es := List.map eRaw r_17) rfl (List.length_map eRaw).symm (map_nil_of hz1) (fun b x hx => not_in (bs := [0, 1, 2, 1003, 4, 1005]) rfl b (((.cons (by decide) (.cons (by decide) (.cons (by decide) (.cons (by decide) .nil)))) : HLt _ _) b x hx)) (fr_map fr_raw)) .nil))))) (.box (by decide) rfl (blkAs_cells (.cons (.same rfl) (.cons (.same rfl) (.cons (.same rfl) (.cons (.same rfl) .nil))))) (.box (by decide) rfl (blkAs_cells (.cons (.same rfl) (.cons (.same rfl) (.cons (.same rfl) .nil)))) .nil)))))) ?_
      obtain ⟨r_22, hr21, h⟩ := bnd h
      refine un (ac_gen (bs := [0]) («as» := [(.c (.ref 0 3 0 0)), (.agg [cI r_14, cI 0, .str [], .ro false 4 (r_17.map eRaw)])]) (h2 := _) (h1 := (upd (fun _ => none) 0 (some (.cells 3 [[.ro false 4 (r_19.2.f_l.map e_TSToken), cI r_19.2.f_n, cB r_19.2.f_gapped]])))) (clerestory_calc_reader_made_ok hr21) rfl (.cons (.c (.ref rfl (by decide))) (.cons (avAs_free rfl) .nil)) (hsub_refl _) (.cons rfl (.nil _)) (fun h => by cases h) (by decide) (by decide) (.cons (.c (.ref rfl (by decide))) (.cons (avAs_free rfl) .nil)) (.box (by decide) rfl (blkAs_cells (.cons (.same rfl) (.cons (.same rfl) (.cons (.same rfl) .nil)))) .nil) ?_)
      rintro _ _ _ hn ⟨rfl, rfl, rfl⟩
      refine ⟨.inl rfl, (upd (rem [0] _) 0 (some (.cells 3 [[.ro false 4 (r_22.2.f_l.map e_TSToken), cI r_22.2.f_n, cB r_22.2.f_gapped]]))), fun hbd => (m3_cons (m3_box rfl rfl) (m3_rem (in_cons (by decide) (in_nil _)) (.cons (by decide) .nil) hbd)), (.agg [cI r_22.1.Kind, cI r_22.1.Dim.Num, .str r_22.1.Dim.Unit, .ro false 4 (r_22.1.Subs.map eRaw)]), 6, rfl, rfl, ?_⟩
      refine un (a2n (h' := upd _ 1 (some (.cells 4 [[cI r_22.1.Kind, cI r_22.1.Dim.Num, .str r_22.1.Dim.Unit, .ro false 4 (r_22.1.Subs.map eRaw)]]))) (n' := 6) rfl rfl (fun h => by cases h) ?_)
      refine dnil ?_
      refine Sv.ret ?_
      replace h := Option.some.inj h
      subst h
      exact hr _ ⟨_, .refl _, _, rfl, ⟨upd (fun _ => none) 0 (some (.agg [cI r_22.1.Kind, cI r_22.1.Dim.Num, .str r_22.1.Dim.Unit, .ro false 4 (r_22.1.Subs.map eRaw)])), (upd (fun _ => none) 0 (some (.cells 3 [[.ro false 4 (r_22.2.f_l.map e_TSToken), cI r_22.2.f_n, cB r_22.2.f_gapped]]))), 1⟩, (.agg [cI r_22.1.Kind, cI r_22.1.Dim.Num, .str r_22.1.Dim.Unit, .ro false 4 (r_22.1.Subs.map eRaw)]), weak_canon2 [0] [0] (by decide) (by decide) (by decide) (.cons (by decide) .nil) (.cons rfl (avAs_free rfl) .nil) (.box (by decide) rfl (blkAs_cells (.cons (.same rfl) (.cons (.same rfl) (.cons (.same rfl) .nil)))) .nil), rfl, rfl, rfl, rfl⟩
  · obtain ⟨r_16, hr15, h⟩ := bnd h
    refine un (ac_gen (bs := [0]) («as» := [(.c (.ref 0 3 0 0))]) (h2 := _) (h1 := (upd (fun _ => none) 0 (some (.cells 3 [[.ro false 4 (r0.map e_TSToken), cI r1, cB r2]])))) (clerestory_calc_reader_sum_ok hrec hr15) rfl (.cons (.c (.ref rfl (by decide))) .nil) (hsub_refl _) (.cons rfl (.nil _)) (fun h => by cases h) (by decide) (by decide) (.cons (.c (.ref rfl (by decide))) .nil) (.box (by decide) rfl (blkAs_cells (.cons (.same rfl) (.cons (.same rfl) (.cons (.same rfl) .nil)))) .nil) ?_)
    rintro _ _ _ hn ⟨rfl, rfl, rfl⟩
    refine ⟨.inl rfl, (upd (rem [0] _) 0 (some (.cells 3 [[.ro false 4 (r_16.2.f_l.map e_TSToken), cI r_16.2.f_n, cB r_16.2.f_gapped]]))), fun hbd => (m3_cons (m3_box rfl rfl) (m3_rem (in_cons (by decide) (in_nil _)) (.cons (by decide) .nil) hbd)), (.agg [cI r_16.1.Kind, cI r_16.1.Dim.Num, .str r_16.1.Dim.Unit, .ro false 4 (r_16.1.Subs.map eRaw)]), 4, rfl, rfl, ?_⟩
    refine dnil ?_
    refine ⟨?_, ?_⟩
    · refine un (a1 (v := (lstV zout3 3 4 out3.length)) rfl ?_)
      refine un (a2v (v := (lstV false 4 4 [(⟨e_TSTerm r_16.1, rfl⟩ : Raw)].length)) (h' := upd _ 4 (lstB false 4 ([(⟨e_TSTerm r_16.1, rfl⟩ : Raw)].map eRaw))) (n' := 5) rfl rfl (fun h => by cases h) ?_)
      obtain ⟨r_17, hr16, h⟩ := bnd h
      have hz1 : (zout3 && [(⟨e_TSTerm r_16.1, rfl⟩ : Raw)].isEmpty) = true → r_17 = [] := app_nil (z := zout3) (ys := [(⟨e_TSTerm r_16.1, rfl⟩ : Raw)]) hzout3 hr16
      refine un (a2v rfl (s_app (xs := out3) (ys := [(⟨e_TSTerm r_16.1, rfl⟩ : Raw)]) (e := eRaw) (z := zout3) (b := 3) rfl rfl hzout3 rfl rfl (slc_lst rfl (List.length_map _).symm (map_nil_of (fun h => by cases h))) hr16) (fun h => by cases h) ?_)
      refine un (a1 (v := (.c (.ref 2 4 0 3))) rfl ?_)
      refine un (a2n (h' := upd _ 2 (some (.cells 4 [[cI r_14, cI 0, .str [], lstC (zout3 && [(⟨e_TSTerm r_16.1, rfl⟩ : Raw)].isEmpty) 5 4 r_17.length]]))) (n' := 6) rfl rfl (fun h => by cases h) ?_)
      refine dnil ?_
      refine Sv.seq ?_
      refine Sv.seq ?_
      refine Sv.region ?_
      refine un (a1 rfl ?_)
      obtain ⟨r_18, hr17, h⟩ := bnd h
      refine un (ac_gen (bs := [0]) («as» := [(.c (.ref 0 3 0 0)), (S [44])]) (h2 := _) (h1 := (upd (fun _ => none) 0 (some (.cells 3 [[.ro false 4 (r_16.2.f_l.map e_TSToken), cI r_16.2.f_n, cB r_16.2.f_gapped]])))) (clerestory_calc_reader_raw_ok hr17) rfl (.cons (.c (.ref rfl (by decide))) (.cons (avAs_free rfl) .nil)) (hsub_refl _) (.cons rfl (.nil _)) (fun h => by cases h) (by decide) (by decide) (.cons (.c (.ref rfl (by decide))) (.cons (avAs_free rfl) .nil)) (.box (by decide) rfl (blkAs_cells (.cons (.same rfl) (.cons (.same rfl) (.cons (.same rfl) .nil)))) .nil) ?_)
      rintro _ _ _ hn ⟨rfl, rfl, rfl⟩
      refine ⟨.inl rfl, (upd (rem [0] _) 0 (some (.cells 3 [[.ro false 4 (r_18.2.f_l.map e_TSToken), cI r_18.2.f_n, cB r_18.2.f_gapped]]))), fun hbd => (m3_cons (m3_box rfl rfl) (m3_rem (in_cons (by decide) (in_nil _)) (.cons (by decide) .nil) hbd)), (B r_18.1), 6, rfl, rfl, ?_⟩
      refine dnil ?_
      refine Sv.cond (b := r_18.1) rfl (fun hc5 => ?_) (fun hc5 => ?_)
      · replace h := ifT hc5 h
        refine Sv.exit ?_
        exact hself r_18.2.f_l r_18.2.f_n r_18.2.f_gapped r_17 (zout3 && [(⟨e_TSTerm r_16.1, rfl⟩ : Raw)].isEmpty) hz1 h _ (weak_canon [0, 1, 2, 5] rfl (by decide) (by decide) (by decide) (.cons rfl (.c (.ref rfl (by decide))) (.cons rfl (.c (.ref rfl (by decide))) (.cons rfl (.c (.ref rfl (by decide))) .nil))) (.row (by decide) rfl (fr_map fr_raw) (.box (by decide) rfl (blkAs_cells (.cons (.same rfl) (.cons (.same rfl) (.cons (.same rfl) (.cons (lstC_ren rfl (by decide)) .nil))))) (.box (by decide) rfl (blkAs_cells (.cons (.same rfl) (.cons (.same rfl) (.cons (.same rfl) (.cons (.same rfl) .nil))))) (.box (by decide) rfl (blkAs_cells (.cons (.same rfl) (.cons (.same rfl) (.cons (.same rfl) .nil)))) .nil)))))
      · replace h := ifF hc5 h
        refine Sv.skip ?_
        refine Sv.seq ?_
        refine Sv.region ?_
        refine un (a1 rfl ?_)
        refine un (a1 rfl ?_)
        obtain ⟨r_19, hr18, h⟩ := bnd h
        refine un (ac_gen (bs := [0]) («as» := [(.c (.ref 0 3 0 0)), (S [41])]) (h2 := _) (h1 := (upd (fun _ => none) 0 (some (.cells 3 [[.ro false 4 (r_18.2.f_l.map e_TSToken), cI r_18.2.f_n, cB r_18.2.f_gapped]])))) (clerestory_calc_reader_raw_ok hr18) rfl (.cons (.c (.ref rfl (by decide))) (.cons (avAs_free rfl) .nil)) (hsub_refl _) (.cons rfl (.nil _)) (fun h => by cases h) (by decide) (by decide) (.cons (.c (.ref rfl (by decide))) (.cons (avAs_free rfl) .nil)) (.box (by decide) rfl (blkAs_cells (.cons (.same rfl) (.cons (.same rfl) (.cons (.same rfl) .nil)))) .nil) ?_)
        rintro _ _ _ hn ⟨rfl, rfl, rfl⟩
        refine ⟨.inl rfl, (upd (rem [0] _) 0 (some (.cells 3 [[.ro false 4 (r_19.2.f_l.map e_TSToken), cI r_19.2.f_n, cB r_19.2.f_gapped]]))), fun hbd => (m3_cons (m3_box rfl rfl) (m3_rem (in_cons (by decide) (in_nil _)) (.cons (by decide) .nil) hbd)), (B r_19.1), 6, rfl, rfl, ?_⟩
        refine un (a1 rfl ?_)
        refine gjoin 3 (d := 106) (v := (B (r_19.1 && (calc_shaped (⟨r_14, (⟨0, []⟩ : TSDim), r_17⟩ : TSTerm))))) (fun X hX => ?_) ?_
        · refine split2 (fun hc6 => ?_) (fun hc6 => ?_)
          · refine gt rfl (a1 (v := (.agg [cI r_14, cI 0, .str [], lstC (zout3 && [(⟨e_TSTerm r_16.1, rfl⟩ : Raw)].isEmpty) 5 4 r_17.length])) rfl ?_)
            refine gt rfl (ac_lend (h2 := (upd _ 5 none)) (calc_shaped_ok (mL := mL) (⟨r_14, (⟨0, []⟩ : TSDim), r_17⟩ : TSTerm)) rfl (.cons (avAs_agg (.cons (.same rfl) (.cons (.same rfl) (.cons (.same rfl) (.cons (lstC_ro (es := List.map eRaw r_17) rfl (List.length_map eRaw).symm (map_nil_of hz1) (gone rfl) (fr_map fr_raw)) .nil))))) .nil) (hsub_none (hsub_refl _)) rfl rfl (.inr rfl) ?_)
            refine un (a1 (v := (B (calc_shaped (⟨r_14, (⟨0, []⟩ : TSDim), r_17⟩ : TSTerm)))) rfl ?_)
            refine dnil ?_
            exact hX _ (.putEq (by rw [hc6]; rfl) (.skip _ _ (.skip _ _ (.putEq (by rw [hc6]) (.refl _)) rfl) rfl))
          · refine gs rfl rfl ?_
            refine gs rfl rfl ?_
            refine un (a1 (v := (B false)) rfl ?_)
            refine dnil ?_
            exact hX _ (.putEq (by rw [hc6]; rfl) (.skip _ _ (.skip _ _ (.putEq (by rw [hc6]) (.refl _)) rfl) rfl))
        obtain ⟨r_20, hr19, h⟩ := bnd h
        refine un (ac_lend (h2 := (upd _ 0 none)) (clerestory_calc_reader_need_ok hr19) rfl (.cons (.c (ref_ro rfl (gone rfl) (.cons (.same rfl) (.cons (.same rfl) (.cons (.same rfl) .nil))) rfl)) (.cons (avAs_free rfl) .nil)) (hsub_none (hsub_refl _)) rfl rfl (.inr rfl) ?_)
        refine dnil ?_
        refine Sv.seq ?_
        refine Sv.region ?_
        refine un (a1 rfl ?_)
        refine un (a1 (v := (.agg [cI r_14, cI 0, .str [], lstC (zout3 && [(⟨e_TSTerm r_16.1, rfl⟩ : Raw)].isEmpty) 5 4 r_17.length])) rfl ?_)
        refine dweak (show Weak 1 _ ⟨(upd (upd (upd (upd (upd (upd (upd (upd (upd (upd (upd (upd (upd (upd (upd (upd (upd (upd (upd (fun _ => none) 0 (some (.c (.ref 0 3 0 0)))) 4 (some (.c (.ref 1 4 0 0)))) 12 (some (.c (.ref 2 4 0 0)))) 91 (some (.c (.ref 2 4 0 3)))) 93 (some (.c (.ref 0 3 0 0)))) 94 (some (.agg [cI r_16.1.Kind, cI r_16.1.Dim.Num, .str r_16.1.Dim.Unit, .ro false 4 (r_16.1.Subs.map eRaw)]))) 95 (some (lstV false 4 4 [(⟨e_TSTerm r_16.1, rfl⟩ : Raw)].length))) 96 (some (.c (.ro false 4 (r_17.map eRaw))))) 97 (some (.c (.ref 2 4 0 3)))) 98 (some (.c (.ref 0 3 0 0)))) 99 (some (B r_18.1))) 100 (some (.c (.ref 0 3 0 0)))) 101 (some (.c (.ref 0 3 0 0)))) 102 (some (B r_19.1))) 103 (some (B r_19.1))) 106 (some (B (r_19.1 && (calc_shaped (⟨r_14, (⟨0, []⟩ : TSDim), r_17⟩ : TSTerm)))))) 107 (some (.tup []))) 108 (some (.c (.ref 0 3 0 0)))) 109 (some (.agg [cI r_14, cI 0, .str [], .ro false 4 (r_17.map eRaw)]))), (upd (upd (upd (upd (fun _ => none) 0 (some (.cells 3 [[.ro false 4 (r_19.2.f_l.map e_TSToken), cI r_19.2.f_n, cB r_19.2.f_gapped]]))) 1 (some (.cells 4 [[cI 0, cI 0, .str [], .ro true 4 []]]))) 2 (some (.cells 4 [[cI r_14, cI 0, .str [], .ro false 4 (r_17.map eRaw)]]))) 4 (lstB false 4 ([(⟨e_TSTerm r_16.1, rfl⟩ : Raw)].map eRaw))), 6⟩ from (weak_canon [0, 1, 2, 1003, 4, 1005] rfl (by decide) (by decide) (by decide) (.cons rfl (avAs_agg (.cons (.same rfl) (.cons (.same rfl) (.cons (.same rfl) (.cons (lstC_ro (es := List.map eRaw r_17) rfl (List.length_map eRaw).symm (map_nil_of hz1) (fun b x hx => not_in (bs := [0, 1, 2, 1003, 4, 1005]) rfl b (((.cons (by decide) (.cons (by decide) (.cons (by decide) (.cons (by decide) .nil)))) : HLt _ _) b x hx)) (fr_map fr_raw)) .nil))))) (.cons rfl (.c (.ref rfl (by decide))) (.cons rfl (avAs_tup .nil) (.cons rfl (avAs_free rfl) (.cons rfl (avAs_free rfl) (.cons rfl (avAs_free rfl) (.cons rfl (.c (.ref rfl (by decide))) (.cons rfl (.c (.ref rfl (by decide))) (.cons rfl (avAs_free rfl) (.cons rfl (.c (.ref rfl (by decide))) (.cons rfl (.c (.ref rfl (by decide))) (.cons rfl (.c (lstC_ro (es := List.map eRaw r_17) rfl (List.length_map eRaw).symm (map_nil_of hz1) (fun b x hx => not_in (bs := [0, 1, 2, 1003, 4, 1005]) rfl b (((.cons (by decide) (.cons (by decide) (.cons (by decide) (.cons (by decide) .nil)))) : HLt _ _) b x hx)) (fr_map fr_raw))) (.cons rfl (.c (lstC_ren rfl (by decide))) (.cons rfl (avAs_free rfl) (.cons rfl (.c (.ref rfl (by decide))) (.cons rfl (.c (.ref rfl (by decide))) (.cons rfl (.c (.ref rfl (by decide))) (.cons rfl (.c (.ref rfl (by decide))) (.cons rfl (.c (.ref rfl (by decide))) .nil))))))))))))))))))) (.row (by decide) rfl (fr_map fr_raw) (.box (by decide) rfl (blkAs_cells (.cons (.same rfl) (.cons (.same rfl) (.cons (.same rfl) (.cons (lstC_ro (es := List.map eRaw r_17) rfl (List.length_map eRaw).symm (map_nil_of hz1) (fun b x hx => not_in (bs := [0, 1, 2, 1003, 4, 1005]) rfl b (((.cons (by decide) (.cons (by decide) (.cons (by decide) (.cons (by decide) .nil)))) : HLt _ _) b x hx)) (fr_map fr_raw)) .nil))))) (.box (by decide) rfl (blkAs_cells (.cons (.same rfl) (.cons (.same rfl) (.cons (.same rfl) (.cons (.same rfl) .nil))))) (.box (by decide) rfl (blkAs_cells (.cons (.same rfl) (.cons (.same rfl) (.cons (.same rfl) .nil)))) .nil)))))) ?_
        obtain ⟨r_22, hr21, h⟩ := bnd h
        refine un (ac_gen (bs := [0]) («as» := [(.c (.ref 0 3 0 0)), (.agg [cI r_14, cI 0, .str [], .ro false 4 (r_17.map eRaw)])]) (h2 := _) (h1 := (upd (fun _ => none) 0 (some (.cells 3 [[.ro false 4 (r_19.2.f_l.map e_TSToken), cI r_19.2.f_n, cB r_19.2.f_gapped]])))) (clerestory_calc_reader_made_ok hr21) rfl (.cons (.c (.ref rfl (by decide))) (.cons (avAs_free rfl) .nil)) (hsub_refl _) (.cons rfl (.nil _)) (fun h => by cases h) (by decide) (by decide) (.cons (.c (.ref rfl (by decide))) (.cons (avAs_free rfl) .nil)) (.box (by decide) rfl (blkAs_cells (.cons (.same rfl) (.cons (.same rfl) (.cons (.same rfl) .nil)))) .nil) ?_)
        rintro _ _ _ hn ⟨rfl, rfl, rfl⟩
        refine ⟨.inl rfl, (upd (rem [0] _) 0 (some (.cells 3 [[.ro false 4 (r_22.2.f_l.map e_TSToken), cI r_22.2.f_n, cB r_22.2.f_gapped]]))), fun hbd => (m3_cons (m3_box rfl rfl) (m3_rem (in_cons (by decide) (in_nil _)) (.cons (by decide) .nil) hbd)), (.agg [cI r_22.1.Kind, cI r_22.1.Dim.Num, .str r_22.1.Dim.Unit, .ro false 4 (r_22.1.Subs.map eRaw)]), 6, rfl, rfl, ?_⟩
        refine un (a2n (h' := upd _ 1 (some (.cells 4 [[cI r_22.1.Kind, cI r_22.1.Dim.Num, .str r_22.1.Dim.Unit, .ro false 4 (r_22.1.Subs.map eRaw)]]))) (n' := 6) rfl rfl (fun h => by cases h) ?_)
        refine dnil ?_
        refine Sv.ret ?_
        replace h := Option.some.inj h
        subst h
        exact hr _ ⟨_, .refl _, _, rfl, ⟨upd (fun _ => none) 0 (some (.agg [cI r_22.1.Kind, cI r_22.1.Dim.Num, .str r_22.1.Dim.Unit, .ro false 4 (r_22.1.Subs.map eRaw)])), (upd (fun _ => none) 0 (some (.cells 3 [[.ro false 4 (r_22.2.f_l.map e_TSToken), cI r_22.2.f_n, cB r_22.2.f_gapped]]))), 1⟩, (.agg [cI r_22.1.Kind, cI r_22.1.Dim.Num, .str r_22.1.Dim.Unit, .ro false 4 (r_22.1.Subs.map eRaw)]), weak_canon2 [0] [0] (by decide) (by decide) (by decide) (.cons (by decide) .nil) (.cons rfl (avAs_free rfl) .nil) (.box (by decide) rfl (blkAs_cells (.cons (.same rfl) (.cons (.same rfl) (.cons (.same rfl) .nil)))) .nil), rfl, rfl, rfl, rfl⟩
    · refine un (a2v (v := (lstV false 4 4 [(⟨e_TSTerm r_16.1, rfl⟩ : Raw)].length)) (h' := upd _ 4 (lstB false 4 ([(⟨e_TSTerm r_16.1, rfl⟩ : Raw)].map eRaw))) (n' := 5) rfl rfl (fun h => by cases h) ?_)
      refine un (a1 (v := (lstV zout3 3 4 out3.length)) rfl ?_)
      obtain ⟨r_17, hr16, h⟩ := bnd h
      have hz1 : (zout3 && [(⟨e_TSTerm r_16.1, rfl⟩ : Raw)].isEmpty) = true → r_17 = [] := app_nil (z := zout3) (ys := [(⟨e_TSTerm r_16.1, rfl⟩ : Raw)]) hzout3 hr16
      refine un (a2v rfl (s_app (xs := out3) (ys := [(⟨e_TSTerm r_16.1, rfl⟩ : Raw)]) (e := eRaw) (z := zout3) (b := 3) rfl rfl hzout3 rfl rfl (slc_lst rfl (List.length_map _).symm (map_nil_of (fun h => by cases h))) hr16) (fun h => by cases h) ?_)
      refine un (a1 (v := (.c (.ref 2 4 0 3))) rfl ?_)
      refine un (a2n (h' := upd _ 2 (some (.cells 4 [[cI r_14, cI 0, .str [], lstC (zout3 && [(⟨e_TSTerm r_16.1, rfl⟩ : Raw)].isEmpty) 5 4 r_17.length]]))) (n' := 6) rfl rfl (fun h => by cases h) ?_)
      refine dnil ?_
      refine Sv.seq ?_
      refine Sv.seq ?_
      refine Sv.region ?_
      refine un (a1 rfl ?_)
      obtain ⟨r_18, hr17, h⟩ := bnd h
      refine un (ac_gen (bs := [0]) («as» := [(.c (.ref 0 3 0 0)), (S [44])]) (h2 := _) (h1 := (upd (fun _ => none) 0 (some (.cells 3 [[.ro false 4 (r_16.2.f_l.map e_TSToken), cI r_16.2.f_n, cB r_16.2.f_gapped]])))) (clerestory_calc_reader_raw_ok hr17) rfl (.cons (.c (.ref rfl (by decide))) (.cons (avAs_free rfl) .nil)) (hsub_refl _) (.cons rfl (.nil _)) (fun h => by cases h) (by decide) (by decide) (.cons (.c (.ref rfl (by decide))) (.cons (avAs_free rfl) .nil)) (.box (by decide) rfl (blkAs_cells (.cons (.same rfl) (.cons (.same rfl) (.cons (.same rfl) .nil)))) .nil) ?_)
      rintro _ _ _ hn ⟨rfl, rfl, rfl⟩
      refine ⟨.inl rfl, (upd (rem [0] _) 0 (some (.cells 3 [[.ro false 4 (r_18.2.f_l.map e_TSToken), cI r_18.2.f_n, cB r_18.2.f_gapped]]))), fun hbd => (m3_cons (m3_box rfl rfl) (m3_rem (in_cons (by decide) (in_nil _)) (.cons (by decide) .nil) hbd)), (B r_18.1), 6, rfl, rfl, ?_⟩
      refine dnil ?_
      refine Sv.cond (b := r_18.1) rfl (fun hc5 => ?_) (fun hc5 => ?_)
      · replace h := ifT hc5 h
        refine Sv.exit ?_
        exact hself r_18.2.f_l r_18.2.f_n r_18.2.f_gapped r_17 (zout3 && [(⟨e_TSTerm r_16.1, rfl⟩ : Raw)].isEmpty) hz1 h _ (weak_canon [0, 1, 2, 5] rfl (by decide) (by decide) (by decide) (.cons rfl (.c (.ref rfl (by decide))) (.cons rfl (.c (.ref rfl (by decide))) (.cons rfl (.c (.ref rfl (by decide))) .nil))) (.row (by decide) rfl (fr_map fr_raw) (.box (by decide) rfl (blkAs_cells (.cons (.same rfl) (.cons (.same rfl) (.cons (.same rfl) (.cons (lstC_ren rfl (by decide)) .nil))))) (.box (by decide) rfl (blkAs_cells (.cons (.same rfl) (.cons (.same rfl) (.cons (.same rfl) (.cons (.same rfl) .nil))))) (.box (by decide) rfl (blkAs_cells (.cons (.same rfl) (.cons (.same rfl) (.cons (.same rfl) .nil)))) .nil)))))
      · replace h := ifF hc5 h
        refine Sv.skip ?_
        refine Sv.seq ?_
        refine Sv.region ?_
        refine un (a1 rfl ?_)
        refine un (a1 rfl ?_)
        obtain ⟨r_19, hr18, h⟩ := bnd h
        refine un (ac_gen (bs := [0]) («as» := [(.c (.ref 0 3 0 0)), (S [41])]) (h2 := _) (h1 := (upd (fun _ => none) 0 (some (.cells 3 [[.ro false 4 (r_18.2.f_l.map e_TSToken), cI r_18.2.f_n, cB r_18.2.f_gapped]])))) (clerestory_calc_reader_raw_ok hr18) rfl (.cons (.c (.ref rfl (by decide))) (.cons (avAs_free rfl) .nil)) (hsub_refl _) (.cons rfl (.nil _)) (fun h => by cases h) (by decide) (by decide) (.cons (.c (.ref rfl (by decide))) (.cons (avAs_free rfl) .nil)) (.box (by decide) rfl (blkAs_cells (.cons (.same rfl) (.cons (.same rfl) (.cons (.same rfl) .nil)))) .nil) ?_)
        rintro _ _ _ hn ⟨rfl, rfl, rfl⟩
        refine ⟨.inl rfl, (upd (rem [0] _) 0 (some (.cells 3 [[.ro false 4 (r_19.2.f_l.map e_TSToken), cI r_19.2.f_n, cB r_19.2.f_gapped]]))), fun hbd => (m3_cons (m3_box rfl rfl) (m3_rem (in_cons (by decide) (in_nil _)) (.cons (by decide) .nil) hbd)), (B r_19.1), 6, rfl, rfl, ?_⟩
        refine un (a1 rfl ?_)
        refine gjoin 3 (d := 106) (v := (B (r_19.1 && (calc_shaped (⟨r_14, (⟨0, []⟩ : TSDim), r_17⟩ : TSTerm))))) (fun X hX => ?_) ?_
        · refine split2 (fun hc6 => ?_) (fun hc6 => ?_)
          · refine gt rfl (a1 (v := (.agg [cI r_14, cI 0, .str [], lstC (zout3 && [(⟨e_TSTerm r_16.1, rfl⟩ : Raw)].isEmpty) 5 4 r_17.length])) rfl ?_)
            refine gt rfl (ac_lend (h2 := (upd _ 5 none)) (calc_shaped_ok (mL := mL) (⟨r_14, (⟨0, []⟩ : TSDim), r_17⟩ : TSTerm)) rfl (.cons (avAs_agg (.cons (.same rfl) (.cons (.same rfl) (.cons (.same rfl) (.cons (lstC_ro (es := List.map eRaw r_17) rfl (List.length_map eRaw).symm (map_nil_of hz1) (gone rfl) (fr_map fr_raw)) .nil))))) .nil) (hsub_none (hsub_refl _)) rfl rfl (.inr rfl) ?_)
            refine un (a1 (v := (B (calc_shaped (⟨r_14, (⟨0, []⟩ : TSDim), r_17⟩ : TSTerm)))) rfl ?_)
            refine dnil ?_
            exact hX _ (.putEq (by rw [hc6]; rfl) (.skip _ _ (.skip _ _ (.putEq (by rw [hc6]) (.refl _)) rfl) rfl))
          · refine gs rfl rfl ?_
            refine gs rfl rfl ?_
            refine un (a1 (v := (B false)) rfl ?_)
            refine dnil ?_
            exact hX _ (.putEq (by rw [hc6]; rfl) (.skip _ _ (.skip _ _ (.putEq (by rw [hc6]) (.refl _)) rfl) rfl))
        obtain ⟨r_20, hr19, h⟩ := bnd h
        refine un (ac_lend (h2 := (upd _ 0 none)) (clerestory_calc_reader_need_ok hr19) rfl (.cons (.c (ref_ro rfl (gone rfl) (.cons (.same rfl) (.cons (.same rfl) (.cons (.same rfl) .nil))) rfl)) (.cons (avAs_free rfl) .nil)) (hsub_none (hsub_refl _)) rfl rfl (.inr rfl) ?_)
        refine dnil ?_
        refine Sv.seq ?_
        refine Sv.region ?_
        refine un (a1 rfl ?_)
        refine un (a1 (v := (.agg [cI r_14, cI 0, .str [], lstC (zout3 && [(⟨e_TSTerm r_16.1, rfl⟩ : Raw)].isEmpty) 5 4 r_17.length])) rfl ?_)
        refine dweak (show Weak 1 _ ⟨(upd (upd (upd (upd (upd (upd (upd (upd (upd (upd (upd (upd (upd (upd (upd (upd (upd (upd (upd (fun _ => none) 0 (some (.c (.ref 0 3 0 0)))) 4 (some (.c (.ref 1 4 0 0)))) 12 (some (.c (.ref 2 4 0 0)))) 91 (some (.c (.ref 2 4 0 3)))) 93 (some (.c (.ref 0 3 0 0)))) 94 (some (.agg [cI r_16.1.Kind, cI r_16.1.Dim.Num, .str r_16.1.Dim.Unit, .ro false 4 (r_16.1.Subs.map eRaw)]))) 95 (some (lstV false 4 4 [(⟨e_TSTerm r_16.1, rfl⟩ : Raw)].length))) 96 (some (.c (.ro false 4 (r_17.map eRaw))))) 97 (some (.c (.ref 2 4 0 3)))) 98 (some (.c (.ref 0 3 0 0)))) 99 (some (B r_18.1))) 100 (some (.c (.ref 0 3 0 0)))) 101 (some (.c (.ref 0 3 0 0)))) 102 (some (B r_19.1))) 103 (some (B r_19.1))) 106 (some (B (r_19.1 && (calc_shaped (⟨r_14, (⟨0, []⟩ : TSDim), r_17⟩ : TSTerm)))))) 107 (some (.tup []))) 108 (some (.c (.ref 0 3 0 0)))) 109 (some (.agg [cI r_14, cI 0, .str [], .ro false 4 (r_17.map eRaw)]))), (upd (upd (upd (upd (fun _ => none) 0 (some (.cells 3 [[.ro false 4 (r_19.2.f_l.map e_TSToken), cI r_19.2.f_n, cB r_19.2.f_gapped]]))) 1 (some (.cells 4 [[cI 0, cI 0, .str [], .ro true 4 []]]))) 2 (some (.cells 4 [[cI r_14, cI 0, .str [], .ro false 4 (r_17.map eRaw)]]))) 4 (lstB false 4 ([(⟨e_TSTerm r_16.1, rfl⟩ : Raw)].map eRaw))), 6⟩ from (weak_canon [0, 1, 2, 1003, 4, 1005] rfl (by decide) (by decide) (by decide) (.cons rfl (avAs_agg (.cons (.same rfl) (.cons (.same rfl) (.cons (.same rfl) (.cons (lstC_ro (es := List.map eRaw r_17) rfl (List.length_map eRaw).symm (map_nil_of hz1) (fun b x hx => not_in (bs := [0, 1, 2, 1003, 4, 1005]) rfl b (((.cons (by decide) (.cons (by decide) (.cons (by decide) (.cons (by decide) .nil)))) : HLt _ _) b x hx)) (fr_map fr_raw)) .nil))))) (.cons rfl (.c (.ref rfl (by decide))) (.cons rfl (avAs_tup .nil) (.cons rfl (avAs_free rfl) (.cons rfl (avAs_free rfl) (.cons rfl (avAs_free rfl) (.cons rfl (.c (.ref rfl (by decide))) (.cons rfl (.c (.ref rfl (by decide))) (.cons rfl (avAs_free rfl) (.cons rfl (.c (.ref rfl (by decide))) (.cons rfl (.c (.ref rfl (by decide))) (.cons rfl (.c (lstC_ro (es := List.map eRaw r_17) rfl (List.length_map eRaw).symm (map_nil_of hz1) (fun b x hx => not_in (bs := [0, 1, 2, 1003, 4, 1005]) rfl b (((.cons (by decide) (.cons (by decide) (.cons (by decide) (.cons (by decide) .nil)))) : HLt _ _) b x hx)) (fr_map fr_raw))) (.cons rfl (.c (lstC_ren rfl (by decide))) (.cons rfl (avAs_free rfl) (.cons rfl (.c (.ref rfl (by decide))) (.cons rfl (.c (.ref rfl (by decide))) (.cons rfl (.c (.ref rfl (by decide))) (.cons rfl (.c (.ref rfl (by decide))) (.cons rfl (.c (.ref rfl (by decide))) .nil))))))))))))))))))) (.row (by decide) rfl (fr_map fr_raw) (.box (by decide) rfl (blkAs_cells (.cons (.same rfl) (.cons (.same rfl) (.cons (.same rfl) (.cons (lstC_ro (es := List.map eRaw r_17) rfl (List.length_map eRaw).symm (map_nil_of hz1) (fun b x hx => not_in (bs := [0, 1, 2, 1003, 4, 1005]) rfl b (((.cons (by decide) (.cons (by decide) (.cons (by decide) (.cons (by decide) .nil)))) : HLt _ _) b x hx)) (fr_map fr_raw)) .nil))))) (.box (by decide) rfl (blkAs_cells (.cons (.same rfl) (.cons (.same rfl) (.cons (.same rfl) (.cons (.same rfl) .nil))))) (.box (by decide) rfl (blkAs_cells (.cons (.same rfl) (.cons (.same rfl) (.cons (.same rfl) .nil)))) .nil)))))) ?_
        obtain ⟨r_22, hr21, h⟩ := bnd h
        refine un (ac_gen (bs := [0]) («as» := [(.c (.ref 0 3 0 0)), (.agg [cI r_14, cI 0, .str [], .ro false 4 (r_17.map eRaw)])]) (h2 := _) (h1 := (upd (fun _ => none) 0 (some (.cells 3 [[.ro false 4 (r_19.2.f_l.map e_TSToken), cI r_19.2.f_n, cB r_19.2.f_gapped]])))) (clerestory_calc_reader_made_ok hr21) rfl (.cons (.c (.ref rfl (by decide))) (.cons (avAs_free rfl) .nil)) (hsub_refl _) (.cons rfl (.nil _)) (fun h => by cases h) (by decide) (by decide) (.cons (.c (.ref rfl (by decide))) (.cons (avAs_free rfl) .nil)) (.box (by decide) rfl (blkAs_cells (.cons (.same rfl) (.cons (.same rfl) (.cons (.same rfl) .nil)))) .nil) ?_)
        rintro _ _ _ hn ⟨rfl, rfl, rfl⟩
        refine ⟨.inl rfl, (upd (rem [0] _) 0 (some (.cells 3 [[.ro false 4 (r_22.2.f_l.map e_TSToken), cI r_22.2.f_n, cB r_22.2.f_gapped]]))), fun hbd => (m3_cons (m3_box rfl rfl) (m3_rem (in_cons (by decide) (in_nil _)) (.cons (by decide) .nil) hbd)), (.agg [cI r_22.1.Kind, cI r_22.1.Dim.Num, .str r_22.1.Dim.Unit, .ro false 4 (r_22.1.Subs.map eRaw)]), 6, rfl, rfl, ?_⟩
        refine un (a2n (h' := upd _ 1 (some (.cells 4 [[cI r_22.1.Kind, cI r_22.1.Dim.Num, .str r_22.1.Dim.Unit, .ro false 4 (r_22.1.Subs.map eRaw)]]))) (n' := 6) rfl rfl (fun h => by cases h) ?_)
        refine dnil ?_
        refine Sv.ret ?_
        replace h := Option.some.inj h
        subst h
        exact hr _ ⟨_, .refl _, _, rfl, ⟨upd (fun _ => none) 0 (some (.agg [cI r_22.1.Kind, cI r_22.1.Dim.Num, .str r_22.1.Dim.Unit, .ro false 4 (r_22.1.Subs.map eRaw)])), (upd (fun _ => none) 0 (some (.cells 3 [[.ro false 4 (r_22.2.f_l.map e_TSToken), cI r_22.2.f_n, cB r_22.2.f_gapped]]))), 1⟩, (.agg [cI r_22.1.Kind, cI r_22.1.Dim.Num, .str r_22.1.Dim.Unit, .ro false 4 (r_22.1.Subs.map eRaw)]), weak_canon2 [0] [0] (by decide) (by decide) (by decide) (.cons (by decide) .nil) (.cons rfl (avAs_free rfl) .nil) (.box (by decide) rfl (blkAs_cells (.cons (.same rfl) (.cons (.same rfl) (.cons (.same rfl) .nil)))) .nil), rfl, rfl, rfl, rfl⟩
/-- (*clerestory/calc.reader).value -/
noncomputable def clerestory_calc_reader_value_r : Nat → Treader → Bool → Option (TSTerm × Treader)
  | 0, _, _ => none
  | k + 1, r_, in_ =>
    (clerestory_calc_reader_need r_ (decide (0 < (r_.f_l.length : Int)))).bind fun r_1 =>
    (at? r_.f_l 0).bind fun x_ =>
    (sub? r_.f_l 1 (r_.f_l.length : Int)).bind fun r_2 =>
    if decide (x_.Kind = 7) then
      (dim_Read x_.Raw).bind fun r_3 =>
      (clerestory_calc_reader_need (⟨r_2, r_.f_n, r_.f_gapped⟩ : Treader) (decide (r_3.2 = 0))).bind fun r_4 =>
      (clerestory_calc_reader_made (⟨r_2, r_.f_n, r_.f_gapped⟩ : Treader) (⟨1, r_3.1, []⟩ : TSTerm)).bind fun r_5 =>
      some (r_5.1, r_5.2)
    else
      if (in_ && (decide (x_.Raw = [40]))) then
        (clerestory_calc_reader_sum (clerestory_calc_reader_value_r k) (⟨r_2, r_.f_n, r_.f_gapped⟩ : Treader)).bind fun r_6 =>
        (clerestory_calc_reader_raw r_6.2 [41]).bind fun r_7 =>
        (clerestory_calc_reader_need r_7.2 r_7.1).bind fun r_8 =>
        some (r_6.1, r_7.2)
      else
        (clerestory_calc_reader_need (⟨r_2, r_.f_n, r_.f_gapped⟩ : Treader) (decide (x_.Kind = 2))).bind fun r_9 =>
        (calc_lower x_.Value).bind fun r_10 =>
        if decide (r_10 = [99, 97, 108, 99]) then
          (clerestory_calc_reader_sum (clerestory_calc_reader_value_r k) (⟨r_2, r_.f_n, r_.f_gapped⟩ : Treader)).bind fun r_11 =>
          (clerestory_calc_reader_raw r_11.2 [41]).bind fun r_12 =>
          (clerestory_calc_reader_need r_12.2 r_12.1).bind fun r_13 =>
          some (r_11.1, r_12.2)
        else
          (slices_Index_string clerestory_calc_reader_value_t0 r_10).bind fun r_14 =>
          (clerestory_calc_reader_need (⟨r_2, r_.f_n, r_.f_gapped⟩ : Treader) (decide (0 < r_14))).bind fun r_15 =>
          limF fun kk => clerestory_calc_reader_value_l0 (clerestory_calc_reader_value_r k) r_14 kk r_2 r_.f_n r_.f_gapped ([] : List Raw)
noncomputable def clerestory_calc_reader_value (r_ : Treader) (in_ : Bool) : Option (TSTerm × Treader) :=
  limF fun kr => clerestory_calc_reader_value_r kr r_ in_
theorem clerestory_calc_reader_value_r_ok {mL : Int} (k : Nat) : clerestory_calc_reader_value_Rec mL (clerestory_calc_reader_value_r k) := by
  induction k with
  | zero => intro r_ in_ r h; cases h
  | succ k hrec =>
  intro r_ in_ r h
  refine acalls_of_sv hmix c19 (R := clerestory_calc_reader_value_post r) ?_
  rw [clerestory_calc_reader_value_r] at h
  refine Sv.seq ?_
  refine Sv.region ?_
  refine un (a2v (v := (.c (.ref 1 4 0 0))) (h' := upd _ 1 (some (.cells 4 [[cI 0, cI 0, .str [], .ro true 4 []]]))) (n' := 2) rfl rfl (fun h => by cases h) ?_)
  refine dnil ?_
  refine Sv.seq ?_
  refine Sv.region ?_
  refine un (a1 rfl ?_)
  refine un (a1 rfl ?_)
  refine un (a1 (v := (.c (.ref 0 3 0 0))) rfl ?_)
  refine un (a1 (v := (.c (.ref 0 3 0 0))) rfl ?_)
  refine un (a1 (v := (.c (.ro false 4 (r_.f_l.map e_TSToken)))) rfl ?_)
  refine un (a1 (v := (I (r_.f_l.length : Int))) (s_len (e := e_TSToken) (xs := r_.f_l) rfl) ?_)
  refine un (a1 (v := (B (decide (0 < (r_.f_l.length : Int))))) rfl ?_)
  obtain ⟨r_1, hr1, h⟩ := bnd h
  refine un (ac_lend (h2 := (upd _ 0 none)) (clerestory_calc_reader_need_ok hr1) rfl (.cons (.c (ref_ro rfl (gone rfl) (.cons (.same rfl) (.cons (.same rfl) (.cons (.same rfl) .nil))) rfl)) (.cons (avAs_free rfl) .nil)) (hsub_none (hsub_refl _)) rfl rfl (.inr rfl) ?_)
  refine dnil ?_
  refine Sv.seq ?_
  refine Sv.region ?_
  refine un (a1 rfl ?_)
  refine un (a1 (v := (.c (.ref 0 3 0 0))) rfl ?_)
  refine un (a1 (v := (.c (.ref 0 3 0 0))) rfl ?_)
  refine un (a1 (v := (.c (.ro false 4 (r_.f_l.map e_TSToken)))) rfl ?_)
  obtain ⟨x_, hx1, h⟩ := bnd h
  refine un (a1 (v := (.c (.rop [cI x_.Kind, .str x_.Raw, .str x_.Value, cI x_.Num]))) (s_iaddr (e := e_TSToken) (xs := r_.f_l) rfl rfl hx1) ?_)
  refine un (a1 (v := (.agg [cI x_.Kind, .str x_.Raw, .str x_.Value, cI x_.Num])) rfl ?_)
  refine un (a2v (v := (.c (.ref 2 4 0 0))) (h' := upd _ 2 (some (.cells 4 [[cI 0, .str [], .str [], cI 0]]))) (n' := 3) rfl rfl (fun h => by cases h) ?_)
  refine un (a2n (h' := upd _ 2 (some (.cells 4 [[cI x_.Kind, .str x_.Raw, .str x_.Value, cI x_.Num]]))) (n' := 3) rfl rfl (fun h => by cases h) ?_)
  refine dnil ?_
  refine Sv.seq ?_
  refine Sv.region ?_
  refine un (a1 rfl ?_)
  refine un (a1 rfl ?_)
  refine un (a1 (v := (.c (.ref 0 3 0 0))) rfl ?_)
  refine un (a1 (v := (.c (.ref 0 3 0 0))) rfl ?_)
  refine un (a1 (v := (.c (.ro false 4 (r_.f_l.map e_TSToken)))) rfl ?_)
  obtain ⟨r_2, hx2, h⟩ := bnd h
  refine un (a1 (v := (.c (.ro false 4 (r_2.map e_TSToken)))) (s_slSl (e := e_TSToken) rfl rfl rfl hx2) ?_)
  refine un (a1 (v := (.c (.ref 0 3 0 0))) rfl ?_)
  refine un (a1 (v := (.c (.ref 0 3 0 0))) rfl ?_)
  refine un (a2n (h' := upd _ 0 (some (.cells 3 [[.ro false 4 (r_2.map e_TSToken), cI r_.f_n, cB r_.f_gapped]]))) (n' := 3) rfl rfl (fun h => by cases h) ?_)
  refine dnil ?_
  refine Sv.seq ?_
  refine Sv.seq ?_
  refine Sv.region ?_
  refine un (a1 (v := (.c (.ref 2 4 0 0))) rfl ?_)
  refine un (a1 (v := (I x_.Kind)) rfl ?_)
  refine un (a1 (v := (B (decide (x_.Kind = 7)))) rfl ?_)
  refine dnil ?_
  refine Sv.cond (b := decide (x_.Kind = 7)) rfl (fun hc1 => ?_) (fun hc1 => ?_)
  · replace h := ifT hc1 h
    refine Sv.seq ?_
    refine Sv.region ?_
    refine un (a1 (v := (.c (.ref 2 4 0 1))) rfl ?_)
    refine un (a1 (v := (S x_.Raw)) rfl ?_)
    obtain ⟨r_3, hr2, h⟩ := bnd h
    refine un (ac_pure (dim_Read_ok hr2) rfl rfl rfl ?_)
    refine un (a1 rfl ?_)
    refine un (a1 (v := (.agg [cI r_3.1.Num, .str r_3.1.Unit])) rfl ?_)
    refine un (a1 (v := (I r_3.2)) rfl ?_)
    refine un (a2v (v := (.c (.ref 3 2 0 0))) (h' := upd _ 3 (some (.cells 2 [[cI 0, .str []]]))) (n' := 4) rfl rfl (fun h => by cases h) ?_)
    refine un (a2n (h' := upd _ 3 (some (.cells 2 [[cI r_3.1.Num, .str r_3.1.Unit]]))) (n' := 4) rfl rfl (fun h => by cases h) ?_)
    refine un (a1 rfl ?_)
    refine dnil ?_
    refine Sv.seq ?_
    refine Sv.region ?_
    refine un (a1 rfl ?_)
    refine un (a1 rfl ?_)
    refine un (a1 (v := (B (decide (r_3.2 = 0)))) rfl ?_)
    obtain ⟨r_4, hr3, h⟩ := bnd h
    refine un (ac_lend (h2 := (upd _ 0 none)) (clerestory_calc_reader_need_ok hr3) rfl (.cons (.c (ref_ro rfl (gone rfl) (.cons (.same rfl) (.cons (.same rfl) (.cons (.same rfl) .nil))) rfl)) (.cons (avAs_free rfl) .nil)) (hsub_none (hsub_refl _)) rfl rfl (.inr rfl) ?_)
    refine dnil ?_
    refine Sv.seq ?_
    refine Sv.region ?_
    refine un (a1 rfl ?_)
    refine un (a1 (v := (.agg [cI r_3.1.Num, .str r_3.1.Unit])) rfl ?_)
    refine un (a1 (v := (.agg [cI 1, cI r_3.1.Num, .str r_3.1.Unit, .ro true 4 []])) rfl ?_)
    obtain ⟨r_5, hr4, h⟩ := bnd h
    refine un (ac_gen (bs := [0]) («as» := [(.c (.ref 0 3 0 0)), (.agg [cI 1, cI r_3.1.Num, .str r_3.1.Unit, .ro false 4 (([] : List Raw).map eRaw)])]) (h2 := _) (h1 := (upd (fun _ => none) 0 (some (.cells 3 [[.ro false 4 (r_2.map e_TSToken), cI r_.f_n, cB r_.f_gapped]])))) (clerestory_calc_reader_made_ok hr4) rfl (.cons (.c (.ref rfl (by decide))) (.cons (avAs_agg (.cons (.same rfl) (.cons (.same rfl) (.cons (.same rfl) (.cons .nil .nil))))) .nil)) (hsub_refl _) (.cons rfl (.nil _)) (fun h => by cases h) (by decide) (by decide) (.cons (.c (.ref rfl (by decide))) (.cons (avAs_free rfl) .nil)) (.box (by decide) rfl (blkAs_cells (.cons (.same rfl) (.cons (.same rfl) (.cons (.same rfl) .nil)))) .nil) ?_)
    rintro _ _ _ hn ⟨rfl, rfl, rfl⟩
    refine ⟨.inl rfl, (upd (rem [0] _) 0 (some (.cells 3 [[.ro false 4 (r_5.2.f_l.map e_TSToken), cI r_5.2.f_n, cB r_5.2.f_gapped]]))), fun hbd => (m3_cons (m3_box rfl rfl) (m3_rem (in_cons (by decide) (in_nil _)) (.cons (by decide) .nil) hbd)), (.agg [cI r_5.1.Kind, cI r_5.1.Dim.Num, .str r_5.1.Dim.Unit, .ro false 4 (r_5.1.Subs.map eRaw)]), 4, rfl, rfl, ?_⟩
    refine un (a2n (h' := upd _ 1 (some (.cells 4 [[cI r_5.1.Kind, cI r_5.1.Dim.Num, .str r_5.1.Dim.Unit, .ro false 4 (r_5.1.Subs.map eRaw)]]))) (n' := 4) rfl rfl (fun h => by cases h) ?_)
    refine dnil ?_
    refine Sv.ret ?_
    replace h := Option.some.inj h
    subst h
    exact ⟨_, .refl _, _, rfl, ⟨upd (fun _ => none) 0 (some (.agg [cI r_5.1.Kind, cI r_5.1.Dim.Num, .str r_5.1.Dim.Unit, .ro false 4 (r_5.1.Subs.map eRaw)])), (upd (fun _ => none) 0 (some (.cells 3 [[.ro false 4 (r_5.2.f_l.map e_TSToken), cI r_5.2.f_n, cB r_5.2.f_gapped]]))), 1⟩, (.agg [cI r_5.1.Kind, cI r_5.1.Dim.Num, .str r_5.1.Dim.Unit, .ro false 4 (r_5.1.Subs.map eRaw)]), weak_canon2 [0] [0] (by decide) (by decide) (by decide) (.cons (by decide) .nil) (.cons rfl (avAs_free rfl) .nil) (.box (by decide) rfl (blkAs_cells (.cons (.same rfl) (.cons (.same rfl) (.cons (.same rfl) .nil)))) .nil), rfl, rfl, rfl, rfl⟩
  · replace h := ifF hc1 h
    refine Sv.skip ?_
    refine Sv.seq ?_
    refine Sv.seq ?_
    refine Sv.region ?_
    refine un (a1 rfl ?_)
    refine un (a1 rfl ?_)
    refine gjoin 4 (d := 57) (v := (B (in_ && (decide (x_.Raw = [40]))))) (fun X hX => ?_) ?_
    · refine split2 (fun hc2 => ?_) (fun hc2 => ?_)
      · refine gt rfl (a1 (v := (.c (.ref 2 4 0 1))) rfl ?_)
        refine gt rfl (a1 (v := (S x_.Raw)) rfl ?_)
        refine gt rfl (a1 (v := (B (decide (x_.Raw = [40])))) rfl ?_)
        refine un (a1 (v := (B (decide (x_.Raw = [40])))) rfl ?_)
        refine dnil ?_
        exact hX _ (.putEq (by rw [hc2]; rfl) (.skip _ _ (.skip _ _ (.skip _ _ (.putEq (by rw [hc2]) (.refl _)) rfl) rfl) rfl))
      · refine gs rfl rfl ?_
        refine gs rfl rfl ?_
        refine gs rfl rfl ?_
        refine un (a1 (v := (B false)) rfl ?_)
        refine dnil ?_
        exact hX _ (.putEq (by rw [hc2]; rfl) (.skip _ _ (.skip _ _ (.skip _ _ (.putEq (by rw [hc2]) (.refl _)) rfl) rfl) rfl))
    refine dnil ?_
    refine Sv.cond (b := (in_ && (decide (x_.Raw = [40])))) rfl (fun hc3 => ?_) (fun hc3 => ?_)
    · replace h := ifT hc3 h
      refine Sv.seq ?_
      refine Sv.region ?_
      refine un (a1 rfl ?_)
      obtain ⟨r_6, hr5, h⟩ := bnd h
      refine un (ac_gen (bs := [0]) («as» := [(.c (.ref 0 3 0 0))]) (h2 := _) (h1 := (upd (fun _ => none) 0 (some (.cells 3 [[.ro false 4 (r_2.map e_TSToken), cI r_.f_n, cB r_.f_gapped]])))) (clerestory_calc_reader_sum_ok hrec hr5) rfl (.cons (.c (.ref rfl (by decide))) .nil) (hsub_refl _) (.cons rfl (.nil _)) (fun h => by cases h) (by decide) (by decide) (.cons (.c (.ref rfl (by decide))) .nil) (.box (by decide) rfl (blkAs_cells (.cons (.same rfl) (.cons (.same rfl) (.cons (.same rfl) .nil)))) .nil) ?_)
      rintro _ _ _ hn ⟨rfl, rfl, rfl⟩
      refine ⟨.inl rfl, (upd (rem [0] _) 0 (some (.cells 3 [[.ro false 4 (r_6.2.f_l.map e_TSToken), cI r_6.2.f_n, cB r_6.2.f_gapped]]))), fun hbd => (m3_cons (m3_box rfl rfl) (m3_rem (in_cons (by decide) (in_nil _)) (.cons (by decide) .nil) hbd)), (.agg [cI r_6.1.Kind, cI r_6.1.Dim.Num, .str r_6.1.Dim.Unit, .ro false 4 (r_6.1.Subs.map eRaw)]), 3, rfl, rfl, ?_⟩
      refine un (a2v (v := (.c (.ref 3 4 0 0))) (h' := upd _ 3 (some (.cells 4 [[cI 0, cI 0, .str [], .ro true 4 []]]))) (n' := 4) rfl rfl (fun h => by cases h) ?_)
      refine un (a2n (h' := upd _ 3 (some (.cells 4 [[cI r_6.1.Kind, cI r_6.1.Dim.Num, .str r_6.1.Dim.Unit, .ro false 4 (r_6.1.Subs.map eRaw)]]))) (n' := 4) rfl rfl (fun h => by cases h) ?_)
      refine dnil ?_
      refine Sv.seq ?_
      refine Sv.region ?_
      refine un (a1 rfl ?_)
      refine un (a1 rfl ?_)
      obtain ⟨r_7, hr6, h⟩ := bnd h
      refine un (ac_gen (bs := [0]) («as» := [(.c (.ref 0 3 0 0)), (S [41])]) (h2 := _) (h1 := (upd (fun _ => none) 0 (some (.cells 3 [[.ro false 4 (r_6.2.f_l.map e_TSToken), cI r_6.2.f_n, cB r_6.2.f_gapped]])))) (clerestory_calc_reader_raw_ok hr6) rfl (.cons (.c (.ref rfl (by decide))) (.cons (avAs_free rfl) .nil)) (hsub_refl _) (.cons rfl (.nil _)) (fun h => by cases h) (by decide) (by decide) (.cons (.c (.ref rfl (by decide))) (.cons (avAs_free rfl) .nil)) (.box (by decide) rfl (blkAs_cells (.cons (.same rfl) (.cons (.same rfl) (.cons (.same rfl) .nil)))) .nil) ?_)
      rintro _ _ _ hn ⟨rfl, rfl, rfl⟩
      refine ⟨.inl rfl, (upd (rem [0] _) 0 (some (.cells 3 [[.ro false 4 (r_7.2.f_l.map e_TSToken), cI r_7.2.f_n, cB r_7.2.f_gapped]]))), fun hbd => (m3_cons (m3_box rfl rfl) (m3_rem (in_cons (by decide) (in_nil _)) (.cons (by decide) .nil) hbd)), (B r_7.1), 4, rfl, rfl, ?_⟩
      obtain ⟨r_8, hr7, h⟩ := bnd h
      refine un (ac_lend (h2 := (upd _ 0 none)) (clerestory_calc_reader_need_ok hr7) rfl (.cons (.c (ref_ro rfl (gone rfl) (.cons (.same rfl) (.cons (.same rfl) (.cons (.same rfl) .nil))) rfl)) (.cons (avAs_free rfl) .nil)) (hsub_none (hsub_refl _)) rfl rfl (.inr rfl) ?_)
      refine dnil ?_
      refine Sv.seq ?_
      refine Sv.region ?_
      refine un (a1 (v := (.agg [cI r_6.1.Kind, cI r_6.1.Dim.Num, .str r_6.1.Dim.Unit, .ro false 4 (r_6.1.Subs.map eRaw)])) rfl ?_)
      refine un (a2n (h' := upd _ 1 (some (.cells 4 [[cI r_6.1.Kind, cI r_6.1.Dim.Num, .str r_6.1.Dim.Unit, .ro false 4 (r_6.1.Subs.map eRaw)]]))) (n' := 4) rfl rfl (fun h => by cases h) ?_)
      refine dnil ?_
      refine Sv.ret ?_
      replace h := Option.some.inj h
      subst h
      exact ⟨_, .refl _, _, rfl, ⟨upd (fun _ => none) 0 (some (.agg [cI r_6.1.Kind, cI r_6.1.Dim.Num, .str r_6.1.Dim.Unit, .ro false 4 (r_6.1.Subs.map eRaw)])), (upd (fun _ => none) 0 (some (.cells 3 [[.ro false 4 (r_7.2.f_l.map e_TSToken), cI r_7.2.f_n, cB r_7.2.f_gapped]]))), 1⟩, (.agg [cI r_6.1.Kind, cI r_6.1.Dim.Num, .str r_6.1.Dim.Unit, .ro false 4 (r_6.1.Subs.map eRaw)]), weak_canon2 [0] [0] (by decide) (by decide) (by decide) (.cons (by decide) .nil) (.cons rfl (avAs_free rfl) .nil) (.box (by decide) rfl (blkAs_cells (.cons (.same rfl) (.cons (.same rfl) (.cons (.same rfl) .nil)))) .nil), rfl, rfl, rfl, rfl⟩
    · replace h := ifF hc3 h
      refine Sv.skip ?_
      refine Sv.seq ?_
      refine Sv.region ?_
      refine un (a1 rfl ?_)
      refine un (a1 (v := (.c (.ref 2 4 0 0))) rfl ?_)
      refine un (a1 (v := (I x_.Kind)) rfl ?_)
      refine un (a1 (v := (B (decide (x_.Kind = 2)))) rfl ?_)
      obtain ⟨r_9, hr8, h⟩ := bnd h
      refine un (ac_lend (h2 := (upd _ 0 none)) (clerestory_calc_reader_need_ok hr8) rfl (.cons (.c (ref_ro rfl (gone rfl) (.cons (.same rfl) (.cons (.same rfl) (.cons (.same rfl) .nil))) rfl)) (.cons (avAs_free rfl) .nil)) (hsub_none (hsub_refl _)) rfl rfl (.inr rfl) ?_)
      refine dnil ?_
      refine Sv.seq ?_
      refine Sv.region ?_
      refine un (a1 (v := (.c (.ref 2 4 0 2))) rfl ?_)
      refine un (a1 (v := (S x_.Value)) rfl ?_)
      obtain ⟨r_10, hr9, h⟩ := bnd h
      refine un (ac_pure (calc_lower_ok hr9) rfl rfl rfl ?_)
      refine un (a1 rfl ?_)
      refine dnil ?_
      refine Sv.seq ?_
      refine Sv.seq ?_
      refine Sv.region ?_
      refine un (a1 rfl ?_)
      refine un (a1 (v := (B (decide (r_10 = [99, 97, 108, 99])))) rfl ?_)
      refine dnil ?_
      refine Sv.cond (b := decide (r_10 = [99, 97, 108, 99])) rfl (fun hc4 => ?_) (fun hc4 => ?_)
      · replace h := ifT hc4 h
        refine Sv.seq ?_
        refine Sv.region ?_
        refine un (a1 rfl ?_)
        obtain ⟨r_11, hr10, h⟩ := bnd h
        refine un (ac_gen (bs := [0]) («as» := [(.c (.ref 0 3 0 0))]) (h2 := _) (h1 := (upd (fun _ => none) 0 (some (.cells 3 [[.ro false 4 (r_2.map e_TSToken), cI r_.f_n, cB r_.f_gapped]])))) (clerestory_calc_reader_sum_ok hrec hr10) rfl (.cons (.c (.ref rfl (by decide))) .nil) (hsub_refl _) (.cons rfl (.nil _)) (fun h => by cases h) (by decide) (by decide) (.cons (.c (.ref rfl (by decide))) .nil) (.box (by decide) rfl (blkAs_cells (.cons (.same rfl) (.cons (.same rfl) (.cons (.same rfl) .nil)))) .nil) ?_)
        rintro _ _ _ hn ⟨rfl, rfl, rfl⟩
        refine ⟨.inl rfl, (upd (rem [0] _) 0 (some (.cells 3 [[.ro false 4 (r_11.2.f_l.map e_TSToken), cI r_11.2.f_n, cB r_11.2.f_gapped]]))), fun hbd => (m3_cons (m3_box rfl rfl) (m3_rem (in_cons (by decide) (in_nil _)) (.cons (by decide) .nil) hbd)), (.agg [cI r_11.1.Kind, cI r_11.1.Dim.Num, .str r_11.1.Dim.Unit, .ro false 4 (r_11.1.Subs.map eRaw)]), 3, rfl, rfl, ?_⟩
        refine un (a2v (v := (.c (.ref 3 4 0 0))) (h' := upd _ 3 (some (.cells 4 [[cI 0, cI 0, .str [], .ro true 4 []]]))) (n' := 4) rfl rfl (fun h => by cases h) ?_)
        refine un (a2n (h' := upd _ 3 (some (.cells 4 [[cI r_11.1.Kind, cI r_11.1.Dim.Num, .str r_11.1.Dim.Unit, .ro false 4 (r_11.1.Subs.map eRaw)]]))) (n' := 4) rfl rfl (fun h => by cases h) ?_)
        refine dnil ?_
        refine Sv.seq ?_
        refine Sv.region ?_
        refine un (a1 rfl ?_)
        refine un (a1 rfl ?_)
        obtain ⟨r_12, hr11, h⟩ := bnd h
        refine un (ac_gen (bs := [0]) («as» := [(.c (.ref 0 3 0 0)), (S [41])]) (h2 := _) (h1 := (upd (fun _ => none) 0 (some (.cells 3 [[.ro false 4 (r_11.2.f_l.map e_TSToken), cI r_11.2.f_n, cB r_11.2.f_gapped]])))) (clerestory_calc_reader_raw_ok hr11) rfl (.cons (.c (.ref rfl (by decide))) (.cons (avAs_free rfl) .nil)) (hsub_refl _) (.cons rfl (.nil _)) (fun h => by cases h) (by decide) (by decide) (.cons (.c (.ref rfl (by decide))) (.cons (avAs_free rfl) .nil)) (.box (by decide) rfl (blkAs_cells (.cons (.same rfl) (.cons (.same rfl) (.cons (.same rfl) .nil)))) .nil) ?_)
        rintro _ _ _ hn ⟨rfl, rfl, rfl⟩
        refine ⟨.inl rfl, (upd (rem [0] _) 0 (some (.cells 3 [[.ro false 4 (r_12.2.f_l.map e_TSToken), cI r_12.2.f_n, cB r_12.2.f_gapped]]))), fun hbd => (m3_cons (m3_box rfl rfl) (m3_rem (in_cons (by decide) (in_nil _)) (.cons (by decide) .nil) hbd)), (B r_12.1), 4, rfl, rfl, ?_⟩
        obtain ⟨r_13, hr12, h⟩ := bnd h
        refine un (ac_lend (h2 := (upd _ 0 none)) (clerestory_calc_reader_need_ok hr12) rfl (.cons (.c (ref_ro rfl (gone rfl) (.cons (.same rfl) (.cons (.same rfl) (.cons (.same rfl) .nil))) rfl)) (.cons (avAs_free rfl) .nil)) (hsub_none (hsub_refl _)) rfl rfl (.inr rfl) ?_)
        refine dnil ?_
        refine Sv.seq ?_
        refine Sv.region ?_
        refine un (a1 (v := (.agg [cI r_11.1.Kind, cI r_11.1.Dim.Num, .str r_11.1.Dim.Unit, .ro false 4 (r_11.1.Subs.map eRaw)])) rfl ?_)
        refine un (a2n (h' := upd _ 1 (some (.cells 4 [[cI r_11.1.Kind, cI r_11.1.Dim.Num, .str r_11.1.Dim.Unit, .ro false 4 (r_11.1.Subs.map eRaw)]]))) (n' := 4) rfl rfl (fun h => by cases h) ?_)
        refine dnil ?_
        refine Sv.ret ?_
        replace h := Option.some.inj h
        subst h
        exact ⟨_, .refl _, _, rfl, ⟨upd (fun _ => none) 0 (some (.agg [cI r_11.1.Kind, cI r_11.1.Dim.Num, .str r_11.1.Dim.Unit, .ro false 4 (r_11.1.Subs.map eRaw)])), (upd (fun _ => none) 0 (some (.cells 3 [[.ro false 4 (r_12.2.f_l.map e_TSToken), cI r_12.2.f_n, cB r_12.2.f_gapped]]))), 1⟩, (.agg [cI r_11.1.Kind, cI r_11.1.Dim.Num, .str r_11.1.Dim.Unit, .ro false 4 (r_11.1.Subs.map eRaw)]), weak_canon2 [0] [0] (by decide) (by decide) (by decide) (.cons (by decide) .nil) (.cons rfl (avAs_free rfl) .nil) (.box (by decide) rfl (blkAs_cells (.cons (.same rfl) (.cons (.same rfl) (.cons (.same rfl) .nil)))) .nil), rfl, rfl, rfl, rfl⟩
      · replace h := ifF hc4 h
        refine Sv.skip ?_
        refine Sv.seq ?_
        refine Sv.region ?_
        refine un (a2v (v := (lstV false 3 1 clerestory_calc_reader_value_t0.length)) (h' := upd _ 3 (lstB false 1 (clerestory_calc_reader_value_t0.map eStr))) (n' := 4) rfl rfl (fun h => by cases h) ?_)
        refine un (a1 rfl ?_)
        obtain ⟨r_14, hr13, h⟩ := bnd h
        refine un (ac_lend (h2 := (upd _ 3 none)) (slices_Index_string_ok hr13) rfl (.cons (.c (lstC_ro (es := List.map eStr clerestory_calc_reader_value_t0) rfl (List.length_map eStr).symm (map_nil_of (fun h => by cases h)) (gone rfl) (fr_map fun _ => rfl))) (.cons (avAs_free rfl) .nil)) (hsub_none (hsub_refl _)) rfl rfl (.inr rfl) ?_)
        refine un (a1 rfl ?_)
        refine dnil ?_
        refine Sv.seq ?_
        refine Sv.region ?_
        refine un (a1 rfl ?_)
        refine un (a1 rfl ?_)
        refine un (a1 (v := (B (decide (0 < r_14)))) rfl ?_)
        obtain ⟨r_15, hr14, h⟩ := bnd h
        refine un (ac_lend (h2 := (upd _ 0 none)) (clerestory_calc_reader_need_ok hr14) rfl (.cons (.c (ref_ro rfl (gone rfl) (.cons (.same rfl) (.cons (.same rfl) (.cons (.same rfl) .nil))) rfl)) (.cons (avAs_free rfl) .nil)) (hsub_none (hsub_refl _)) rfl rfl (.inr rfl) ?_)
        refine dnil ?_
        refine Sv.seq ?_
        refine Sv.region ?_
        refine un (a1 rfl ?_)
        refine un (a1 (v := (.agg [cI r_14, cI 0, .str [], .ro true 4 []])) rfl ?_)
        refine un (a2v (v := (.c (.ref 4 4 0 0))) (h' := upd _ 4 (some (.cells 4 [[cI 0, cI 0, .str [], .ro true 4 []]]))) (n' := 5) rfl rfl (fun h => by cases h) ?_)
        refine un (a2n (h' := upd _ 4 (some (.cells 4 [[cI r_14, cI 0, .str [], .ro true 4 []]]))) (n' := 5) rfl rfl (fun h => by cases h) ?_)
        refine dnil ?_
        refine Sv.block ?_
        obtain ⟨kk, h⟩ := limF_some h
        refine Sv.weak (weak_canon [0, 1, 4, 1000] rfl (by decide) (by decide) (by decide) (.cons rfl (.c (.ref rfl (by decide))) (.cons rfl (.c (.ref rfl (by decide))) (.cons rfl (.c (.ref rfl (by decide))) .nil))) (.non (by decide) (.box (by decide) rfl (blkAs_cells (.cons (.same rfl) (.cons (.same rfl) (.cons (.same rfl) (.cons (.same rfl) .nil))))) (.box (by decide) rfl (blkAs_cells (.cons (.same rfl) (.cons (.same rfl) (.cons (.same rfl) (.cons (.same rfl) .nil))))) (.box (by decide) rfl (blkAs_cells (.cons (.same rfl) (.cons (.same rfl) (.cons (.same rfl) .nil)))) .nil))))) (clerestory_calc_reader_value_l0_ok (fun _ => rfl) h  (fun s hs => hs) hrec)
theorem clerestory_calc_reader_value_ok {mL : Int} {r_ : Treader} {in_ : Bool} {r : (TSTerm × Treader)} (h : clerestory_calc_reader_value r_ in_ = some r) : ACalls Tryd.prog (GG mL) 19 [(.c (.ref 0 3 0 0)), (B in_)] (upd (fun _ => none) 0 (some (.cells 3 [[.ro false 4 (r_.f_l.map e_TSToken), cI r_.f_n, cB r_.f_gapped]]))) 1 (clerestory_calc_reader_value_post r) := by
  unfold clerestory_calc_reader_value at h
  obtain ⟨k, h⟩ := limF_some h
  exact clerestory_calc_reader_value_r_ok k r_ in_  r h
theorem clerestory_calc_reader_value_rec {mL : Int} : clerestory_calc_reader_value_Rec mL clerestory_calc_reader_value := fun r_ in_ r h => clerestory_calc_reader_value_ok h
def a8 : AFunc := ⟨1, [(.cell true 4 2), (.cell false 1 3)], (.seq (.region [⟨(some 2), (.box (.const (.agg [(.val (.int .i64 0)), (.val (.int .i64 0)), (.str []), (.ro true 4 [])]))), none⟩, ⟨(some 3), (.box (.const (.c (.val (.int .i64 0))))), none⟩])
 (.seq (.seq (.region [⟨(some 5), (.mov (.tmp 0)), none⟩, ⟨(some 6), (.lenS (.tmp 5)), none⟩, ⟨(some 7), (.bin .gtr (.tmp 6) (.const (.c (.val (.int .i64 400))))), none⟩])
 (.cond (.tmp 7) (.seq (.region [⟨(some 8), (.build [(.val (.int .i64 0)), (.val (.int .i64 0)), (.str []), (.ro true 4 [])] []), none⟩, ⟨none, (.store 4 (.tmp 2) (.tmp 8)), none⟩, ⟨none, (.store 1 (.tmp 3) (.const (.c (.val (.int .i64 2))))), none⟩])
 .ret) .skip))
 (.seq (.region [⟨(some 9), (.mkfn (.func 16) [] [(.tmp 2), (.tmp 3)]), none⟩, ⟨none, .bad, none⟩])
 (.seq (.region [⟨(some 10), (.mov (.tmp 0)), none⟩, ⟨(some 11), (.call 17 [(.tmp 10)]), none⟩, ⟨(some 12), (.build [(.ro true 4 []), (.val (.int .i64 0)), (.val (.bool false))] [(0, (1, (.tmp 11)))]), none⟩, ⟨(some 13), (.box (.tmp 12)), none⟩, ⟨(some 4), (.mov (.tmp 13)), none⟩])
 (.seq (.region [⟨(some 14), (.mov (.tmp 4)), none⟩, ⟨(some 15), (.call 18 [(.tmp 14)]), none⟩])
 (.seq (.region [⟨(some 16), (.mov (.tmp 4)), none⟩, ⟨(some 17), (.call 19 [(.tmp 16), (.const (.c (.val (.bool false))))]), none⟩, ⟨none, (.store 4 (.tmp 2) (.tmp 17)), none⟩])
 (.seq (.region [⟨(some 18), (.mov (.tmp 4)), none⟩, ⟨(some 19), (.call 18 [(.tmp 18)]), none⟩])
 (.seq (.region [⟨(some 20), (.mov (.tmp 4)), none⟩, ⟨(some 21), (.mov (.tmp 4)), none⟩, ⟨(some 22), (.nilc (.tmp 21)), none⟩, ⟨(some 23), (.faddr 0 (.tmp 22)), none⟩, ⟨(some 24), (.load false 1 (.tmp 23)), none⟩, ⟨(some 25), (.len (.tmp 24)), none⟩, ⟨(some 26), (.bin .eql (.tmp 25) (.const (.c (.val (.int .i64 0))))), none⟩, ⟨(some 27), (.call 20 [(.tmp 20), (.tmp 26)]), none⟩])
 (.seq (.region [⟨(some 28), (.load true 4 (.tmp 2)), none⟩, ⟨none, (.store 4 (.tmp 2) (.tmp 28)), none⟩, ⟨none, (.store 1 (.tmp 3) (.const (.c (.val (.int .i64 0))))), none⟩])
 .ret)))))))))⟩
set_option maxRecDepth 100000 in
theorem c8 : compFunc Tryd.prog 8 = some a8 := by kernel_rfl
theorem idle8 (x0 x1 : Value) : Idle Tryd.prog { target := .fn (.func 16) #[x0, x1], args := #[] } := by
  intro w
  refine ⟨.func 16, #[x0, x1], 16, #[x0, x1], rfl, ?_, ?_⟩
  · simp [invoke, go_sem]
  · refine callsD_of_wpS Tryd.func16 rfl fun c₀ cs hu => ?_
    apply wpS_seq
    apply wpS_region
    simp [wpOpsS, go_sem, recoverD, hu, Tryd.ntmps16, Exit.thenS, Array.replicate]
    apply wpS_seq
    apply wpS_region
    simp [wpOpsS, go_sem, Exit.thenS]
    refine wpS_cond (t := false) (by simp [Act.eval]) ?_
    simp only [Bool.false_eq_true, if_false]
    refine wpS_of_wp (wp_skip ?_)
    cases c₀
    simp_all [bodyPostS, results, Tryd.results16]
theorem puts8 : ∀ fn c0 c1 c2 c3, Tryd.prog.funcs[8]? = some fn → fn.body = some (.seq c0 (.seq c1 (.seq c2 c3))) → ∃ id ops, c2 = .region id ops false ∧ Puts Tryd.prog ops 9 fn.ntmps := by
  intro fn c0 c1 c2 c3 hf hb
  rw [Tryd.func8] at hf
  cases hf
  simp only [Tryd.f8, Option.some.injEq, Code.seq.injEq] at hb
  replace hb := hb.2.2.1
  refine ⟨_, _, hb.symm, ?_⟩
  intro a w hs hd
  rw [Tryd.ntmps8] at hs
  have hmf : ∀ (fn : Fn) (first cap : Array Value) (w : World), (Instr.makeFunc fn first cap).run Tryd.prog w = .ok (.func fn first cap) w := fun _ _ _ _ => rfl
  refine ⟨_, .func (.func 16) #[] #[a.eval (.tmp 2), a.eval (.tmp 3)], idle8 (a.eval (.tmp 2)) (a.eval (.tmp 3)), fun Q hq => ?_⟩
  have h9 : 9 < a.tmps.size := by omega
  simp [wpOps, go_sem, hd, h9, hmf]
  exact .inl (.inl (by simpa [Act.put, Act.eval] using hq))
def calc_Read_post (r : (TSTerm × Int)) : AV → Heap → Nat → Prop := fun v h' n' => v = (.tup [(.agg [cI r.1.Kind, cI r.1.Dim.Num, .str r.1.Dim.Unit, .ro false 4 (r.1.Subs.map eRaw)]), (I r.2)]) ∧ (h' = (fun _ => none)) ∧ n' = 0
/-- clerestory/calc.Read -/
noncomputable def calc_Read (s_ : (List UInt8)) : Option (TSTerm × Int) :=
  if decide (400 < (s_.length : Int)) then
    some ((⟨0, (⟨0, []⟩ : TSDim), []⟩ : TSTerm), 2)
  else
    (csstok_Cut s_).bind fun r_ =>
    (clerestory_calc_reader_gap (⟨r_, 0, false⟩ : Treader)).bind fun r_1 =>
    (clerestory_calc_reader_value r_1.2 false).bind fun r_2 =>
    (clerestory_calc_reader_gap r_2.2).bind fun r_3 =>
    (clerestory_calc_reader_need r_3.2 (decide ((r_3.2.f_l.length : Int) = 0))).bind fun r_4 =>
    some (r_2.1, 0)
theorem calc_Read_ok {mL : Int} {s_ : (List UInt8)} {r : (TSTerm × Int)} (h : calc_Read s_ = some r) : CPure Tryd.prog (GG mL) 8 [(S s_)] (.tup [(.agg [cI r.1.Kind, cI r.1.Dim.Num, .str r.1.Dim.Unit, .ro false 4 (r.1.Subs.map eRaw)]), (I r.2)]) := by
  refine acalls_of_dfr hmix c8 (R := calc_Read_post r) (t := 9) rfl puts8 ?_
  unfold calc_Read at h
  refine Sv.region ?_
  refine un (a2v (v := (.c (.ref 0 4 0 0))) (h' := upd _ 0 (some (.cells 4 [[cI 0, cI 0, .str [], .ro true 4 []]]))) (n' := 1) rfl rfl (fun h => by cases h) ?_)
  refine un (a2v (v := (.c (.ref 1 1 0 0))) (h' := upd _ 1 (some (.cells 1 [[cI 0]]))) (n' := 2) rfl rfl (fun h => by cases h) ?_)
  refine dnil ?_
  refine Sv.seq ?_
  refine Sv.region ?_
  refine un (a1 rfl ?_)
  refine un (a1 (v := (I (s_.length : Int))) rfl ?_)
  refine un (a1 (v := (B (decide (400 < (s_.length : Int))))) rfl ?_)
  refine dnil ?_
  refine Sv.cond (b := decide (400 < (s_.length : Int))) rfl (fun hc1 => ?_) (fun hc1 => ?_)
  · replace h := ifT hc1 h
    refine Sv.seq ?_
    refine Sv.region ?_
    refine un (a1 (v := (.agg [cI 0, cI 0, .str [], .ro true 4 []])) rfl ?_)
    refine un (a2n (h' := upd _ 0 (some (.cells 4 [[cI 0, cI 0, .str [], .ro true 4 []]]))) (n' := 2) rfl rfl (fun h => by cases h) ?_)
    refine un (a2n (h' := upd _ 1 (some (.cells 1 [[cI 2]]))) (n' := 2) rfl rfl (fun h => by cases h) ?_)
    refine dnil ?_
    refine Sv.ret ?_
    replace h := Option.some.inj h
    subst h
    exact ⟨_, .refl _, _, rfl, ⟨upd (fun _ => none) 0 (some (.tup [(.agg [cI 0, cI 0, .str [], .ro false 4 (([] : List Raw).map eRaw)]), (I 2)])), (fun _ => none), 0⟩, (.tup [(.agg [cI 0, cI 0, .str [], .ro false 4 (([] : List Raw).map eRaw)]), (I 2)]), weak_canon [] rfl List.nodup_nil (Nat.le_refl _) (fun b h => absurd h (Nat.not_lt_zero _)) (.cons rfl (avAs_tup (.cons (avAs_agg (.cons (.same rfl) (.cons (.same rfl) (.cons (.same rfl) (.cons .nil .nil))))) (.cons (avAs_free rfl) .nil))) .nil) .nil, rfl, rfl, rfl, rfl⟩
  · replace h := ifF hc1 h
    refine Sv.skip ?_
    refine And.intro rfl ?_
    refine Sv.seq ?_
    refine Sv.region ?_
    refine un (a1 rfl ?_)
    obtain ⟨r_, hr1, h⟩ := bnd h
    refine un (ac_gen (bs := []) («as» := [(S s_)]) (h2 := _) (h1 := (fun _ => none)) (csstok_Cut_ok hr1) rfl (.cons (avAs_free rfl) .nil) (hsub_refl _) (.nil _) (fun _ => rfl) (by decide) (by decide) (.cons (avAs_free rfl) .nil) .nil ?_)
    rintro _ _ _ hn ⟨z_, hz_, rfl, rfl, rfl⟩
    refine ⟨.inl rfl, (upd (rem [] _) 2 (lstB z_ 4 (r_.map e_TSToken))), fun hbd => (m3_cons (m3_row rfl (fr_map fun _ => rfl)) (m3_rem (in_nil _) (.cons (by decide) .nil) hbd)), (lstV z_ 2 4 r_.length), 3, (by cases z_ <;> rfl), rfl, ?_⟩
    refine un (a1 (v := (.agg [lstC z_ 2 4 r_.length, cI 0, cB false])) rfl ?_)
    refine dweak (show Weak 0 _ ⟨(upd (upd (upd (upd (upd (upd (upd (upd (upd (fun _ => none) 0 (some (S s_))) 2 (some (.c (.ref 0 4 0 0)))) 3 (some (.c (.ref 1 1 0 0)))) 5 (some (S s_))) 6 (some (I (s_.length : Int)))) 7 (some (B (decide (400 < (s_.length : Int)))))) 10 (some (S s_))) 11 (some (.c (.ro false 4 (r_.map e_TSToken))))) 12 (some (.agg [.ro false 4 (r_.map e_TSToken), cI 0, cB false]))), (upd (upd (fun _ => none) 0 (some (.cells 4 [[cI 0, cI 0, .str [], .ro true 4 []]]))) 1 (some (.cells 1 [[cI 0]]))), 3⟩ from (weak_canon [0, 1, 1002] rfl (by decide) (by decide) (fun b h => absurd h (Nat.not_lt_zero _)) (.cons rfl (avAs_agg (.cons (lstC_ro (es := List.map e_TSToken r_) rfl (List.length_map e_TSToken).symm (map_nil_of hz_) (fun b x hx => not_in (bs := [0, 1, 1002]) rfl b (((.cons (by decide) (.cons (by decide) .nil)) : HLt _ _) b x hx)) (fr_map fun _ => rfl)) (.cons (.same rfl) (.cons (.same rfl) .nil)))) (.cons rfl (.c (lstC_ro (es := List.map e_TSToken r_) rfl (List.length_map e_TSToken).symm (map_nil_of hz_) (fun b x hx => not_in (bs := [0, 1, 1002]) rfl b (((.cons (by decide) (.cons (by decide) .nil)) : HLt _ _) b x hx)) (fr_map fun _ => rfl))) (.cons rfl (avAs_free rfl) (.cons rfl (avAs_free rfl) (.cons rfl (avAs_free rfl) (.cons rfl (avAs_free rfl) (.cons rfl (.c (.ref rfl (by decide))) (.cons rfl (.c (.ref rfl (by decide))) (.cons rfl (avAs_free rfl) .nil))))))))) (.box (by decide) rfl (blkAs_cells (.cons (.same rfl) .nil)) (.box (by decide) rfl (blkAs_cells (.cons (.same rfl) (.cons (.same rfl) (.cons (.same rfl) (.cons (.same rfl) .nil))))) .nil)))) ?_
    refine un (a2v (v := (.c (.ref 3 3 0 0))) (h' := upd _ 3 (some (.cells 3 [[.ro false 4 (r_.map e_TSToken), cI 0, cB false]]))) (n' := 4) rfl rfl (fun h => by cases h) ?_)
    refine un (a1 rfl ?_)
    refine dnil ?_
    refine Sv.seq ?_
    refine Sv.region ?_
    refine un (a1 rfl ?_)
    obtain ⟨r_1, hr2, h⟩ := bnd h
    refine un (ac_gen (bs := [3]) («as» := [(.c (.ref 3 3 0 0))]) (h2 := _) (h1 := (upd (fun _ => none) 3 (some (.cells 3 [[.ro false 4 (r_.map e_TSToken), cI 0, cB false]])))) (clerestory_calc_reader_gap_ok hr2) rfl (.cons (.c (.ref rfl (by decide))) .nil) (hsub_refl _) (.cons rfl (.nil _)) (fun h => by cases h) (by decide) (by decide) (.cons (.c (.ref rfl (by decide))) .nil) (.box (by decide) rfl (blkAs_cells (.cons (.same rfl) (.cons (.same rfl) (.cons (.same rfl) .nil)))) .nil) ?_)
    rintro _ _ _ hn ⟨rfl, rfl, rfl⟩
    refine ⟨.inl rfl, (upd (rem [3] _) 3 (some (.cells 3 [[.ro false 4 (r_1.2.f_l.map e_TSToken), cI r_1.2.f_n, cB r_1.2.f_gapped]]))), fun hbd => (m3_cons (m3_box rfl rfl) (m3_rem (in_cons (by decide) (in_nil _)) (.cons (by decide) .nil) hbd)), (B r_1.1), 4, rfl, rfl, ?_⟩
    refine dnil ?_
    refine Sv.seq ?_
    refine Sv.region ?_
    refine un (a1 rfl ?_)
    obtain ⟨r_2, hr3, h⟩ := bnd h
    refine un (ac_gen (bs := [3]) («as» := [(.c (.ref 3 3 0 0)), (B false)]) (h2 := _) (h1 := (upd (fun _ => none) 3 (some (.cells 3 [[.ro false 4 (r_1.2.f_l.map e_TSToken), cI r_1.2.f_n, cB r_1.2.f_gapped]])))) (clerestory_calc_reader_value_ok hr3) rfl (.cons (.c (.ref rfl (by decide))) (.cons (avAs_free rfl) .nil)) (hsub_refl _) (.cons rfl (.nil _)) (fun h => by cases h) (by decide) (by decide) (.cons (.c (.ref rfl (by decide))) (.cons (avAs_free rfl) .nil)) (.box (by decide) rfl (blkAs_cells (.cons (.same rfl) (.cons (.same rfl) (.cons (.same rfl) .nil)))) .nil) ?_)
    rintro _ _ _ hn ⟨rfl, rfl, rfl⟩
    refine ⟨.inl rfl, (upd (rem [3] _) 3 (some (.cells 3 [[.ro false 4 (r_2.2.f_l.map e_TSToken), cI r_2.2.f_n, cB r_2.2.f_gapped]]))), fun hbd => (m3_cons (m3_box rfl rfl) (m3_rem (in_cons (by decide) (in_nil _)) (.cons (by decide) .nil) hbd)), (.agg [cI r_2.1.Kind, cI r_2.1.Dim.Num, .str r_2.1.Dim.Unit, .ro false 4 (r_2.1.Subs.map eRaw)]), 4, rfl, rfl, ?_⟩
    refine un (a2n (h' := upd _ 0 (some (.cells 4 [[cI r_2.1.Kind, cI r_2.1.Dim.Num, .str r_2.1.Dim.Unit, .ro false 4 (r_2.1.Subs.map eRaw)]]))) (n' := 4) rfl rfl (fun h => by cases h) ?_)
    refine dnil ?_
    refine Sv.seq ?_
    refine Sv.region ?_
    refine un (a1 rfl ?_)
    obtain ⟨r_3, hr4, h⟩ := bnd h
    refine un (ac_gen (bs := [3]) («as» := [(.c (.ref 3 3 0 0))]) (h2 := _) (h1 := (upd (fun _ => none) 3 (some (.cells 3 [[.ro false 4 (r_2.2.f_l.map e_TSToken), cI r_2.2.f_n, cB r_2.2.f_gapped]])))) (clerestory_calc_reader_gap_ok hr4) rfl (.cons (.c (.ref rfl (by decide))) .nil) (hsub_refl _) (.cons rfl (.nil _)) (fun h => by cases h) (by decide) (by decide) (.cons (.c (.ref rfl (by decide))) .nil) (.box (by decide) rfl (blkAs_cells (.cons (.same rfl) (.cons (.same rfl) (.cons (.same rfl) .nil)))) .nil) ?_)
    rintro _ _ _ hn ⟨rfl, rfl, rfl⟩
    refine ⟨.inl rfl, (upd (rem [3] _) 3 (some (.cells 3 [[.ro false 4 (r_3.2.f_l.map e_TSToken), cI r_3.2.f_n, cB r_3.2.f_gapped]]))), fun hbd => (m3_cons (m3_box rfl rfl) (m3_rem (in_cons (by decide) (in_nil _)) (.cons (by decide) .nil) hbd)), (B r_3.1), 4, rfl, rfl, ?_⟩
    refine dnil ?_
    refine Sv.seq ?_
    refine Sv.region ?_
    refine un (a1 rfl ?_)
    refine un (a1 rfl ?_)
    refine un (a1 (v := (.c (.ref 3 3 0 0))) rfl ?_)
    refine un (a1 (v := (.c (.ref 3 3 0 0))) rfl ?_)
    refine un (a1 (v := (.c (.ro false 4 (r_3.2.f_l.map e_TSToken)))) rfl ?_)
    refine un (a1 (v := (I (r_3.2.f_l.length : Int))) (s_len (e := e_TSToken) (xs := r_3.2.f_l) rfl) ?_)
    refine un (a1 (v := (B (decide ((r_3.2.f_l.length : Int) = 0)))) rfl ?_)
    obtain ⟨r_4, hr5, h⟩ := bnd h
    refine un (ac_lend (h2 := (upd _ 3 none)) (clerestory_calc_reader_need_ok hr5) rfl (.cons (.c (ref_ro rfl (gone rfl) (.cons (.same rfl) (.cons (.same rfl) (.cons (.same rfl) .nil))) rfl)) (.cons (avAs_free rfl) .nil)) (hsub_none (hsub_refl _)) rfl rfl (.inr rfl) ?_)
    refine dnil ?_
    refine Sv.seq ?_
    refine Sv.region ?_
    refine un (a1 (v := (.agg [cI r_2.1.Kind, cI r_2.1.Dim.Num, .str r_2.1.Dim.Unit, .ro false 4 (r_2.1.Subs.map eRaw)])) rfl ?_)
    refine un (a2n (h' := upd _ 0 (some (.cells 4 [[cI r_2.1.Kind, cI r_2.1.Dim.Num, .str r_2.1.Dim.Unit, .ro false 4 (r_2.1.Subs.map eRaw)]]))) (n' := 4) rfl rfl (fun h => by cases h) ?_)
    refine un (a2n (h' := upd _ 1 (some (.cells 1 [[cI 0]]))) (n' := 4) rfl rfl (fun h => by cases h) ?_)
    refine dnil ?_
    refine Sv.ret ?_
    replace h := Option.some.inj h
    subst h
    exact ⟨_, .refl _, _, rfl, ⟨upd (fun _ => none) 0 (some (.tup [(.agg [cI r_2.1.Kind, cI r_2.1.Dim.Num, .str r_2.1.Dim.Unit, .ro false 4 (r_2.1.Subs.map eRaw)]), (I 0)])), (fun _ => none), 0⟩, (.tup [(.agg [cI r_2.1.Kind, cI r_2.1.Dim.Num, .str r_2.1.Dim.Unit, .ro false 4 (r_2.1.Subs.map eRaw)]), (I 0)]), weak_canon [] rfl List.nodup_nil (Nat.le_refl _) (fun b h => absurd h (Nat.not_lt_zero _)) (.cons rfl (avAs_tup (.cons (avAs_free rfl) (.cons (avAs_free rfl) .nil))) .nil) .nil, rfl, rfl, rfl, rfl⟩
noncomputable abbrev strconv_Itoa (i_ : Int) : Option (List UInt8) := itoa? i_
/-- strconv.Itoa, by the contract of the shelf -/
theorem strconv_Itoa_ok {mL : Int} {i_ : Int} {r : (List UInt8)} (h : strconv_Itoa i_ = some r) : CPure Tryd.prog (GG mL) 21 [(I i_)] (S r) := itoa_ok (g := 2) Tryd.laysM171 (by kernel_rfl) (by kernel_rfl) h
noncomputable abbrev strings_TrimRight (s_ : (List UInt8)) (cutset_ : (List UInt8)) : Option (List UInt8) := trimRight? s_ cutset_
/-- strings.TrimRight, by the contract of the shelf -/
theorem strings_TrimRight_ok {mL : Int} {s_ : (List UInt8)} {cutset_ : (List UInt8)} {r : (List UInt8)} (h : strings_TrimRight s_ cutset_ = some r) : CPure Tryd.prog (GG mL) 22 [(S s_), (S cutset_)] (S r) := trimRight_ok Tryd.lays162 (by kernel_rfl) h
end Go.Proofs.YtcnfmehidmjejaaDoorBv
