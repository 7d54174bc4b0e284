/- Printed by a program of mine (bgen.py): plain functions, and the walks that show that the code comes to what they answer. -/
import Derived.Test.YtagfmlkihindaaaDoorGJlexSays0
namespace Go.Proofs.YtagfmlkihindaaaDoorBv
open Go
set_option linter.unusedVariables false
set_option maxRecDepth 100000
def a102_clerestory_jlex_reader_name1_c0 : ACode := (.seq (.region [⟨(some 10), (.mov (.tmp 4)), none⟩, ⟨(some 11), (.mov (.tmp 3)), none⟩, ⟨(some 12), (.build [(.val (.int .i64 0)), (.val (.int .i64 0)), (.val (.int .i64 0)), (.str []), (.val (.int .i64 0))] [(0, (1, (.tmp 10))), (3, (1, (.tmp 11)))]), none⟩, ⟨none, (.store 5 (.tmp 2) (.tmp 12)), none⟩])
 .ret)
def clerestory_jlex_reader_name1_post (r : (TJTok × Treader)) : AV → Heap → Nat → Prop := fun v h' n' => ∃ z0 : Bool, (z0 = true → r.2.f_out = []) ∧ v = (.agg [cI r.1.Kind, cI r.1.From, cI r.1.To, .str r.1.Text, cI r.1.Num]) ∧ (h' = (upd (upd (fun _ => none) 0 (some (.cells 3 [[.str r.2.f_s, cI r.2.f_at, lstC z0 2 5 r.2.f_out.length]]))) 2 (lstB z0 5 (r.2.f_out.map e_TJTok)))) ∧ n' = 3
noncomputable def clerestory_jlex_reader_name1_j1 (r_1 : ((List UInt8) × Treader)) (r2 : (List TJTok)) (kind : Int) : Option (TJTok × Treader) :=
  some ((⟨kind, 0, 0, r_1.1, 0⟩ : TJTok), (⟨r_1.2.f_s, r_1.2.f_at, r2⟩ : Treader))
theorem clerestory_jlex_reader_name1_j1_ok {mL : Int} {r_1 : ((List UInt8) × Treader)} {r2 : (List TJTok)} {kind : Int} {zr2 : Bool} (hzr2 : zr2 = true → r2 = []) {o : (TJTok × Treader)} (h : clerestory_jlex_reader_name1_j1 r_1 r2 kind = some o) :
    Sv Tryd.prog (GG mL) 2 a102_clerestory_jlex_reader_name1_c0 (Ends a102.results 2 (clerestory_jlex_reader_name1_post o)) ⟨(upd (upd (upd (upd (fun _ => none) 0 (some (.c (.ref 0 3 0 0)))) 2 (some (.c (.ref 3 5 0 0)))) 3 (some (S r_1.1))) 4 (some (I kind))), (upd (upd (upd (fun _ => none) 0 (some (.cells 3 [[.str r_1.2.f_s, cI r_1.2.f_at, lstC zr2 2 5 r2.length]]))) 2 (lstB zr2 5 (r2.map e_TJTok))) 3 (some (.cells 5 [[cI 0, cI 0, cI 0, .str [], cI 0]]))), 4⟩ := by
  unfold clerestory_jlex_reader_name1_j1 at h
  refine Sv.seq ?_
  refine Sv.region ?_
  refine un (a1 rfl ?_)
  refine un (a1 rfl ?_)
  refine un (a1 (v := (.agg [cI kind, cI 0, cI 0, .str r_1.1, cI 0])) rfl ?_)
  refine un (a2n (h' := upd _ 3 (some (.cells 5 [[cI kind, cI 0, cI 0, .str r_1.1, cI 0]]))) (n' := 4) rfl rfl (fun h => by cases h) ?_)
  refine dnil ?_
  refine Sv.ret ?_
  replace h := Option.some.inj h
  subst h
  exact ⟨_, .refl _, _, rfl, ⟨upd (fun _ => none) 0 (some (.agg [cI kind, cI 0, cI 0, .str r_1.1, cI 0])), (upd (upd (fun _ => none) 0 (some (.cells 3 [[.str r_1.2.f_s, cI r_1.2.f_at, lstC zr2 2 5 r2.length]]))) 2 (lstB zr2 5 (r2.map e_TJTok))), 3⟩, (.agg [cI kind, cI 0, cI 0, .str r_1.1, cI 0]), weak_canon2 [0, 1, 2] [0, 2] (by decide) (by decide) (by decide) (.cons (by decide) (.cons (by decide) .nil)) (.cons rfl (avAs_free rfl) .nil) (.row (by decide) rfl (fr_map fun _ => rfl) (.box (by decide) rfl (blkAs_cells (.cons (.same rfl) (.cons (.same rfl) (.cons (lstC_ren rfl (by decide)) .nil)))) .nil)), rfl, zr2, hzr2, rfl, rfl, rfl⟩
/-- (*clerestory/jlex.reader).name -/
noncomputable def clerestory_jlex_reader_name1 (r_ : Treader) : Option (TJTok × Treader) :=
  (clerestory_jlex_reader_run11 r_).bind fun r_1 =>
  (strings_Fields [108, 101, 116, 32, 102, 110, 32, 105, 102, 32, 101, 108, 115, 101, 32, 119, 104, 105, 108, 101, 32, 102, 111, 114, 32, 111, 102, 32, 114, 101, 116, 117, 114, 110, 32, 98, 114, 101, 97, 107, 32, 99, 111, 110, 116, 105, 110, 117, 101, 32, 116, 104, 114, 111, 119, 32, 116, 114, 121, 32, 99, 97, 116, 99, 104, 32, 102, 105, 110, 97, 108, 108, 121, 32, 116, 114, 117, 101, 32, 102, 97, 108, 115, 101, 32, 110, 117, 108, 108]).bind fun r_2 =>
  (slices_Contains_string r_2 r_1.1).bind fun r_3 =>
  if r_3 then
    clerestory_jlex_reader_name1_j1 r_1 r_1.2.f_out 5
  else
    clerestory_jlex_reader_name1_j1 r_1 r_1.2.f_out 1
theorem clerestory_jlex_reader_name1_ok {mL : Int} {r_ : Treader} {zr : Bool} (hzr : zr = true → r_.f_out = []) {r : (TJTok × Treader)} (h : clerestory_jlex_reader_name1 r_ = some r) : ACalls Tryd.prog (GG mL) 102 [(.c (.ref 0 3 0 0))] (upd (upd (fun _ => none) 0 (some (.cells 3 [[.str r_.f_s, cI r_.f_at, lstC zr 1 5 r_.f_out.length]]))) 1 (lstB zr 5 (r_.f_out.map e_TJTok))) 2 (clerestory_jlex_reader_name1_post r) := by
  refine acalls_of_sv hmix c102 (R := clerestory_jlex_reader_name1_post r) ?_
  unfold clerestory_jlex_reader_name1 at h
  refine Sv.seq ?_
  refine Sv.region ?_
  refine un (a2v (v := (.c (.ref 2 5 0 0))) (h' := upd _ 2 (some (.cells 5 [[cI 0, cI 0, cI 0, .str [], cI 0]]))) (n' := 3) rfl rfl (fun h => by cases h) ?_)
  refine dnil ?_
  refine Sv.seq ?_
  refine Sv.region ?_
  refine un (a1 rfl ?_)
  obtain ⟨r_1, hr1, h⟩ := bnd h
  refine un (ac_gen (bs := [0, 1]) («as» := [(.c (.ref 0 3 0 0)), (.c (.fn (.func 138) [] []))]) (h2 := _) (h1 := (upd (upd (fun _ => none) 0 (some (.cells 3 [[.str r_.f_s, cI r_.f_at, lstC zr 1 5 r_.f_out.length]]))) 1 (lstB zr 5 (r_.f_out.map e_TJTok)))) (clerestory_jlex_reader_run11_ok hzr hr1) rfl (.cons (.c (.ref rfl (by decide))) (.cons (avAs_free rfl) .nil)) (hsub_refl _) (.cons rfl (.cons rfl (.nil _))) (fun h => by cases h) (by decide) (by decide) (.cons (.c (.ref rfl (by decide))) (.cons (avAs_free rfl) .nil)) (.row (by decide) rfl (fr_map fun _ => rfl) (.box (by decide) rfl (blkAs_cells (.cons (.same rfl) (.cons (.same rfl) (.cons (lstC_ren rfl (by decide)) .nil)))) .nil)) ?_)
  rintro _ _ _ hn ⟨z_, hz_, rfl, rfl, rfl⟩
  refine ⟨.inl rfl, (upd (upd (rem [0, 1] _) 0 (some (.cells 3 [[.str r_1.2.f_s, cI r_1.2.f_at, lstC z_ 3 5 r_1.2.f_out.length]]))) 3 (lstB z_ 5 (r_1.2.f_out.map e_TJTok))), fun hbd => (m3_cons (m3_row rfl (fr_map fun _ => rfl)) (m3_cons (m3_box rfl (by cases z_ <;> rfl)) (m3_rem (in_cons (by decide) (in_cons (by decide) (in_nil _))) (.cons (by decide) (.cons (by decide) .nil)) hbd))), (S r_1.1), 4, (by cases z_ <;> rfl), rfl, ?_⟩
  refine un (a1 rfl ?_)
  refine dnil ?_
  refine Sv.seq ?_
  refine Sv.region ?_
  refine un (a1 rfl ?_)
  refine dnil ?_
  refine Sv.seq ?_
  refine Sv.seq ?_
  refine Sv.region ?_
  obtain ⟨r_2, hr2, h⟩ := bnd h
  refine un (ac_gen (bs := []) («as» := [(S [108, 101, 116, 32, 102, 110, 32, 105, 102, 32, 101, 108, 115, 101, 32, 119, 104, 105, 108, 101, 32, 102, 111, 114, 32, 111, 102, 32, 114, 101, 116, 117, 114, 110, 32, 98, 114, 101, 97, 107, 32, 99, 111, 110, 116, 105, 110, 117, 101, 32, 116, 104, 114, 111, 119, 32, 116, 114, 121, 32, 99, 97, 116, 99, 104, 32, 102, 105, 110, 97, 108, 108, 121, 32, 116, 114, 117, 101, 32, 102, 97, 108, 115, 101, 32, 110, 117, 108, 108])]) (h2 := _) (h1 := (fun _ => none)) (strings_Fields_ok hr2) rfl (.cons (avAs_free rfl) .nil) (hsub_refl _) (.nil _) (fun _ => rfl) (by decide) (by decide) (.cons (avAs_free rfl) .nil) .nil ?_)
  rintro _ _ _ hn ⟨z_1, hz_1, rfl, rfl, rfl⟩
  refine ⟨.inl rfl, (upd (rem [] _) 4 (lstB z_1 1 (r_2.map eStr))), fun hbd => (m3_cons (m3_row rfl (fr_map fun _ => rfl)) (m3_rem (in_nil _) (.cons (by decide) .nil) hbd)), (lstV z_1 4 1 r_2.length), 5, (by cases z_1 <;> rfl), rfl, ?_⟩
  refine un (a1 rfl ?_)
  obtain ⟨r_3, hr3, h⟩ := bnd h
  refine un (ac_lend (h2 := (upd _ 4 none)) (slices_Contains_string_ok hr3) rfl (.cons (.c (lstC_ro (es := List.map eStr r_2) rfl (List.length_map eStr).symm (map_nil_of hz_1) (gone rfl) (fr_map fun _ => rfl))) (.cons (avAs_free rfl) .nil)) (hsub_none (hsub_refl _)) rfl rfl (.inr rfl) ?_)
  refine dnil ?_
  refine Sv.cond (b := r_3) rfl (fun hc1 => ?_) (fun hc1 => ?_)
  · replace h := ifT hc1 h
    refine Sv.region ?_
    refine un (a1 rfl ?_)
    refine dnil ?_
    exact Sv.weak (weak_canon [0, 1, 3, 2] rfl (by decide) (by decide) (by decide) (.cons rfl (avAs_free rfl) (.cons rfl (avAs_free rfl) (.cons rfl (.c (.ref rfl (by decide))) (.cons rfl (.c (.ref rfl (by decide))) .nil)))) (.box (by decide) rfl (blkAs_cells (.cons (.same rfl) (.cons (.same rfl) (.cons (.same rfl) (.cons (.same rfl) (.cons (.same rfl) .nil)))))) (.row (by decide) rfl (fr_map fun _ => rfl) (.box (by decide) rfl (blkAs_cells (.cons (.same rfl) (.cons (.same rfl) (.cons (lstC_ren rfl (by decide)) .nil)))) .nil)))) (clerestory_jlex_reader_name1_j1_ok hz_ h)
  · replace h := ifF hc1 h
    refine Sv.skip ?_
    exact Sv.weak (weak_canon [0, 1, 3, 2] rfl (by decide) (by decide) (by decide) (.cons rfl (avAs_free rfl) (.cons rfl (avAs_free rfl) (.cons rfl (.c (.ref rfl (by decide))) (.cons rfl (.c (.ref rfl (by decide))) .nil)))) (.box (by decide) rfl (blkAs_cells (.cons (.same rfl) (.cons (.same rfl) (.cons (.same rfl) (.cons (.same rfl) (.cons (.same rfl) .nil)))))) (.row (by decide) rfl (fr_map fun _ => rfl) (.box (by decide) rfl (blkAs_cells (.cons (.same rfl) (.cons (.same rfl) (.cons (lstC_ren rfl (by decide)) .nil)))) .nil)))) (clerestory_jlex_reader_name1_j1_ok hz_ h)
def a137_clerestory_jlex_reader_run111_c0 : ACode := (.cond (.tmp 32) .skip (.exit 0))
def a137_clerestory_jlex_reader_run111_c1 : ACode := (.block 1 (.region [⟨(some 33), (.mov (.tmp 0)), none⟩, ⟨(some 34), (.nilc (.tmp 33)), none⟩, ⟨(some 35), (.faddr 1 (.tmp 34)), none⟩, ⟨(some 36), (.load false 1 (.tmp 35)), none⟩, ⟨(some 37), (.bin .add (.tmp 36) (.const (.c (.val (.int .i64 1))))), none⟩, ⟨(some 38), (.nilc (.tmp 33)), none⟩, ⟨(some 39), (.faddr 1 (.tmp 38)), none⟩, ⟨none, (.store 1 (.tmp 39) (.tmp 37)), none⟩]))
def a137_clerestory_jlex_reader_run111_c2 : ACode := (.seq (.seq (.drawn (.fin [(⟨(some 10), (.mov (.tmp 0)), none⟩, (0, 0)), (⟨(some 11), (.nilc (.tmp 10)), none⟩, (0, 1)), (⟨(some 12), (.faddr 1 (.tmp 11)), none⟩, (0, 2)), (⟨(some 13), (.load false 1 (.tmp 12)), none⟩, (0, 3)), (⟨(some 14), (.mov (.tmp 0)), none⟩, (0, 4)), (⟨(some 15), (.nilc (.tmp 14)), none⟩, (0, 5)), (⟨(some 16), (.faddr 0 (.tmp 15)), none⟩, (0, 6)), (⟨(some 17), (.load false 1 (.tmp 16)), none⟩, (0, 7)), (⟨(some 18), (.lenS (.tmp 17)), none⟩, (0, 8)), (⟨(some 19), (.bin .lss (.tmp 13) (.tmp 18)), none⟩, (0, 9)), (⟨(some 20), (.mov (.tmp 19)), none⟩, (0, 10)), (⟨(some 21), (.mov (.tmp 1)), (some (20, true))⟩, (0, 11)), (⟨(some 22), (.mov (.tmp 0)), (some (20, true))⟩, (0, 12)), (⟨(some 23), (.nilc (.tmp 22)), (some (20, true))⟩, (0, 13)), (⟨(some 24), (.faddr 0 (.tmp 23)), (some (20, true))⟩, (0, 14)), (⟨(some 25), (.load false 1 (.tmp 24)), (some (20, true))⟩, (0, 15)), (⟨(some 26), (.mov (.tmp 0)), (some (20, true))⟩, (0, 16)), (⟨(some 27), (.nilc (.tmp 26)), (some (20, true))⟩, (0, 17)), (⟨(some 28), (.faddr 1 (.tmp 27)), (some (20, true))⟩, (0, 18)), (⟨(some 29), (.load false 1 (.tmp 28)), (some (20, true))⟩, (0, 19)), (⟨(some 30), (.idxS (.tmp 25) (.tmp 29)), (some (20, true))⟩, (0, 20)), (⟨(some 31), (.callv (.tmp 21) [(.tmp 30)]), (some (20, true))⟩, (2, 21)), (⟨(some 32), (.pick (.tmp 20) (.tmp 31) (.const (.c (.val (.bool false))))), none⟩, (0, 22))]))
 a137_clerestory_jlex_reader_run111_c0)
 a137_clerestory_jlex_reader_run111_c1)
def clerestory_jlex_reader_run111_post (r : ((List UInt8) × Treader)) : AV → Heap → Nat → Prop := fun v h' n' => ∃ z0 : Bool, (z0 = true → r.2.f_out = []) ∧ v = (S r.1) ∧ (h' = (upd (upd (fun _ => none) 0 (some (.cells 3 [[.str r.2.f_s, cI r.2.f_at, lstC z0 2 5 r.2.f_out.length]]))) 2 (lstB z0 5 (r.2.f_out.map e_TJTok)))) ∧ n' = 3
abbrev clerestory_jlex_reader_run111_q0 (mL : Int) (Q : AExit → St → Prop) : AExit → St → Prop := AThen (Sv Tryd.prog (GG mL) 2 a137_clerestory_jlex_reader_run111_c1 Q) Q
noncomputable def clerestory_jlex_reader_run111_j3 (r1 : Int) (r_ : Treader) (self : Int → (List TJTok) → Option ((List UInt8) × Treader)) (K0_ : Int → (List TJTok) → Option ((List UInt8) × Treader)) (r22 : (List TJTok)) (v32 : Bool) : Option ((List UInt8) × Treader) :=
  if v32 then
    self (wi (r1 + 1)) r22
  else
    K0_ r1 r22
theorem clerestory_jlex_reader_run111_j3_ok {mL : Int} {Q : AExit → St → Prop} {r1 : Int} {r_ : Treader} {self : Int → (List TJTok) → Option ((List UInt8) × Treader)} {K0_ : Int → (List TJTok) → Option ((List UInt8) × Treader)} {r22 : (List TJTok)} {v32 : Bool} {zr22 : Bool} (hzr22 : zr22 = true → r22 = []) {o : ((List UInt8) × Treader)} (h : clerestory_jlex_reader_run111_j3 r1 r_ self K0_ r22 v32 = some o)
    (hself : ∀ (r1 : Int) (r2 : (List TJTok)) (zr2 : Bool) (_ : zr2 = true → r2 = []), self r1 r2 = some o → ∀ s, Weak 2 s ⟨(upd (upd (upd (fun _ => none) 0 (some (.c (.ref 0 3 0 0)))) 1 (some (.c (.fn (.func 103) [] [])))) 5 (some (I r_.f_at))), (upd (upd (fun _ => none) 0 (some (.cells 3 [[.str r_.f_s, cI r1, lstC zr2 1 5 r2.length]]))) 1 (lstB zr2 5 (r2.map e_TJTok))), 2⟩ → (Q) .normal s)
    (hK0 : ∀ (r11 : Int) (r21 : (List TJTok)) (zr21 : Bool) (_ : zr21 = true → r21 = []), K0_ r11 r21 = some o → ∀ s, Weak 2 s ⟨(upd (upd (fun _ => none) 0 (some (.c (.ref 0 3 0 0)))) 5 (some (I r_.f_at))), (upd (upd (fun _ => none) 0 (some (.cells 3 [[.str r_.f_s, cI r11, lstC zr21 1 5 r21.length]]))) 1 (lstB zr21 5 (r21.map e_TJTok))), 2⟩ → Q (.exit 0) s)
    (hr : ∀ s, Ends a137.results 2 (clerestory_jlex_reader_run111_post o) .ret s → Q .ret s) :
    Sv Tryd.prog (GG mL) 2 a137_clerestory_jlex_reader_run111_c0 (clerestory_jlex_reader_run111_q0 mL Q) ⟨(upd (upd (upd (upd (fun _ => none) 0 (some (.c (.ref 0 3 0 0)))) 1 (some (.c (.fn (.func 103) [] [])))) 5 (some (I r_.f_at))) 32 (some (B v32))), (upd (upd (fun _ => none) 0 (some (.cells 3 [[.str r_.f_s, cI r1, lstC zr22 1 5 r22.length]]))) 1 (lstB zr22 5 (r22.map e_TJTok))), 2⟩ := by
  unfold clerestory_jlex_reader_run111_j3 at h
  refine Sv.cond (b := v32) rfl (fun hc1 => ?_) (fun hc1 => ?_)
  · replace h := ifT hc1 h
    refine Sv.skip ?_
    refine Sv.block ?_
    refine Sv.region ?_
    refine un (a1 rfl ?_)
    refine un (a1 (v := (.c (.ref 0 3 0 0))) rfl ?_)
    refine un (a1 (v := (.c (.ref 0 3 0 1))) rfl ?_)
    refine un (a1 (v := (I r1)) rfl ?_)
    refine un (a1 (v := (I (wi (r1 + 1)))) rfl ?_)
    refine un (a1 (v := (.c (.ref 0 3 0 0))) rfl ?_)
    refine un (a1 (v := (.c (.ref 0 3 0 1))) rfl ?_)
    refine un (a2n (h' := upd _ 0 (some (.cells 3 [[.str r_.f_s, cI (wi (r1 + 1)), lstC zr22 1 5 r22.length]]))) (n' := 2) rfl rfl (fun h => by cases h) ?_)
    refine dnil ?_
    exact hself (wi (r1 + 1)) r22 zr22 hzr22 h _ (weak_canon [0, 1] rfl (by decide) (by decide) (by decide) (.cons rfl (avAs_free rfl) (.cons rfl (avAs_free rfl) (.cons rfl (.c (.ref rfl (by decide))) .nil))) (.row (by decide) rfl (fr_map fun _ => rfl) (.box (by decide) rfl (blkAs_cells (.cons (.same rfl) (.cons (.same rfl) (.cons (lstC_ren rfl (by decide)) .nil)))) .nil)))
  · replace h := ifF hc1 h
    refine Sv.exit ?_
    exact hK0 r1 r22 zr22 hzr22 h _ (weak_canon [0, 1] rfl (by decide) (by decide) (by decide) (.cons rfl (avAs_free rfl) (.cons rfl (.c (.ref rfl (by decide))) .nil)) (.row (by decide) rfl (fr_map fun _ => rfl) (.box (by decide) rfl (blkAs_cells (.cons (.same rfl) (.cons (.same rfl) (.cons (lstC_ren rfl (by decide)) .nil)))) .nil)))
noncomputable def clerestory_jlex_reader_run111_l0 (r_ : Treader) (K0_ : Int → (List TJTok) → Option ((List UInt8) × Treader)) : Nat → Int → (List TJTok) → Option ((List UInt8) × Treader)
  | 0, _, _ => none
  | k + 1, r1, r2 =>
    if decide (r1 < (r_.f_s.length : Int)) then
      (at? r_.f_s r1).bind fun c_ =>
      clerestory_jlex_reader_run111_j3 r1 r_ (clerestory_jlex_reader_run111_l0 r_ K0_ k) K0_ r2 (jlex_digit (c_.toNat : Int))
    else
      clerestory_jlex_reader_run111_j3 r1 r_ (clerestory_jlex_reader_run111_l0 r_ K0_ k) K0_ r2 false
theorem clerestory_jlex_reader_run111_l0_ok {mL : Int} {Q : AExit → St → Prop} {r_ : Treader} {K0_ : Int → (List TJTok) → Option ((List UInt8) × Treader)} {k : Nat} {r1 : Int} {r2 : (List TJTok)} {zr2 : Bool} (hzr2 : zr2 = true → r2 = []) {o : ((List UInt8) × Treader)} (h : clerestory_jlex_reader_run111_l0 r_ K0_ k r1 r2 = some o)
    (hK0 : ∀ (r11 : Int) (r21 : (List TJTok)) (zr21 : Bool) (_ : zr21 = true → r21 = []), K0_ r11 r21 = some o → ∀ s, Weak 2 s ⟨(upd (upd (fun _ => none) 0 (some (.c (.ref 0 3 0 0)))) 5 (some (I r_.f_at))), (upd (upd (fun _ => none) 0 (some (.cells 3 [[.str r_.f_s, cI r11, lstC zr21 1 5 r21.length]]))) 1 (lstB zr21 5 (r21.map e_TJTok))), 2⟩ → Q (.exit 0) s)
    (hr : ∀ s, Ends a137.results 2 (clerestory_jlex_reader_run111_post o) .ret s → Q .ret s) :
    Sv Tryd.prog (GG mL) 2 (.loop a137_clerestory_jlex_reader_run111_c2) Q ⟨(upd (upd (upd (fun _ => none) 0 (some (.c (.ref 0 3 0 0)))) 1 (some (.c (.fn (.func 103) [] [])))) 5 (some (I r_.f_at))), (upd (upd (fun _ => none) 0 (some (.cells 3 [[.str r_.f_s, cI r1, lstC zr2 1 5 r2.length]]))) 1 (lstB zr2 5 (r2.map e_TJTok))), 2⟩ := by
  refine Sv.loop (I := fun k s => ∃ (r1 : Int), ∃ (r2 : (List TJTok)), ∃ (zr2 : Bool), (zr2 = true → r2 = []) ∧ clerestory_jlex_reader_run111_l0 r_ K0_ k r1 r2 = some o ∧ s = ⟨(upd (upd (upd (fun _ => none) 0 (some (.c (.ref 0 3 0 0)))) 1 (some (.c (.fn (.func 103) [] [])))) 5 (some (I r_.f_at))), (upd (upd (fun _ => none) 0 (some (.cells 3 [[.str r_.f_s, cI r1, lstC zr2 1 5 r2.length]]))) 1 (lstB zr2 5 (r2.map e_TJTok))), 2⟩) (fun k s hI => ?_) ⟨r1, r2, zr2, hzr2, h, rfl⟩
  clear h
  clear hzr2 zr2 r2 r1
  obtain ⟨r1, r2, zr2, hzr2, h, rfl⟩ := hI
  cases k with
  | zero => cases h
  | succ k =>
  rw [clerestory_jlex_reader_run111_l0] at h
  have hself : ∀ (r1 : Int) (r2 : (List TJTok)) (zr2 : Bool) (_ : zr2 = true → r2 = []), (clerestory_jlex_reader_run111_l0 r_ K0_ k) r1 r2 = some o → ∀ s, Weak 2 s ⟨(upd (upd (upd (fun _ => none) 0 (some (.c (.ref 0 3 0 0)))) 1 (some (.c (.fn (.func 103) [] [])))) 5 (some (I r_.f_at))), (upd (upd (fun _ => none) 0 (some (.cells 3 [[.str r_.f_s, cI r1, lstC zr2 1 5 r2.length]]))) 1 (lstB zr2 5 (r2.map e_TJTok))), 2⟩ → (AThen (fun s' => ∃ s'' k', Weak 2 s' s'' ∧ k' < k + 1 ∧ (fun k s => ∃ (r1 : Int), ∃ (r2 : (List TJTok)), ∃ (zr2 : Bool), (zr2 = true → r2 = []) ∧ clerestory_jlex_reader_run111_l0 r_ K0_ k r1 r2 = some o ∧ s = ⟨(upd (upd (upd (fun _ => none) 0 (some (.c (.ref 0 3 0 0)))) 1 (some (.c (.fn (.func 103) [] [])))) 5 (some (I r_.f_at))), (upd (upd (fun _ => none) 0 (some (.cells 3 [[.str r_.f_s, cI r1, lstC zr2 1 5 r2.length]]))) 1 (lstB zr2 5 (r2.map e_TJTok))), 2⟩) k' s'') Q) .normal s := fun r1 r2 zr2 hzr2 h s hw => ⟨_, k, hw, Nat.lt_succ_self k, r1, r2, zr2, hzr2, h, rfl⟩
  refine Sv.seq ?_
  refine Sv.seq ?_
  refine Sv.drawn ?_
  refine un (a1 rfl ?_)
  refine un (a1 (v := (.c (.ref 0 3 0 0))) rfl ?_)
  refine un (a1 (v := (.c (.ref 0 3 0 1))) rfl ?_)
  refine un (a1 (v := (I r1)) rfl ?_)
  refine un (a1 rfl ?_)
  refine un (a1 (v := (.c (.ref 0 3 0 0))) rfl ?_)
  refine un (a1 (v := (.c (.ref 0 3 0 0))) rfl ?_)
  refine un (a1 (v := (S r_.f_s)) rfl ?_)
  refine un (a1 (v := (I (r_.f_s.length : Int))) rfl ?_)
  refine un (a1 (v := (B (decide (r1 < (r_.f_s.length : Int))))) rfl ?_)
  refine un (a1 rfl ?_)
  refine split2 (fun hc2 => ?_) (fun hc2 => ?_)
  · replace h := ifT hc2 h
    refine gt rfl (a1 rfl ?_)
    refine gt rfl (a1 rfl ?_)
    refine gt rfl (a1 (v := (.c (.ref 0 3 0 0))) rfl ?_)
    refine gt rfl (a1 (v := (.c (.ref 0 3 0 0))) rfl ?_)
    refine gt rfl (a1 (v := (S r_.f_s)) rfl ?_)
    refine gt rfl (a1 rfl ?_)
    refine gt rfl (a1 (v := (.c (.ref 0 3 0 0))) rfl ?_)
    refine gt rfl (a1 (v := (.c (.ref 0 3 0 1))) rfl ?_)
    refine gt rfl (a1 (v := (I r1)) rfl ?_)
    obtain ⟨c_, hx1, h⟩ := bnd h
    refine gt rfl (a1 (v := (.c (.val (.int .u8 (c_.toNat : Int))))) (s_idxS rfl rfl hx1) ?_)
    refine gt rfl (acv_gen (bs := []) («as» := [(.c (.val (.int .u8 (c_.toNat : Int))))]) (h2 := _) (h1 := (fun _ => none)) rfl (by kernel_rfl) (jlex_digit_ok (mL := mL) (c_.toNat : Int)) rfl (.cons (avAs_free rfl) .nil) (hsub_refl _) (.nil _) (fun _ => rfl) (by decide) (by decide) (.cons (avAs_free rfl) .nil) .nil ?_)
    rintro _ _ _ hn ⟨rfl, rfl, rfl⟩
    refine ⟨.inl rfl, (rem [] _), fun hbd => (m3_rem (in_nil _) (.nil) hbd), (B (jlex_digit (c_.toNat : Int))), 2, rfl, rfl, ?_⟩
    refine un (a1 (v := (B (jlex_digit (c_.toNat : Int)))) rfl ?_)
    refine dnil ?_
    exact Sv.weak (weak_canon [0, 1] rfl (by decide) (by decide) (by decide) (.cons rfl (avAs_free rfl) (.cons rfl (avAs_free rfl) (.cons rfl (avAs_free rfl) (.cons rfl (.c (.ref rfl (by decide))) .nil)))) (.row (by decide) rfl (fr_map fun _ => rfl) (.box (by decide) rfl (blkAs_cells (.cons (.same rfl) (.cons (.same rfl) (.cons (lstC_ren rfl (by decide)) .nil)))) .nil))) (clerestory_jlex_reader_run111_j3_ok hzr2 h hself hK0 hr)
  · replace h := ifF hc2 h
    refine gs rfl rfl ?_
    refine gs rfl rfl ?_
    refine gs rfl rfl ?_
    refine gs rfl rfl ?_
    refine gs rfl rfl ?_
    refine gs rfl rfl ?_
    refine gs rfl rfl ?_
    refine gs rfl rfl ?_
    refine gs rfl rfl ?_
    refine gs rfl rfl ?_
    refine gs rfl rfl ?_
    refine un (a1 (v := (B false)) rfl ?_)
    refine dnil ?_
    exact Sv.weak (weak_canon [0, 1] rfl (by decide) (by decide) (by decide) (.cons rfl (avAs_free rfl) (.cons rfl (avAs_free rfl) (.cons rfl (avAs_free rfl) (.cons rfl (.c (.ref rfl (by decide))) .nil)))) (.row (by decide) rfl (fr_map fun _ => rfl) (.box (by decide) rfl (blkAs_cells (.cons (.same rfl) (.cons (.same rfl) (.cons (lstC_ren rfl (by decide)) .nil)))) .nil))) (clerestory_jlex_reader_run111_j3_ok hzr2 h hself hK0 hr)
/-- (*clerestory/jlex.reader).run -/
noncomputable def clerestory_jlex_reader_run111 (r_ : Treader) : Option ((List UInt8) × Treader) :=
  lim fun kk => clerestory_jlex_reader_run111_l0 r_ (fun (r11 : Int) (r21 : (List TJTok)) => 
      (sub? r_.f_s r_.f_at r11).bind fun r_1 =>
      some (r_1, (⟨r_.f_s, r11, r21⟩ : Treader))) kk r_.f_at r_.f_out
theorem clerestory_jlex_reader_run111_ok {mL : Int} {r_ : Treader} {zr : Bool} (hzr : zr = true → r_.f_out = []) {r : ((List UInt8) × Treader)} (h : clerestory_jlex_reader_run111 r_ = some r) : ACalls Tryd.prog (GG mL) 137 [(.c (.ref 0 3 0 0)), (.c (.fn (.func 103) [] []))] (upd (upd (fun _ => none) 0 (some (.cells 3 [[.str r_.f_s, cI r_.f_at, lstC zr 1 5 r_.f_out.length]]))) 1 (lstB zr 5 (r_.f_out.map e_TJTok))) 2 (clerestory_jlex_reader_run111_post r) := by
  refine acalls_of_sv hmix c137 (R := clerestory_jlex_reader_run111_post r) ?_
  unfold clerestory_jlex_reader_run111 at h
  refine Sv.seq ?_
  refine Sv.region ?_
  refine un (a1 rfl ?_)
  refine dnil ?_
  refine Sv.seq ?_
  refine Sv.region ?_
  refine un (a1 rfl ?_)
  refine un (a1 (v := (.c (.ref 0 3 0 0))) rfl ?_)
  refine un (a1 (v := (.c (.ref 0 3 0 1))) rfl ?_)
  refine un (a1 (v := (I r_.f_at)) rfl ?_)
  refine un (a1 rfl ?_)
  refine dnil ?_
  refine Sv.seq ?_
  refine Sv.block ?_
  obtain ⟨kk, h⟩ := lim_some h
  refine Sv.weak (weak_canon [0, 1] rfl (by decide) (by decide) (by decide) (.cons rfl (avAs_free rfl) (.cons rfl (avAs_free rfl) (.cons rfl (.c (.ref rfl (by decide))) .nil))) (.row (by decide) rfl (fr_map fun _ => rfl) (.box (by decide) rfl (blkAs_cells (.cons (.same rfl) (.cons (.same rfl) (.cons (lstC_ren rfl (by decide)) .nil)))) .nil))) (clerestory_jlex_reader_run111_l0_ok hzr h ?_ (fun s hs => hs))
  · intro r11 r21 zr21 hzr21 h _ hw1
    refine Sv.weak hw1 ?_
    refine Sv.seq ?_
    refine Sv.drawn ?_
    refine un (a1 rfl ?_)
    refine un (a1 (v := (.c (.ref 0 3 0 0))) rfl ?_)
    refine un (a1 (v := (.c (.ref 0 3 0 0))) rfl ?_)
    refine un (a1 (v := (S r_.f_s)) rfl ?_)
    refine un (a1 rfl ?_)
    refine un (a1 rfl ?_)
    refine un (a1 (v := (.c (.ref 0 3 0 0))) rfl ?_)
    refine un (a1 (v := (.c (.ref 0 3 0 1))) rfl ?_)
    refine un (a1 (v := (I r11)) rfl ?_)
    obtain ⟨r_1, hx2, h⟩ := bnd h
    refine un (a1 (v := (S r_1)) (s_slStr rfl rfl rfl hx2) ?_)
    refine un (a1 rfl ?_)
    refine dnil ?_
    refine Sv.ret ?_
    replace h := Option.some.inj h
    subst h
    exact ⟨_, .refl _, _, rfl, ⟨upd (fun _ => none) 0 (some (S r_1)), (upd (upd (fun _ => none) 0 (some (.cells 3 [[.str r_.f_s, cI r11, lstC zr21 2 5 r21.length]]))) 2 (lstB zr21 5 (r21.map e_TJTok))), 3⟩, (S r_1), weak_canon2 [0, 1, 1] [0, 2] (by decide) (by decide) (by decide) (.cons (by decide) (.cons (by decide) .nil)) (.cons rfl (avAs_free rfl) .nil) (.row (by decide) rfl (fr_map fun _ => rfl) (.box (by decide) rfl (blkAs_cells (.cons (.same rfl) (.cons (.same rfl) (.cons (lstC_ren rfl (by decide)) .nil)))) .nil)), rfl, zr21, hzr21, rfl, rfl, rfl⟩
def a104_clerestory_jlex_reader_number1_c0 : ACode := (.seq (.region [⟨(some 12), (.bin .lss (.tmp 11) (.tmp 10)), none⟩])
 (.seq (.cond (.tmp 12) .skip (.exit 0))
 (.seq (.block 1 (.seq (.region [⟨(some 13), (.iaddr 1 (.tmp 9) (.tmp 11)), none⟩, ⟨(some 14), (.load false 1 (.tmp 13)), none⟩, ⟨(some 6), (.mov (.tmp 14)), none⟩])
 (.seq (.region [⟨(some 15), (.mov (.tmp 4)), none⟩, ⟨(some 16), (.bin .mul (.const (.c (.val (.int .i64 10)))) (.tmp 15)), none⟩, ⟨(some 17), (.mov (.tmp 6)), none⟩, ⟨(some 18), (.bin .sub (.tmp 17) (.const (.c (.val (.int .u8 48))))), none⟩, ⟨(some 19), (.conv .i64 (.tmp 18)), none⟩, ⟨(some 20), (.bin .add (.tmp 16) (.tmp 19)), none⟩, ⟨(some 4), (.mov (.tmp 20)), none⟩])
 (.seq (.region [⟨(some 21), (.mov (.tmp 4)), none⟩, ⟨(some 22), (.bin .gtr (.tmp 21) (.const (.c (.val (.int .i64 9007199254740992))))), none⟩])
 (.cond (.tmp 22) (.seq (.region [⟨(some 23), (.build [(.val (.int .i64 0)), (.val (.int .i64 0)), (.val (.int .i64 0)), (.str []), (.val (.int .i64 0))] []), none⟩, ⟨none, (.store 5 (.tmp 2) (.tmp 23)), none⟩, ⟨(some 3), (.mov (.const (.c (.val (.int .i64 2))))), none⟩])
 .ret) .skip)))))
 (.region [⟨(some 24), (.bin .add (.tmp 11) (.const (.c (.val (.int .i64 1))))), none⟩, ⟨(some 11), (.mov (.tmp 24)), none⟩]))))
def clerestory_jlex_reader_number1_post (r : (TJTok × Int × Treader)) : AV → Heap → Nat → Prop := fun v h' n' => ∃ z0 : Bool, (z0 = true → r.2.2.f_out = []) ∧ v = (.tup [(.agg [cI r.1.Kind, cI r.1.From, cI r.1.To, .str r.1.Text, cI r.1.Num]), (I r.2.1)]) ∧ (h' = (upd (upd (fun _ => none) 0 (some (.cells 3 [[.str r.2.2.f_s, cI r.2.2.f_at, lstC z0 2 5 r.2.2.f_out.length]]))) 2 (lstB z0 5 (r.2.2.f_out.map e_TJTok)))) ∧ n' = 3
noncomputable def clerestory_jlex_reader_number1_l0 (r_1 : ((List UInt8) × Treader)) (K0_ : (List TJTok) → Int → Option (TJTok × Int × Treader)) : Nat → (List TJTok) → Int → Int → Option (TJTok × Int × Treader)
  | 0, _, _, _ => none
  | k + 1, r2, n_, v11 =>
    if decide (v11 < ((ints r_1.1).length : Int)) then
      (at? (ints r_1.1) v11).bind fun x_ =>
      letIn (decide (9007199254740992 < (wi ((wi (10 * n_)) + (wr .i64 (wr .u8 (x_ - 48))))))) fun v22 : Bool =>
      if v22 then
        some ((⟨0, 0, 0, [], 0⟩ : TJTok), 2, (⟨r_1.2.f_s, r_1.2.f_at, r2⟩ : Treader))
      else
        (clerestory_jlex_reader_number1_l0 r_1 K0_ k) r2 (wi ((wi (10 * n_)) + (wr .i64 (wr .u8 (x_ - 48))))) (wi (v11 + 1))
    else
      K0_ r2 n_
theorem clerestory_jlex_reader_number1_l0_ok {mL : Int} {Q : AExit → St → Prop} {r_1 : ((List UInt8) × Treader)} {K0_ : (List TJTok) → Int → Option (TJTok × Int × Treader)} {k : Nat} {r2 : (List TJTok)} {n_ : Int} {v11 : Int} {zr2 : Bool} (hzr2 : zr2 = true → r2 = []) {o : (TJTok × Int × Treader)} (h : clerestory_jlex_reader_number1_l0 r_1 K0_ k r2 n_ v11 = some o)
    (hK0 : ∀ (r21 : (List TJTok)) (n_1 : Int) (zr21 : Bool) (_ : zr21 = true → r21 = []), K0_ r21 n_1 = some o → ∀ s, Weak 2 s ⟨(upd (upd (upd (fun _ => none) 0 (some (.c (.ref 0 3 0 0)))) 2 (some (.c (.ref 3 5 0 0)))) 4 (some (I n_1))), (upd (upd (upd (fun _ => none) 0 (some (.cells 3 [[.str r_1.2.f_s, cI r_1.2.f_at, lstC zr21 2 5 r21.length]]))) 2 (lstB zr21 5 (r21.map e_TJTok))) 3 (some (.cells 5 [[cI 0, cI 0, cI 0, .str [], cI 0]]))), 4⟩ → Q (.exit 0) s)
    (hr : ∀ s, Ends a104.results 2 (clerestory_jlex_reader_number1_post o) .ret s → Q .ret s) :
    Sv Tryd.prog (GG mL) 2 (.loop a104_clerestory_jlex_reader_number1_c0) Q ⟨(upd (upd (upd (upd (upd (upd (fun _ => none) 0 (some (.c (.ref 0 3 0 0)))) 2 (some (.c (.ref 3 5 0 0)))) 4 (some (I n_))) 9 (some (lstV false 4 1 (ints r_1.1).length))) 10 (some (I ((ints r_1.1).length : Int)))) 11 (some (I v11))), (upd (upd (upd (upd (fun _ => none) 0 (some (.cells 3 [[.str r_1.2.f_s, cI r_1.2.f_at, lstC zr2 2 5 r2.length]]))) 2 (lstB zr2 5 (r2.map e_TJTok))) 3 (some (.cells 5 [[cI 0, cI 0, cI 0, .str [], cI 0]]))) 4 (lstB false 1 ((ints r_1.1).map (eK .u8)))), 5⟩ := by
  refine Sv.loop (I := fun k s => ∃ (r2 : (List TJTok)), ∃ (n_ : Int), ∃ (v11 : Int), ∃ (zr2 : Bool), (zr2 = true → r2 = []) ∧ clerestory_jlex_reader_number1_l0 r_1 K0_ k r2 n_ v11 = some o ∧ s = ⟨(upd (upd (upd (upd (upd (upd (fun _ => none) 0 (some (.c (.ref 0 3 0 0)))) 2 (some (.c (.ref 3 5 0 0)))) 4 (some (I n_))) 9 (some (lstV false 4 1 (ints r_1.1).length))) 10 (some (I ((ints r_1.1).length : Int)))) 11 (some (I v11))), (upd (upd (upd (upd (fun _ => none) 0 (some (.cells 3 [[.str r_1.2.f_s, cI r_1.2.f_at, lstC zr2 2 5 r2.length]]))) 2 (lstB zr2 5 (r2.map e_TJTok))) 3 (some (.cells 5 [[cI 0, cI 0, cI 0, .str [], cI 0]]))) 4 (lstB false 1 ((ints r_1.1).map (eK .u8)))), 5⟩) (fun k s hI => ?_) ⟨r2, n_, v11, zr2, hzr2, h, rfl⟩
  clear h
  clear hzr2 zr2 v11 n_ r2
  obtain ⟨r2, n_, v11, zr2, hzr2, h, rfl⟩ := hI
  cases k with
  | zero => cases h
  | succ k =>
  rw [clerestory_jlex_reader_number1_l0] at h
  have hself : ∀ (r2 : (List TJTok)) (n_ : Int) (v11 : Int) (zr2 : Bool) (_ : zr2 = true → r2 = []), (clerestory_jlex_reader_number1_l0 r_1 K0_ k) r2 n_ v11 = some o → ∀ s, Weak 2 s ⟨(upd (upd (upd (upd (upd (upd (fun _ => none) 0 (some (.c (.ref 0 3 0 0)))) 2 (some (.c (.ref 3 5 0 0)))) 4 (some (I n_))) 9 (some (lstV false 4 1 (ints r_1.1).length))) 10 (some (I ((ints r_1.1).length : Int)))) 11 (some (I v11))), (upd (upd (upd (upd (fun _ => none) 0 (some (.cells 3 [[.str r_1.2.f_s, cI r_1.2.f_at, lstC zr2 2 5 r2.length]]))) 2 (lstB zr2 5 (r2.map e_TJTok))) 3 (some (.cells 5 [[cI 0, cI 0, cI 0, .str [], cI 0]]))) 4 (lstB false 1 ((ints r_1.1).map (eK .u8)))), 5⟩ → (AThen (fun s' => ∃ s'' k', Weak 2 s' s'' ∧ k' < k + 1 ∧ (fun k s => ∃ (r2 : (List TJTok)), ∃ (n_ : Int), ∃ (v11 : Int), ∃ (zr2 : Bool), (zr2 = true → r2 = []) ∧ clerestory_jlex_reader_number1_l0 r_1 K0_ k r2 n_ v11 = some o ∧ s = ⟨(upd (upd (upd (upd (upd (upd (fun _ => none) 0 (some (.c (.ref 0 3 0 0)))) 2 (some (.c (.ref 3 5 0 0)))) 4 (some (I n_))) 9 (some (lstV false 4 1 (ints r_1.1).length))) 10 (some (I ((ints r_1.1).length : Int)))) 11 (some (I v11))), (upd (upd (upd (upd (fun _ => none) 0 (some (.cells 3 [[.str r_1.2.f_s, cI r_1.2.f_at, lstC zr2 2 5 r2.length]]))) 2 (lstB zr2 5 (r2.map e_TJTok))) 3 (some (.cells 5 [[cI 0, cI 0, cI 0, .str [], cI 0]]))) 4 (lstB false 1 ((ints r_1.1).map (eK .u8)))), 5⟩) k' s'') Q) .normal s := fun r2 n_ v11 zr2 hzr2 h s hw => ⟨_, k, hw, Nat.lt_succ_self k, r2, n_, v11, zr2, hzr2, h, rfl⟩
  refine Sv.seq ?_
  refine Sv.region ?_
  refine un (a1 (v := (B (decide (v11 < ((ints r_1.1).length : Int))))) rfl ?_)
  refine dnil ?_
  refine Sv.seq ?_
  refine Sv.cond (b := decide (v11 < ((ints r_1.1).length : Int))) rfl (fun hc1 => ?_) (fun hc1 => ?_)
  · replace h := ifT hc1 h
    refine Sv.skip ?_
    refine Sv.seq ?_
    refine Sv.block ?_
    refine Sv.seq ?_
    refine Sv.region ?_
    obtain ⟨x_, hx1, h⟩ := bnd h
    refine un (a1 (v := (.c (.ref 4 1 v11.toNat 0))) (s_iaddrL rfl rfl (fun h => by cases h) hx1) ?_)
    refine un (a1 (v := (.c (.val (.int .u8 x_)))) (s_loadL (z := false) (e := (eK .u8)) rfl rfl (fun h => by cases h) hx1 rfl rfl) ?_)
    refine un (a1 rfl ?_)
    refine dnil ?_
    refine Sv.seq ?_
    refine Sv.region ?_
    refine un (a1 rfl ?_)
    refine un (a1 (v := (I (wi (10 * n_)))) rfl ?_)
    refine un (a1 rfl ?_)
    refine un (a1 (v := (.c (.val (.int .u8 (wr .u8 (x_ - 48)))))) rfl ?_)
    refine un (a1 (v := (I (wr .i64 (wr .u8 (x_ - 48))))) rfl ?_)
    refine un (a1 (v := (I (wi ((wi (10 * n_)) + (wr .i64 (wr .u8 (x_ - 48))))))) rfl ?_)
    refine un (a1 rfl ?_)
    refine dnil ?_
    refine Sv.seq ?_
    refine Sv.region ?_
    refine un (a1 rfl ?_)
    obtain ⟨v22, hv22⟩ : ∃ v22 : Bool, v22 = decide (9007199254740992 < (wi ((wi (10 * n_)) + (wr .i64 (wr .u8 (x_ - 48)))))) := ⟨_, rfl⟩
    replace h := letAt hv22 h
    refine un (a1 (v := (B v22)) (by rw [hv22]; rfl) ?_)
    clear hv22
    refine dnil ?_
    refine Sv.cond (b := v22) rfl (fun hc2 => ?_) (fun hc2 => ?_)
    · replace h := ifT hc2 h
      refine Sv.seq ?_
      refine Sv.region ?_
      refine un (a1 (v := (.agg [cI 0, cI 0, cI 0, .str [], cI 0])) rfl ?_)
      refine un (a2n (h' := upd _ 3 (some (.cells 5 [[cI 0, cI 0, cI 0, .str [], cI 0]]))) (n' := 5) rfl rfl (fun h => by cases h) ?_)
      refine un (a1 rfl ?_)
      refine dnil ?_
      refine Sv.ret ?_
      replace h := Option.some.inj h
      subst h
      exact hr _ ⟨_, .refl _, _, rfl, ⟨upd (fun _ => none) 0 (some (.tup [(.agg [cI 0, cI 0, cI 0, .str [], cI 0]), (I 2)])), (upd (upd (fun _ => none) 0 (some (.cells 3 [[.str r_1.2.f_s, cI r_1.2.f_at, lstC zr2 2 5 r2.length]]))) 2 (lstB zr2 5 (r2.map e_TJTok))), 3⟩, (.tup [(.agg [cI 0, cI 0, cI 0, .str [], cI 0]), (I 2)]), weak_canon2 [0, 1, 2] [0, 2] (by decide) (by decide) (by decide) (.cons (by decide) (.cons (by decide) .nil)) (.cons rfl (avAs_tup (.cons (avAs_free rfl) (.cons (avAs_free rfl) .nil))) .nil) (.row (by decide) rfl (fr_map fun _ => rfl) (.box (by decide) rfl (blkAs_cells (.cons (.same rfl) (.cons (.same rfl) (.cons (lstC_ren rfl (by decide)) .nil)))) .nil)), rfl, zr2, hzr2, rfl, rfl, rfl⟩
    · replace h := ifF hc2 h
      refine Sv.skip ?_
      refine Sv.region ?_
      refine un (a1 (v := (I (wi (v11 + 1)))) rfl ?_)
      refine un (a1 rfl ?_)
      refine dnil ?_
      exact hself r2 (wi ((wi (10 * n_)) + (wr .i64 (wr .u8 (x_ - 48))))) (wi (v11 + 1)) zr2 hzr2 h _ (weak_canon [0, 1, 2, 3, 4] rfl (by decide) (by decide) (by decide) (.cons rfl (avAs_free rfl) (.cons rfl (avAs_free rfl) (.cons rfl (.c (lstC_ren rfl (by decide))) (.cons rfl (avAs_free rfl) (.cons rfl (.c (.ref rfl (by decide))) (.cons rfl (.c (.ref rfl (by decide))) .nil)))))) (.row (by decide) rfl (fr_map fun _ => rfl) (.box (by decide) rfl (blkAs_cells (.cons (.same rfl) (.cons (.same rfl) (.cons (.same rfl) (.cons (.same rfl) (.cons (.same rfl) .nil)))))) (.row (by decide) rfl (fr_map fun _ => rfl) (.box (by decide) rfl (blkAs_cells (.cons (.same rfl) (.cons (.same rfl) (.cons (lstC_ren rfl (by decide)) .nil)))) .nil)))))
  · replace h := ifF hc1 h
    refine Sv.exit ?_
    exact hK0 r2 n_ zr2 hzr2 h _ (weak_canon [0, 1, 2, 3] rfl (by decide) (by decide) (by decide) (.cons rfl (avAs_free rfl) (.cons rfl (.c (.ref rfl (by decide))) (.cons rfl (.c (.ref rfl (by decide))) .nil))) (.box (by decide) rfl (blkAs_cells (.cons (.same rfl) (.cons (.same rfl) (.cons (.same rfl) (.cons (.same rfl) (.cons (.same rfl) .nil)))))) (.row (by decide) rfl (fr_map fun _ => rfl) (.box (by decide) rfl (blkAs_cells (.cons (.same rfl) (.cons (.same rfl) (.cons (lstC_ren rfl (by decide)) .nil)))) .nil))))
/-- (*clerestory/jlex.reader).number -/
noncomputable def clerestory_jlex_reader_number1 (r_ : Treader) : Option (TJTok × Int × Treader) :=
  (clerestory_jlex_reader_run111 r_).bind fun r_1 =>
  lim fun kk => clerestory_jlex_reader_number1_l0 r_1 (fun (r21 : (List TJTok)) (n_1 : Int) => 
      (clerestory_jlex_reader_peek (⟨r_1.2.f_s, r_1.2.f_at, r21⟩ : Treader) 0).bind fun r_2 =>
      if (jlex_letter r_2) then
        some ((⟨0, 0, 0, [], 0⟩ : TJTok), 4, (⟨r_1.2.f_s, r_1.2.f_at, r21⟩ : Treader))
      else
        some ((⟨2, 0, 0, [], n_1⟩ : TJTok), 0, (⟨r_1.2.f_s, r_1.2.f_at, r21⟩ : Treader))) kk r_1.2.f_out 0 0
theorem clerestory_jlex_reader_number1_ok {mL : Int} {r_ : Treader} {zr : Bool} (hzr : zr = true → r_.f_out = []) {r : (TJTok × Int × Treader)} (h : clerestory_jlex_reader_number1 r_ = some r) : ACalls Tryd.prog (GG mL) 104 [(.c (.ref 0 3 0 0))] (upd (upd (fun _ => none) 0 (some (.cells 3 [[.str r_.f_s, cI r_.f_at, lstC zr 1 5 r_.f_out.length]]))) 1 (lstB zr 5 (r_.f_out.map e_TJTok))) 2 (clerestory_jlex_reader_number1_post r) := by
  refine acalls_of_sv hmix c104 (R := clerestory_jlex_reader_number1_post r) ?_
  unfold clerestory_jlex_reader_number1 at h
  refine Sv.seq ?_
  refine Sv.region ?_
  refine un (a2v (v := (.c (.ref 2 5 0 0))) (h' := upd _ 2 (some (.cells 5 [[cI 0, cI 0, cI 0, .str [], cI 0]]))) (n' := 3) rfl rfl (fun h => by cases h) ?_)
  refine un (a1 rfl ?_)
  refine dnil ?_
  refine Sv.seq ?_
  refine Sv.region ?_
  refine un (a1 rfl ?_)
  refine dnil ?_
  refine Sv.seq ?_
  refine Sv.seq ?_
  refine Sv.region ?_
  refine un (a1 rfl ?_)
  obtain ⟨r_1, hr1, h⟩ := bnd h
  refine un (ac_gen (bs := [0, 1]) («as» := [(.c (.ref 0 3 0 0)), (.c (.fn (.func 103) [] []))]) (h2 := _) (h1 := (upd (upd (fun _ => none) 0 (some (.cells 3 [[.str r_.f_s, cI r_.f_at, lstC zr 1 5 r_.f_out.length]]))) 1 (lstB zr 5 (r_.f_out.map e_TJTok)))) (clerestory_jlex_reader_run111_ok hzr hr1) rfl (.cons (.c (.ref rfl (by decide))) (.cons (avAs_free rfl) .nil)) (hsub_refl _) (.cons rfl (.cons rfl (.nil _))) (fun h => by cases h) (by decide) (by decide) (.cons (.c (.ref rfl (by decide))) (.cons (avAs_free rfl) .nil)) (.row (by decide) rfl (fr_map fun _ => rfl) (.box (by decide) rfl (blkAs_cells (.cons (.same rfl) (.cons (.same rfl) (.cons (lstC_ren rfl (by decide)) .nil)))) .nil)) ?_)
  rintro _ _ _ hn ⟨z_, hz_, rfl, rfl, rfl⟩
  refine ⟨.inl rfl, (upd (upd (rem [0, 1] _) 0 (some (.cells 3 [[.str r_1.2.f_s, cI r_1.2.f_at, lstC z_ 3 5 r_1.2.f_out.length]]))) 3 (lstB z_ 5 (r_1.2.f_out.map e_TJTok))), fun hbd => (m3_cons (m3_row rfl (fr_map fun _ => rfl)) (m3_cons (m3_box rfl (by cases z_ <;> rfl)) (m3_rem (in_cons (by decide) (in_cons (by decide) (in_nil _))) (.cons (by decide) (.cons (by decide) .nil)) hbd))), (S r_1.1), 4, (by cases z_ <;> rfl), rfl, ?_⟩
  refine un (a2v (v := (lstV false 4 1 (ints r_1.1).length)) (h' := upd _ 4 (lstB false 1 ((ints r_1.1).map (eK .u8)))) (n' := 5) rfl (s_toBytes rfl) (fun h => by cases h) ?_)
  refine un (a1 (v := (I ((ints r_1.1).length : Int))) (s_lenL rfl (len_nil_of (fun h => by cases h))) ?_)
  refine un (a1 rfl ?_)
  refine dnil ?_
  refine Sv.block ?_
  obtain ⟨kk, h⟩ := lim_some h
  refine Sv.weak (weak_canon [0, 1, 3, 2, 4] rfl (by decide) (by decide) (by decide) (.cons rfl (avAs_free rfl) (.cons rfl (avAs_free rfl) (.cons rfl (.c (lstC_ren rfl (by decide))) (.cons rfl (avAs_free rfl) (.cons rfl (.c (.ref rfl (by decide))) (.cons rfl (.c (.ref rfl (by decide))) .nil)))))) (.row (by decide) rfl (fr_map fun _ => rfl) (.box (by decide) rfl (blkAs_cells (.cons (.same rfl) (.cons (.same rfl) (.cons (.same rfl) (.cons (.same rfl) (.cons (.same rfl) .nil)))))) (.row (by decide) rfl (fr_map fun _ => rfl) (.box (by decide) rfl (blkAs_cells (.cons (.same rfl) (.cons (.same rfl) (.cons (lstC_ren rfl (by decide)) .nil)))) .nil))))) (clerestory_jlex_reader_number1_l0_ok hz_ h ?_ (fun s hs => hs))
  · intro r21 n_1 zr21 hzr21 h _ hw1
    refine Sv.weak hw1 ?_
    refine Sv.seq ?_
    refine Sv.seq ?_
    refine Sv.region ?_
    refine un (a1 rfl ?_)
    obtain ⟨r_2, hr2, h⟩ := bnd h
    refine un (ac_lend (h2 := (upd (upd _ 0 none) 2 none)) (clerestory_jlex_reader_peek_ok hr2) rfl (.cons (.c (ref_ro rfl (gone rfl) (.cons (.same rfl) (.cons (.same rfl) (.cons (lstC_ro (es := List.map e_TJTok r21) rfl (List.length_map e_TJTok).symm (map_nil_of hzr21) (gone rfl) (fr_map fun _ => rfl)) .nil))) rfl)) (.cons (avAs_free rfl) .nil)) (hsub_none (hsub_none (hsub_refl _))) rfl rfl (.inr rfl) ?_)
    refine un (ac_pure (jlex_letter_ok (mL := mL) r_2) rfl rfl rfl ?_)
    refine dnil ?_
    refine Sv.cond (b := (jlex_letter r_2)) rfl (fun hc3 => ?_) (fun hc3 => ?_)
    · replace h := ifT hc3 h
      refine Sv.seq ?_
      refine Sv.region ?_
      refine un (a1 (v := (.agg [cI 0, cI 0, cI 0, .str [], cI 0])) rfl ?_)
      refine un (a2n (h' := upd _ 3 (some (.cells 5 [[cI 0, cI 0, cI 0, .str [], cI 0]]))) (n' := 4) rfl rfl (fun h => by cases h) ?_)
      refine un (a1 rfl ?_)
      refine dnil ?_
      refine Sv.ret ?_
      replace h := Option.some.inj h
      subst h
      exact ⟨_, .refl _, _, rfl, ⟨upd (fun _ => none) 0 (some (.tup [(.agg [cI 0, cI 0, cI 0, .str [], cI 0]), (I 4)])), (upd (upd (fun _ => none) 0 (some (.cells 3 [[.str r_1.2.f_s, cI r_1.2.f_at, lstC zr21 2 5 r21.length]]))) 2 (lstB zr21 5 (r21.map e_TJTok))), 3⟩, (.tup [(.agg [cI 0, cI 0, cI 0, .str [], cI 0]), (I 4)]), weak_canon2 [0, 1, 2] [0, 2] (by decide) (by decide) (by decide) (.cons (by decide) (.cons (by decide) .nil)) (.cons rfl (avAs_tup (.cons (avAs_free rfl) (.cons (avAs_free rfl) .nil))) .nil) (.row (by decide) rfl (fr_map fun _ => rfl) (.box (by decide) rfl (blkAs_cells (.cons (.same rfl) (.cons (.same rfl) (.cons (lstC_ren rfl (by decide)) .nil)))) .nil)), rfl, zr21, hzr21, rfl, rfl, rfl⟩
    · replace h := ifF hc3 h
      refine Sv.skip ?_
      refine Sv.seq ?_
      refine Sv.region ?_
      refine un (a1 rfl ?_)
      refine un (a1 (v := (.agg [cI 2, cI 0, cI 0, .str [], cI n_1])) rfl ?_)
      refine un (a2n (h' := upd _ 3 (some (.cells 5 [[cI 2, cI 0, cI 0, .str [], cI n_1]]))) (n' := 4) rfl rfl (fun h => by cases h) ?_)
      refine un (a1 rfl ?_)
      refine dnil ?_
      refine Sv.ret ?_
      replace h := Option.some.inj h
      subst h
      exact ⟨_, .refl _, _, rfl, ⟨upd (fun _ => none) 0 (some (.tup [(.agg [cI 2, cI 0, cI 0, .str [], cI n_1]), (I 0)])), (upd (upd (fun _ => none) 0 (some (.cells 3 [[.str r_1.2.f_s, cI r_1.2.f_at, lstC zr21 2 5 r21.length]]))) 2 (lstB zr21 5 (r21.map e_TJTok))), 3⟩, (.tup [(.agg [cI 2, cI 0, cI 0, .str [], cI n_1]), (I 0)]), weak_canon2 [0, 1, 2] [0, 2] (by decide) (by decide) (by decide) (.cons (by decide) (.cons (by decide) .nil)) (.cons rfl (avAs_tup (.cons (avAs_free rfl) (.cons (avAs_free rfl) .nil))) .nil) (.row (by decide) rfl (fr_map fun _ => rfl) (.box (by decide) rfl (blkAs_cells (.cons (.same rfl) (.cons (.same rfl) (.cons (lstC_ren rfl (by decide)) .nil)))) .nil)), rfl, zr21, hzr21, rfl, rfl, rfl⟩
def a105_clerestory_jlex_reader_text1_c0 : ACode := (.region [⟨(some 71), (.mov (.tmp 4)), none⟩, ⟨(some 72), (.mov (.tmp 5)), none⟩, ⟨(some 73), (.bslice 1 [(.val (.int .u8 0))] 1 [(0, (.tmp 72))]), none⟩, ⟨(some 74), (.app 1 1 (.tmp 71) (.tmp 73)), none⟩, ⟨(some 4), (.mov (.tmp 74)), none⟩])
def a105_clerestory_jlex_reader_text1_c1 : ACode := (.seq (.seq (.drawn (.fin [(⟨(some 15), (.mov (.tmp 0)), none⟩, (0, 0)), (⟨(some 16), (.nilc (.tmp 15)), none⟩, (0, 1)), (⟨(some 17), (.faddr 1 (.tmp 16)), none⟩, (0, 2)), (⟨(some 18), (.load false 1 (.tmp 17)), none⟩, (0, 3)), (⟨(some 19), (.mov (.tmp 0)), none⟩, (0, 4)), (⟨(some 20), (.nilc (.tmp 19)), none⟩, (0, 5)), (⟨(some 21), (.faddr 0 (.tmp 20)), none⟩, (0, 6)), (⟨(some 22), (.load false 1 (.tmp 21)), none⟩, (0, 7)), (⟨(some 23), (.lenS (.tmp 22)), none⟩, (0, 8)), (⟨(some 24), (.bin .lss (.tmp 18) (.tmp 23)), none⟩, (0, 9))]))
 (.cond (.tmp 24) .skip (.exit 0)))
 (.block 1 (.seq (.drawn (.fin [(⟨(some 25), (.mov (.tmp 0)), none⟩, (0, 0)), (⟨(some 26), (.nilc (.tmp 25)), none⟩, (0, 1)), (⟨(some 27), (.faddr 0 (.tmp 26)), none⟩, (0, 2)), (⟨(some 28), (.load false 1 (.tmp 27)), none⟩, (0, 3)), (⟨(some 29), (.mov (.tmp 0)), none⟩, (0, 4)), (⟨(some 30), (.nilc (.tmp 29)), none⟩, (0, 5)), (⟨(some 31), (.faddr 1 (.tmp 30)), none⟩, (0, 6)), (⟨(some 32), (.load false 1 (.tmp 31)), none⟩, (0, 7)), (⟨(some 33), (.idxS (.tmp 28) (.tmp 32)), none⟩, (0, 8)), (⟨(some 5), (.mov (.tmp 33)), none⟩, (0, 9))]))
 (.seq (.region [⟨(some 34), (.mov (.tmp 0)), none⟩, ⟨(some 35), (.nilc (.tmp 34)), none⟩, ⟨(some 36), (.faddr 1 (.tmp 35)), none⟩, ⟨(some 37), (.load false 1 (.tmp 36)), none⟩, ⟨(some 38), (.bin .add (.tmp 37) (.const (.c (.val (.int .i64 1))))), none⟩, ⟨(some 39), (.nilc (.tmp 34)), none⟩, ⟨(some 40), (.faddr 1 (.tmp 39)), none⟩, ⟨none, (.store 1 (.tmp 40) (.tmp 38)), none⟩])
 (.seq (.block 2 (.seq (.region [⟨(some 42), (.mov (.tmp 5)), none⟩, ⟨(some 43), (.bin .eql (.tmp 42) (.const (.c (.val (.int .u8 34))))), none⟩, ⟨(some 41), (.mov (.tmp 43)), none⟩])
 (.cond (.tmp 41) (.seq (.region [⟨(some 44), (.mov (.tmp 4)), none⟩, ⟨(some 45), (.ofBytes (.tmp 44)), none⟩, ⟨(some 46), (.build [(.val (.int .i64 0)), (.val (.int .i64 0)), (.val (.int .i64 0)), (.str []), (.val (.int .i64 0))] [(0, (1, (.const (.c (.val (.int .i64 3)))))), (3, (1, (.tmp 45)))]), none⟩, ⟨none, (.store 5 (.tmp 2) (.tmp 46)), none⟩, ⟨(some 3), (.mov (.const (.c (.val (.int .i64 0))))), none⟩])
 .ret) (.seq (.region [⟨(some 48), (.mov (.tmp 5)), none⟩, ⟨(some 49), (.bin .lss (.tmp 48) (.const (.c (.val (.int .u8 32))))), none⟩, ⟨(some 47), (.mov (.tmp 49)), none⟩])
 (.cond (.tmp 47) (.seq (.region [⟨(some 50), (.build [(.val (.int .i64 0)), (.val (.int .i64 0)), (.val (.int .i64 0)), (.str []), (.val (.int .i64 0))] []), none⟩, ⟨none, (.store 5 (.tmp 2) (.tmp 50)), none⟩, ⟨(some 3), (.mov (.const (.c (.val (.int .i64 4))))), none⟩])
 .ret) (.seq (.region [⟨(some 52), (.mov (.tmp 5)), none⟩, ⟨(some 53), (.bin .eql (.tmp 52) (.const (.c (.val (.int .u8 92))))), none⟩, ⟨(some 51), (.mov (.tmp 53)), none⟩])
 (.cond (.tmp 51) (.seq (.region [⟨(some 55), (.mov (.tmp 0)), none⟩, ⟨(some 56), (.call 140 [(.tmp 55)]), none⟩, ⟨(some 54), (.mov (.tmp 56)), none⟩, ⟨(some 57), (.ext (.tmp 54) 0), none⟩, ⟨(some 58), (.ext (.tmp 54) 1), none⟩, ⟨(some 6), (.mov (.tmp 57)), none⟩, ⟨(some 7), (.mov (.tmp 58)), none⟩])
 (.seq (.seq (.region [⟨(some 59), (.mov (.tmp 7)), none⟩, ⟨(some 60), (.bin .eql (.tmp 59) (.const (.c (.val (.int .i64 0))))), none⟩])
 (.cond (.tmp 60) (.seq (.region [⟨(some 61), (.build [(.val (.int .i64 0)), (.val (.int .i64 0)), (.val (.int .i64 0)), (.str []), (.val (.int .i64 0))] []), none⟩, ⟨none, (.store 5 (.tmp 2) (.tmp 61)), none⟩, ⟨(some 3), (.mov (.const (.c (.val (.int .i64 4))))), none⟩])
 .ret) .skip))
 (.seq (.region [⟨(some 62), (.mov (.tmp 6)), none⟩, ⟨(some 5), (.mov (.tmp 62)), none⟩])
 (.region [⟨(some 63), (.mov (.tmp 0)), none⟩, ⟨(some 64), (.nilc (.tmp 63)), none⟩, ⟨(some 65), (.faddr 1 (.tmp 64)), none⟩, ⟨(some 66), (.load false 1 (.tmp 65)), none⟩, ⟨(some 67), (.mov (.tmp 7)), none⟩, ⟨(some 68), (.bin .add (.tmp 66) (.tmp 67)), none⟩, ⟨(some 69), (.nilc (.tmp 63)), none⟩, ⟨(some 70), (.faddr 1 (.tmp 69)), none⟩, ⟨none, (.store 1 (.tmp 70) (.tmp 68)), none⟩])))) .skip)))))))
 a105_clerestory_jlex_reader_text1_c0)))))
def clerestory_jlex_reader_text1_post (r : (TJTok × Int × Treader)) : AV → Heap → Nat → Prop := fun v h' n' => ∃ z0 : Bool, (z0 = true → r.2.2.f_out = []) ∧ v = (.tup [(.agg [cI r.1.Kind, cI r.1.From, cI r.1.To, .str r.1.Text, cI r.1.Num]), (I r.2.1)]) ∧ (h' = (upd (upd (fun _ => none) 0 (some (.cells 3 [[.str r.2.2.f_s, cI r.2.2.f_at, lstC z0 2 5 r.2.2.f_out.length]]))) 2 (lstB z0 5 (r.2.2.f_out.map e_TJTok)))) ∧ n' = 3
abbrev clerestory_jlex_reader_text1_q0 (mL : Int) (Q : AExit → St → Prop) : AExit → St → Prop := ABlock 1 Q
noncomputable def clerestory_jlex_reader_text1_j3 (r_ : Treader) (self : Int → (List TJTok) → (List Int) → Option (TJTok × Int × Treader)) (K0_ : Int → (List TJTok) → Option (TJTok × Int × Treader)) (r12 : Int) (r22 : (List TJTok)) (out1 : (List Int)) (c_1 : Int) : Option (TJTok × Int × Treader) :=
  (app? 1 out1 [c_1]).bind fun r_1 =>
  self r12 r22 r_1
theorem clerestory_jlex_reader_text1_j3_ok {mL : Int} {Q : AExit → St → Prop} {r_ : Treader} {self : Int → (List TJTok) → (List Int) → Option (TJTok × Int × Treader)} {K0_ : Int → (List TJTok) → Option (TJTok × Int × Treader)} {r12 : Int} {r22 : (List TJTok)} {out1 : (List Int)} {c_1 : Int} {zr22 : Bool} (hzr22 : zr22 = true → r22 = []) {zout1 : Bool} (hzout1 : zout1 = true → out1 = []) {o : (TJTok × Int × Treader)} (h : clerestory_jlex_reader_text1_j3 r_ self K0_ r12 r22 out1 c_1 = some o)
    (hself : ∀ (r1 : Int) (r2 : (List TJTok)) (out : (List Int)) (zr2 : Bool) (_ : zr2 = true → r2 = []) (zout : Bool) (_ : zout = true → out = []), self r1 r2 out = some o → ∀ s, Weak 2 s ⟨(upd (upd (upd (fun _ => none) 0 (some (.c (.ref 0 3 0 0)))) 2 (some (.c (.ref 2 5 0 0)))) 4 (some (lstV zout 3 1 out.length))), (upd (upd (upd (upd (fun _ => none) 0 (some (.cells 3 [[.str r_.f_s, cI r1, lstC zr2 1 5 r2.length]]))) 1 (lstB zr2 5 (r2.map e_TJTok))) 2 (some (.cells 5 [[cI 0, cI 0, cI 0, .str [], cI 0]]))) 3 (lstB zout 1 (out.map (eK .u8)))), 4⟩ → (Q) .normal s)
    (hK0 : ∀ (r11 : Int) (r21 : (List TJTok)) (zr21 : Bool) (_ : zr21 = true → r21 = []), K0_ r11 r21 = some o → ∀ s, Weak 2 s ⟨(upd (upd (fun _ => none) 0 (some (.c (.ref 0 3 0 0)))) 2 (some (.c (.ref 2 5 0 0)))), (upd (upd (upd (fun _ => none) 0 (some (.cells 3 [[.str r_.f_s, cI r11, lstC zr21 1 5 r21.length]]))) 1 (lstB zr21 5 (r21.map e_TJTok))) 2 (some (.cells 5 [[cI 0, cI 0, cI 0, .str [], cI 0]]))), 3⟩ → Q (.exit 0) s)
    (hr : ∀ s, Ends a105.results 2 (clerestory_jlex_reader_text1_post o) .ret s → Q .ret s) :
    Sv Tryd.prog (GG mL) 2 a105_clerestory_jlex_reader_text1_c0 (clerestory_jlex_reader_text1_q0 mL Q) ⟨(upd (upd (upd (upd (fun _ => none) 0 (some (.c (.ref 0 3 0 0)))) 2 (some (.c (.ref 2 5 0 0)))) 4 (some (lstV zout1 3 1 out1.length))) 5 (some (.c (.val (.int .u8 c_1))))), (upd (upd (upd (upd (fun _ => none) 0 (some (.cells 3 [[.str r_.f_s, cI r12, lstC zr22 1 5 r22.length]]))) 1 (lstB zr22 5 (r22.map e_TJTok))) 2 (some (.cells 5 [[cI 0, cI 0, cI 0, .str [], cI 0]]))) 3 (lstB zout1 1 (out1.map (eK .u8)))), 4⟩ := by
  unfold clerestory_jlex_reader_text1_j3 at h
  refine Sv.region ?_
  refine un (a1 rfl ?_)
  refine un (a1 rfl ?_)
  refine un (a2v (v := (lstV false 4 1 [c_1].length)) (h' := upd _ 4 (lstB false 1 ([c_1].map (eK .u8)))) (n' := 5) rfl rfl (fun h => by cases h) ?_)
  obtain ⟨r_1, hr1, h⟩ := bnd h
  have hz1 : (zout1 && [c_1].isEmpty) = true → r_1 = [] := app_nil (z := zout1) (ys := [c_1]) hzout1 hr1
  refine un (a2v rfl (s_app (xs := out1) (ys := [c_1]) (e := (eK .u8)) (z := zout1) (b := 3) rfl rfl hzout1 rfl rfl (slc_lst rfl (List.length_map _).symm (map_nil_of (fun h => by cases h))) hr1) (fun h => by cases h) ?_)
  refine un (a1 rfl ?_)
  refine dnil ?_
  exact hself r12 r22 r_1 zr22 hzr22 (zout1 && [c_1].isEmpty) hz1 h _ (weak_canon [0, 1, 2, 5] rfl (by decide) (by decide) (by decide) (.cons rfl (.c (lstC_ren rfl (by decide))) (.cons rfl (.c (.ref rfl (by decide))) (.cons rfl (.c (.ref rfl (by decide))) .nil))) (.row (by decide) rfl (fr_map fun _ => rfl) (.box (by decide) rfl (blkAs_cells (.cons (.same rfl) (.cons (.same rfl) (.cons (.same rfl) (.cons (.same rfl) (.cons (.same rfl) .nil)))))) (.row (by decide) rfl (fr_map fun _ => rfl) (.box (by decide) rfl (blkAs_cells (.cons (.same rfl) (.cons (.same rfl) (.cons (lstC_ren rfl (by decide)) .nil)))) .nil)))))
noncomputable def clerestory_jlex_reader_text1_l0 (r_ : Treader) (K0_ : Int → (List TJTok) → Option (TJTok × Int × Treader)) : Nat → Int → (List TJTok) → (List Int) → Option (TJTok × Int × Treader)
  | 0, _, _, _ => none
  | k + 1, r1, r2, out =>
    if decide (r1 < (r_.f_s.length : Int)) then
      (at? r_.f_s r1).bind fun c_ =>
      if decide ((c_.toNat : Int) = 34) then
        some ((⟨3, 0, 0, (byts out), 0⟩ : TJTok), 0, (⟨r_.f_s, (wi (r1 + 1)), r2⟩ : Treader))
      else
        if decide ((c_.toNat : Int) < 32) then
          some ((⟨0, 0, 0, [], 0⟩ : TJTok), 4, (⟨r_.f_s, (wi (r1 + 1)), r2⟩ : Treader))
        else
          if decide ((c_.toNat : Int) = 92) then
            (clerestory_jlex_reader_escape (⟨r_.f_s, (wi (r1 + 1)), r2⟩ : Treader)).bind fun r_2 =>
            if decide (r_2.2 = 0) then
              some ((⟨0, 0, 0, [], 0⟩ : TJTok), 4, (⟨r_.f_s, (wi (r1 + 1)), r2⟩ : Treader))
            else
              clerestory_jlex_reader_text1_j3 r_ (clerestory_jlex_reader_text1_l0 r_ K0_ k) K0_ (wi ((wi (r1 + 1)) + r_2.2)) r2 out r_2.1
          else
            clerestory_jlex_reader_text1_j3 r_ (clerestory_jlex_reader_text1_l0 r_ K0_ k) K0_ (wi (r1 + 1)) r2 out (c_.toNat : Int)
    else
      K0_ r1 r2
theorem clerestory_jlex_reader_text1_l0_ok {mL : Int} {Q : AExit → St → Prop} {r_ : Treader} {K0_ : Int → (List TJTok) → Option (TJTok × Int × Treader)} {k : Nat} {r1 : Int} {r2 : (List TJTok)} {out : (List Int)} {zr2 : Bool} (hzr2 : zr2 = true → r2 = []) {zout : Bool} (hzout : zout = true → out = []) {o : (TJTok × Int × Treader)} (h : clerestory_jlex_reader_text1_l0 r_ K0_ k r1 r2 out = some o)
    (hK0 : ∀ (r11 : Int) (r21 : (List TJTok)) (zr21 : Bool) (_ : zr21 = true → r21 = []), K0_ r11 r21 = some o → ∀ s, Weak 2 s ⟨(upd (upd (fun _ => none) 0 (some (.c (.ref 0 3 0 0)))) 2 (some (.c (.ref 2 5 0 0)))), (upd (upd (upd (fun _ => none) 0 (some (.cells 3 [[.str r_.f_s, cI r11, lstC zr21 1 5 r21.length]]))) 1 (lstB zr21 5 (r21.map e_TJTok))) 2 (some (.cells 5 [[cI 0, cI 0, cI 0, .str [], cI 0]]))), 3⟩ → Q (.exit 0) s)
    (hr : ∀ s, Ends a105.results 2 (clerestory_jlex_reader_text1_post o) .ret s → Q .ret s) :
    Sv Tryd.prog (GG mL) 2 (.loop a105_clerestory_jlex_reader_text1_c1) Q ⟨(upd (upd (upd (fun _ => none) 0 (some (.c (.ref 0 3 0 0)))) 2 (some (.c (.ref 2 5 0 0)))) 4 (some (lstV zout 3 1 out.length))), (upd (upd (upd (upd (fun _ => none) 0 (some (.cells 3 [[.str r_.f_s, cI r1, lstC zr2 1 5 r2.length]]))) 1 (lstB zr2 5 (r2.map e_TJTok))) 2 (some (.cells 5 [[cI 0, cI 0, cI 0, .str [], cI 0]]))) 3 (lstB zout 1 (out.map (eK .u8)))), 4⟩ := by
  refine Sv.loop (I := fun k s => ∃ (r1 : Int), ∃ (r2 : (List TJTok)), ∃ (out : (List Int)), ∃ (zr2 : Bool), (zr2 = true → r2 = []) ∧ ∃ (zout : Bool), (zout = true → out = []) ∧ clerestory_jlex_reader_text1_l0 r_ K0_ k r1 r2 out = some o ∧ s = ⟨(upd (upd (upd (fun _ => none) 0 (some (.c (.ref 0 3 0 0)))) 2 (some (.c (.ref 2 5 0 0)))) 4 (some (lstV zout 3 1 out.length))), (upd (upd (upd (upd (fun _ => none) 0 (some (.cells 3 [[.str r_.f_s, cI r1, lstC zr2 1 5 r2.length]]))) 1 (lstB zr2 5 (r2.map e_TJTok))) 2 (some (.cells 5 [[cI 0, cI 0, cI 0, .str [], cI 0]]))) 3 (lstB zout 1 (out.map (eK .u8)))), 4⟩) (fun k s hI => ?_) ⟨r1, r2, out, zr2, hzr2, zout, hzout, h, rfl⟩
  clear h
  clear hzout hzr2 zout zr2 out r2 r1
  obtain ⟨r1, r2, out, zr2, hzr2, zout, hzout, h, rfl⟩ := hI
  cases k with
  | zero => cases h
  | succ k =>
  rw [clerestory_jlex_reader_text1_l0] at h
  have hself : ∀ (r1 : Int) (r2 : (List TJTok)) (out : (List Int)) (zr2 : Bool) (_ : zr2 = true → r2 = []) (zout : Bool) (_ : zout = true → out = []), (clerestory_jlex_reader_text1_l0 r_ K0_ k) r1 r2 out = some o → ∀ s, Weak 2 s ⟨(upd (upd (upd (fun _ => none) 0 (some (.c (.ref 0 3 0 0)))) 2 (some (.c (.ref 2 5 0 0)))) 4 (some (lstV zout 3 1 out.length))), (upd (upd (upd (upd (fun _ => none) 0 (some (.cells 3 [[.str r_.f_s, cI r1, lstC zr2 1 5 r2.length]]))) 1 (lstB zr2 5 (r2.map e_TJTok))) 2 (some (.cells 5 [[cI 0, cI 0, cI 0, .str [], cI 0]]))) 3 (lstB zout 1 (out.map (eK .u8)))), 4⟩ → (AThen (fun s' => ∃ s'' k', Weak 2 s' s'' ∧ k' < k + 1 ∧ (fun k s => ∃ (r1 : Int), ∃ (r2 : (List TJTok)), ∃ (out : (List Int)), ∃ (zr2 : Bool), (zr2 = true → r2 = []) ∧ ∃ (zout : Bool), (zout = true → out = []) ∧ clerestory_jlex_reader_text1_l0 r_ K0_ k r1 r2 out = some o ∧ s = ⟨(upd (upd (upd (fun _ => none) 0 (some (.c (.ref 0 3 0 0)))) 2 (some (.c (.ref 2 5 0 0)))) 4 (some (lstV zout 3 1 out.length))), (upd (upd (upd (upd (fun _ => none) 0 (some (.cells 3 [[.str r_.f_s, cI r1, lstC zr2 1 5 r2.length]]))) 1 (lstB zr2 5 (r2.map e_TJTok))) 2 (some (.cells 5 [[cI 0, cI 0, cI 0, .str [], cI 0]]))) 3 (lstB zout 1 (out.map (eK .u8)))), 4⟩) k' s'') Q) .normal s := fun r1 r2 out zr2 hzr2 zout hzout h s hw => ⟨_, k, hw, Nat.lt_succ_self k, r1, r2, out, zr2, hzr2, zout, hzout, h, rfl⟩
  refine Sv.seq ?_
  refine Sv.seq ?_
  refine Sv.drawn ?_
  refine un (a1 rfl ?_)
  refine un (a1 (v := (.c (.ref 0 3 0 0))) rfl ?_)
  refine un (a1 (v := (.c (.ref 0 3 0 1))) rfl ?_)
  refine un (a1 (v := (I r1)) rfl ?_)
  refine un (a1 rfl ?_)
  refine un (a1 (v := (.c (.ref 0 3 0 0))) rfl ?_)
  refine un (a1 (v := (.c (.ref 0 3 0 0))) rfl ?_)
  refine un (a1 (v := (S r_.f_s)) rfl ?_)
  refine un (a1 (v := (I (r_.f_s.length : Int))) rfl ?_)
  refine un (a1 (v := (B (decide (r1 < (r_.f_s.length : Int))))) rfl ?_)
  refine dnil ?_
  refine Sv.cond (b := decide (r1 < (r_.f_s.length : Int))) rfl (fun hc1 => ?_) (fun hc1 => ?_)
  · replace h := ifT hc1 h
    refine Sv.skip ?_
    refine Sv.block ?_
    refine Sv.seq ?_
    refine Sv.drawn ?_
    refine un (a1 rfl ?_)
    refine un (a1 (v := (.c (.ref 0 3 0 0))) rfl ?_)
    refine un (a1 (v := (.c (.ref 0 3 0 0))) rfl ?_)
    refine un (a1 (v := (S r_.f_s)) rfl ?_)
    refine un (a1 rfl ?_)
    refine un (a1 (v := (.c (.ref 0 3 0 0))) rfl ?_)
    refine un (a1 (v := (.c (.ref 0 3 0 1))) rfl ?_)
    refine un (a1 (v := (I r1)) rfl ?_)
    obtain ⟨c_, hx1, h⟩ := bnd h
    refine un (a1 (v := (.c (.val (.int .u8 (c_.toNat : Int))))) (s_idxS rfl rfl hx1) ?_)
    refine un (a1 rfl ?_)
    refine dnil ?_
    refine Sv.seq ?_
    refine Sv.region ?_
    refine un (a1 rfl ?_)
    refine un (a1 (v := (.c (.ref 0 3 0 0))) rfl ?_)
    refine un (a1 (v := (.c (.ref 0 3 0 1))) rfl ?_)
    refine un (a1 (v := (I r1)) rfl ?_)
    refine un (a1 (v := (I (wi (r1 + 1)))) rfl ?_)
    refine un (a1 (v := (.c (.ref 0 3 0 0))) rfl ?_)
    refine un (a1 (v := (.c (.ref 0 3 0 1))) rfl ?_)
    refine un (a2n (h' := upd _ 0 (some (.cells 3 [[.str r_.f_s, cI (wi (r1 + 1)), lstC zr2 1 5 r2.length]]))) (n' := 4) rfl rfl (fun h => by cases h) ?_)
    refine dnil ?_
    refine Sv.seq ?_
    refine Sv.block ?_
    refine Sv.seq ?_
    refine Sv.region ?_
    refine un (a1 rfl ?_)
    refine un (a1 (v := (B (decide ((c_.toNat : Int) = 34)))) rfl ?_)
    refine un (a1 rfl ?_)
    refine dnil ?_
    refine Sv.cond (b := decide ((c_.toNat : Int) = 34)) rfl (fun hc2 => ?_) (fun hc2 => ?_)
    · replace h := ifT hc2 h
      refine Sv.seq ?_
      refine Sv.region ?_
      refine un (a1 rfl ?_)
      refine un (a1 (v := (S (byts out))) (s_ofBytes (xs := out) rfl (slc_lst rfl (List.length_map _).symm (map_nil_of hzout))) ?_)
      refine un (a1 (v := (.agg [cI 3, cI 0, cI 0, .str (byts out), cI 0])) rfl ?_)
      refine un (a2n (h' := upd _ 2 (some (.cells 5 [[cI 3, cI 0, cI 0, .str (byts out), cI 0]]))) (n' := 4) rfl rfl (fun h => by cases h) ?_)
      refine un (a1 rfl ?_)
      refine dnil ?_
      refine Sv.ret ?_
      replace h := Option.some.inj h
      subst h
      exact hr _ ⟨_, .refl _, _, rfl, ⟨upd (fun _ => none) 0 (some (.tup [(.agg [cI 3, cI 0, cI 0, .str (byts out), cI 0]), (I 0)])), (upd (upd (fun _ => none) 0 (some (.cells 3 [[.str r_.f_s, cI (wi (r1 + 1)), lstC zr2 2 5 r2.length]]))) 2 (lstB zr2 5 (r2.map e_TJTok))), 3⟩, (.tup [(.agg [cI 3, cI 0, cI 0, .str (byts out), cI 0]), (I 0)]), weak_canon2 [0, 1, 1] [0, 2] (by decide) (by decide) (by decide) (.cons (by decide) (.cons (by decide) .nil)) (.cons rfl (avAs_tup (.cons (avAs_free rfl) (.cons (avAs_free rfl) .nil))) .nil) (.row (by decide) rfl (fr_map fun _ => rfl) (.box (by decide) rfl (blkAs_cells (.cons (.same rfl) (.cons (.same rfl) (.cons (lstC_ren rfl (by decide)) .nil)))) .nil)), rfl, zr2, hzr2, rfl, rfl, rfl⟩
    · replace h := ifF hc2 h
      refine Sv.seq ?_
      refine Sv.region ?_
      refine un (a1 rfl ?_)
      refine un (a1 (v := (B (decide ((c_.toNat : Int) < 32)))) rfl ?_)
      refine un (a1 rfl ?_)
      refine dnil ?_
      refine Sv.cond (b := decide ((c_.toNat : Int) < 32)) rfl (fun hc3 => ?_) (fun hc3 => ?_)
      · replace h := ifT hc3 h
        refine Sv.seq ?_
        refine Sv.region ?_
        refine un (a1 (v := (.agg [cI 0, cI 0, cI 0, .str [], cI 0])) rfl ?_)
        refine un (a2n (h' := upd _ 2 (some (.cells 5 [[cI 0, cI 0, cI 0, .str [], cI 0]]))) (n' := 4) rfl rfl (fun h => by cases h) ?_)
        refine un (a1 rfl ?_)
        refine dnil ?_
        refine Sv.ret ?_
        replace h := Option.some.inj h
        subst h
        exact hr _ ⟨_, .refl _, _, rfl, ⟨upd (fun _ => none) 0 (some (.tup [(.agg [cI 0, cI 0, cI 0, .str [], cI 0]), (I 4)])), (upd (upd (fun _ => none) 0 (some (.cells 3 [[.str r_.f_s, cI (wi (r1 + 1)), lstC zr2 2 5 r2.length]]))) 2 (lstB zr2 5 (r2.map e_TJTok))), 3⟩, (.tup [(.agg [cI 0, cI 0, cI 0, .str [], cI 0]), (I 4)]), weak_canon2 [0, 1, 1] [0, 2] (by decide) (by decide) (by decide) (.cons (by decide) (.cons (by decide) .nil)) (.cons rfl (avAs_tup (.cons (avAs_free rfl) (.cons (avAs_free rfl) .nil))) .nil) (.row (by decide) rfl (fr_map fun _ => rfl) (.box (by decide) rfl (blkAs_cells (.cons (.same rfl) (.cons (.same rfl) (.cons (lstC_ren rfl (by decide)) .nil)))) .nil)), rfl, zr2, hzr2, rfl, rfl, rfl⟩
      · replace h := ifF hc3 h
        refine Sv.seq ?_
        refine Sv.region ?_
        refine un (a1 rfl ?_)
        refine un (a1 (v := (B (decide ((c_.toNat : Int) = 92)))) rfl ?_)
        refine un (a1 rfl ?_)
        refine dnil ?_
        refine Sv.cond (b := decide ((c_.toNat : Int) = 92)) rfl (fun hc4 => ?_) (fun hc4 => ?_)
        · replace h := ifT hc4 h
          refine Sv.seq ?_
          refine Sv.region ?_
          refine un (a1 rfl ?_)
          obtain ⟨r_2, hr2, h⟩ := bnd h
          refine un (ac_lend (h2 := (upd (upd _ 0 none) 1 none)) (clerestory_jlex_reader_escape_ok hr2) rfl (.cons (.c (ref_ro rfl (gone rfl) (.cons (.same rfl) (.cons (.same rfl) (.cons (lstC_ro (es := List.map e_TJTok r2) rfl (List.length_map e_TJTok).symm (map_nil_of hzr2) (gone rfl) (fr_map fun _ => rfl)) .nil))) rfl)) .nil) (hsub_none (hsub_none (hsub_refl _))) rfl rfl (.inr rfl) ?_)
          refine un (a1 rfl ?_)
          refine un (a1 (v := (.c (.val (.int .u8 r_2.1)))) rfl ?_)
          refine un (a1 (v := (I r_2.2)) rfl ?_)
          refine un (a1 rfl ?_)
          refine un (a1 rfl ?_)
          refine dnil ?_
          refine Sv.seq ?_
          refine Sv.seq ?_
          refine Sv.region ?_
          refine un (a1 rfl ?_)
          refine un (a1 (v := (B (decide (r_2.2 = 0)))) rfl ?_)
          refine dnil ?_
          refine Sv.cond (b := decide (r_2.2 = 0)) rfl (fun hc5 => ?_) (fun hc5 => ?_)
          · replace h := ifT hc5 h
            refine Sv.seq ?_
            refine Sv.region ?_
            refine un (a1 (v := (.agg [cI 0, cI 0, cI 0, .str [], cI 0])) rfl ?_)
            refine un (a2n (h' := upd _ 2 (some (.cells 5 [[cI 0, cI 0, cI 0, .str [], cI 0]]))) (n' := 4) rfl rfl (fun h => by cases h) ?_)
            refine un (a1 rfl ?_)
            refine dnil ?_
            refine Sv.ret ?_
            replace h := Option.some.inj h
            subst h
            exact hr _ ⟨_, .refl _, _, rfl, ⟨upd (fun _ => none) 0 (some (.tup [(.agg [cI 0, cI 0, cI 0, .str [], cI 0]), (I 4)])), (upd (upd (fun _ => none) 0 (some (.cells 3 [[.str r_.f_s, cI (wi (r1 + 1)), lstC zr2 2 5 r2.length]]))) 2 (lstB zr2 5 (r2.map e_TJTok))), 3⟩, (.tup [(.agg [cI 0, cI 0, cI 0, .str [], cI 0]), (I 4)]), weak_canon2 [0, 1, 1] [0, 2] (by decide) (by decide) (by decide) (.cons (by decide) (.cons (by decide) .nil)) (.cons rfl (avAs_tup (.cons (avAs_free rfl) (.cons (avAs_free rfl) .nil))) .nil) (.row (by decide) rfl (fr_map fun _ => rfl) (.box (by decide) rfl (blkAs_cells (.cons (.same rfl) (.cons (.same rfl) (.cons (lstC_ren rfl (by decide)) .nil)))) .nil)), rfl, zr2, hzr2, rfl, rfl, rfl⟩
          · replace h := ifF hc5 h
            refine Sv.skip ?_
            refine Sv.seq ?_
            refine Sv.region ?_
            refine un (a1 rfl ?_)
            refine un (a1 rfl ?_)
            refine dnil ?_
            refine Sv.region ?_
            refine un (a1 rfl ?_)
            refine un (a1 (v := (.c (.ref 0 3 0 0))) rfl ?_)
            refine un (a1 (v := (.c (.ref 0 3 0 1))) rfl ?_)
            refine un (a1 (v := (I (wi (r1 + 1)))) rfl ?_)
            refine un (a1 rfl ?_)
            refine un (a1 (v := (I (wi ((wi (r1 + 1)) + r_2.2)))) rfl ?_)
            refine un (a1 (v := (.c (.ref 0 3 0 0))) rfl ?_)
            refine un (a1 (v := (.c (.ref 0 3 0 1))) rfl ?_)
            refine un (a2n (h' := upd _ 0 (some (.cells 3 [[.str r_.f_s, cI (wi ((wi (r1 + 1)) + r_2.2)), lstC zr2 1 5 r2.length]]))) (n' := 4) rfl rfl (fun h => by cases h) ?_)
            refine dnil ?_
            exact Sv.weak (weak_canon [0, 1, 2, 3] rfl (by decide) (by decide) (by decide) (.cons rfl (avAs_free rfl) (.cons rfl (.c (lstC_ren rfl (by decide))) (.cons rfl (.c (.ref rfl (by decide))) (.cons rfl (.c (.ref rfl (by decide))) .nil)))) (.row (by decide) rfl (fr_map fun _ => rfl) (.box (by decide) rfl (blkAs_cells (.cons (.same rfl) (.cons (.same rfl) (.cons (.same rfl) (.cons (.same rfl) (.cons (.same rfl) .nil)))))) (.row (by decide) rfl (fr_map fun _ => rfl) (.box (by decide) rfl (blkAs_cells (.cons (.same rfl) (.cons (.same rfl) (.cons (lstC_ren rfl (by decide)) .nil)))) .nil))))) (clerestory_jlex_reader_text1_j3_ok hzr2 hzout h hself hK0 hr)
        · replace h := ifF hc4 h
          refine Sv.skip ?_
          exact Sv.weak (weak_canon [0, 1, 2, 3] rfl (by decide) (by decide) (by decide) (.cons rfl (avAs_free rfl) (.cons rfl (.c (lstC_ren rfl (by decide))) (.cons rfl (.c (.ref rfl (by decide))) (.cons rfl (.c (.ref rfl (by decide))) .nil)))) (.row (by decide) rfl (fr_map fun _ => rfl) (.box (by decide) rfl (blkAs_cells (.cons (.same rfl) (.cons (.same rfl) (.cons (.same rfl) (.cons (.same rfl) (.cons (.same rfl) .nil)))))) (.row (by decide) rfl (fr_map fun _ => rfl) (.box (by decide) rfl (blkAs_cells (.cons (.same rfl) (.cons (.same rfl) (.cons (lstC_ren rfl (by decide)) .nil)))) .nil))))) (clerestory_jlex_reader_text1_j3_ok hzr2 hzout h hself hK0 hr)
  · replace h := ifF hc1 h
    refine Sv.exit ?_
    exact hK0 r1 r2 zr2 hzr2 h _ (weak_canon [0, 1, 2] rfl (by decide) (by decide) (by decide) (.cons rfl (.c (.ref rfl (by decide))) (.cons rfl (.c (.ref rfl (by decide))) .nil)) (.box (by decide) rfl (blkAs_cells (.cons (.same rfl) (.cons (.same rfl) (.cons (.same rfl) (.cons (.same rfl) (.cons (.same rfl) .nil)))))) (.row (by decide) rfl (fr_map fun _ => rfl) (.box (by decide) rfl (blkAs_cells (.cons (.same rfl) (.cons (.same rfl) (.cons (lstC_ren rfl (by decide)) .nil)))) .nil))))
/-- (*clerestory/jlex.reader).text -/
noncomputable def clerestory_jlex_reader_text1 (r_ : Treader) : Option (TJTok × Int × Treader) :=
  lim fun kk => clerestory_jlex_reader_text1_l0 r_ (fun (r11 : Int) (r21 : (List TJTok)) => 
      some ((⟨0, 0, 0, [], 0⟩ : TJTok), 4, (⟨r_.f_s, r11, r21⟩ : Treader))) kk (wi (r_.f_at + 1)) r_.f_out ([] : List Int)
theorem clerestory_jlex_reader_text1_ok {mL : Int} {r_ : Treader} {zr : Bool} (hzr : zr = true → r_.f_out = []) {r : (TJTok × Int × Treader)} (h : clerestory_jlex_reader_text1 r_ = some r) : ACalls Tryd.prog (GG mL) 105 [(.c (.ref 0 3 0 0))] (upd (upd (fun _ => none) 0 (some (.cells 3 [[.str r_.f_s, cI r_.f_at, lstC zr 1 5 r_.f_out.length]]))) 1 (lstB zr 5 (r_.f_out.map e_TJTok))) 2 (clerestory_jlex_reader_text1_post r) := by
  refine acalls_of_sv hmix c105 (R := clerestory_jlex_reader_text1_post r) ?_
  unfold clerestory_jlex_reader_text1 at h
  refine Sv.seq ?_
  refine Sv.region ?_
  refine un (a2v (v := (.c (.ref 2 5 0 0))) (h' := upd _ 2 (some (.cells 5 [[cI 0, cI 0, cI 0, .str [], cI 0]]))) (n' := 3) rfl rfl (fun h => by cases h) ?_)
  refine un (a1 rfl ?_)
  refine dnil ?_
  refine Sv.seq ?_
  refine Sv.region ?_
  refine un (a1 rfl ?_)
  refine dnil ?_
  refine Sv.seq ?_
  refine Sv.seq ?_
  refine Sv.region ?_
  refine un (a1 rfl ?_)
  refine un (a1 (v := (.c (.ref 0 3 0 0))) rfl ?_)
  refine un (a1 (v := (.c (.ref 0 3 0 1))) rfl ?_)
  refine un (a1 (v := (I r_.f_at)) rfl ?_)
  refine un (a1 (v := (I (wi (r_.f_at + 1)))) rfl ?_)
  refine un (a1 (v := (.c (.ref 0 3 0 0))) rfl ?_)
  refine un (a1 (v := (.c (.ref 0 3 0 1))) rfl ?_)
  refine un (a2n (h' := upd _ 0 (some (.cells 3 [[.str r_.f_s, cI (wi (r_.f_at + 1)), lstC zr 1 5 r_.f_out.length]]))) (n' := 3) rfl rfl (fun h => by cases h) ?_)
  refine dnil ?_
  refine Sv.block ?_
  obtain ⟨kk, h⟩ := lim_some h
  refine Sv.weak (weak_canon [0, 1, 2, 1000] rfl (by decide) (by decide) (by decide) (.cons rfl (.c (.same rfl)) (.cons rfl (.c (.ref rfl (by decide))) (.cons rfl (.c (.ref rfl (by decide))) .nil))) (.non (by decide) (.box (by decide) rfl (blkAs_cells (.cons (.same rfl) (.cons (.same rfl) (.cons (.same rfl) (.cons (.same rfl) (.cons (.same rfl) .nil)))))) (.row (by decide) rfl (fr_map fun _ => rfl) (.box (by decide) rfl (blkAs_cells (.cons (.same rfl) (.cons (.same rfl) (.cons (lstC_ren rfl (by decide)) .nil)))) .nil))))) (clerestory_jlex_reader_text1_l0_ok hzr (fun _ => rfl) h ?_ (fun s hs => hs))
  · intro r11 r21 zr21 hzr21 h _ hw1
    refine Sv.weak hw1 ?_
    refine Sv.seq ?_
    refine Sv.region ?_
    refine un (a1 (v := (.agg [cI 0, cI 0, cI 0, .str [], cI 0])) rfl ?_)
    refine un (a2n (h' := upd _ 2 (some (.cells 5 [[cI 0, cI 0, cI 0, .str [], cI 0]]))) (n' := 3) rfl rfl (fun h => by cases h) ?_)
    refine un (a1 rfl ?_)
    refine dnil ?_
    refine Sv.ret ?_
    replace h := Option.some.inj h
    subst h
    exact ⟨_, .refl _, _, rfl, ⟨upd (fun _ => none) 0 (some (.tup [(.agg [cI 0, cI 0, cI 0, .str [], cI 0]), (I 4)])), (upd (upd (fun _ => none) 0 (some (.cells 3 [[.str r_.f_s, cI r11, lstC zr21 2 5 r21.length]]))) 2 (lstB zr21 5 (r21.map e_TJTok))), 3⟩, (.tup [(.agg [cI 0, cI 0, cI 0, .str [], cI 0]), (I 4)]), weak_canon2 [0, 1, 1] [0, 2] (by decide) (by decide) (by decide) (.cons (by decide) (.cons (by decide) .nil)) (.cons rfl (avAs_tup (.cons (avAs_free rfl) (.cons (avAs_free rfl) .nil))) .nil) (.row (by decide) rfl (fr_map fun _ => rfl) (.box (by decide) rfl (blkAs_cells (.cons (.same rfl) (.cons (.same rfl) (.cons (lstC_ren rfl (by decide)) .nil)))) .nil)), rfl, zr21, hzr21, rfl, rfl, rfl⟩
def a106_clerestory_jlex_reader_sign1_c0 : ACode := (.region [⟨(some 51), (.bin .add (.tmp 8) (.const (.c (.val (.int .i64 1))))), none⟩, ⟨(some 8), (.mov (.tmp 51)), none⟩])
def a106_clerestory_jlex_reader_sign1_c1 : ACode := (.seq (.region [⟨(some 9), (.bin .lss (.tmp 8) (.const (.c (.val (.int .i64 2))))), none⟩])
 (.seq (.cond (.tmp 9) .skip (.exit 0))
 (.seq (.block 1 (.seq (.region [⟨(some 10), (.idxA false 2 1 (.tmp 7) (.tmp 8)), none⟩, ⟨(some 5), (.mov (.tmp 10)), none⟩])
 (.seq (.seq (.drawn (.fin [(⟨(some 11), (.mov (.tmp 0)), none⟩, (0, 0)), (⟨(some 12), (.nilc (.tmp 11)), none⟩, (0, 1)), (⟨(some 13), (.faddr 1 (.tmp 12)), none⟩, (0, 2)), (⟨(some 14), (.load false 1 (.tmp 13)), none⟩, (0, 3)), (⟨(some 15), (.mov (.tmp 5)), none⟩, (0, 4)), (⟨(some 16), (.bin .add (.tmp 14) (.tmp 15)), none⟩, (0, 5)), (⟨(some 17), (.mov (.tmp 0)), none⟩, (0, 6)), (⟨(some 18), (.nilc (.tmp 17)), none⟩, (0, 7)), (⟨(some 19), (.faddr 0 (.tmp 18)), none⟩, (0, 8)), (⟨(some 20), (.load false 1 (.tmp 19)), none⟩, (0, 9)), (⟨(some 21), (.lenS (.tmp 20)), none⟩, (0, 10)), (⟨(some 22), (.bin .gtr (.tmp 16) (.tmp 21)), none⟩, (0, 11))]))
 (.cond (.tmp 22) (.exit 1) .skip))
 (.seq (.drawn (.fin [(⟨(some 23), (.mov (.tmp 0)), none⟩, (0, 0)), (⟨(some 24), (.nilc (.tmp 23)), none⟩, (0, 1)), (⟨(some 25), (.faddr 0 (.tmp 24)), none⟩, (0, 2)), (⟨(some 26), (.load false 1 (.tmp 25)), none⟩, (0, 3)), (⟨(some 27), (.mov (.tmp 0)), none⟩, (0, 4)), (⟨(some 28), (.nilc (.tmp 27)), none⟩, (0, 5)), (⟨(some 29), (.faddr 1 (.tmp 28)), none⟩, (0, 6)), (⟨(some 30), (.load false 1 (.tmp 29)), none⟩, (0, 7)), (⟨(some 31), (.mov (.tmp 0)), none⟩, (0, 8)), (⟨(some 32), (.nilc (.tmp 31)), none⟩, (0, 9)), (⟨(some 33), (.faddr 1 (.tmp 32)), none⟩, (0, 10)), (⟨(some 34), (.load false 1 (.tmp 33)), none⟩, (0, 11)), (⟨(some 35), (.mov (.tmp 5)), none⟩, (0, 12)), (⟨(some 36), (.bin .add (.tmp 34) (.tmp 35)), none⟩, (0, 13)), (⟨(some 37), (.slStr (.tmp 26) (some (.tmp 30)) (some (.tmp 36))), none⟩, (0, 14)), (⟨(some 6), (.mov (.tmp 37)), none⟩, (0, 15))]))
 (.seq (.region [⟨(some 38), (.call 139 [(.const (.c (.str [61, 61, 32, 33, 61, 32, 60, 61, 32, 62, 61, 32, 38, 38, 32, 124, 124, 32, 61, 32, 33, 32, 60, 32, 62, 32, 43, 32, 45, 32, 42, 32, 47, 32, 37, 32, 40, 32, 41, 32, 91, 32, 93, 32, 123, 32, 125, 32, 44, 32, 59, 32, 58, 32, 46, 32, 63])))]), none⟩, ⟨(some 39), (.mov (.tmp 6)), none⟩, ⟨(some 40), (.call 113 [(.tmp 38), (.tmp 39)]), none⟩])
 (.cond (.tmp 40) (.seq (.region [⟨(some 41), (.mov (.tmp 0)), none⟩, ⟨(some 42), (.nilc (.tmp 41)), none⟩, ⟨(some 43), (.faddr 1 (.tmp 42)), none⟩, ⟨(some 44), (.load false 1 (.tmp 43)), none⟩, ⟨(some 45), (.mov (.tmp 5)), none⟩, ⟨(some 46), (.bin .add (.tmp 44) (.tmp 45)), none⟩, ⟨(some 47), (.nilc (.tmp 41)), none⟩, ⟨(some 48), (.faddr 1 (.tmp 47)), none⟩, ⟨none, (.store 1 (.tmp 48) (.tmp 46)), none⟩])
 (.seq (.region [⟨(some 49), (.mov (.tmp 6)), none⟩, ⟨(some 50), (.build [(.val (.int .i64 0)), (.val (.int .i64 0)), (.val (.int .i64 0)), (.str []), (.val (.int .i64 0))] [(0, (1, (.const (.c (.val (.int .i64 4)))))), (3, (1, (.tmp 49)))]), none⟩, ⟨none, (.store 5 (.tmp 2) (.tmp 50)), none⟩, ⟨(some 3), (.mov (.const (.c (.val (.int .i64 0))))), none⟩])
 .ret)) .skip))))))
 a106_clerestory_jlex_reader_sign1_c0)))
def clerestory_jlex_reader_sign1_post (r : (TJTok × Int × Treader)) : AV → Heap → Nat → Prop := fun v h' n' => ∃ z0 : Bool, (z0 = true → r.2.2.f_out = []) ∧ v = (.tup [(.agg [cI r.1.Kind, cI r.1.From, cI r.1.To, .str r.1.Text, cI r.1.Num]), (I r.2.1)]) ∧ (h' = (upd (upd (fun _ => none) 0 (some (.cells 3 [[.str r.2.2.f_s, cI r.2.2.f_at, lstC z0 2 5 r.2.2.f_out.length]]))) 2 (lstB z0 5 (r.2.2.f_out.map e_TJTok)))) ∧ n' = 3
noncomputable def clerestory_jlex_reader_sign1_j3 (v8 : Int) (r_ : Treader) (self : (List TJTok) → Int → Option (TJTok × Int × Treader)) (K0_ : (List TJTok) → Option (TJTok × Int × Treader)) (r22 : (List TJTok)) : Option (TJTok × Int × Treader) :=
  self r22 (wi (v8 + 1))
theorem clerestory_jlex_reader_sign1_j3_ok {mL : Int} {Q : AExit → St → Prop} {v8 : Int} {r_ : Treader} {self : (List TJTok) → Int → Option (TJTok × Int × Treader)} {K0_ : (List TJTok) → Option (TJTok × Int × Treader)} {r22 : (List TJTok)} {zr22 : Bool} (hzr22 : zr22 = true → r22 = []) {o : (TJTok × Int × Treader)} (h : clerestory_jlex_reader_sign1_j3 v8 r_ self K0_ r22 = some o)
    (hself : ∀ (r2 : (List TJTok)) (v8 : Int) (zr2 : Bool) (_ : zr2 = true → r2 = []), self r2 v8 = some o → ∀ s, Weak 2 s ⟨(upd (upd (upd (upd (fun _ => none) 0 (some (.c (.ref 0 3 0 0)))) 2 (some (.c (.ref 2 5 0 0)))) 7 (some (.agg [cI 2, cI 1]))) 8 (some (I v8))), (upd (upd (upd (fun _ => none) 0 (some (.cells 3 [[.str r_.f_s, cI r_.f_at, lstC zr2 1 5 r2.length]]))) 1 (lstB zr2 5 (r2.map e_TJTok))) 2 (some (.cells 5 [[cI 0, cI 0, cI 0, .str [], cI 0]]))), 3⟩ → (Q) .normal s)
    (hK0 : ∀ (r21 : (List TJTok)) (zr21 : Bool) (_ : zr21 = true → r21 = []), K0_ r21 = some o → ∀ s, Weak 2 s ⟨(upd (upd (fun _ => none) 0 (some (.c (.ref 0 3 0 0)))) 2 (some (.c (.ref 2 5 0 0)))), (upd (upd (upd (fun _ => none) 0 (some (.cells 3 [[.str r_.f_s, cI r_.f_at, lstC zr21 1 5 r21.length]]))) 1 (lstB zr21 5 (r21.map e_TJTok))) 2 (some (.cells 5 [[cI 0, cI 0, cI 0, .str [], cI 0]]))), 3⟩ → Q (.exit 0) s)
    (hr : ∀ s, Ends a106.results 2 (clerestory_jlex_reader_sign1_post o) .ret s → Q .ret s) :
    Sv Tryd.prog (GG mL) 2 a106_clerestory_jlex_reader_sign1_c0 Q ⟨(upd (upd (upd (upd (fun _ => none) 0 (some (.c (.ref 0 3 0 0)))) 2 (some (.c (.ref 2 5 0 0)))) 7 (some (.agg [cI 2, cI 1]))) 8 (some (I v8))), (upd (upd (upd (fun _ => none) 0 (some (.cells 3 [[.str r_.f_s, cI r_.f_at, lstC zr22 1 5 r22.length]]))) 1 (lstB zr22 5 (r22.map e_TJTok))) 2 (some (.cells 5 [[cI 0, cI 0, cI 0, .str [], cI 0]]))), 3⟩ := by
  unfold clerestory_jlex_reader_sign1_j3 at h
  refine Sv.region ?_
  refine un (a1 (v := (I (wi (v8 + 1)))) rfl ?_)
  refine un (a1 rfl ?_)
  refine dnil ?_
  exact hself r22 (wi (v8 + 1)) zr22 hzr22 h _ (weak_canon [0, 1, 2] rfl (by decide) (by decide) (by decide) (.cons rfl (avAs_free rfl) (.cons rfl (avAs_free rfl) (.cons rfl (.c (.ref rfl (by decide))) (.cons rfl (.c (.ref rfl (by decide))) .nil)))) (.box (by decide) rfl (blkAs_cells (.cons (.same rfl) (.cons (.same rfl) (.cons (.same rfl) (.cons (.same rfl) (.cons (.same rfl) .nil)))))) (.row (by decide) rfl (fr_map fun _ => rfl) (.box (by decide) rfl (blkAs_cells (.cons (.same rfl) (.cons (.same rfl) (.cons (lstC_ren rfl (by decide)) .nil)))) .nil))))
noncomputable def clerestory_jlex_reader_sign1_l0 (r_ : Treader) (K0_ : (List TJTok) → Option (TJTok × Int × Treader)) : Nat → (List TJTok) → Int → Option (TJTok × Int × Treader)
  | 0, _, _ => none
  | k + 1, r2, v8 =>
    if decide (v8 < 2) then
      (at? [2, 1] v8).bind fun x_ =>
      if decide ((r_.f_s.length : Int) < (wi (r_.f_at + x_))) then
        clerestory_jlex_reader_sign1_j3 v8 r_ (clerestory_jlex_reader_sign1_l0 r_ K0_ k) K0_ r2
      else
        (sub? r_.f_s r_.f_at (wi (r_.f_at + x_))).bind fun r_1 =>
        (strings_Fields [61, 61, 32, 33, 61, 32, 60, 61, 32, 62, 61, 32, 38, 38, 32, 124, 124, 32, 61, 32, 33, 32, 60, 32, 62, 32, 43, 32, 45, 32, 42, 32, 47, 32, 37, 32, 40, 32, 41, 32, 91, 32, 93, 32, 123, 32, 125, 32, 44, 32, 59, 32, 58, 32, 46, 32, 63]).bind fun r_2 =>
        (slices_Contains_string r_2 r_1).bind fun r_3 =>
        if r_3 then
          some ((⟨4, 0, 0, r_1, 0⟩ : TJTok), 0, (⟨r_.f_s, (wi (r_.f_at + x_)), r2⟩ : Treader))
        else
          clerestory_jlex_reader_sign1_j3 v8 r_ (clerestory_jlex_reader_sign1_l0 r_ K0_ k) K0_ r2
    else
      K0_ r2
theorem clerestory_jlex_reader_sign1_l0_ok {mL : Int} {Q : AExit → St → Prop} {r_ : Treader} {K0_ : (List TJTok) → Option (TJTok × Int × Treader)} {k : Nat} {r2 : (List TJTok)} {v8 : Int} {zr2 : Bool} (hzr2 : zr2 = true → r2 = []) {o : (TJTok × Int × Treader)} (h : clerestory_jlex_reader_sign1_l0 r_ K0_ k r2 v8 = some o)
    (hK0 : ∀ (r21 : (List TJTok)) (zr21 : Bool) (_ : zr21 = true → r21 = []), K0_ r21 = some o → ∀ s, Weak 2 s ⟨(upd (upd (fun _ => none) 0 (some (.c (.ref 0 3 0 0)))) 2 (some (.c (.ref 2 5 0 0)))), (upd (upd (upd (fun _ => none) 0 (some (.cells 3 [[.str r_.f_s, cI r_.f_at, lstC zr21 1 5 r21.length]]))) 1 (lstB zr21 5 (r21.map e_TJTok))) 2 (some (.cells 5 [[cI 0, cI 0, cI 0, .str [], cI 0]]))), 3⟩ → Q (.exit 0) s)
    (hr : ∀ s, Ends a106.results 2 (clerestory_jlex_reader_sign1_post o) .ret s → Q .ret s) :
    Sv Tryd.prog (GG mL) 2 (.loop a106_clerestory_jlex_reader_sign1_c1) Q ⟨(upd (upd (upd (upd (fun _ => none) 0 (some (.c (.ref 0 3 0 0)))) 2 (some (.c (.ref 2 5 0 0)))) 7 (some (.agg [cI 2, cI 1]))) 8 (some (I v8))), (upd (upd (upd (fun _ => none) 0 (some (.cells 3 [[.str r_.f_s, cI r_.f_at, lstC zr2 1 5 r2.length]]))) 1 (lstB zr2 5 (r2.map e_TJTok))) 2 (some (.cells 5 [[cI 0, cI 0, cI 0, .str [], cI 0]]))), 3⟩ := by
  refine Sv.loop (I := fun k s => ∃ (r2 : (List TJTok)), ∃ (v8 : Int), ∃ (zr2 : Bool), (zr2 = true → r2 = []) ∧ clerestory_jlex_reader_sign1_l0 r_ K0_ k r2 v8 = some o ∧ s = ⟨(upd (upd (upd (upd (fun _ => none) 0 (some (.c (.ref 0 3 0 0)))) 2 (some (.c (.ref 2 5 0 0)))) 7 (some (.agg [cI 2, cI 1]))) 8 (some (I v8))), (upd (upd (upd (fun _ => none) 0 (some (.cells 3 [[.str r_.f_s, cI r_.f_at, lstC zr2 1 5 r2.length]]))) 1 (lstB zr2 5 (r2.map e_TJTok))) 2 (some (.cells 5 [[cI 0, cI 0, cI 0, .str [], cI 0]]))), 3⟩) (fun k s hI => ?_) ⟨r2, v8, zr2, hzr2, h, rfl⟩
  clear h
  clear hzr2 zr2 v8 r2
  obtain ⟨r2, v8, zr2, hzr2, h, rfl⟩ := hI
  cases k with
  | zero => cases h
  | succ k =>
  rw [clerestory_jlex_reader_sign1_l0] at h
  have hself : ∀ (r2 : (List TJTok)) (v8 : Int) (zr2 : Bool) (_ : zr2 = true → r2 = []), (clerestory_jlex_reader_sign1_l0 r_ K0_ k) r2 v8 = some o → ∀ s, Weak 2 s ⟨(upd (upd (upd (upd (fun _ => none) 0 (some (.c (.ref 0 3 0 0)))) 2 (some (.c (.ref 2 5 0 0)))) 7 (some (.agg [cI 2, cI 1]))) 8 (some (I v8))), (upd (upd (upd (fun _ => none) 0 (some (.cells 3 [[.str r_.f_s, cI r_.f_at, lstC zr2 1 5 r2.length]]))) 1 (lstB zr2 5 (r2.map e_TJTok))) 2 (some (.cells 5 [[cI 0, cI 0, cI 0, .str [], cI 0]]))), 3⟩ → (AThen (fun s' => ∃ s'' k', Weak 2 s' s'' ∧ k' < k + 1 ∧ (fun k s => ∃ (r2 : (List TJTok)), ∃ (v8 : Int), ∃ (zr2 : Bool), (zr2 = true → r2 = []) ∧ clerestory_jlex_reader_sign1_l0 r_ K0_ k r2 v8 = some o ∧ s = ⟨(upd (upd (upd (upd (fun _ => none) 0 (some (.c (.ref 0 3 0 0)))) 2 (some (.c (.ref 2 5 0 0)))) 7 (some (.agg [cI 2, cI 1]))) 8 (some (I v8))), (upd (upd (upd (fun _ => none) 0 (some (.cells 3 [[.str r_.f_s, cI r_.f_at, lstC zr2 1 5 r2.length]]))) 1 (lstB zr2 5 (r2.map e_TJTok))) 2 (some (.cells 5 [[cI 0, cI 0, cI 0, .str [], cI 0]]))), 3⟩) k' s'') Q) .normal s := fun r2 v8 zr2 hzr2 h s hw => ⟨_, k, hw, Nat.lt_succ_self k, r2, v8, zr2, hzr2, h, rfl⟩
  refine Sv.seq ?_
  refine Sv.region ?_
  refine un (a1 (v := (B (decide (v8 < 2)))) rfl ?_)
  refine dnil ?_
  refine Sv.seq ?_
  refine Sv.cond (b := decide (v8 < 2)) rfl (fun hc1 => ?_) (fun hc1 => ?_)
  · replace h := ifT hc1 h
    refine Sv.skip ?_
    refine Sv.seq ?_
    refine Sv.block ?_
    refine Sv.seq ?_
    refine Sv.region ?_
    obtain ⟨x_, hx1, h⟩ := bnd h
    refine un (a1 (v := (I x_)) (s_idxA (L := [2, 1]) (v := fun q => (I q)) rfl rfl rfl (.cons rfl (.cons rfl .nil)) hx1) ?_)
    refine un (a1 rfl ?_)
    refine dnil ?_
    refine Sv.seq ?_
    refine Sv.seq ?_
    refine Sv.drawn ?_
    refine un (a1 rfl ?_)
    refine un (a1 (v := (.c (.ref 0 3 0 0))) rfl ?_)
    refine un (a1 (v := (.c (.ref 0 3 0 1))) rfl ?_)
    refine un (a1 (v := (I r_.f_at)) rfl ?_)
    refine un (a1 rfl ?_)
    refine un (a1 (v := (I (wi (r_.f_at + x_)))) rfl ?_)
    refine un (a1 rfl ?_)
    refine un (a1 (v := (.c (.ref 0 3 0 0))) rfl ?_)
    refine un (a1 (v := (.c (.ref 0 3 0 0))) rfl ?_)
    refine un (a1 (v := (S r_.f_s)) rfl ?_)
    refine un (a1 (v := (I (r_.f_s.length : Int))) rfl ?_)
    refine un (a1 (v := (B (decide ((r_.f_s.length : Int) < (wi (r_.f_at + x_)))))) rfl ?_)
    refine dnil ?_
    refine Sv.cond (b := decide ((r_.f_s.length : Int) < (wi (r_.f_at + x_)))) rfl (fun hc2 => ?_) (fun hc2 => ?_)
    · replace h := ifT hc2 h
      refine Sv.exit ?_
      exact Sv.weak (weak_canon [0, 1, 2] rfl (by decide) (by decide) (by decide) (.cons rfl (avAs_free rfl) (.cons rfl (avAs_free rfl) (.cons rfl (.c (.ref rfl (by decide))) (.cons rfl (.c (.ref rfl (by decide))) .nil)))) (.box (by decide) rfl (blkAs_cells (.cons (.same rfl) (.cons (.same rfl) (.cons (.same rfl) (.cons (.same rfl) (.cons (.same rfl) .nil)))))) (.row (by decide) rfl (fr_map fun _ => rfl) (.box (by decide) rfl (blkAs_cells (.cons (.same rfl) (.cons (.same rfl) (.cons (lstC_ren rfl (by decide)) .nil)))) .nil)))) (clerestory_jlex_reader_sign1_j3_ok hzr2 h hself hK0 hr)
    · replace h := ifF hc2 h
      refine Sv.skip ?_
      refine Sv.seq ?_
      refine Sv.drawn ?_
      refine un (a1 rfl ?_)
      refine un (a1 (v := (.c (.ref 0 3 0 0))) rfl ?_)
      refine un (a1 (v := (.c (.ref 0 3 0 0))) rfl ?_)
      refine un (a1 (v := (S r_.f_s)) rfl ?_)
      refine un (a1 rfl ?_)
      refine un (a1 (v := (.c (.ref 0 3 0 0))) rfl ?_)
      refine un (a1 (v := (.c (.ref 0 3 0 1))) rfl ?_)
      refine un (a1 (v := (I r_.f_at)) rfl ?_)
      refine un (a1 rfl ?_)
      refine un (a1 (v := (.c (.ref 0 3 0 0))) rfl ?_)
      refine un (a1 (v := (.c (.ref 0 3 0 1))) rfl ?_)
      refine un (a1 (v := (I r_.f_at)) rfl ?_)
      refine un (a1 rfl ?_)
      refine un (a1 (v := (I (wi (r_.f_at + x_)))) rfl ?_)
      obtain ⟨r_1, hx2, h⟩ := bnd h
      refine un (a1 (v := (S r_1)) (s_slStr rfl rfl rfl hx2) ?_)
      refine un (a1 rfl ?_)
      refine dnil ?_
      refine Sv.seq ?_
      refine Sv.region ?_
      obtain ⟨r_2, hr1, h⟩ := bnd h
      refine un (ac_gen (bs := []) («as» := [(S [61, 61, 32, 33, 61, 32, 60, 61, 32, 62, 61, 32, 38, 38, 32, 124, 124, 32, 61, 32, 33, 32, 60, 32, 62, 32, 43, 32, 45, 32, 42, 32, 47, 32, 37, 32, 40, 32, 41, 32, 91, 32, 93, 32, 123, 32, 125, 32, 44, 32, 59, 32, 58, 32, 46, 32, 63])]) (h2 := _) (h1 := (fun _ => none)) (strings_Fields_ok hr1) rfl (.cons (avAs_free rfl) .nil) (hsub_refl _) (.nil _) (fun _ => rfl) (by decide) (by decide) (.cons (avAs_free rfl) .nil) .nil ?_)
      rintro _ _ _ hn ⟨z_, hz_, rfl, rfl, rfl⟩
      refine ⟨.inl rfl, (upd (rem [] _) 3 (lstB z_ 1 (r_2.map eStr))), fun hbd => (m3_cons (m3_row rfl (fr_map fun _ => rfl)) (m3_rem (in_nil _) (.cons (by decide) .nil) hbd)), (lstV z_ 3 1 r_2.length), 4, (by cases z_ <;> rfl), rfl, ?_⟩
      refine un (a1 rfl ?_)
      obtain ⟨r_3, hr2, h⟩ := bnd h
      refine un (ac_lend (h2 := (upd _ 3 none)) (slices_Contains_string_ok hr2) rfl (.cons (.c (lstC_ro (es := List.map eStr r_2) rfl (List.length_map eStr).symm (map_nil_of hz_) (gone rfl) (fr_map fun _ => rfl))) (.cons (avAs_free rfl) .nil)) (hsub_none (hsub_refl _)) rfl rfl (.inr rfl) ?_)
      refine dnil ?_
      refine Sv.cond (b := r_3) rfl (fun hc3 => ?_) (fun hc3 => ?_)
      · replace h := ifT hc3 h
        refine Sv.seq ?_
        refine Sv.region ?_
        refine un (a1 rfl ?_)
        refine un (a1 (v := (.c (.ref 0 3 0 0))) rfl ?_)
        refine un (a1 (v := (.c (.ref 0 3 0 1))) rfl ?_)
        refine un (a1 (v := (I r_.f_at)) rfl ?_)
        refine un (a1 rfl ?_)
        refine un (a1 (v := (I (wi (r_.f_at + x_)))) rfl ?_)
        refine un (a1 (v := (.c (.ref 0 3 0 0))) rfl ?_)
        refine un (a1 (v := (.c (.ref 0 3 0 1))) rfl ?_)
        refine un (a2n (h' := upd _ 0 (some (.cells 3 [[.str r_.f_s, cI (wi (r_.f_at + x_)), lstC zr2 1 5 r2.length]]))) (n' := 4) rfl rfl (fun h => by cases h) ?_)
        refine dnil ?_
        refine Sv.seq ?_
        refine Sv.region ?_
        refine un (a1 rfl ?_)
        refine un (a1 (v := (.agg [cI 4, cI 0, cI 0, .str r_1, cI 0])) rfl ?_)
        refine un (a2n (h' := upd _ 2 (some (.cells 5 [[cI 4, cI 0, cI 0, .str r_1, cI 0]]))) (n' := 4) rfl rfl (fun h => by cases h) ?_)
        refine un (a1 rfl ?_)
        refine dnil ?_
        refine Sv.ret ?_
        replace h := Option.some.inj h
        subst h
        exact hr _ ⟨_, .refl _, _, rfl, ⟨upd (fun _ => none) 0 (some (.tup [(.agg [cI 4, cI 0, cI 0, .str r_1, cI 0]), (I 0)])), (upd (upd (fun _ => none) 0 (some (.cells 3 [[.str r_.f_s, cI (wi (r_.f_at + x_)), lstC zr2 2 5 r2.length]]))) 2 (lstB zr2 5 (r2.map e_TJTok))), 3⟩, (.tup [(.agg [cI 4, cI 0, cI 0, .str r_1, cI 0]), (I 0)]), weak_canon2 [0, 1, 1] [0, 2] (by decide) (by decide) (by decide) (.cons (by decide) (.cons (by decide) .nil)) (.cons rfl (avAs_tup (.cons (avAs_free rfl) (.cons (avAs_free rfl) .nil))) .nil) (.row (by decide) rfl (fr_map fun _ => rfl) (.box (by decide) rfl (blkAs_cells (.cons (.same rfl) (.cons (.same rfl) (.cons (lstC_ren rfl (by decide)) .nil)))) .nil)), rfl, zr2, hzr2, rfl, rfl, rfl⟩
      · replace h := ifF hc3 h
        refine Sv.skip ?_
        exact Sv.weak (weak_canon [0, 1, 2] rfl (by decide) (by decide) (by decide) (.cons rfl (avAs_free rfl) (.cons rfl (avAs_free rfl) (.cons rfl (.c (.ref rfl (by decide))) (.cons rfl (.c (.ref rfl (by decide))) .nil)))) (.box (by decide) rfl (blkAs_cells (.cons (.same rfl) (.cons (.same rfl) (.cons (.same rfl) (.cons (.same rfl) (.cons (.same rfl) .nil)))))) (.row (by decide) rfl (fr_map fun _ => rfl) (.box (by decide) rfl (blkAs_cells (.cons (.same rfl) (.cons (.same rfl) (.cons (lstC_ren rfl (by decide)) .nil)))) .nil)))) (clerestory_jlex_reader_sign1_j3_ok hzr2 h hself hK0 hr)
  · replace h := ifF hc1 h
    refine Sv.exit ?_
    exact hK0 r2 zr2 hzr2 h _ (weak_canon [0, 1, 2] rfl (by decide) (by decide) (by decide) (.cons rfl (.c (.ref rfl (by decide))) (.cons rfl (.c (.ref rfl (by decide))) .nil)) (.box (by decide) rfl (blkAs_cells (.cons (.same rfl) (.cons (.same rfl) (.cons (.same rfl) (.cons (.same rfl) (.cons (.same rfl) .nil)))))) (.row (by decide) rfl (fr_map fun _ => rfl) (.box (by decide) rfl (blkAs_cells (.cons (.same rfl) (.cons (.same rfl) (.cons (lstC_ren rfl (by decide)) .nil)))) .nil))))
/-- (*clerestory/jlex.reader).sign -/
noncomputable def clerestory_jlex_reader_sign1 (r_ : Treader) : Option (TJTok × Int × Treader) :=
  lim fun kk => clerestory_jlex_reader_sign1_l0 r_ (fun (r21 : (List TJTok)) => 
      some ((⟨0, 0, 0, [], 0⟩ : TJTok), 4, (⟨r_.f_s, r_.f_at, r21⟩ : Treader))) kk r_.f_out 0
theorem clerestory_jlex_reader_sign1_ok {mL : Int} {r_ : Treader} {zr : Bool} (hzr : zr = true → r_.f_out = []) {r : (TJTok × Int × Treader)} (h : clerestory_jlex_reader_sign1 r_ = some r) : ACalls Tryd.prog (GG mL) 106 [(.c (.ref 0 3 0 0))] (upd (upd (fun _ => none) 0 (some (.cells 3 [[.str r_.f_s, cI r_.f_at, lstC zr 1 5 r_.f_out.length]]))) 1 (lstB zr 5 (r_.f_out.map e_TJTok))) 2 (clerestory_jlex_reader_sign1_post r) := by
  refine acalls_of_sv hmix c106 (R := clerestory_jlex_reader_sign1_post r) ?_
  unfold clerestory_jlex_reader_sign1 at h
  refine Sv.seq ?_
  refine Sv.region ?_
  refine un (a2v (v := (.c (.ref 2 5 0 0))) (h' := upd _ 2 (some (.cells 5 [[cI 0, cI 0, cI 0, .str [], cI 0]]))) (n' := 3) rfl rfl (fun h => by cases h) ?_)
  refine un (a1 rfl ?_)
  refine dnil ?_
  refine Sv.seq ?_
  refine Sv.seq ?_
  refine Sv.region ?_
  refine un (a1 (v := (.agg [cI 2, cI 1])) rfl ?_)
  refine un (a1 rfl ?_)
  refine dnil ?_
  refine Sv.block ?_
  obtain ⟨kk, h⟩ := lim_some h
  refine Sv.weak (weak_canon [0, 1, 2] rfl (by decide) (by decide) (by decide) (.cons rfl (avAs_free rfl) (.cons rfl (avAs_free rfl) (.cons rfl (.c (.ref rfl (by decide))) (.cons rfl (.c (.ref rfl (by decide))) .nil)))) (.box (by decide) rfl (blkAs_cells (.cons (.same rfl) (.cons (.same rfl) (.cons (.same rfl) (.cons (.same rfl) (.cons (.same rfl) .nil)))))) (.row (by decide) rfl (fr_map fun _ => rfl) (.box (by decide) rfl (blkAs_cells (.cons (.same rfl) (.cons (.same rfl) (.cons (lstC_ren rfl (by decide)) .nil)))) .nil)))) (clerestory_jlex_reader_sign1_l0_ok hzr h ?_ (fun s hs => hs))
  · intro r21 zr21 hzr21 h _ hw1
    refine Sv.weak hw1 ?_
    refine Sv.seq ?_
    refine Sv.region ?_
    refine un (a1 (v := (.agg [cI 0, cI 0, cI 0, .str [], cI 0])) rfl ?_)
    refine un (a2n (h' := upd _ 2 (some (.cells 5 [[cI 0, cI 0, cI 0, .str [], cI 0]]))) (n' := 3) rfl rfl (fun h => by cases h) ?_)
    refine un (a1 rfl ?_)
    refine dnil ?_
    refine Sv.ret ?_
    replace h := Option.some.inj h
    subst h
    exact ⟨_, .refl _, _, rfl, ⟨upd (fun _ => none) 0 (some (.tup [(.agg [cI 0, cI 0, cI 0, .str [], cI 0]), (I 4)])), (upd (upd (fun _ => none) 0 (some (.cells 3 [[.str r_.f_s, cI r_.f_at, lstC zr21 2 5 r21.length]]))) 2 (lstB zr21 5 (r21.map e_TJTok))), 3⟩, (.tup [(.agg [cI 0, cI 0, cI 0, .str [], cI 0]), (I 4)]), weak_canon2 [0, 1, 1] [0, 2] (by decide) (by decide) (by decide) (.cons (by decide) (.cons (by decide) .nil)) (.cons rfl (avAs_tup (.cons (avAs_free rfl) (.cons (avAs_free rfl) .nil))) .nil) (.row (by decide) rfl (fr_map fun _ => rfl) (.box (by decide) rfl (blkAs_cells (.cons (.same rfl) (.cons (.same rfl) (.cons (lstC_ren rfl (by decide)) .nil)))) .nil)), rfl, zr21, hzr21, rfl, rfl, rfl⟩
def clerestory_jlex_reader_next1_post (r : (TJTok × Int × Treader)) : AV → Heap → Nat → Prop := fun v h' n' => ∃ z0 : Bool, (z0 = true → r.2.2.f_out = []) ∧ v = (.tup [(.agg [cI r.1.Kind, cI r.1.From, cI r.1.To, .str r.1.Text, cI r.1.Num]), (I r.2.1)]) ∧ (h' = (upd (upd (fun _ => none) 0 (some (.cells 3 [[.str r.2.2.f_s, cI r.2.2.f_at, lstC z0 2 5 r.2.2.f_out.length]]))) 2 (lstB z0 5 (r.2.2.f_out.map e_TJTok)))) ∧ n' = 3
/-- (*clerestory/jlex.reader).next -/
noncomputable def clerestory_jlex_reader_next1 (r_ : Treader) : Option (TJTok × Int × Treader) :=
  (clerestory_jlex_reader_peek r_ 0).bind fun r_1 =>
  if (jlex_letter r_1) then
    (clerestory_jlex_reader_name1 r_).bind fun r_2 =>
    some (r_2.1, 0, r_2.2)
  else
    if (jlex_digit r_1) then
      (clerestory_jlex_reader_number1 r_).bind fun r_3 =>
      some (r_3.1, r_3.2.1, r_3.2.2)
    else
      if decide (r_1 = 34) then
        (clerestory_jlex_reader_text1 r_).bind fun r_4 =>
        some (r_4.1, r_4.2.1, r_4.2.2)
      else
        (clerestory_jlex_reader_sign1 r_).bind fun r_5 =>
        some (r_5.1, r_5.2.1, r_5.2.2)
theorem clerestory_jlex_reader_next1_ok {mL : Int} {r_ : Treader} {zr : Bool} (hzr : zr = true → r_.f_out = []) {r : (TJTok × Int × Treader)} (h : clerestory_jlex_reader_next1 r_ = some r) : ACalls Tryd.prog (GG mL) 49 [(.c (.ref 0 3 0 0))] (upd (upd (fun _ => none) 0 (some (.cells 3 [[.str r_.f_s, cI r_.f_at, lstC zr 1 5 r_.f_out.length]]))) 1 (lstB zr 5 (r_.f_out.map e_TJTok))) 2 (clerestory_jlex_reader_next1_post r) := by
  refine acalls_of_sv hmix c49 (R := clerestory_jlex_reader_next1_post r) ?_
  unfold clerestory_jlex_reader_next1 at h
  refine Sv.seq ?_
  refine Sv.region ?_
  refine un (a2v (v := (.c (.ref 2 5 0 0))) (h' := upd _ 2 (some (.cells 5 [[cI 0, cI 0, cI 0, .str [], cI 0]]))) (n' := 3) rfl rfl (fun h => by cases h) ?_)
  refine un (a1 rfl ?_)
  refine dnil ?_
  refine Sv.seq ?_
  refine Sv.seq ?_
  refine Sv.region ?_
  refine un (a1 rfl ?_)
  obtain ⟨r_1, hr1, h⟩ := bnd h
  refine un (ac_lend (h2 := (upd (upd _ 0 none) 1 none)) (clerestory_jlex_reader_peek_ok hr1) rfl (.cons (.c (ref_ro rfl (gone rfl) (.cons (.same rfl) (.cons (.same rfl) (.cons (lstC_ro (es := List.map e_TJTok r_.f_out) rfl (List.length_map e_TJTok).symm (map_nil_of hzr) (gone rfl) (fr_map fun _ => rfl)) .nil))) rfl)) (.cons (avAs_free rfl) .nil)) (hsub_none (hsub_none (hsub_refl _))) rfl rfl (.inr rfl) ?_)
  refine un (a1 rfl ?_)
  refine dnil ?_
  refine Sv.block ?_
  refine Sv.seq ?_
  refine Sv.region ?_
  refine un (a1 rfl ?_)
  refine un (ac_pure (jlex_letter_ok (mL := mL) r_1) rfl rfl rfl ?_)
  refine un (a1 rfl ?_)
  refine dnil ?_
  refine Sv.cond (b := (jlex_letter r_1)) rfl (fun hc1 => ?_) (fun hc1 => ?_)
  · replace h := ifT hc1 h
    refine Sv.seq ?_
    refine Sv.region ?_
    refine un (a1 rfl ?_)
    obtain ⟨r_2, hr2, h⟩ := bnd h
    refine un (ac_gen (bs := [0, 1]) («as» := [(.c (.ref 0 3 0 0))]) (h2 := _) (h1 := (upd (upd (fun _ => none) 0 (some (.cells 3 [[.str r_.f_s, cI r_.f_at, lstC zr 1 5 r_.f_out.length]]))) 1 (lstB zr 5 (r_.f_out.map e_TJTok)))) (clerestory_jlex_reader_name1_ok hzr hr2) rfl (.cons (.c (.ref rfl (by decide))) .nil) (hsub_refl _) (.cons rfl (.cons rfl (.nil _))) (fun h => by cases h) (by decide) (by decide) (.cons (.c (.ref rfl (by decide))) .nil) (.row (by decide) rfl (fr_map fun _ => rfl) (.box (by decide) rfl (blkAs_cells (.cons (.same rfl) (.cons (.same rfl) (.cons (lstC_ren rfl (by decide)) .nil)))) .nil)) ?_)
    rintro _ _ _ hn ⟨z_, hz_, rfl, rfl, rfl⟩
    refine ⟨.inl rfl, (upd (upd (rem [0, 1] _) 0 (some (.cells 3 [[.str r_2.2.f_s, cI r_2.2.f_at, lstC z_ 3 5 r_2.2.f_out.length]]))) 3 (lstB z_ 5 (r_2.2.f_out.map e_TJTok))), fun hbd => (m3_cons (m3_row rfl (fr_map fun _ => rfl)) (m3_cons (m3_box rfl (by cases z_ <;> rfl)) (m3_rem (in_cons (by decide) (in_cons (by decide) (in_nil _))) (.cons (by decide) (.cons (by decide) .nil)) hbd))), (.agg [cI r_2.1.Kind, cI r_2.1.From, cI r_2.1.To, .str r_2.1.Text, cI r_2.1.Num]), 4, (by cases z_ <;> rfl), rfl, ?_⟩
    refine un (a2n (h' := upd _ 2 (some (.cells 5 [[cI r_2.1.Kind, cI r_2.1.From, cI r_2.1.To, .str r_2.1.Text, cI r_2.1.Num]]))) (n' := 4) rfl rfl (fun h => by cases h) ?_)
    refine un (a1 rfl ?_)
    refine dnil ?_
    refine Sv.ret ?_
    replace h := Option.some.inj h
    subst h
    exact ⟨_, .refl _, _, rfl, ⟨upd (fun _ => none) 0 (some (.tup [(.agg [cI r_2.1.Kind, cI r_2.1.From, cI r_2.1.To, .str r_2.1.Text, cI r_2.1.Num]), (I 0)])), (upd (upd (fun _ => none) 0 (some (.cells 3 [[.str r_2.2.f_s, cI r_2.2.f_at, lstC z_ 2 5 r_2.2.f_out.length]]))) 2 (lstB z_ 5 (r_2.2.f_out.map e_TJTok))), 3⟩, (.tup [(.agg [cI r_2.1.Kind, cI r_2.1.From, cI r_2.1.To, .str r_2.1.Text, cI r_2.1.Num]), (I 0)]), weak_canon2 [0, 1, 3] [0, 2] (by decide) (by decide) (by decide) (.cons (by decide) (.cons (by decide) .nil)) (.cons rfl (avAs_tup (.cons (avAs_free rfl) (.cons (avAs_free rfl) .nil))) .nil) (.row (by decide) rfl (fr_map fun _ => rfl) (.box (by decide) rfl (blkAs_cells (.cons (.same rfl) (.cons (.same rfl) (.cons (lstC_ren rfl (by decide)) .nil)))) .nil)), rfl, z_, hz_, rfl, rfl, rfl⟩
  · replace h := ifF hc1 h
    refine Sv.seq ?_
    refine Sv.region ?_
    refine un (a1 rfl ?_)
    refine un (ac_pure (jlex_digit_ok (mL := mL) r_1) rfl rfl rfl ?_)
    refine un (a1 rfl ?_)
    refine dnil ?_
    refine Sv.cond (b := (jlex_digit r_1)) rfl (fun hc2 => ?_) (fun hc2 => ?_)
    · replace h := ifT hc2 h
      refine Sv.seq ?_
      refine Sv.region ?_
      refine un (a1 rfl ?_)
      obtain ⟨r_3, hr3, h⟩ := bnd h
      refine un (ac_gen (bs := [0, 1]) («as» := [(.c (.ref 0 3 0 0))]) (h2 := _) (h1 := (upd (upd (fun _ => none) 0 (some (.cells 3 [[.str r_.f_s, cI r_.f_at, lstC zr 1 5 r_.f_out.length]]))) 1 (lstB zr 5 (r_.f_out.map e_TJTok)))) (clerestory_jlex_reader_number1_ok hzr hr3) rfl (.cons (.c (.ref rfl (by decide))) .nil) (hsub_refl _) (.cons rfl (.cons rfl (.nil _))) (fun h => by cases h) (by decide) (by decide) (.cons (.c (.ref rfl (by decide))) .nil) (.row (by decide) rfl (fr_map fun _ => rfl) (.box (by decide) rfl (blkAs_cells (.cons (.same rfl) (.cons (.same rfl) (.cons (lstC_ren rfl (by decide)) .nil)))) .nil)) ?_)
      rintro _ _ _ hn ⟨z_1, hz_1, rfl, rfl, rfl⟩
      refine ⟨.inl rfl, (upd (upd (rem [0, 1] _) 0 (some (.cells 3 [[.str r_3.2.2.f_s, cI r_3.2.2.f_at, lstC z_1 3 5 r_3.2.2.f_out.length]]))) 3 (lstB z_1 5 (r_3.2.2.f_out.map e_TJTok))), fun hbd => (m3_cons (m3_row rfl (fr_map fun _ => rfl)) (m3_cons (m3_box rfl (by cases z_1 <;> rfl)) (m3_rem (in_cons (by decide) (in_cons (by decide) (in_nil _))) (.cons (by decide) (.cons (by decide) .nil)) hbd))), (.tup [(.agg [cI r_3.1.Kind, cI r_3.1.From, cI r_3.1.To, .str r_3.1.Text, cI r_3.1.Num]), (I r_3.2.1)]), 4, (by cases z_1 <;> rfl), rfl, ?_⟩
      refine un (a1 (v := (.agg [cI r_3.1.Kind, cI r_3.1.From, cI r_3.1.To, .str r_3.1.Text, cI r_3.1.Num])) rfl ?_)
      refine un (a1 (v := (I r_3.2.1)) rfl ?_)
      refine un (a2n (h' := upd _ 2 (some (.cells 5 [[cI r_3.1.Kind, cI r_3.1.From, cI r_3.1.To, .str r_3.1.Text, cI r_3.1.Num]]))) (n' := 4) rfl rfl (fun h => by cases h) ?_)
      refine un (a1 rfl ?_)
      refine dnil ?_
      refine Sv.ret ?_
      replace h := Option.some.inj h
      subst h
      exact ⟨_, .refl _, _, rfl, ⟨upd (fun _ => none) 0 (some (.tup [(.agg [cI r_3.1.Kind, cI r_3.1.From, cI r_3.1.To, .str r_3.1.Text, cI r_3.1.Num]), (I r_3.2.1)])), (upd (upd (fun _ => none) 0 (some (.cells 3 [[.str r_3.2.2.f_s, cI r_3.2.2.f_at, lstC z_1 2 5 r_3.2.2.f_out.length]]))) 2 (lstB z_1 5 (r_3.2.2.f_out.map e_TJTok))), 3⟩, (.tup [(.agg [cI r_3.1.Kind, cI r_3.1.From, cI r_3.1.To, .str r_3.1.Text, cI r_3.1.Num]), (I r_3.2.1)]), weak_canon2 [0, 1, 3] [0, 2] (by decide) (by decide) (by decide) (.cons (by decide) (.cons (by decide) .nil)) (.cons rfl (avAs_tup (.cons (avAs_free rfl) (.cons (avAs_free rfl) .nil))) .nil) (.row (by decide) rfl (fr_map fun _ => rfl) (.box (by decide) rfl (blkAs_cells (.cons (.same rfl) (.cons (.same rfl) (.cons (lstC_ren rfl (by decide)) .nil)))) .nil)), rfl, z_1, hz_1, rfl, rfl, rfl⟩
    · replace h := ifF hc2 h
      refine Sv.seq ?_
      refine Sv.region ?_
      refine un (a1 rfl ?_)
      refine un (a1 (v := (B (decide (r_1 = 34)))) rfl ?_)
      refine un (a1 rfl ?_)
      refine dnil ?_
      refine Sv.cond (b := decide (r_1 = 34)) rfl (fun hc3 => ?_) (fun hc3 => ?_)
      · replace h := ifT hc3 h
        refine Sv.seq ?_
        refine Sv.region ?_
        refine un (a1 rfl ?_)
        obtain ⟨r_4, hr4, h⟩ := bnd h
        refine un (ac_gen (bs := [0, 1]) («as» := [(.c (.ref 0 3 0 0))]) (h2 := _) (h1 := (upd (upd (fun _ => none) 0 (some (.cells 3 [[.str r_.f_s, cI r_.f_at, lstC zr 1 5 r_.f_out.length]]))) 1 (lstB zr 5 (r_.f_out.map e_TJTok)))) (clerestory_jlex_reader_text1_ok hzr hr4) rfl (.cons (.c (.ref rfl (by decide))) .nil) (hsub_refl _) (.cons rfl (.cons rfl (.nil _))) (fun h => by cases h) (by decide) (by decide) (.cons (.c (.ref rfl (by decide))) .nil) (.row (by decide) rfl (fr_map fun _ => rfl) (.box (by decide) rfl (blkAs_cells (.cons (.same rfl) (.cons (.same rfl) (.cons (lstC_ren rfl (by decide)) .nil)))) .nil)) ?_)
        rintro _ _ _ hn ⟨z_2, hz_2, rfl, rfl, rfl⟩
        refine ⟨.inl rfl, (upd (upd (rem [0, 1] _) 0 (some (.cells 3 [[.str r_4.2.2.f_s, cI r_4.2.2.f_at, lstC z_2 3 5 r_4.2.2.f_out.length]]))) 3 (lstB z_2 5 (r_4.2.2.f_out.map e_TJTok))), fun hbd => (m3_cons (m3_row rfl (fr_map fun _ => rfl)) (m3_cons (m3_box rfl (by cases z_2 <;> rfl)) (m3_rem (in_cons (by decide) (in_cons (by decide) (in_nil _))) (.cons (by decide) (.cons (by decide) .nil)) hbd))), (.tup [(.agg [cI r_4.1.Kind, cI r_4.1.From, cI r_4.1.To, .str r_4.1.Text, cI r_4.1.Num]), (I r_4.2.1)]), 4, (by cases z_2 <;> rfl), rfl, ?_⟩
        refine un (a1 (v := (.agg [cI r_4.1.Kind, cI r_4.1.From, cI r_4.1.To, .str r_4.1.Text, cI r_4.1.Num])) rfl ?_)
        refine un (a1 (v := (I r_4.2.1)) rfl ?_)
        refine un (a2n (h' := upd _ 2 (some (.cells 5 [[cI r_4.1.Kind, cI r_4.1.From, cI r_4.1.To, .str r_4.1.Text, cI r_4.1.Num]]))) (n' := 4) rfl rfl (fun h => by cases h) ?_)
        refine un (a1 rfl ?_)
        refine dnil ?_
        refine Sv.ret ?_
        replace h := Option.some.inj h
        subst h
        exact ⟨_, .refl _, _, rfl, ⟨upd (fun _ => none) 0 (some (.tup [(.agg [cI r_4.1.Kind, cI r_4.1.From, cI r_4.1.To, .str r_4.1.Text, cI r_4.1.Num]), (I r_4.2.1)])), (upd (upd (fun _ => none) 0 (some (.cells 3 [[.str r_4.2.2.f_s, cI r_4.2.2.f_at, lstC z_2 2 5 r_4.2.2.f_out.length]]))) 2 (lstB z_2 5 (r_4.2.2.f_out.map e_TJTok))), 3⟩, (.tup [(.agg [cI r_4.1.Kind, cI r_4.1.From, cI r_4.1.To, .str r_4.1.Text, cI r_4.1.Num]), (I r_4.2.1)]), weak_canon2 [0, 1, 3] [0, 2] (by decide) (by decide) (by decide) (.cons (by decide) (.cons (by decide) .nil)) (.cons rfl (avAs_tup (.cons (avAs_free rfl) (.cons (avAs_free rfl) .nil))) .nil) (.row (by decide) rfl (fr_map fun _ => rfl) (.box (by decide) rfl (blkAs_cells (.cons (.same rfl) (.cons (.same rfl) (.cons (lstC_ren rfl (by decide)) .nil)))) .nil)), rfl, z_2, hz_2, rfl, rfl, rfl⟩
      · replace h := ifF hc3 h
        refine Sv.skip ?_
        refine Sv.seq ?_
        refine Sv.region ?_
        refine un (a1 rfl ?_)
        obtain ⟨r_5, hr5, h⟩ := bnd h
        refine un (ac_gen (bs := [0, 1]) («as» := [(.c (.ref 0 3 0 0))]) (h2 := _) (h1 := (upd (upd (fun _ => none) 0 (some (.cells 3 [[.str r_.f_s, cI r_.f_at, lstC zr 1 5 r_.f_out.length]]))) 1 (lstB zr 5 (r_.f_out.map e_TJTok)))) (clerestory_jlex_reader_sign1_ok hzr hr5) rfl (.cons (.c (.ref rfl (by decide))) .nil) (hsub_refl _) (.cons rfl (.cons rfl (.nil _))) (fun h => by cases h) (by decide) (by decide) (.cons (.c (.ref rfl (by decide))) .nil) (.row (by decide) rfl (fr_map fun _ => rfl) (.box (by decide) rfl (blkAs_cells (.cons (.same rfl) (.cons (.same rfl) (.cons (lstC_ren rfl (by decide)) .nil)))) .nil)) ?_)
        rintro _ _ _ hn ⟨z_3, hz_3, rfl, rfl, rfl⟩
        refine ⟨.inl rfl, (upd (upd (rem [0, 1] _) 0 (some (.cells 3 [[.str r_5.2.2.f_s, cI r_5.2.2.f_at, lstC z_3 3 5 r_5.2.2.f_out.length]]))) 3 (lstB z_3 5 (r_5.2.2.f_out.map e_TJTok))), fun hbd => (m3_cons (m3_row rfl (fr_map fun _ => rfl)) (m3_cons (m3_box rfl (by cases z_3 <;> rfl)) (m3_rem (in_cons (by decide) (in_cons (by decide) (in_nil _))) (.cons (by decide) (.cons (by decide) .nil)) hbd))), (.tup [(.agg [cI r_5.1.Kind, cI r_5.1.From, cI r_5.1.To, .str r_5.1.Text, cI r_5.1.Num]), (I r_5.2.1)]), 4, (by cases z_3 <;> rfl), rfl, ?_⟩
        refine un (a1 (v := (.agg [cI r_5.1.Kind, cI r_5.1.From, cI r_5.1.To, .str r_5.1.Text, cI r_5.1.Num])) rfl ?_)
        refine un (a1 (v := (I r_5.2.1)) rfl ?_)
        refine un (a2n (h' := upd _ 2 (some (.cells 5 [[cI r_5.1.Kind, cI r_5.1.From, cI r_5.1.To, .str r_5.1.Text, cI r_5.1.Num]]))) (n' := 4) rfl rfl (fun h => by cases h) ?_)
        refine un (a1 rfl ?_)
        refine dnil ?_
        refine Sv.ret ?_
        replace h := Option.some.inj h
        subst h
        exact ⟨_, .refl _, _, rfl, ⟨upd (fun _ => none) 0 (some (.tup [(.agg [cI r_5.1.Kind, cI r_5.1.From, cI r_5.1.To, .str r_5.1.Text, cI r_5.1.Num]), (I r_5.2.1)])), (upd (upd (fun _ => none) 0 (some (.cells 3 [[.str r_5.2.2.f_s, cI r_5.2.2.f_at, lstC z_3 2 5 r_5.2.2.f_out.length]]))) 2 (lstB z_3 5 (r_5.2.2.f_out.map e_TJTok))), 3⟩, (.tup [(.agg [cI r_5.1.Kind, cI r_5.1.From, cI r_5.1.To, .str r_5.1.Text, cI r_5.1.Num]), (I r_5.2.1)]), weak_canon2 [0, 1, 3] [0, 2] (by decide) (by decide) (by decide) (.cons (by decide) (.cons (by decide) .nil)) (.cons rfl (avAs_tup (.cons (avAs_free rfl) (.cons (avAs_free rfl) .nil))) .nil) (.row (by decide) rfl (fr_map fun _ => rfl) (.box (by decide) rfl (blkAs_cells (.cons (.same rfl) (.cons (.same rfl) (.cons (lstC_ren rfl (by decide)) .nil)))) .nil)), rfl, z_3, hz_3, rfl, rfl, rfl⟩
def a16_c0 : ACode := (.seq (.seq (.region [⟨(some 44), (.mov (.tmp 7)), none⟩, ⟨(some 45), (.bin .neq (.tmp 44) (.const (.c (.val (.int .i64 0))))), none⟩])
 (.cond (.tmp 45) (.seq (.region [⟨(some 46), (.mov (.tmp 7)), none⟩, ⟨(some 2), (.mov (.const (.c (.ro true 5 [])))), none⟩, ⟨(some 3), (.mov (.tmp 46)), none⟩])
 .ret) .skip))
 (.seq (.drawn (.alt [(⟨(some 47), (.mov (.tmp 5)), none⟩, (0, 0)), (⟨(some 48), (.mov (.tmp 4)), none⟩, (0, 1)), (⟨(some 49), (.nilc (.tmp 48)), none⟩, (0, 2)), (⟨(some 50), (.faddr 1 (.tmp 49)), none⟩, (0, 3)), (⟨(some 52), (.faddr 1 (.tmp 6)), none⟩, (0, 5))] (.fin [(⟨(some 51), (.load false 1 (.tmp 50)), none⟩, (2, 4)), (⟨none, (.store 1 (.tmp 52) (.tmp 47)), none⟩, (2, 6)), (⟨(some 53), (.faddr 2 (.tmp 6)), none⟩, (0, 7)), (⟨none, (.store 1 (.tmp 53) (.tmp 51)), none⟩, (2, 8))]) (.fin [(⟨none, (.store 1 (.tmp 52) (.tmp 47)), none⟩, (2, 6)), (⟨(some 51), (.load false 1 (.tmp 50)), none⟩, (2, 4)), (⟨(some 53), (.faddr 2 (.tmp 6)), none⟩, (0, 7)), (⟨none, (.store 1 (.tmp 53) (.tmp 51)), none⟩, (2, 8))])))
 (.drawn (.fin [(⟨(some 54), (.mov (.tmp 4)), none⟩, (0, 0)), (⟨(some 55), (.mov (.tmp 4)), none⟩, (0, 1)), (⟨(some 56), (.nilc (.tmp 55)), none⟩, (0, 2)), (⟨(some 57), (.faddr 2 (.tmp 56)), none⟩, (0, 3)), (⟨(some 58), (.load false 1 (.tmp 57)), none⟩, (0, 4)), (⟨(some 59), (.load true 5 (.tmp 6)), none⟩, (0, 5)), (⟨(some 60), (.bslice 5 [(.val (.int .i64 0)), (.val (.int .i64 0)), (.val (.int .i64 0)), (.str []), (.val (.int .i64 0))] 1 [(0, (.tmp 59))]), none⟩, (1, 6)), (⟨(some 61), (.app 5 48 (.tmp 58) (.tmp 60)), none⟩, (2, 7)), (⟨(some 62), (.nilc (.tmp 54)), none⟩, (0, 8)), (⟨(some 63), (.faddr 2 (.tmp 62)), none⟩, (0, 9)), (⟨none, (.store 1 (.tmp 63) (.tmp 61)), none⟩, (2, 10))]))))
def a16_c1 : ACode := (.region [⟨(some 23), (.mov (.tmp 4)), none⟩, ⟨(some 24), (.call 48 [(.tmp 23)]), none⟩])
def a16_c2 : ACode := (.seq (.seq (.region [⟨(some 16), (.mov (.tmp 4)), none⟩, ⟨(some 17), (.nilc (.tmp 16)), none⟩, ⟨(some 18), (.faddr 1 (.tmp 17)), none⟩, ⟨(some 19), (.load false 1 (.tmp 18)), none⟩, ⟨(some 20), (.mov (.tmp 0)), none⟩, ⟨(some 21), (.lenS (.tmp 20)), none⟩, ⟨(some 22), (.bin .lss (.tmp 19) (.tmp 21)), none⟩])
 (.cond (.tmp 22) .skip (.exit 0)))
 (.seq (.block 1 (.seq (.region [⟨(some 25), (.mov (.tmp 4)), none⟩, ⟨(some 26), (.nilc (.tmp 25)), none⟩, ⟨(some 27), (.faddr 1 (.tmp 26)), none⟩, ⟨(some 28), (.load false 1 (.tmp 27)), none⟩, ⟨(some 5), (.mov (.tmp 28)), none⟩])
 (.seq (.region [⟨(some 30), (.mov (.tmp 4)), none⟩, ⟨(some 31), (.call 49 [(.tmp 30)]), none⟩, ⟨(some 29), (.mov (.tmp 31)), none⟩, ⟨(some 32), (.ext (.tmp 29) 0), none⟩, ⟨(some 33), (.ext (.tmp 29) 1), none⟩, ⟨(some 6), (.box (.const (.agg [(.val (.int .i64 0)), (.val (.int .i64 0)), (.val (.int .i64 0)), (.str []), (.val (.int .i64 0))]))), none⟩, ⟨none, (.store 5 (.tmp 6) (.tmp 32)), none⟩, ⟨(some 7), (.mov (.tmp 33)), none⟩])
 (.seq (.seq (.region [⟨(some 34), (.mov (.tmp 7)), none⟩, ⟨(some 35), (.bin .eql (.tmp 34) (.const (.c (.val (.int .i64 0))))), none⟩, ⟨(some 36), (.mov (.tmp 35)), none⟩, ⟨(some 37), (.mov (.tmp 4)), (some (36, true))⟩, ⟨(some 38), (.nilc (.tmp 37)), (some (36, true))⟩, ⟨(some 39), (.faddr 2 (.tmp 38)), (some (36, true))⟩, ⟨(some 40), (.load false 1 (.tmp 39)), (some (36, true))⟩, ⟨(some 41), (.len (.tmp 40)), (some (36, true))⟩, ⟨(some 42), (.bin .eql (.tmp 41) (.const (.c (.val (.int .i64 1000))))), (some (36, true))⟩, ⟨(some 43), (.pick (.tmp 36) (.tmp 42) (.const (.c (.val (.bool false))))), none⟩])
 (.cond (.tmp 43) (.region [⟨(some 7), (.mov (.const (.c (.val (.int .i64 2))))), none⟩]) .skip))
 a16_c0))))
 a16_c1))
def a16 : AFunc := ⟨1, [(.tmp 2), (.tmp 3)], (.seq (.region [⟨(some 2), (.mov (.const (.c (.ro true 5 [])))), none⟩, ⟨(some 3), (.mov (.const (.c (.val (.int .i64 0))))), none⟩])
 (.seq (.seq (.region [⟨(some 8), (.mov (.tmp 0)), none⟩, ⟨(some 9), (.lenS (.tmp 8)), none⟩, ⟨(some 10), (.bin .gtr (.tmp 9) (.const (.c (.val (.int .i64 2000))))), none⟩])
 (.cond (.tmp 10) (.seq (.region [⟨(some 2), (.mov (.const (.c (.ro true 5 [])))), none⟩, ⟨(some 3), (.mov (.const (.c (.val (.int .i64 2))))), none⟩])
 .ret) .skip))
 (.seq (.region [⟨(some 11), (.mov (.tmp 0)), none⟩, ⟨(some 12), (.build [(.str []), (.val (.int .i64 0)), (.ro true 5 [])] [(0, (1, (.tmp 11)))]), none⟩, ⟨(some 13), (.box (.tmp 12)), none⟩, ⟨(some 4), (.mov (.tmp 13)), none⟩])
 (.seq (.seq (.region [⟨(some 14), (.mov (.tmp 4)), none⟩, ⟨(some 15), (.call 48 [(.tmp 14)]), none⟩])
 (.block 0 (.loop a16_c2)))
 (.seq (.region [⟨(some 64), (.mov (.tmp 4)), none⟩, ⟨(some 65), (.nilc (.tmp 64)), none⟩, ⟨(some 66), (.faddr 2 (.tmp 65)), none⟩, ⟨(some 67), (.load false 1 (.tmp 66)), none⟩, ⟨(some 2), (.mov (.tmp 67)), none⟩, ⟨(some 3), (.mov (.const (.c (.val (.int .i64 0))))), none⟩])
 .ret)))))⟩
set_option maxRecDepth 100000 in
theorem c16 : compFunc Tryd.prog 16 = some a16 := by kernel_rfl
def jlex_Tokens_post (r : ((List TJTok) × Int)) : AV → Heap → Nat → Prop := fun v h' n' => ∃ z0 : Bool, (z0 = true → r.1 = []) ∧ v = (.tup [(lstV z0 0 5 r.1.length), (I r.2)]) ∧ (h' = (upd (fun _ => none) 0 (lstB z0 5 (r.1.map e_TJTok)))) ∧ n' = 1
abbrev jlex_Tokens_q0 (mL : Int) (Q : AExit → St → Prop) : AExit → St → Prop := AThen (Sv Tryd.prog (GG mL) 0 a16_c1 Q) Q
abbrev jlex_Tokens_q1 (mL : Int) (Q : AExit → St → Prop) : AExit → St → Prop := ABlock 1 (jlex_Tokens_q0 mL Q)
noncomputable def jlex_Tokens_j3 (r_1 : (TJTok × Int × Treader)) (r1 : Int) (s_ : (List UInt8)) (self : (List UInt8) → Int → (List TJTok) → Option ((List TJTok) × Int)) (K0_ : (List UInt8) → Int → (List TJTok) → Option ((List TJTok) × Int)) (r22 : (List TJTok)) (e_ : Int) : Option ((List TJTok) × Int) :=
  if (!decide (e_ = 0)) then
    some (([] : List TJTok), e_)
  else
    (app? 48 r22 [(⟨r_1.1.Kind, r1, r_1.2.2.f_at, r_1.1.Text, r_1.1.Num⟩ : TJTok)]).bind fun r_2 =>
    (clerestory_jlex_reader_skip1 (⟨r_1.2.2.f_s, r_1.2.2.f_at, r_2⟩ : Treader)).bind fun r_3 =>
    self r_3.f_s r_3.f_at r_3.f_out
theorem jlex_Tokens_j3_ok {mL : Int} {Q : AExit → St → Prop} {r_1 : (TJTok × Int × Treader)} {r1 : Int} {s_ : (List UInt8)} {self : (List UInt8) → Int → (List TJTok) → Option ((List TJTok) × Int)} {K0_ : (List UInt8) → Int → (List TJTok) → Option ((List TJTok) × Int)} {r22 : (List TJTok)} {e_ : Int} {zr22 : Bool} (hzr22 : zr22 = true → r22 = []) {o : ((List TJTok) × Int)} (h : jlex_Tokens_j3 r_1 r1 s_ self K0_ r22 e_ = some o)
    (hself : ∀ (r0 : (List UInt8)) (r1 : Int) (r2 : (List TJTok)) (zr2 : Bool) (_ : zr2 = true → r2 = []), self r0 r1 r2 = some o → ∀ s, Weak 0 s ⟨(upd (upd (fun _ => none) 0 (some (S s_))) 4 (some (.c (.ref 0 3 0 0)))), (upd (upd (fun _ => none) 0 (some (.cells 3 [[.str r0, cI r1, lstC zr2 1 5 r2.length]]))) 1 (lstB zr2 5 (r2.map e_TJTok))), 2⟩ → (Q) .normal s)
    (hK0 : ∀ (r01 : (List UInt8)) (r11 : Int) (r21 : (List TJTok)) (zr21 : Bool) (_ : zr21 = true → r21 = []), K0_ r01 r11 r21 = some o → ∀ s, Weak 0 s ⟨(upd (fun _ => none) 4 (some (.c (.ref 0 3 0 0)))), (upd (upd (fun _ => none) 0 (some (.cells 3 [[.str r01, cI r11, lstC zr21 1 5 r21.length]]))) 1 (lstB zr21 5 (r21.map e_TJTok))), 2⟩ → Q (.exit 0) s)
    (hr : ∀ s, Ends a16.results 0 (jlex_Tokens_post o) .ret s → Q .ret s) :
    Sv Tryd.prog (GG mL) 0 a16_c0 (jlex_Tokens_q1 mL Q) ⟨(upd (upd (upd (upd (upd (fun _ => none) 0 (some (S s_))) 4 (some (.c (.ref 0 3 0 0)))) 5 (some (I r1))) 6 (some (.c (.ref 2 5 0 0)))) 7 (some (I e_))), (upd (upd (upd (fun _ => none) 0 (some (.cells 3 [[.str r_1.2.2.f_s, cI r_1.2.2.f_at, lstC zr22 1 5 r22.length]]))) 1 (lstB zr22 5 (r22.map e_TJTok))) 2 (some (.cells 5 [[cI r_1.1.Kind, cI r_1.1.From, cI r_1.1.To, .str r_1.1.Text, cI r_1.1.Num]]))), 3⟩ := by
  unfold jlex_Tokens_j3 at h
  refine Sv.seq ?_
  refine Sv.seq ?_
  refine Sv.region ?_
  refine un (a1 rfl ?_)
  refine un (a1 (v := (B (!decide (e_ = 0)))) rfl ?_)
  refine dnil ?_
  refine Sv.cond (b := (!decide (e_ = 0))) rfl (fun hc3 => ?_) (fun hc3 => ?_)
  · replace h := ifT hc3 h
    refine Sv.seq ?_
    refine Sv.region ?_
    refine un (a1 rfl ?_)
    refine un (a1 rfl ?_)
    refine un (a1 rfl ?_)
    refine dnil ?_
    refine Sv.ret ?_
    replace h := Option.some.inj h
    subst h
    exact hr _ ⟨_, .refl _, _, rfl, ⟨upd (fun _ => none) 0 (some (.tup [(lstV true 0 5 ([] : List TJTok).length), (I e_)])), (upd (fun _ => none) 0 (lstB true 5 (([] : List TJTok).map e_TJTok))), 1⟩, (.tup [(lstV true 0 5 ([] : List TJTok).length), (I e_)]), weak_canon2 [1000] [0] (by decide) (by decide) (fun b h => absurd h (Nat.not_lt_zero _)) (.cons (by decide) .nil) (.cons rfl (avAs_tup (.cons (.c (.same rfl)) (.cons (avAs_free rfl) .nil))) .nil) (.non (by decide) .nil), rfl, true, (fun _ => rfl), rfl, rfl, rfl⟩
  · replace h := ifF hc3 h
    refine Sv.skip ?_
    refine Sv.seq ?_
    refine Sv.drawn2 ?_
    refine un (a1 rfl ?_)
    refine un (a1 rfl ?_)
    refine un (a1 (v := (.c (.ref 0 3 0 0))) rfl ?_)
    refine un (a1 (v := (.c (.ref 0 3 0 1))) rfl ?_)
    refine un (a1 (v := (.c (.ref 2 5 0 1))) rfl ?_)
    refine dnil ?_
    refine ⟨?_, ?_⟩
    · refine un (a1 (v := (I r_1.2.2.f_at)) rfl ?_)
      refine un (a2n (h' := upd _ 2 (some (.cells 5 [[cI r_1.1.Kind, cI r1, cI r_1.1.To, .str r_1.1.Text, cI r_1.1.Num]]))) (n' := 3) rfl rfl (fun h => by cases h) ?_)
      refine un (a1 (v := (.c (.ref 2 5 0 2))) rfl ?_)
      refine un (a2n (h' := upd _ 2 (some (.cells 5 [[cI r_1.1.Kind, cI r1, cI r_1.2.2.f_at, .str r_1.1.Text, cI r_1.1.Num]]))) (n' := 3) rfl rfl (fun h => by cases h) ?_)
      refine dnil ?_
      refine Sv.drawn ?_
      refine un (a1 rfl ?_)
      refine un (a1 rfl ?_)
      refine un (a1 (v := (.c (.ref 0 3 0 0))) rfl ?_)
      refine un (a1 (v := (.c (.ref 0 3 0 2))) rfl ?_)
      refine un (a1 (v := (lstV zr22 1 5 r22.length)) rfl ?_)
      refine un (a1 (v := (.agg [cI r_1.1.Kind, cI r1, cI r_1.2.2.f_at, .str r_1.1.Text, cI r_1.1.Num])) rfl ?_)
      refine un (a2v (v := (lstV false 3 5 [(⟨r_1.1.Kind, r1, r_1.2.2.f_at, r_1.1.Text, r_1.1.Num⟩ : TJTok)].length)) (h' := upd _ 3 (lstB false 5 ([(⟨r_1.1.Kind, r1, r_1.2.2.f_at, r_1.1.Text, r_1.1.Num⟩ : TJTok)].map e_TJTok))) (n' := 4) rfl rfl (fun _ => rfl) ?_)
      obtain ⟨r_2, hr3, h⟩ := bnd h
      have hz1 : (zr22 && [(⟨r_1.1.Kind, r1, r_1.2.2.f_at, r_1.1.Text, r_1.1.Num⟩ : TJTok)].isEmpty) = true → r_2 = [] := app_nil (z := zr22) (ys := [(⟨r_1.1.Kind, r1, r_1.2.2.f_at, r_1.1.Text, r_1.1.Num⟩ : TJTok)]) hzr22 hr3
      refine un (a2v rfl (s_app (xs := r22) (ys := [(⟨r_1.1.Kind, r1, r_1.2.2.f_at, r_1.1.Text, r_1.1.Num⟩ : TJTok)]) (e := e_TJTok) (z := zr22) (b := 1) rfl rfl hzr22 rfl rfl (slc_lst rfl (List.length_map _).symm (map_nil_of (fun h => by cases h))) hr3) (fun h => by cases h) ?_)
      refine un (a1 (v := (.c (.ref 0 3 0 0))) rfl ?_)
      refine un (a1 (v := (.c (.ref 0 3 0 2))) rfl ?_)
      refine un (a2n (h' := upd _ 0 (some (.cells 3 [[.str r_1.2.2.f_s, cI r_1.2.2.f_at, lstC (zr22 && [(⟨r_1.1.Kind, r1, r_1.2.2.f_at, r_1.1.Text, r_1.1.Num⟩ : TJTok)].isEmpty) 4 5 r_2.length]]))) (n' := 5) rfl rfl (fun h => by cases h) ?_)
      refine dnil ?_
      refine Sv.region ?_
      refine un (a1 rfl ?_)
      obtain ⟨r_3, hr4, h⟩ := bnd h
      refine un (ac_gen (bs := [0, 4]) («as» := [(.c (.ref 0 3 0 0))]) (h2 := _) (h1 := (upd (upd (fun _ => none) 0 (some (.cells 3 [[.str r_1.2.2.f_s, cI r_1.2.2.f_at, lstC (zr22 && [(⟨r_1.1.Kind, r1, r_1.2.2.f_at, r_1.1.Text, r_1.1.Num⟩ : TJTok)].isEmpty) 4 5 r_2.length]]))) 4 (lstB (zr22 && [(⟨r_1.1.Kind, r1, r_1.2.2.f_at, r_1.1.Text, r_1.1.Num⟩ : TJTok)].isEmpty) 5 (r_2.map e_TJTok)))) (clerestory_jlex_reader_skip1_ok hz1 hr4) rfl (.cons (.c (.ref rfl (by decide))) .nil) (hsub_refl _) (.cons rfl (.cons rfl (.nil _))) (fun h => by cases h) (by decide) (by decide) (.cons (.c (.ref rfl (by decide))) .nil) (.row (by decide) rfl (fr_map fun _ => rfl) (.box (by decide) rfl (blkAs_cells (.cons (.same rfl) (.cons (.same rfl) (.cons (lstC_ren rfl (by decide)) .nil)))) .nil)) ?_)
      rintro _ _ _ hn ⟨z_2, hz_2, rfl, rfl, rfl⟩
      refine ⟨.inl rfl, (upd (upd (rem [0, 4] _) 0 (some (.cells 3 [[.str r_3.f_s, cI r_3.f_at, lstC z_2 5 5 r_3.f_out.length]]))) 5 (lstB z_2 5 (r_3.f_out.map e_TJTok))), fun hbd => (m3_cons (m3_row rfl (fr_map fun _ => rfl)) (m3_cons (m3_box rfl (by cases z_2 <;> rfl)) (m3_rem (in_cons (by decide) (in_cons (by decide) (in_nil _))) (.cons (by decide) (.cons (by decide) .nil)) hbd))), (.tup []), 6, (by cases z_2 <;> rfl), rfl, ?_⟩
      refine dnil ?_
      exact hself r_3.f_s r_3.f_at r_3.f_out z_2 hz_2 h _ (weak_canon [0, 5] rfl (by decide) (by decide) (fun b h => absurd h (Nat.not_lt_zero _)) (.cons rfl (.c (.ref rfl (by decide))) (.cons rfl (avAs_free rfl) .nil)) (.row (by decide) rfl (fr_map fun _ => rfl) (.box (by decide) rfl (blkAs_cells (.cons (.same rfl) (.cons (.same rfl) (.cons (lstC_ren rfl (by decide)) .nil)))) .nil)))
    · refine un (a2n (h' := upd _ 2 (some (.cells 5 [[cI r_1.1.Kind, cI r1, cI r_1.1.To, .str r_1.1.Text, cI r_1.1.Num]]))) (n' := 3) rfl rfl (fun h => by cases h) ?_)
      refine un (a1 (v := (I r_1.2.2.f_at)) rfl ?_)
      refine un (a1 (v := (.c (.ref 2 5 0 2))) rfl ?_)
      refine un (a2n (h' := upd _ 2 (some (.cells 5 [[cI r_1.1.Kind, cI r1, cI r_1.2.2.f_at, .str r_1.1.Text, cI r_1.1.Num]]))) (n' := 3) rfl rfl (fun h => by cases h) ?_)
      refine dnil ?_
      refine Sv.drawn ?_
      refine un (a1 rfl ?_)
      refine un (a1 rfl ?_)
      refine un (a1 (v := (.c (.ref 0 3 0 0))) rfl ?_)
      refine un (a1 (v := (.c (.ref 0 3 0 2))) rfl ?_)
      refine un (a1 (v := (lstV zr22 1 5 r22.length)) rfl ?_)
      refine un (a1 (v := (.agg [cI r_1.1.Kind, cI r1, cI r_1.2.2.f_at, .str r_1.1.Text, cI r_1.1.Num])) rfl ?_)
      refine un (a2v (v := (lstV false 3 5 [(⟨r_1.1.Kind, r1, r_1.2.2.f_at, r_1.1.Text, r_1.1.Num⟩ : TJTok)].length)) (h' := upd _ 3 (lstB false 5 ([(⟨r_1.1.Kind, r1, r_1.2.2.f_at, r_1.1.Text, r_1.1.Num⟩ : TJTok)].map e_TJTok))) (n' := 4) rfl rfl (fun _ => rfl) ?_)
      obtain ⟨r_2, hr3, h⟩ := bnd h
      have hz1 : (zr22 && [(⟨r_1.1.Kind, r1, r_1.2.2.f_at, r_1.1.Text, r_1.1.Num⟩ : TJTok)].isEmpty) = true → r_2 = [] := app_nil (z := zr22) (ys := [(⟨r_1.1.Kind, r1, r_1.2.2.f_at, r_1.1.Text, r_1.1.Num⟩ : TJTok)]) hzr22 hr3
      refine un (a2v rfl (s_app (xs := r22) (ys := [(⟨r_1.1.Kind, r1, r_1.2.2.f_at, r_1.1.Text, r_1.1.Num⟩ : TJTok)]) (e := e_TJTok) (z := zr22) (b := 1) rfl rfl hzr22 rfl rfl (slc_lst rfl (List.length_map _).symm (map_nil_of (fun h => by cases h))) hr3) (fun h => by cases h) ?_)
      refine un (a1 (v := (.c (.ref 0 3 0 0))) rfl ?_)
      refine un (a1 (v := (.c (.ref 0 3 0 2))) rfl ?_)
      refine un (a2n (h' := upd _ 0 (some (.cells 3 [[.str r_1.2.2.f_s, cI r_1.2.2.f_at, lstC (zr22 && [(⟨r_1.1.Kind, r1, r_1.2.2.f_at, r_1.1.Text, r_1.1.Num⟩ : TJTok)].isEmpty) 4 5 r_2.length]]))) (n' := 5) rfl rfl (fun h => by cases h) ?_)
      refine dnil ?_
      refine Sv.region ?_
      refine un (a1 rfl ?_)
      obtain ⟨r_3, hr4, h⟩ := bnd h
      refine un (ac_gen (bs := [0, 4]) («as» := [(.c (.ref 0 3 0 0))]) (h2 := _) (h1 := (upd (upd (fun _ => none) 0 (some (.cells 3 [[.str r_1.2.2.f_s, cI r_1.2.2.f_at, lstC (zr22 && [(⟨r_1.1.Kind, r1, r_1.2.2.f_at, r_1.1.Text, r_1.1.Num⟩ : TJTok)].isEmpty) 4 5 r_2.length]]))) 4 (lstB (zr22 && [(⟨r_1.1.Kind, r1, r_1.2.2.f_at, r_1.1.Text, r_1.1.Num⟩ : TJTok)].isEmpty) 5 (r_2.map e_TJTok)))) (clerestory_jlex_reader_skip1_ok hz1 hr4) rfl (.cons (.c (.ref rfl (by decide))) .nil) (hsub_refl _) (.cons rfl (.cons rfl (.nil _))) (fun h => by cases h) (by decide) (by decide) (.cons (.c (.ref rfl (by decide))) .nil) (.row (by decide) rfl (fr_map fun _ => rfl) (.box (by decide) rfl (blkAs_cells (.cons (.same rfl) (.cons (.same rfl) (.cons (lstC_ren rfl (by decide)) .nil)))) .nil)) ?_)
      rintro _ _ _ hn ⟨z_2, hz_2, rfl, rfl, rfl⟩
      refine ⟨.inl rfl, (upd (upd (rem [0, 4] _) 0 (some (.cells 3 [[.str r_3.f_s, cI r_3.f_at, lstC z_2 5 5 r_3.f_out.length]]))) 5 (lstB z_2 5 (r_3.f_out.map e_TJTok))), fun hbd => (m3_cons (m3_row rfl (fr_map fun _ => rfl)) (m3_cons (m3_box rfl (by cases z_2 <;> rfl)) (m3_rem (in_cons (by decide) (in_cons (by decide) (in_nil _))) (.cons (by decide) (.cons (by decide) .nil)) hbd))), (.tup []), 6, (by cases z_2 <;> rfl), rfl, ?_⟩
      refine dnil ?_
      exact hself r_3.f_s r_3.f_at r_3.f_out z_2 hz_2 h _ (weak_canon [0, 5] rfl (by decide) (by decide) (fun b h => absurd h (Nat.not_lt_zero _)) (.cons rfl (.c (.ref rfl (by decide))) (.cons rfl (avAs_free rfl) .nil)) (.row (by decide) rfl (fr_map fun _ => rfl) (.box (by decide) rfl (blkAs_cells (.cons (.same rfl) (.cons (.same rfl) (.cons (lstC_ren rfl (by decide)) .nil)))) .nil)))
noncomputable def jlex_Tokens_l0 (s_ : (List UInt8)) (K0_ : (List UInt8) → Int → (List TJTok) → Option ((List TJTok) × Int)) : Nat → (List UInt8) → Int → (List TJTok) → Option ((List TJTok) × Int)
  | 0, _, _, _ => none
  | k + 1, r0, r1, r2 =>
    if decide (r1 < (s_.length : Int)) then
      (clerestory_jlex_reader_next1 (⟨r0, r1, r2⟩ : Treader)).bind fun r_1 =>
      if ((decide (r_1.2.1 = 0)) && (decide ((r_1.2.2.f_out.length : Int) = 1000))) then
        jlex_Tokens_j3 r_1 r1 s_ (jlex_Tokens_l0 s_ K0_ k) K0_ r_1.2.2.f_out 2
      else
        jlex_Tokens_j3 r_1 r1 s_ (jlex_Tokens_l0 s_ K0_ k) K0_ r_1.2.2.f_out r_1.2.1
    else
      K0_ r0 r1 r2
theorem jlex_Tokens_l0_ok {mL : Int} {Q : AExit → St → Prop} {s_ : (List UInt8)} {K0_ : (List UInt8) → Int → (List TJTok) → Option ((List TJTok) × Int)} {k : Nat} {r0 : (List UInt8)} {r1 : Int} {r2 : (List TJTok)} {zr2 : Bool} (hzr2 : zr2 = true → r2 = []) {o : ((List TJTok) × Int)} (h : jlex_Tokens_l0 s_ K0_ k r0 r1 r2 = some o)
    (hK0 : ∀ (r01 : (List UInt8)) (r11 : Int) (r21 : (List TJTok)) (zr21 : Bool) (_ : zr21 = true → r21 = []), K0_ r01 r11 r21 = some o → ∀ s, Weak 0 s ⟨(upd (fun _ => none) 4 (some (.c (.ref 0 3 0 0)))), (upd (upd (fun _ => none) 0 (some (.cells 3 [[.str r01, cI r11, lstC zr21 1 5 r21.length]]))) 1 (lstB zr21 5 (r21.map e_TJTok))), 2⟩ → Q (.exit 0) s)
    (hr : ∀ s, Ends a16.results 0 (jlex_Tokens_post o) .ret s → Q .ret s) :
    Sv Tryd.prog (GG mL) 0 (.loop a16_c2) Q ⟨(upd (upd (fun _ => none) 0 (some (S s_))) 4 (some (.c (.ref 0 3 0 0)))), (upd (upd (fun _ => none) 0 (some (.cells 3 [[.str r0, cI r1, lstC zr2 1 5 r2.length]]))) 1 (lstB zr2 5 (r2.map e_TJTok))), 2⟩ := by
  refine Sv.loop (I := fun k s => ∃ (r0 : (List UInt8)), ∃ (r1 : Int), ∃ (r2 : (List TJTok)), ∃ (zr2 : Bool), (zr2 = true → r2 = []) ∧ jlex_Tokens_l0 s_ K0_ k r0 r1 r2 = some o ∧ s = ⟨(upd (upd (fun _ => none) 0 (some (S s_))) 4 (some (.c (.ref 0 3 0 0)))), (upd (upd (fun _ => none) 0 (some (.cells 3 [[.str r0, cI r1, lstC zr2 1 5 r2.length]]))) 1 (lstB zr2 5 (r2.map e_TJTok))), 2⟩) (fun k s hI => ?_) ⟨r0, r1, r2, zr2, hzr2, h, rfl⟩
  clear h
  clear hzr2 zr2 r2 r1 r0
  obtain ⟨r0, r1, r2, zr2, hzr2, h, rfl⟩ := hI
  cases k with
  | zero => cases h
  | succ k =>
  rw [jlex_Tokens_l0] at h
  have hself : ∀ (r0 : (List UInt8)) (r1 : Int) (r2 : (List TJTok)) (zr2 : Bool) (_ : zr2 = true → r2 = []), (jlex_Tokens_l0 s_ K0_ k) r0 r1 r2 = some o → ∀ s, Weak 0 s ⟨(upd (upd (fun _ => none) 0 (some (S s_))) 4 (some (.c (.ref 0 3 0 0)))), (upd (upd (fun _ => none) 0 (some (.cells 3 [[.str r0, cI r1, lstC zr2 1 5 r2.length]]))) 1 (lstB zr2 5 (r2.map e_TJTok))), 2⟩ → (AThen (fun s' => ∃ s'' k', Weak 0 s' s'' ∧ k' < k + 1 ∧ (fun k s => ∃ (r0 : (List UInt8)), ∃ (r1 : Int), ∃ (r2 : (List TJTok)), ∃ (zr2 : Bool), (zr2 = true → r2 = []) ∧ jlex_Tokens_l0 s_ K0_ k r0 r1 r2 = some o ∧ s = ⟨(upd (upd (fun _ => none) 0 (some (S s_))) 4 (some (.c (.ref 0 3 0 0)))), (upd (upd (fun _ => none) 0 (some (.cells 3 [[.str r0, cI r1, lstC zr2 1 5 r2.length]]))) 1 (lstB zr2 5 (r2.map e_TJTok))), 2⟩) k' s'') Q) .normal s := fun r0 r1 r2 zr2 hzr2 h s hw => ⟨_, k, hw, Nat.lt_succ_self k, r0, r1, r2, zr2, hzr2, h, rfl⟩
  refine Sv.seq ?_
  refine Sv.seq ?_
  refine Sv.region ?_
  refine un (a1 rfl ?_)
  refine un (a1 (v := (.c (.ref 0 3 0 0))) rfl ?_)
  refine un (a1 (v := (.c (.ref 0 3 0 1))) rfl ?_)
  refine un (a1 (v := (I r1)) rfl ?_)
  refine un (a1 rfl ?_)
  refine un (a1 (v := (I (s_.length : Int))) rfl ?_)
  refine un (a1 (v := (B (decide (r1 < (s_.length : Int))))) rfl ?_)
  refine dnil ?_
  refine Sv.cond (b := decide (r1 < (s_.length : Int))) rfl (fun hc2 => ?_) (fun hc2 => ?_)
  · replace h := ifT hc2 h
    refine Sv.skip ?_
    refine Sv.seq ?_
    refine Sv.block ?_
    refine Sv.seq ?_
    refine Sv.region ?_
    refine un (a1 rfl ?_)
    refine un (a1 (v := (.c (.ref 0 3 0 0))) rfl ?_)
    refine un (a1 (v := (.c (.ref 0 3 0 1))) rfl ?_)
    refine un (a1 (v := (I r1)) rfl ?_)
    refine un (a1 rfl ?_)
    refine dnil ?_
    refine Sv.seq ?_
    refine Sv.region ?_
    refine un (a1 rfl ?_)
    obtain ⟨r_1, hr2, h⟩ := bnd h
    refine un (ac_gen (bs := [0, 1]) («as» := [(.c (.ref 0 3 0 0))]) (h2 := _) (h1 := (upd (upd (fun _ => none) 0 (some (.cells 3 [[.str r0, cI r1, lstC zr2 1 5 r2.length]]))) 1 (lstB zr2 5 (r2.map e_TJTok)))) (clerestory_jlex_reader_next1_ok hzr2 hr2) rfl (.cons (.c (.ref rfl (by decide))) .nil) (hsub_refl _) (.cons rfl (.cons rfl (.nil _))) (fun h => by cases h) (by decide) (by decide) (.cons (.c (.ref rfl (by decide))) .nil) (.row (by decide) rfl (fr_map fun _ => rfl) (.box (by decide) rfl (blkAs_cells (.cons (.same rfl) (.cons (.same rfl) (.cons (lstC_ren rfl (by decide)) .nil)))) .nil)) ?_)
    rintro _ _ _ hn ⟨z_1, hz_1, rfl, rfl, rfl⟩
    refine ⟨.inl rfl, (upd (upd (rem [0, 1] _) 0 (some (.cells 3 [[.str r_1.2.2.f_s, cI r_1.2.2.f_at, lstC z_1 2 5 r_1.2.2.f_out.length]]))) 2 (lstB z_1 5 (r_1.2.2.f_out.map e_TJTok))), fun hbd => (m3_cons (m3_row rfl (fr_map fun _ => rfl)) (m3_cons (m3_box rfl (by cases z_1 <;> rfl)) (m3_rem (in_cons (by decide) (in_cons (by decide) (in_nil _))) (.cons (by decide) (.cons (by decide) .nil)) hbd))), (.tup [(.agg [cI r_1.1.Kind, cI r_1.1.From, cI r_1.1.To, .str r_1.1.Text, cI r_1.1.Num]), (I r_1.2.1)]), 3, (by cases z_1 <;> rfl), rfl, ?_⟩
    refine un (a1 rfl ?_)
    refine un (a1 (v := (.agg [cI r_1.1.Kind, cI r_1.1.From, cI r_1.1.To, .str r_1.1.Text, cI r_1.1.Num])) rfl ?_)
    refine un (a1 (v := (I r_1.2.1)) rfl ?_)
    refine un (a2v (v := (.c (.ref 3 5 0 0))) (h' := upd _ 3 (some (.cells 5 [[cI 0, cI 0, cI 0, .str [], cI 0]]))) (n' := 4) rfl rfl (fun h => by cases h) ?_)
    refine un (a2n (h' := upd _ 3 (some (.cells 5 [[cI r_1.1.Kind, cI r_1.1.From, cI r_1.1.To, .str r_1.1.Text, cI r_1.1.Num]]))) (n' := 4) rfl rfl (fun h => by cases h) ?_)
    refine un (a1 rfl ?_)
    refine dnil ?_
    refine Sv.seq ?_
    refine Sv.seq ?_
    refine Sv.region ?_
    refine un (a1 rfl ?_)
    refine un (a1 (v := (B (decide (r_1.2.1 = 0)))) rfl ?_)
    refine un (a1 rfl ?_)
    refine gjoin 7 (d := 43) (v := (B ((decide (r_1.2.1 = 0)) && (decide ((r_1.2.2.f_out.length : Int) = 1000))))) (fun X hX => ?_) ?_
    · refine split2 (fun hc4 => ?_) (fun hc4 => ?_)
      · refine gt rfl (a1 rfl ?_)
        refine gt rfl (a1 (v := (.c (.ref 0 3 0 0))) rfl ?_)
        refine gt rfl (a1 (v := (.c (.ref 0 3 0 2))) rfl ?_)
        refine gt rfl (a1 (v := (lstV z_1 2 5 r_1.2.2.f_out.length)) rfl ?_)
        refine gt rfl (a1 (v := (I (r_1.2.2.f_out.length : Int))) (s_lenL rfl (len_nil_of hz_1)) ?_)
        refine gt rfl (a1 (v := (B (decide ((r_1.2.2.f_out.length : Int) = 1000)))) rfl ?_)
        refine un (a1 (v := (B (decide ((r_1.2.2.f_out.length : Int) = 1000)))) rfl ?_)
        refine dnil ?_
        exact hX _ (.putEq (by rw [hc4]; rfl) (.skip _ _ (.skip _ _ (.skip _ _ (.skip _ _ (.skip _ _ (.skip _ _ (.putEq (by rw [hc4]) (.refl _)) rfl) rfl) rfl) rfl) rfl) rfl))
      · refine gs rfl rfl ?_
        refine gs rfl rfl ?_
        refine gs rfl rfl ?_
        refine gs rfl rfl ?_
        refine gs rfl rfl ?_
        refine gs rfl rfl ?_
        refine un (a1 (v := (B false)) rfl ?_)
        refine dnil ?_
        exact hX _ (.putEq (by rw [hc4]; rfl) (.skip _ _ (.skip _ _ (.skip _ _ (.skip _ _ (.skip _ _ (.skip _ _ (.putEq (by rw [hc4]) (.refl _)) rfl) rfl) rfl) rfl) rfl) rfl))
    refine dnil ?_
    refine Sv.cond (b := ((decide (r_1.2.1 = 0)) && (decide ((r_1.2.2.f_out.length : Int) = 1000)))) rfl (fun hc5 => ?_) (fun hc5 => ?_)
    · replace h := ifT hc5 h
      refine Sv.region ?_
      refine un (a1 rfl ?_)
      refine dnil ?_
      exact Sv.weak (weak_canon [0, 2, 3] rfl (by decide) (by decide) (fun b h => absurd h (Nat.not_lt_zero _)) (.cons rfl (avAs_free rfl) (.cons rfl (.c (.ref rfl (by decide))) (.cons rfl (avAs_free rfl) (.cons rfl (.c (.ref rfl (by decide))) (.cons rfl (avAs_free rfl) .nil))))) (.box (by decide) rfl (blkAs_cells (.cons (.same rfl) (.cons (.same rfl) (.cons (.same rfl) (.cons (.same rfl) (.cons (.same rfl) .nil)))))) (.row (by decide) rfl (fr_map fun _ => rfl) (.box (by decide) rfl (blkAs_cells (.cons (.same rfl) (.cons (.same rfl) (.cons (lstC_ren rfl (by decide)) .nil)))) .nil)))) (jlex_Tokens_j3_ok hz_1 h hself hK0 hr)
    · replace h := ifF hc5 h
      refine Sv.skip ?_
      exact Sv.weak (weak_canon [0, 2, 3] rfl (by decide) (by decide) (fun b h => absurd h (Nat.not_lt_zero _)) (.cons rfl (avAs_free rfl) (.cons rfl (.c (.ref rfl (by decide))) (.cons rfl (avAs_free rfl) (.cons rfl (.c (.ref rfl (by decide))) (.cons rfl (avAs_free rfl) .nil))))) (.box (by decide) rfl (blkAs_cells (.cons (.same rfl) (.cons (.same rfl) (.cons (.same rfl) (.cons (.same rfl) (.cons (.same rfl) .nil)))))) (.row (by decide) rfl (fr_map fun _ => rfl) (.box (by decide) rfl (blkAs_cells (.cons (.same rfl) (.cons (.same rfl) (.cons (lstC_ren rfl (by decide)) .nil)))) .nil)))) (jlex_Tokens_j3_ok hz_1 h hself hK0 hr)
  · replace h := ifF hc2 h
    refine Sv.exit ?_
    exact hK0 r0 r1 r2 zr2 hzr2 h _ (weak_canon [0, 1] rfl (by decide) (by decide) (fun b h => absurd h (Nat.not_lt_zero _)) (.cons rfl (.c (.ref rfl (by decide))) .nil) (.row (by decide) rfl (fr_map fun _ => rfl) (.box (by decide) rfl (blkAs_cells (.cons (.same rfl) (.cons (.same rfl) (.cons (lstC_ren rfl (by decide)) .nil)))) .nil)))
/-- clerestory/jlex.Tokens -/
noncomputable def jlex_Tokens (s_ : (List UInt8)) : Option ((List TJTok) × Int) :=
  if decide (2000 < (s_.length : Int)) then
    some (([] : List TJTok), 2)
  else
    (clerestory_jlex_reader_skip1 (⟨s_, 0, []⟩ : Treader)).bind fun r_ =>
    lim fun kk => jlex_Tokens_l0 s_ (fun (r01 : (List UInt8)) (r11 : Int) (r21 : (List TJTok)) => 
        some (r21, 0)) kk r_.f_s r_.f_at r_.f_out
theorem jlex_Tokens_ok {mL : Int} {s_ : (List UInt8)} {r : ((List TJTok) × Int)} (h : jlex_Tokens s_ = some r) : ACalls Tryd.prog (GG mL) 16 [(S s_)] (fun _ => none) 0 (jlex_Tokens_post r) := by
  refine acalls_of_sv hmix c16 (R := jlex_Tokens_post r) ?_
  unfold jlex_Tokens at h
  refine Sv.seq ?_
  refine Sv.region ?_
  refine un (a1 rfl ?_)
  refine un (a1 rfl ?_)
  refine dnil ?_
  refine Sv.seq ?_
  refine Sv.seq ?_
  refine Sv.region ?_
  refine un (a1 rfl ?_)
  refine un (a1 (v := (I (s_.length : Int))) rfl ?_)
  refine un (a1 (v := (B (decide (2000 < (s_.length : Int))))) rfl ?_)
  refine dnil ?_
  refine Sv.cond (b := decide (2000 < (s_.length : Int))) rfl (fun hc1 => ?_) (fun hc1 => ?_)
  · replace h := ifT hc1 h
    refine Sv.seq ?_
    refine Sv.region ?_
    refine un (a1 rfl ?_)
    refine un (a1 rfl ?_)
    refine dnil ?_
    refine Sv.ret ?_
    replace h := Option.some.inj h
    subst h
    exact ⟨_, .refl _, _, rfl, ⟨upd (fun _ => none) 0 (some (.tup [(lstV true 0 5 ([] : List TJTok).length), (I 2)])), (upd (fun _ => none) 0 (lstB true 5 (([] : List TJTok).map e_TJTok))), 1⟩, (.tup [(lstV true 0 5 ([] : List TJTok).length), (I 2)]), weak_canon2 [1000] [0] (by decide) (by decide) (fun b h => absurd h (Nat.not_lt_zero _)) (.cons (by decide) .nil) (.cons rfl (avAs_tup (.cons (.c (.same rfl)) (.cons (avAs_free rfl) .nil))) .nil) (.non (by decide) .nil), rfl, true, (fun _ => rfl), rfl, rfl, rfl⟩
  · replace h := ifF hc1 h
    refine Sv.skip ?_
    refine Sv.seq ?_
    refine Sv.region ?_
    refine un (a1 rfl ?_)
    refine un (a1 (v := (.agg [.str s_, cI 0, .ro true 5 []])) rfl ?_)
    refine un (a2v (v := (.c (.ref 0 3 0 0))) (h' := upd _ 0 (some (.cells 3 [[.str s_, cI 0, .ro true 5 []]]))) (n' := 1) rfl rfl (fun h => by cases h) ?_)
    refine un (a1 rfl ?_)
    refine dnil ?_
    refine Sv.seq ?_
    refine Sv.seq ?_
    refine Sv.region ?_
    refine un (a1 rfl ?_)
    refine dweak (show Weak 0 _ ⟨(upd (upd (upd (upd (upd (upd (upd (upd (upd (upd (upd (fun _ => none) 0 (some (S s_))) 2 (some (.c (.ro true 5 [])))) 3 (some (I 0))) 4 (some (.c (.ref 0 3 0 0)))) 8 (some (S s_))) 9 (some (I (s_.length : Int)))) 10 (some (B (decide (2000 < (s_.length : Int)))))) 11 (some (S s_))) 12 (some (.agg [.str s_, cI 0, .ro true 5 []]))) 13 (some (.c (.ref 0 3 0 0)))) 14 (some (.c (.ref 0 3 0 0)))), (upd (upd (fun _ => none) 0 (some (.cells 3 [[.str s_, cI 0, lstC true 1 5 ([] : List TJTok).length]]))) 1 (lstB true 5 (([] : List TJTok).map e_TJTok))), 2⟩ from (weak_canon [0, 1001] rfl (by decide) (by decide) (fun b h => absurd h (Nat.not_lt_zero _)) (.cons rfl (.c (.ref rfl (by decide))) (.cons rfl (.c (.ref rfl (by decide))) (.cons rfl (avAs_free rfl) (.cons rfl (avAs_free rfl) (.cons rfl (avAs_free rfl) (.cons rfl (avAs_free rfl) (.cons rfl (avAs_free rfl) (.cons rfl (.c (.ref rfl (by decide))) (.cons rfl (avAs_free rfl) (.cons rfl (avAs_free rfl) (.cons rfl (avAs_free rfl) .nil))))))))))) (.non (by decide) (.box (by decide) rfl (blkAs_cells (.cons (.same rfl) (.cons (.same rfl) (.cons (.same rfl) .nil)))) .nil)))) ?_
    obtain ⟨r_, hr1, h⟩ := bnd h
    refine un (ac_gen (bs := [0, 1]) («as» := [(.c (.ref 0 3 0 0))]) (h2 := _) (h1 := (upd (upd (fun _ => none) 0 (some (.cells 3 [[.str s_, cI 0, lstC true 1 5 ([] : List TJTok).length]]))) 1 (lstB true 5 (([] : List TJTok).map e_TJTok)))) (clerestory_jlex_reader_skip1_ok (fun _ => rfl) hr1) rfl (.cons (.c (.ref rfl (by decide))) .nil) (hsub_refl _) (.cons rfl (.cons rfl (.nil _))) (fun h => by cases h) (by decide) (by decide) (.cons (.c (.ref rfl (by decide))) .nil) (.row (by decide) rfl (fr_map fun _ => rfl) (.box (by decide) rfl (blkAs_cells (.cons (.same rfl) (.cons (.same rfl) (.cons (lstC_ren rfl (by decide)) .nil)))) .nil)) ?_)
    rintro _ _ _ hn ⟨z_, hz_, rfl, rfl, rfl⟩
    refine ⟨.inl rfl, (upd (upd (rem [0, 1] _) 0 (some (.cells 3 [[.str r_.f_s, cI r_.f_at, lstC z_ 2 5 r_.f_out.length]]))) 2 (lstB z_ 5 (r_.f_out.map e_TJTok))), fun hbd => (m3_cons (m3_row rfl (fr_map fun _ => rfl)) (m3_cons (m3_box rfl (by cases z_ <;> rfl)) (m3_rem (in_cons (by decide) (in_cons (by decide) (in_nil _))) (.cons (by decide) (.cons (by decide) .nil)) hbd))), (.tup []), 3, (by cases z_ <;> rfl), rfl, ?_⟩
    refine dnil ?_
    refine Sv.block ?_
    obtain ⟨kk, h⟩ := lim_some h
    refine Sv.weak (weak_canon [0, 2] rfl (by decide) (by decide) (fun b h => absurd h (Nat.not_lt_zero _)) (.cons rfl (.c (.ref rfl (by decide))) (.cons rfl (avAs_free rfl) .nil)) (.row (by decide) rfl (fr_map fun _ => rfl) (.box (by decide) rfl (blkAs_cells (.cons (.same rfl) (.cons (.same rfl) (.cons (lstC_ren rfl (by decide)) .nil)))) .nil))) (jlex_Tokens_l0_ok hz_ h ?_ (fun s hs => hs))
    · intro r01 r11 r21 zr21 hzr21 h _ hw1
      refine Sv.weak hw1 ?_
      refine Sv.seq ?_
      refine Sv.region ?_
      refine un (a1 rfl ?_)
      refine un (a1 (v := (.c (.ref 0 3 0 0))) rfl ?_)
      refine un (a1 (v := (.c (.ref 0 3 0 2))) rfl ?_)
      refine un (a1 (v := (lstV zr21 1 5 r21.length)) rfl ?_)
      refine un (a1 rfl ?_)
      refine un (a1 rfl ?_)
      refine dnil ?_
      refine Sv.ret ?_
      replace h := Option.some.inj h
      subst h
      exact ⟨_, .refl _, _, rfl, ⟨upd (fun _ => none) 0 (some (.tup [(lstV zr21 0 5 r21.length), (I 0)])), (upd (fun _ => none) 0 (lstB zr21 5 (r21.map e_TJTok))), 1⟩, (.tup [(lstV zr21 0 5 r21.length), (I 0)]), weak_canon2 [1] [0] (by decide) (by decide) (fun b h => absurd h (Nat.not_lt_zero _)) (.cons (by decide) .nil) (.cons rfl (avAs_tup (.cons (.c (lstC_ren rfl (by decide))) (.cons (avAs_free rfl) .nil))) .nil) (.row (by decide) rfl (fr_map fun _ => rfl) .nil), rfl, zr21, hzr21, rfl, rfl, rfl⟩
def a107_c0 : ACode := .ret
def a107 : AFunc := ⟨2, [(.tmp 4)], (.seq (.region [⟨(some 4), (.mov (.const (.c (.val (.bool false))))), none⟩])
 (.seq (.region [⟨(some 5), (.mov (.tmp 0)), none⟩, ⟨(some 6), (.lenS (.tmp 5)), none⟩, ⟨(some 7), (.mov (.tmp 1)), none⟩, ⟨(some 8), (.lenS (.tmp 7)), none⟩, ⟨(some 9), (.bin .geq (.tmp 6) (.tmp 8)), none⟩, ⟨(some 10), (.mov (.tmp 9)), none⟩, ⟨(some 11), (.mov (.tmp 0)), (some (10, true))⟩, ⟨(some 12), (.mov (.tmp 1)), (some (10, true))⟩, ⟨(some 13), (.lenS (.tmp 12)), (some (10, true))⟩, ⟨(some 14), (.slStr (.tmp 11) none (some (.tmp 13))), (some (10, true))⟩, ⟨(some 15), (.mov (.tmp 1)), (some (10, true))⟩, ⟨(some 16), (.bin .eql (.tmp 14) (.tmp 15)), (some (10, true))⟩, ⟨(some 17), (.pick (.tmp 10) (.tmp 16) (.const (.c (.val (.bool false))))), none⟩, ⟨(some 4), (.mov (.tmp 17)), none⟩])
 a107_c0))⟩
set_option maxRecDepth 100000 in
theorem c107 : compFunc Tryd.prog 107 = some a107 := by kernel_rfl
def internal_stringslite_HasPrefix_post (r : Bool) : AV → Heap → Nat → Prop := fun v h' n' => v = (B r) ∧ (h' = (fun _ => none)) ∧ n' = 0
noncomputable def internal_stringslite_HasPrefix_j1 (v4 : Bool) : Option Bool :=
  some v4
theorem internal_stringslite_HasPrefix_j1_ok {mL : Int} {v4 : Bool} {o : Bool} (h : internal_stringslite_HasPrefix_j1 v4 = some o) :
    Sv Tryd.prog (GG mL) 0 a107_c0 (Ends a107.results 0 (internal_stringslite_HasPrefix_post o)) ⟨(upd (fun _ => none) 4 (some (B v4))), (fun _ => none), 0⟩ := by
  unfold internal_stringslite_HasPrefix_j1 at h
  refine Sv.ret ?_
  replace h := Option.some.inj h
  subst h
  exact ⟨_, .refl _, _, rfl, ⟨upd (fun _ => none) 0 (some (B v4)), (fun _ => none), 0⟩, (B v4), weak_canon [] rfl List.nodup_nil (Nat.le_refl _) (fun b h => absurd h (Nat.not_lt_zero _)) (.cons rfl (avAs_free rfl) .nil) .nil, rfl, rfl, rfl, rfl⟩
/-- internal/stringslite.HasPrefix -/
noncomputable def internal_stringslite_HasPrefix (s_ : (List UInt8)) (prefix_ : (List UInt8)) : Option Bool :=
  if decide ((prefix_.length : Int) ≤ (s_.length : Int)) then
    (sub? s_ 0 (prefix_.length : Int)).bind fun r_ =>
    internal_stringslite_HasPrefix_j1 (decide (r_ = prefix_))
  else
    internal_stringslite_HasPrefix_j1 false
theorem internal_stringslite_HasPrefix_ok {mL : Int} {s_ : (List UInt8)} {prefix_ : (List UInt8)} {r : Bool} (h : internal_stringslite_HasPrefix s_ prefix_ = some r) : CPure Tryd.prog (GG mL) 107 [(S s_), (S prefix_)] (B r) := by
  refine acalls_of_sv hmix c107 (R := internal_stringslite_HasPrefix_post r) ?_
  unfold internal_stringslite_HasPrefix at h
  refine Sv.seq ?_
  refine Sv.region ?_
  refine un (a1 rfl ?_)
  refine dnil ?_
  refine Sv.seq ?_
  refine Sv.region ?_
  refine un (a1 rfl ?_)
  refine un (a1 (v := (I (s_.length : Int))) rfl ?_)
  refine un (a1 rfl ?_)
  refine un (a1 (v := (I (prefix_.length : Int))) rfl ?_)
  refine un (a1 (v := (B (decide ((prefix_.length : Int) ≤ (s_.length : Int))))) rfl ?_)
  refine un (a1 rfl ?_)
  refine split2 (fun hc1 => ?_) (fun hc1 => ?_)
  · replace h := ifT hc1 h
    refine gt rfl (a1 rfl ?_)
    refine gt rfl (a1 rfl ?_)
    refine gt rfl (a1 (v := (I (prefix_.length : Int))) rfl ?_)
    obtain ⟨r_, hx1, h⟩ := bnd h
    refine gt rfl (a1 (v := (S r_)) (s_slStr rfl rfl rfl hx1) ?_)
    refine gt rfl (a1 rfl ?_)
    refine gt rfl (a1 (v := (B (decide (r_ = prefix_)))) rfl ?_)
    refine un (a1 (v := (B (decide (r_ = prefix_)))) rfl ?_)
    refine un (a1 rfl ?_)
    refine dnil ?_
    exact Sv.weak (weak_canon [] rfl (by decide) (by decide) (fun b h => absurd h (Nat.not_lt_zero _)) (.cons rfl (avAs_free rfl) .nil) .nil) (internal_stringslite_HasPrefix_j1_ok h)
  · replace h := ifF hc1 h
    refine gs rfl rfl ?_
    refine gs rfl rfl ?_
    refine gs rfl rfl ?_
    refine gs rfl rfl ?_
    refine gs rfl rfl ?_
    refine gs rfl rfl ?_
    refine un (a1 (v := (B false)) rfl ?_)
    refine un (a1 rfl ?_)
    refine dnil ?_
    exact Sv.weak (weak_canon [] rfl (by decide) (by decide) (fun b h => absurd h (Nat.not_lt_zero _)) (.cons rfl (avAs_free rfl) .nil) .nil) (internal_stringslite_HasPrefix_j1_ok h)
def a50 : AFunc := ⟨2, [(.tmp 4)], (.seq (.region [⟨(some 4), (.mov (.const (.c (.val (.bool false))))), none⟩])
 (.seq (.region [⟨(some 5), (.mov (.tmp 0)), none⟩, ⟨(some 6), (.mov (.tmp 1)), none⟩, ⟨(some 7), (.call 107 [(.tmp 5), (.tmp 6)]), none⟩, ⟨(some 4), (.mov (.tmp 7)), none⟩])
 .ret))⟩
set_option maxRecDepth 100000 in
theorem c50 : compFunc Tryd.prog 50 = some a50 := by kernel_rfl
def strings_HasPrefix_post (r : Bool) : AV → Heap → Nat → Prop := fun v h' n' => v = (B r) ∧ (h' = (fun _ => none)) ∧ n' = 0
/-- strings.HasPrefix -/
noncomputable def strings_HasPrefix (s_ : (List UInt8)) (prefix_ : (List UInt8)) : Option Bool :=
  (internal_stringslite_HasPrefix s_ prefix_).bind fun r_ =>
  some r_
theorem strings_HasPrefix_ok {mL : Int} {s_ : (List UInt8)} {prefix_ : (List UInt8)} {r : Bool} (h : strings_HasPrefix s_ prefix_ = some r) : CPure Tryd.prog (GG mL) 50 [(S s_), (S prefix_)] (B r) := by
  refine acalls_of_sv hmix c50 (R := strings_HasPrefix_post r) ?_
  unfold strings_HasPrefix at h
  refine Sv.seq ?_
  refine Sv.region ?_
  refine un (a1 rfl ?_)
  refine dnil ?_
  refine Sv.seq ?_
  refine Sv.region ?_
  refine un (a1 rfl ?_)
  refine un (a1 rfl ?_)
  obtain ⟨r_, hr1, h⟩ := bnd h
  refine un (ac_pure (internal_stringslite_HasPrefix_ok hr1) rfl rfl rfl ?_)
  refine un (a1 rfl ?_)
  refine dnil ?_
  refine Sv.ret ?_
  replace h := Option.some.inj h
  subst h
  exact ⟨_, .refl _, _, rfl, ⟨upd (fun _ => none) 0 (some (B r_)), (fun _ => none), 0⟩, (B r_), weak_canon [] rfl List.nodup_nil (Nat.le_refl _) (fun b h => absurd h (Nat.not_lt_zero _)) (.cons rfl (avAs_free rfl) .nil) .nil, rfl, rfl, rfl, rfl⟩
def a51 : AFunc := ⟨3, [(.tmp 6)], (.seq (.region [⟨(some 6), (.mov (.const (.c (.val (.bool false))))), none⟩])
 (.seq (.region [⟨(some 7), (.mov (.tmp 1)), none⟩, ⟨(some 8), (.mov (.tmp 0)), none⟩, ⟨(some 9), (.bin .leq (.tmp 7) (.tmp 8)), none⟩, ⟨(some 10), (.mov (.tmp 9)), none⟩, ⟨(some 11), (.mov (.tmp 0)), (some (10, true))⟩, ⟨(some 12), (.mov (.tmp 2)), (some (10, true))⟩, ⟨(some 13), (.bin .leq (.tmp 11) (.tmp 12)), (some (10, true))⟩, ⟨(some 14), (.pick (.tmp 10) (.tmp 13) (.const (.c (.val (.bool false))))), none⟩, ⟨(some 6), (.mov (.tmp 14)), none⟩])
 .ret))⟩
set_option maxRecDepth 100000 in
theorem c51 : compFunc Tryd.prog 51 = some a51 := by kernel_rfl
def clerestoryref4_Between_post (r : Bool) : AV → Heap → Nat → Prop := fun v h' n' => v = (B r) ∧ (h' = (fun _ => none)) ∧ n' = 0
/-- clerestory/clerestoryref4.Between -/
def clerestoryref4_Between (n_ : Int) (low : Int) (high : Int) : Bool :=
  ((decide (low ≤ n_)) && (decide (n_ ≤ high)))
theorem clerestoryref4_Between_ok {mL : Int} (n_ : Int) (low : Int) (high : Int) : CPure Tryd.prog (GG mL) 51 [(I n_), (I low), (I high)] (B (clerestoryref4_Between n_ low high)) := by
  generalize h : clerestoryref4_Between n_ low high = o
  refine acalls_of_sv hmix c51 (R := clerestoryref4_Between_post o) ?_
  unfold clerestoryref4_Between at h
  refine Sv.seq ?_
  refine Sv.region ?_
  refine un (a1 rfl ?_)
  refine dnil ?_
  refine Sv.seq ?_
  refine Sv.region ?_
  refine un (a1 rfl ?_)
  refine un (a1 rfl ?_)
  refine un (a1 (v := (B (decide (low ≤ n_)))) rfl ?_)
  refine un (a1 rfl ?_)
  refine gjoin 4 (d := 14) (v := (B ((decide (low ≤ n_)) && (decide (n_ ≤ high))))) (fun X hX => ?_) ?_
  · refine split2 (fun hc1 => ?_) (fun hc1 => ?_)
    · refine gt rfl (a1 rfl ?_)
      refine gt rfl (a1 rfl ?_)
      refine gt rfl (a1 (v := (B (decide (n_ ≤ high)))) rfl ?_)
      refine un (a1 (v := (B (decide (n_ ≤ high)))) rfl ?_)
      refine dnil ?_
      exact hX _ (.putEq (by rw [hc1]; rfl) (.skip _ _ (.skip _ _ (.skip _ _ (.putEq (by rw [hc1]) (.refl _)) rfl) rfl) rfl))
    · refine gs rfl rfl ?_
      refine gs rfl rfl ?_
      refine gs rfl rfl ?_
      refine un (a1 (v := (B false)) rfl ?_)
      refine dnil ?_
      exact hX _ (.putEq (by rw [hc1]; rfl) (.skip _ _ (.skip _ _ (.skip _ _ (.putEq (by rw [hc1]) (.refl _)) rfl) rfl) rfl))
  refine un (a1 rfl ?_)
  refine dnil ?_
  refine Sv.ret ?_
  subst h
  exact ⟨_, .refl _, _, rfl, ⟨upd (fun _ => none) 0 (some (B ((decide (low ≤ n_)) && (decide (n_ ≤ high))))), (fun _ => none), 0⟩, (B ((decide (low ≤ n_)) && (decide (n_ ≤ high)))), weak_canon [] rfl List.nodup_nil (Nat.le_refl _) (fun b h => absurd h (Nat.not_lt_zero _)) (.cons rfl (avAs_free rfl) .nil) .nil, rfl, rfl, rfl, rfl⟩
def a52 : AFunc := ⟨1, [(.tmp 2)], (.seq (.region [⟨(some 2), (.mov (.const (.c (.val (.bool false))))), none⟩])
 (.seq (.region [⟨(some 3), (.mov (.tmp 0)), none⟩, ⟨(some 4), (.conv .i64 (.tmp 3)), none⟩, ⟨(some 5), (.call 51 [(.tmp 4), (.const (.c (.val (.int .i64 97)))), (.const (.c (.val (.int .i64 122))))]), none⟩, ⟨(some 6), (.mov (.tmp 5)), none⟩, ⟨(some 7), (.mov (.tmp 0)), (some (6, false))⟩, ⟨(some 8), (.conv .i64 (.tmp 7)), (some (6, false))⟩, ⟨(some 9), (.call 51 [(.tmp 8), (.const (.c (.val (.int .i64 65)))), (.const (.c (.val (.int .i64 90))))]), (some (6, false))⟩, ⟨(some 10), (.pick (.tmp 6) (.const (.c (.val (.bool true)))) (.tmp 9)), none⟩, ⟨(some 11), (.mov (.tmp 10)), none⟩, ⟨(some 12), (.mov (.tmp 0)), (some (11, false))⟩, ⟨(some 13), (.conv .i64 (.tmp 12)), (some (11, false))⟩, ⟨(some 14), (.call 51 [(.tmp 13), (.const (.c (.val (.int .i64 48)))), (.const (.c (.val (.int .i64 57))))]), (some (11, false))⟩, ⟨(some 15), (.pick (.tmp 11) (.const (.c (.val (.bool true)))) (.tmp 14)), none⟩, ⟨(some 16), (.mov (.tmp 15)), none⟩, ⟨(some 17), (.mov (.tmp 0)), (some (16, false))⟩, ⟨(some 18), (.bin .eql (.tmp 17) (.const (.c (.val (.int .u8 95))))), (some (16, false))⟩, ⟨(some 19), (.pick (.tmp 16) (.const (.c (.val (.bool true)))) (.tmp 18)), none⟩, ⟨(some 2), (.mov (.tmp 19)), none⟩])
 .ret))⟩
set_option maxRecDepth 100000 in
theorem c52 : compFunc Tryd.prog 52 = some a52 := by kernel_rfl
def clerestoryref4_nameByte_post (r : Bool) : AV → Heap → Nat → Prop := fun v h' n' => v = (B r) ∧ (h' = (fun _ => none)) ∧ n' = 0
/-- clerestory/clerestoryref4.nameByte -/
def clerestoryref4_nameByte (c_ : Int) : Bool :=
  ((((clerestoryref4_Between (wr .i64 c_) 97 122) || (clerestoryref4_Between (wr .i64 c_) 65 90)) || (clerestoryref4_Between (wr .i64 c_) 48 57)) || (decide (c_ = 95)))
theorem clerestoryref4_nameByte_ok {mL : Int} (c_ : Int) : CPure Tryd.prog (GG mL) 52 [(.c (.val (.int .u8 c_)))] (B (clerestoryref4_nameByte c_)) := by
  generalize h : clerestoryref4_nameByte c_ = o
  refine acalls_of_sv hmix c52 (R := clerestoryref4_nameByte_post o) ?_
  unfold clerestoryref4_nameByte at h
  refine Sv.seq ?_
  refine Sv.region ?_
  refine un (a1 rfl ?_)
  refine dnil ?_
  refine Sv.seq ?_
  refine Sv.region ?_
  refine un (a1 rfl ?_)
  refine un (a1 (v := (I (wr .i64 c_))) rfl ?_)
  refine un (ac_pure (clerestoryref4_Between_ok (mL := mL) (wr .i64 c_) 97 122) rfl rfl rfl ?_)
  refine un (a1 rfl ?_)
  refine gjoin 4 (d := 10) (v := (B ((clerestoryref4_Between (wr .i64 c_) 97 122) || (clerestoryref4_Between (wr .i64 c_) 65 90)))) (fun X hX => ?_) ?_
  · refine split2 (fun hc1 => ?_) (fun hc1 => ?_)
    · refine gs rfl rfl ?_
      refine gs rfl rfl ?_
      refine gs rfl rfl ?_
      refine un (a1 (v := (B true)) rfl ?_)
      refine dnil ?_
      exact hX _ (.putEq (by rw [hc1]; rfl) (.skip _ _ (.skip _ _ (.skip _ _ (.putEq (by rw [hc1]) (.refl _)) rfl) rfl) rfl))
    · refine gt rfl (a1 rfl ?_)
      refine gt rfl (a1 (v := (I (wr .i64 c_))) rfl ?_)
      refine gt rfl (ac_pure (clerestoryref4_Between_ok (mL := mL) (wr .i64 c_) 65 90) rfl rfl rfl ?_)
      refine un (a1 (v := (B (clerestoryref4_Between (wr .i64 c_) 65 90))) rfl ?_)
      refine dnil ?_
      exact hX _ (.putEq (by rw [hc1]; rfl) (.skip _ _ (.skip _ _ (.skip _ _ (.putEq (by rw [hc1]) (.refl _)) rfl) rfl) rfl))
  refine un (a1 rfl ?_)
  refine gjoin 4 (d := 15) (v := (B (((clerestoryref4_Between (wr .i64 c_) 97 122) || (clerestoryref4_Between (wr .i64 c_) 65 90)) || (clerestoryref4_Between (wr .i64 c_) 48 57)))) (fun X hX => ?_) ?_
  · refine split2 (fun hc2 => ?_) (fun hc2 => ?_)
    · refine gs rfl rfl ?_
      refine gs rfl rfl ?_
      refine gs rfl rfl ?_
      refine un (a1 (v := (B true)) rfl ?_)
      refine dnil ?_
      exact hX _ (.putEq (by rw [hc2]; rfl) (.skip _ _ (.skip _ _ (.skip _ _ (.putEq (by rw [hc2]) (.refl _)) rfl) rfl) rfl))
    · refine gt rfl (a1 rfl ?_)
      refine gt rfl (a1 (v := (I (wr .i64 c_))) rfl ?_)
      refine gt rfl (ac_pure (clerestoryref4_Between_ok (mL := mL) (wr .i64 c_) 48 57) rfl rfl rfl ?_)
      refine un (a1 (v := (B (clerestoryref4_Between (wr .i64 c_) 48 57))) rfl ?_)
      refine dnil ?_
      exact hX _ (.putEq (by rw [hc2]; rfl) (.skip _ _ (.skip _ _ (.skip _ _ (.putEq (by rw [hc2]) (.refl _)) rfl) rfl) rfl))
  refine un (a1 rfl ?_)
  refine gjoin 3 (d := 19) (v := (B ((((clerestoryref4_Between (wr .i64 c_) 97 122) || (clerestoryref4_Between (wr .i64 c_) 65 90)) || (clerestoryref4_Between (wr .i64 c_) 48 57)) || (decide (c_ = 95))))) (fun X hX => ?_) ?_
  · refine split2 (fun hc3 => ?_) (fun hc3 => ?_)
    · refine gs rfl rfl ?_
      refine gs rfl rfl ?_
      refine un (a1 (v := (B true)) rfl ?_)
      refine dnil ?_
      exact hX _ (.putEq (by rw [hc3]; rfl) (.skip _ _ (.skip _ _ (.putEq (by rw [hc3]) (.refl _)) rfl) rfl))
    · refine gt rfl (a1 rfl ?_)
      refine gt rfl (a1 (v := (B (decide (c_ = 95)))) rfl ?_)
      refine un (a1 (v := (B (decide (c_ = 95)))) rfl ?_)
      refine dnil ?_
      exact hX _ (.putEq (by rw [hc3]; rfl) (.skip _ _ (.skip _ _ (.putEq (by rw [hc3]) (.refl _)) rfl) rfl))
  refine un (a1 rfl ?_)
  refine dnil ?_
  refine Sv.ret ?_
  subst h
  exact ⟨_, .refl _, _, rfl, ⟨upd (fun _ => none) 0 (some (B ((((clerestoryref4_Between (wr .i64 c_) 97 122) || (clerestoryref4_Between (wr .i64 c_) 65 90)) || (clerestoryref4_Between (wr .i64 c_) 48 57)) || (decide (c_ = 95))))), (fun _ => none), 0⟩, (B ((((clerestoryref4_Between (wr .i64 c_) 97 122) || (clerestoryref4_Between (wr .i64 c_) 65 90)) || (clerestoryref4_Between (wr .i64 c_) 48 57)) || (decide (c_ = 95)))), weak_canon [] rfl List.nodup_nil (Nat.le_refl _) (fun b h => absurd h (Nat.not_lt_zero _)) (.cons rfl (avAs_free rfl) .nil) .nil, rfl, rfl, rfl, rfl⟩
noncomputable abbrev strings_Contains (s_ : (List UInt8)) (substr_ : (List UInt8)) : Option Bool := contains? s_ substr_
/-- strings.Contains+, by the contract of the shelf -/
theorem strings_Contains_ok {mL : Int} {s_ : (List UInt8)} {substr_ : (List UInt8)} {r : Bool} (h : strings_Contains s_ substr_ = some r) : CPure Tryd.prog (GG mL) 98 [(S s_), (S substr_)] (B r) := contains_ok (m := mL) Tryd.lays144 rfl h
def a53_c0 : ACode := .ret
def a53 : AFunc := ⟨1, [(.tmp 2)], (.seq (.region [⟨(some 2), (.mov (.const (.c (.val (.bool false))))), none⟩])
 (.seq (.region [⟨(some 3), (.mov (.tmp 0)), none⟩, ⟨(some 4), (.bin .neq (.tmp 3) (.const (.c (.str [])))), none⟩, ⟨(some 5), (.mov (.tmp 4)), none⟩, ⟨(some 6), (.mov (.tmp 0)), (some (5, true))⟩, ⟨(some 7), (.bin .add (.const (.c (.str [32]))) (.tmp 6)), (some (5, true))⟩, ⟨(some 8), (.bin .add (.tmp 7) (.const (.c (.str [32])))), (some (5, true))⟩, ⟨(some 9), (.call 98 [(.const (.c (.str [32, 108, 101, 116, 32, 102, 110, 32, 105, 102, 32, 101, 108, 115, 101, 32, 119, 104, 105, 108, 101, 32, 102, 111, 114, 32, 111, 102, 32, 114, 101, 116, 117, 114, 110, 32, 98, 114, 101, 97, 107, 32, 99, 111, 110, 116, 105, 110, 117, 101, 32, 116, 104, 114, 111, 119, 32, 116, 114, 121, 32, 99, 97, 116, 99, 104, 32, 102, 105, 110, 97, 108, 108, 121, 32, 116, 114, 117, 101, 32, 102, 97, 108, 115, 101, 32, 110, 117, 108, 108, 32]))), (.tmp 8)]), (some (5, true))⟩, ⟨(some 10), (.pick (.tmp 5) (.tmp 9) (.const (.c (.val (.bool false))))), none⟩, ⟨(some 2), (.mov (.tmp 10)), none⟩])
 a53_c0))⟩
set_option maxRecDepth 100000 in
theorem c53 : compFunc Tryd.prog 53 = some a53 := by kernel_rfl
def clerestoryref4_isWord_post (r : Bool) : AV → Heap → Nat → Prop := fun v h' n' => v = (B r) ∧ (h' = (fun _ => none)) ∧ n' = 0
noncomputable def clerestoryref4_isWord_j1 (v2 : Bool) : Option Bool :=
  some v2
theorem clerestoryref4_isWord_j1_ok {mL : Int} {v2 : Bool} {o : Bool} (h : clerestoryref4_isWord_j1 v2 = some o) :
    Sv Tryd.prog (GG mL) 0 a53_c0 (Ends a53.results 0 (clerestoryref4_isWord_post o)) ⟨(upd (fun _ => none) 2 (some (B v2))), (fun _ => none), 0⟩ := by
  unfold clerestoryref4_isWord_j1 at h
  refine Sv.ret ?_
  replace h := Option.some.inj h
  subst h
  exact ⟨_, .refl _, _, rfl, ⟨upd (fun _ => none) 0 (some (B v2)), (fun _ => none), 0⟩, (B v2), weak_canon [] rfl List.nodup_nil (Nat.le_refl _) (fun b h => absurd h (Nat.not_lt_zero _)) (.cons rfl (avAs_free rfl) .nil) .nil, rfl, rfl, rfl, rfl⟩
/-- clerestory/clerestoryref4.isWord -/
noncomputable def clerestoryref4_isWord (s_ : (List UInt8)) : Option Bool :=
  if (!decide (s_ = [])) then
    (cat? [32] s_).bind fun r_ =>
    (cat? r_ [32]).bind fun r_1 =>
    (strings_Contains [32, 108, 101, 116, 32, 102, 110, 32, 105, 102, 32, 101, 108, 115, 101, 32, 119, 104, 105, 108, 101, 32, 102, 111, 114, 32, 111, 102, 32, 114, 101, 116, 117, 114, 110, 32, 98, 114, 101, 97, 107, 32, 99, 111, 110, 116, 105, 110, 117, 101, 32, 116, 104, 114, 111, 119, 32, 116, 114, 121, 32, 99, 97, 116, 99, 104, 32, 102, 105, 110, 97, 108, 108, 121, 32, 116, 114, 117, 101, 32, 102, 97, 108, 115, 101, 32, 110, 117, 108, 108, 32] r_1).bind fun r_2 =>
    clerestoryref4_isWord_j1 r_2
  else
    clerestoryref4_isWord_j1 false
theorem clerestoryref4_isWord_ok {mL : Int} {s_ : (List UInt8)} {r : Bool} (h : clerestoryref4_isWord s_ = some r) : CPure Tryd.prog (GG mL) 53 [(S s_)] (B r) := by
  refine acalls_of_sv hmix c53 (R := clerestoryref4_isWord_post r) ?_
  unfold clerestoryref4_isWord at h
  refine Sv.seq ?_
  refine Sv.region ?_
  refine un (a1 rfl ?_)
  refine dnil ?_
  refine Sv.seq ?_
  refine Sv.region ?_
  refine un (a1 rfl ?_)
  refine un (a1 (v := (B (!decide (s_ = [])))) rfl ?_)
  refine un (a1 rfl ?_)
  refine split2 (fun hc1 => ?_) (fun hc1 => ?_)
  · replace h := ifT hc1 h
    refine gt rfl (a1 rfl ?_)
    obtain ⟨r_, hx1, h⟩ := bnd h
    refine gt rfl (a1 (v := (S r_)) (s_cat rfl rfl hx1) ?_)
    obtain ⟨r_1, hx2, h⟩ := bnd h
    refine gt rfl (a1 (v := (S r_1)) (s_cat rfl rfl hx2) ?_)
    obtain ⟨r_2, hr1, h⟩ := bnd h
    refine gt rfl (ac_pure (strings_Contains_ok hr1) rfl rfl rfl ?_)
    refine un (a1 (v := (B r_2)) rfl ?_)
    refine un (a1 rfl ?_)
    refine dnil ?_
    exact Sv.weak (weak_canon [] rfl (by decide) (by decide) (fun b h => absurd h (Nat.not_lt_zero _)) (.cons rfl (avAs_free rfl) .nil) .nil) (clerestoryref4_isWord_j1_ok h)
  · replace h := ifF hc1 h
    refine gs rfl rfl ?_
    refine gs rfl rfl ?_
    refine gs rfl rfl ?_
    refine gs rfl rfl ?_
    refine un (a1 (v := (B false)) rfl ?_)
    refine un (a1 rfl ?_)
    refine dnil ?_
    exact Sv.weak (weak_canon [] rfl (by decide) (by decide) (fun b h => absurd h (Nat.not_lt_zero _)) (.cons rfl (avAs_free rfl) .nil) .nil) (clerestoryref4_isWord_j1_ok h)
noncomputable abbrev strings_Index (s_ : (List UInt8)) (substr_ : (List UInt8)) : Option Int := index? s_ substr_
/-- strings.Index, by the contract of the shelf -/
theorem strings_Index_ok {mL : Int} {s_ : (List UInt8)} {substr_ : (List UInt8)} {r : Int} (h : strings_Index s_ substr_ = some r) : CPure Tryd.prog (GG mL) 93 [(S s_), (S substr_)] (I r) := index_ok (m := mL) Tryd.lays143 rfl h
def a54_c1 : ACode := (.cond (.tmp 102) (.seq (.region [⟨(some 4), (.mov (.const (.c (.str [])))), none⟩, ⟨(some 5), (.mov (.const (.c (.val (.int .i64 (-1)))))), none⟩])
 .ret) .skip)
def a54_c3 : ACode := (.region [⟨(some 103), (.mov (.tmp 10)), none⟩, ⟨(some 104), (.bin .mul (.const (.c (.val (.int .i64 16)))) (.tmp 103)), none⟩, ⟨(some 105), (.mov (.tmp 0)), none⟩, ⟨(some 106), (.mov (.tmp 7)), none⟩, ⟨(some 107), (.mov (.tmp 11)), none⟩, ⟨(some 108), (.bin .add (.tmp 106) (.tmp 107)), none⟩, ⟨(some 109), (.mov (.tmp 7)), none⟩, ⟨(some 110), (.mov (.tmp 11)), none⟩, ⟨(some 111), (.bin .add (.tmp 109) (.tmp 110)), none⟩, ⟨(some 112), (.bin .add (.tmp 111) (.const (.c (.val (.int .i64 1))))), none⟩, ⟨(some 113), (.slStr (.tmp 105) (some (.tmp 108)) (some (.tmp 112))), none⟩, ⟨(some 114), (.call 93 [(.const (.c (.str [48, 49, 50, 51, 52, 53, 54, 55, 56, 57, 97, 98, 99, 100, 101, 102]))), (.tmp 113)]), none⟩, ⟨(some 115), (.bin .add (.tmp 104) (.tmp 114)), none⟩, ⟨(some 10), (.mov (.tmp 115)), none⟩])
def a54_c2 : ACode := (.region [⟨(some 74), (.mov (.tmp 11)), none⟩, ⟨(some 75), (.bin .add (.tmp 74) (.const (.c (.val (.int .i64 1))))), none⟩, ⟨(some 11), (.mov (.tmp 75)), none⟩])
def a54_c4 : ACode := (.seq (.seq (.region [⟨(some 72), (.mov (.tmp 11)), none⟩, ⟨(some 73), (.bin .lss (.tmp 72) (.const (.c (.val (.int .i64 3))))), none⟩])
 (.cond (.tmp 73) .skip (.exit 4)))
 (.seq (.block 5 (.seq (.seq (.region [⟨(some 76), (.mov (.tmp 7)), none⟩, ⟨(some 77), (.mov (.tmp 11)), none⟩, ⟨(some 78), (.bin .add (.tmp 76) (.tmp 77)), none⟩, ⟨(some 79), (.mov (.tmp 0)), none⟩, ⟨(some 80), (.lenS (.tmp 79)), none⟩, ⟨(some 81), (.bin .geq (.tmp 78) (.tmp 80)), none⟩, ⟨(some 82), (.mov (.tmp 81)), none⟩, ⟨(some 83), (.mov (.tmp 0)), (some (82, false))⟩, ⟨(some 84), (.mov (.tmp 7)), (some (82, false))⟩, ⟨(some 85), (.mov (.tmp 11)), (some (82, false))⟩, ⟨(some 86), (.bin .add (.tmp 84) (.tmp 85)), (some (82, false))⟩, ⟨(some 87), (.idxS (.tmp 83) (.tmp 86)), (some (82, false))⟩, ⟨(some 88), (.bin .gtr (.tmp 87) (.const (.c (.val (.int .u8 127))))), (some (82, false))⟩, ⟨(some 89), (.pick (.tmp 82) (.const (.c (.val (.bool true)))) (.tmp 88)), none⟩, ⟨(some 90), (.mov (.tmp 89)), none⟩, ⟨(some 91), (.mov (.tmp 0)), (some (90, false))⟩, ⟨(some 92), (.mov (.tmp 7)), (some (90, false))⟩, ⟨(some 93), (.mov (.tmp 11)), (some (90, false))⟩, ⟨(some 94), (.bin .add (.tmp 92) (.tmp 93)), (some (90, false))⟩, ⟨(some 95), (.mov (.tmp 7)), (some (90, false))⟩, ⟨(some 96), (.mov (.tmp 11)), (some (90, false))⟩, ⟨(some 97), (.bin .add (.tmp 95) (.tmp 96)), (some (90, false))⟩, ⟨(some 98), (.bin .add (.tmp 97) (.const (.c (.val (.int .i64 1))))), (some (90, false))⟩, ⟨(some 99), (.slStr (.tmp 91) (some (.tmp 94)) (some (.tmp 98))), (some (90, false))⟩, ⟨(some 100), (.call 98 [(.const (.c (.str [48, 49, 50, 51, 52, 53, 54, 55, 56, 57, 97, 98, 99, 100, 101, 102]))), (.tmp 99)]), (some (90, false))⟩, ⟨(some 101), (.un .not (.tmp 100)), (some (90, false))⟩, ⟨(some 102), (.pick (.tmp 90) (.const (.c (.val (.bool true)))) (.tmp 101)), none⟩])
 a54_c1)
 a54_c3))
 a54_c2))
def a54_c0 : ACode := (.cond (.tmp 52) (.region [⟨(some 55), (.mov (.tmp 6)), none⟩, ⟨(some 56), (.mov (.tmp 0)), none⟩, ⟨(some 57), (.mov (.tmp 7)), none⟩, ⟨(some 58), (.mov (.tmp 7)), none⟩, ⟨(some 59), (.bin .add (.tmp 58) (.const (.c (.val (.int .i64 1))))), none⟩, ⟨(some 60), (.slStr (.tmp 56) (some (.tmp 57)) (some (.tmp 59))), none⟩, ⟨(some 61), (.bin .add (.tmp 55) (.tmp 60)), none⟩, ⟨(some 6), (.mov (.tmp 61)), none⟩]) (.seq (.region [⟨(some 63), (.bin .eql (.tmp 51) (.const (.c (.val (.int .u8 110))))), none⟩, ⟨(some 62), (.mov (.tmp 63)), none⟩])
 (.cond (.tmp 62) (.region [⟨(some 64), (.mov (.tmp 6)), none⟩, ⟨(some 65), (.bin .add (.tmp 64) (.const (.c (.str [10])))), none⟩, ⟨(some 6), (.mov (.tmp 65)), none⟩]) (.seq (.region [⟨(some 67), (.bin .eql (.tmp 51) (.const (.c (.val (.int .u8 116))))), none⟩, ⟨(some 66), (.mov (.tmp 67)), none⟩])
 (.cond (.tmp 66) (.region [⟨(some 68), (.mov (.tmp 6)), none⟩, ⟨(some 69), (.bin .add (.tmp 68) (.const (.c (.str [9])))), none⟩, ⟨(some 6), (.mov (.tmp 69)), none⟩]) (.seq (.region [⟨(some 71), (.bin .eql (.tmp 51) (.const (.c (.val (.int .u8 120))))), none⟩, ⟨(some 70), (.mov (.tmp 71)), none⟩])
 (.cond (.tmp 70) (.seq (.region [⟨(some 10), (.mov (.const (.c (.val (.int .i64 0))))), none⟩])
 (.seq (.seq (.region [⟨(some 11), (.mov (.const (.c (.val (.int .i64 1))))), none⟩])
 (.block 4 (.loop a54_c4)))
 (.seq (.region [⟨(some 116), (.mov (.tmp 6)), none⟩, ⟨(some 117), (.mov (.tmp 10)), none⟩, ⟨(some 118), (.conv .u8 (.tmp 117)), none⟩, ⟨(some 119), (.bslice 1 [(.val (.int .u8 0))] 1 [(0, (.tmp 118))]), none⟩, ⟨(some 120), (.ofBytes (.tmp 119)), none⟩, ⟨(some 121), (.bin .add (.tmp 116) (.tmp 120)), none⟩, ⟨(some 6), (.mov (.tmp 121)), none⟩])
 (.region [⟨(some 122), (.mov (.tmp 7)), none⟩, ⟨(some 123), (.bin .add (.tmp 122) (.const (.c (.val (.int .i64 2))))), none⟩, ⟨(some 7), (.mov (.tmp 123)), none⟩])))) (.seq (.region [⟨(some 4), (.mov (.const (.c (.str [])))), none⟩, ⟨(some 5), (.mov (.const (.c (.val (.int .i64 (-1)))))), none⟩])
 .ret))))))))
def a54_c5 : ACode := (.region [⟨(some 18), (.mov (.tmp 7)), none⟩, ⟨(some 19), (.bin .add (.tmp 18) (.const (.c (.val (.int .i64 1))))), none⟩, ⟨(some 7), (.mov (.tmp 19)), none⟩])
def a54_c6 : ACode := (.seq (.seq (.region [⟨(some 14), (.mov (.tmp 7)), none⟩, ⟨(some 15), (.mov (.tmp 0)), none⟩, ⟨(some 16), (.lenS (.tmp 15)), none⟩, ⟨(some 17), (.bin .lss (.tmp 14) (.tmp 16)), none⟩])
 (.cond (.tmp 17) .skip (.exit 0)))
 (.seq (.block 1 (.seq (.region [⟨(some 20), (.mov (.tmp 0)), none⟩, ⟨(some 21), (.mov (.tmp 7)), none⟩, ⟨(some 22), (.mov (.tmp 7)), none⟩, ⟨(some 23), (.bin .add (.tmp 22) (.const (.c (.val (.int .i64 1))))), none⟩, ⟨(some 24), (.slStr (.tmp 20) (some (.tmp 21)) (some (.tmp 23))), none⟩, ⟨(some 8), (.mov (.tmp 24)), none⟩])
 (.seq (.block 2 (.seq (.region [⟨(some 26), (.mov (.tmp 8)), none⟩, ⟨(some 27), (.bin .eql (.tmp 26) (.const (.c (.str [34])))), none⟩, ⟨(some 25), (.mov (.tmp 27)), none⟩])
 (.cond (.tmp 25) (.seq (.region [⟨(some 28), (.mov (.tmp 6)), none⟩, ⟨(some 29), (.mov (.tmp 7)), none⟩, ⟨(some 30), (.bin .add (.tmp 29) (.const (.c (.val (.int .i64 1))))), none⟩, ⟨(some 4), (.mov (.tmp 28)), none⟩, ⟨(some 5), (.mov (.tmp 30)), none⟩])
 .ret) (.seq (.region [⟨(some 32), (.mov (.tmp 0)), none⟩, ⟨(some 33), (.mov (.tmp 7)), none⟩, ⟨(some 34), (.idxS (.tmp 32) (.tmp 33)), none⟩, ⟨(some 35), (.bin .lss (.tmp 34) (.const (.c (.val (.int .u8 32))))), none⟩, ⟨(some 31), (.mov (.tmp 35)), none⟩])
 (.cond (.tmp 31) (.seq (.region [⟨(some 4), (.mov (.const (.c (.str [])))), none⟩, ⟨(some 5), (.mov (.const (.c (.val (.int .i64 (-1)))))), none⟩])
 .ret) (.seq (.region [⟨(some 37), (.mov (.tmp 8)), none⟩, ⟨(some 38), (.bin .neq (.tmp 37) (.const (.c (.str [92])))), none⟩, ⟨(some 36), (.mov (.tmp 38)), none⟩])
 (.cond (.tmp 36) (.seq (.region [⟨(some 39), (.mov (.tmp 6)), none⟩, ⟨(some 40), (.mov (.tmp 8)), none⟩, ⟨(some 41), (.bin .add (.tmp 39) (.tmp 40)), none⟩, ⟨(some 6), (.mov (.tmp 41)), none⟩])
 (.exit 1)) .skip)))))))
 (.seq (.region [⟨(some 42), (.mov (.tmp 7)), none⟩, ⟨(some 43), (.bin .add (.tmp 42) (.const (.c (.val (.int .i64 1))))), none⟩, ⟨(some 7), (.mov (.tmp 43)), none⟩])
 (.seq (.seq (.region [⟨(some 44), (.mov (.tmp 7)), none⟩, ⟨(some 45), (.mov (.tmp 0)), none⟩, ⟨(some 46), (.lenS (.tmp 45)), none⟩, ⟨(some 47), (.bin .eql (.tmp 44) (.tmp 46)), none⟩])
 (.cond (.tmp 47) (.seq (.region [⟨(some 4), (.mov (.const (.c (.str [])))), none⟩, ⟨(some 5), (.mov (.const (.c (.val (.int .i64 (-1)))))), none⟩])
 .ret) .skip))
 (.seq (.region [⟨(some 48), (.mov (.tmp 0)), none⟩, ⟨(some 49), (.mov (.tmp 7)), none⟩, ⟨(some 50), (.idxS (.tmp 48) (.tmp 49)), none⟩, ⟨(some 9), (.mov (.tmp 50)), none⟩])
 (.seq (.region [⟨(some 51), (.mov (.tmp 9)), none⟩])
 (.block 3 (.seq (.seq (.region [⟨(some 53), (.bin .eql (.tmp 51) (.const (.c (.val (.int .u8 34))))), none⟩, ⟨(some 52), (.mov (.tmp 53)), none⟩])
 (.cond (.tmp 52) .skip (.region [⟨(some 54), (.bin .eql (.tmp 51) (.const (.c (.val (.int .u8 92))))), none⟩, ⟨(some 52), (.mov (.tmp 54)), none⟩])))
 a54_c0)))))))))
 a54_c5))
def a54 : AFunc := ⟨2, [(.tmp 4), (.tmp 5)], (.seq (.region [⟨(some 4), (.mov (.const (.c (.str [])))), none⟩, ⟨(some 5), (.mov (.const (.c (.val (.int .i64 0))))), none⟩])
 (.seq (.region [⟨(some 6), (.mov (.const (.c (.str [])))), none⟩])
 (.seq (.seq (.region [⟨(some 12), (.mov (.tmp 1)), none⟩, ⟨(some 13), (.bin .add (.tmp 12) (.const (.c (.val (.int .i64 1))))), none⟩, ⟨(some 7), (.mov (.tmp 13)), none⟩])
 (.block 0 (.loop a54_c6)))
 (.seq (.region [⟨(some 4), (.mov (.const (.c (.str [])))), none⟩, ⟨(some 5), (.mov (.const (.c (.val (.int .i64 (-1)))))), none⟩])
 .ret))))⟩
set_option maxRecDepth 100000 in
theorem c54 : compFunc Tryd.prog 54 = some a54 := by kernel_rfl
def clerestoryref4_textAt_post (r : ((List UInt8) × Int)) : AV → Heap → Nat → Prop := fun v h' n' => v = (.tup [(S r.1), (I r.2)]) ∧ (h' = (fun _ => none)) ∧ n' = 0
noncomputable def clerestoryref4_textAt_j35 (s_ : (List UInt8)) (self : (List UInt8) → Int → Option ((List UInt8) × Int)) (K0_ : Unit → Option ((List UInt8) × Int)) (out1 : (List UInt8)) (k_1 : Int) : Option ((List UInt8) × Int) :=
  self out1 (wi (k_1 + 1))
theorem clerestoryref4_textAt_j35_ok {mL : Int} {Q : AExit → St → Prop} {s_ : (List UInt8)} {self : (List UInt8) → Int → Option ((List UInt8) × Int)} {K0_ : Unit → Option ((List UInt8) × Int)} {out1 : (List UInt8)} {k_1 : Int} {o : ((List UInt8) × Int)} (h : clerestoryref4_textAt_j35 s_ self K0_ out1 k_1 = some o)
    (hself : ∀ (out : (List UInt8)) (k_ : Int), self out k_ = some o → ∀ s, Weak 0 s ⟨(upd (upd (upd (fun _ => none) 0 (some (S s_))) 6 (some (S out))) 7 (some (I k_))), (fun _ => none), 0⟩ → (Q) .normal s)
    (hK0 : ∀ (_ : Unit), K0_ () = some o → ∀ s, Weak 0 s ⟨(fun _ => none), (fun _ => none), 0⟩ → Q (.exit 0) s)
    (hr : ∀ s, Ends a54.results 0 (clerestoryref4_textAt_post o) .ret s → Q .ret s) :
    Sv Tryd.prog (GG mL) 0 a54_c5 Q ⟨(upd (upd (upd (fun _ => none) 0 (some (S s_))) 6 (some (S out1))) 7 (some (I k_1))), (fun _ => none), 0⟩ := by
  unfold clerestoryref4_textAt_j35 at h
  refine Sv.region ?_
  refine un (a1 rfl ?_)
  refine un (a1 (v := (I (wi (k_1 + 1)))) rfl ?_)
  refine un (a1 rfl ?_)
  refine dnil ?_
  exact hself out1 (wi (k_1 + 1)) h _ (weak_canon [] rfl (by decide) (by decide) (fun b h => absurd h (Nat.not_lt_zero _)) (.cons rfl (avAs_free rfl) (.cons rfl (avAs_free rfl) (.cons rfl (avAs_free rfl) .nil))) .nil)
abbrev clerestoryref4_textAt_q0 (mL : Int) (Q : AExit → St → Prop) : AExit → St → Prop := AThen (Sv Tryd.prog (GG mL) 0 a54_c2 Q) Q
abbrev clerestoryref4_textAt_q1 (mL : Int) (Q : AExit → St → Prop) : AExit → St → Prop := ABlock 5 (clerestoryref4_textAt_q0 mL Q)
abbrev clerestoryref4_textAt_q2 (mL : Int) (Q : AExit → St → Prop) : AExit → St → Prop := AThen (Sv Tryd.prog (GG mL) 0 a54_c3 (clerestoryref4_textAt_q1 mL Q)) (clerestoryref4_textAt_q1 mL Q)
noncomputable def clerestoryref4_textAt_j39 (s_ : (List UInt8)) (k_ : Int) (i_ : Int) (n_ : Int) (out : (List UInt8)) (self : Int → Int → Option ((List UInt8) × Int)) (K4_ : Int → Option ((List UInt8) × Int)) (v102 : Bool) : Option ((List UInt8) × Int) :=
  if v102 then
    some ([], (-1))
  else
    (sub? s_ (wi ((wi (k_ + 1)) + i_)) (wi ((wi ((wi (k_ + 1)) + i_)) + 1))).bind fun r_6 =>
    (strings_Index [48, 49, 50, 51, 52, 53, 54, 55, 56, 57, 97, 98, 99, 100, 101, 102] r_6).bind fun r_7 =>
    self (wi ((wi (16 * n_)) + r_7)) (wi (i_ + 1))
theorem clerestoryref4_textAt_j39_ok {mL : Int} {Q : AExit → St → Prop} {s_ : (List UInt8)} {k_ : Int} {i_ : Int} {n_ : Int} {out : (List UInt8)} {self : Int → Int → Option ((List UInt8) × Int)} {K4_ : Int → Option ((List UInt8) × Int)} {v102 : Bool} {o : ((List UInt8) × Int)} (h : clerestoryref4_textAt_j39 s_ k_ i_ n_ out self K4_ v102 = some o)
    (hself : ∀ (n_ : Int) (i_ : Int), self n_ i_ = some o → ∀ s, Weak 0 s ⟨(upd (upd (upd (upd (upd (fun _ => none) 0 (some (S s_))) 6 (some (S out))) 7 (some (I (wi (k_ + 1))))) 10 (some (I n_))) 11 (some (I i_))), (fun _ => none), 0⟩ → (Q) .normal s)
    (hK4 : ∀ (n_1 : Int), K4_ n_1 = some o → ∀ s, Weak 0 s ⟨(upd (upd (upd (upd (fun _ => none) 0 (some (S s_))) 6 (some (S out))) 7 (some (I (wi (k_ + 1))))) 10 (some (I n_1))), (fun _ => none), 0⟩ → Q (.exit 4) s)
    (hr : ∀ s, Ends a54.results 0 (clerestoryref4_textAt_post o) .ret s → Q .ret s) :
    Sv Tryd.prog (GG mL) 0 a54_c1 (clerestoryref4_textAt_q2 mL Q) ⟨(upd (upd (upd (upd (upd (upd (fun _ => none) 0 (some (S s_))) 6 (some (S out))) 7 (some (I (wi (k_ + 1))))) 10 (some (I n_))) 11 (some (I i_))) 102 (some (B v102))), (fun _ => none), 0⟩ := by
  unfold clerestoryref4_textAt_j39 at h
  refine Sv.cond (b := v102) rfl (fun hc11 => ?_) (fun hc11 => ?_)
  · replace h := ifT hc11 h
    refine Sv.seq ?_
    refine Sv.region ?_
    refine un (a1 rfl ?_)
    refine un (a1 rfl ?_)
    refine dnil ?_
    refine Sv.ret ?_
    replace h := Option.some.inj h
    subst h
    exact hr _ ⟨_, .refl _, _, rfl, ⟨upd (fun _ => none) 0 (some (.tup [(S []), (I (-1))])), (fun _ => none), 0⟩, (.tup [(S []), (I (-1))]), weak_canon [] rfl List.nodup_nil (Nat.le_refl _) (fun b h => absurd h (Nat.not_lt_zero _)) (.cons rfl (avAs_tup (.cons (avAs_free rfl) (.cons (avAs_free rfl) .nil))) .nil) .nil, rfl, rfl, rfl, rfl⟩
  · replace h := ifF hc11 h
    refine Sv.skip ?_
    refine Sv.region ?_
    refine un (a1 rfl ?_)
    refine un (a1 (v := (I (wi (16 * n_)))) rfl ?_)
    refine un (a1 rfl ?_)
    refine un (a1 rfl ?_)
    refine un (a1 rfl ?_)
    refine un (a1 (v := (I (wi ((wi (k_ + 1)) + i_)))) rfl ?_)
    refine un (a1 rfl ?_)
    refine un (a1 rfl ?_)
    refine un (a1 (v := (I (wi ((wi (k_ + 1)) + i_)))) rfl ?_)
    refine un (a1 (v := (I (wi ((wi ((wi (k_ + 1)) + i_)) + 1)))) rfl ?_)
    obtain ⟨r_6, hx9, h⟩ := bnd h
    refine un (a1 (v := (S r_6)) (s_slStr rfl rfl rfl hx9) ?_)
    obtain ⟨r_7, hr1, h⟩ := bnd h
    refine un (ac_pure (strings_Index_ok hr1) rfl rfl rfl ?_)
    refine un (a1 (v := (I (wi ((wi (16 * n_)) + r_7)))) rfl ?_)
    refine un (a1 rfl ?_)
    refine dnil ?_
    refine Sv.region ?_
    refine un (a1 rfl ?_)
    refine un (a1 (v := (I (wi (i_ + 1)))) rfl ?_)
    refine un (a1 rfl ?_)
    refine dnil ?_
    exact hself (wi ((wi (16 * n_)) + r_7)) (wi (i_ + 1)) h _ (weak_canon [] rfl (by decide) (by decide) (fun b h => absurd h (Nat.not_lt_zero _)) (.cons rfl (avAs_free rfl) (.cons rfl (avAs_free rfl) (.cons rfl (avAs_free rfl) (.cons rfl (avAs_free rfl) (.cons rfl (avAs_free rfl) .nil))))) .nil)
noncomputable def clerestoryref4_textAt_l9 (s_ : (List UInt8)) (k_ : Int) (out : (List UInt8)) (K4_ : Int → Option ((List UInt8) × Int)) : Nat → Int → Int → Option ((List UInt8) × Int)
  | 0, _, _ => none
  | k + 1, n_, i_ =>
    if decide (i_ < 3) then
      if decide ((s_.length : Int) ≤ (wi ((wi (k_ + 1)) + i_))) then
        clerestoryref4_textAt_j39 s_ k_ i_ n_ out (clerestoryref4_textAt_l9 s_ k_ out K4_ k) K4_ true
      else
        (at? s_ (wi ((wi (k_ + 1)) + i_))).bind fun c_2 =>
        if decide (127 < (c_2.toNat : Int)) then
          clerestoryref4_textAt_j39 s_ k_ i_ n_ out (clerestoryref4_textAt_l9 s_ k_ out K4_ k) K4_ true
        else
          (sub? s_ (wi ((wi (k_ + 1)) + i_)) (wi ((wi ((wi (k_ + 1)) + i_)) + 1))).bind fun r_8 =>
          (strings_Contains [48, 49, 50, 51, 52, 53, 54, 55, 56, 57, 97, 98, 99, 100, 101, 102] r_8).bind fun r_9 =>
          clerestoryref4_textAt_j39 s_ k_ i_ n_ out (clerestoryref4_textAt_l9 s_ k_ out K4_ k) K4_ (!r_9)
    else
      K4_ n_
theorem clerestoryref4_textAt_l9_ok {mL : Int} {Q : AExit → St → Prop} {s_ : (List UInt8)} {k_ : Int} {out : (List UInt8)} {K4_ : Int → Option ((List UInt8) × Int)} {k : Nat} {n_ : Int} {i_ : Int} {o : ((List UInt8) × Int)} (h : clerestoryref4_textAt_l9 s_ k_ out K4_ k n_ i_ = some o)
    (hK4 : ∀ (n_1 : Int), K4_ n_1 = some o → ∀ s, Weak 0 s ⟨(upd (upd (upd (upd (fun _ => none) 0 (some (S s_))) 6 (some (S out))) 7 (some (I (wi (k_ + 1))))) 10 (some (I n_1))), (fun _ => none), 0⟩ → Q (.exit 4) s)
    (hr : ∀ s, Ends a54.results 0 (clerestoryref4_textAt_post o) .ret s → Q .ret s) :
    Sv Tryd.prog (GG mL) 0 (.loop a54_c4) Q ⟨(upd (upd (upd (upd (upd (fun _ => none) 0 (some (S s_))) 6 (some (S out))) 7 (some (I (wi (k_ + 1))))) 10 (some (I n_))) 11 (some (I i_))), (fun _ => none), 0⟩ := by
  refine Sv.loop (I := fun k s => ∃ (n_ : Int), ∃ (i_ : Int), clerestoryref4_textAt_l9 s_ k_ out K4_ k n_ i_ = some o ∧ s = ⟨(upd (upd (upd (upd (upd (fun _ => none) 0 (some (S s_))) 6 (some (S out))) 7 (some (I (wi (k_ + 1))))) 10 (some (I n_))) 11 (some (I i_))), (fun _ => none), 0⟩) (fun k s hI => ?_) ⟨n_, i_, h, rfl⟩
  clear h
  clear i_ n_
  obtain ⟨n_, i_, h, rfl⟩ := hI
  cases k with
  | zero => cases h
  | succ k =>
  rw [clerestoryref4_textAt_l9] at h
  have hself : ∀ (n_ : Int) (i_ : Int), (clerestoryref4_textAt_l9 s_ k_ out K4_ k) n_ i_ = some o → ∀ s, Weak 0 s ⟨(upd (upd (upd (upd (upd (fun _ => none) 0 (some (S s_))) 6 (some (S out))) 7 (some (I (wi (k_ + 1))))) 10 (some (I n_))) 11 (some (I i_))), (fun _ => none), 0⟩ → (AThen (fun s' => ∃ s'' k', Weak 0 s' s'' ∧ k' < k + 1 ∧ (fun k s => ∃ (n_ : Int), ∃ (i_ : Int), clerestoryref4_textAt_l9 s_ k_ out K4_ k n_ i_ = some o ∧ s = ⟨(upd (upd (upd (upd (upd (fun _ => none) 0 (some (S s_))) 6 (some (S out))) 7 (some (I (wi (k_ + 1))))) 10 (some (I n_))) 11 (some (I i_))), (fun _ => none), 0⟩) k' s'') Q) .normal s := fun n_ i_ h s hw => ⟨_, k, hw, Nat.lt_succ_self k, n_, i_, h, rfl⟩
  refine Sv.seq ?_
  refine Sv.seq ?_
  refine Sv.region ?_
  refine un (a1 rfl ?_)
  refine un (a1 (v := (B (decide (i_ < 3)))) rfl ?_)
  refine dnil ?_
  refine Sv.cond (b := decide (i_ < 3)) rfl (fun hc10 => ?_) (fun hc10 => ?_)
  · replace h := ifT hc10 h
    refine Sv.skip ?_
    refine Sv.seq ?_
    refine Sv.block ?_
    refine Sv.seq ?_
    refine Sv.seq ?_
    refine Sv.region ?_
    refine un (a1 rfl ?_)
    refine un (a1 rfl ?_)
    refine un (a1 (v := (I (wi ((wi (k_ + 1)) + i_)))) rfl ?_)
    refine un (a1 rfl ?_)
    refine un (a1 (v := (I (s_.length : Int))) rfl ?_)
    refine un (a1 (v := (B (decide ((s_.length : Int) ≤ (wi ((wi (k_ + 1)) + i_)))))) rfl ?_)
    refine un (a1 rfl ?_)
    refine split2 (fun hc12 => ?_) (fun hc12 => ?_)
    · replace h := ifT hc12 h
      refine gs rfl rfl ?_
      refine gs rfl rfl ?_
      refine gs rfl rfl ?_
      refine gs rfl rfl ?_
      refine gs rfl rfl ?_
      refine gs rfl rfl ?_
      refine un (a1 (v := (B true)) rfl ?_)
      refine un (a1 rfl ?_)
      refine gs rfl rfl ?_
      refine gs rfl rfl ?_
      refine gs rfl rfl ?_
      refine gs rfl rfl ?_
      refine gs rfl rfl ?_
      refine gs rfl rfl ?_
      refine gs rfl rfl ?_
      refine gs rfl rfl ?_
      refine gs rfl rfl ?_
      refine gs rfl rfl ?_
      refine gs rfl rfl ?_
      refine un (a1 (v := (B true)) rfl ?_)
      refine dnil ?_
      exact Sv.weak (weak_canon [] rfl (by decide) (by decide) (fun b h => absurd h (Nat.not_lt_zero _)) (.cons rfl (avAs_free rfl) (.cons rfl (avAs_free rfl) (.cons rfl (avAs_free rfl) (.cons rfl (avAs_free rfl) (.cons rfl (avAs_free rfl) (.cons rfl (avAs_free rfl) .nil)))))) .nil) (clerestoryref4_textAt_j39_ok h hself hK4 hr)
    · replace h := ifF hc12 h
      refine gt rfl (a1 rfl ?_)
      refine gt rfl (a1 rfl ?_)
      refine gt rfl (a1 rfl ?_)
      refine gt rfl (a1 (v := (I (wi ((wi (k_ + 1)) + i_)))) rfl ?_)
      obtain ⟨c_2, hx10, h⟩ := bnd h
      refine gt rfl (a1 (v := (.c (.val (.int .u8 (c_2.toNat : Int))))) (s_idxS rfl rfl hx10) ?_)
      refine gt rfl (a1 (v := (B (decide (127 < (c_2.toNat : Int))))) rfl ?_)
      refine un (a1 (v := (B (decide (127 < (c_2.toNat : Int))))) rfl ?_)
      refine un (a1 rfl ?_)
      refine split2 (fun hc13 => ?_) (fun hc13 => ?_)
      · replace h := ifT hc13 h
        refine gs rfl rfl ?_
        refine gs rfl rfl ?_
        refine gs rfl rfl ?_
        refine gs rfl rfl ?_
        refine gs rfl rfl ?_
        refine gs rfl rfl ?_
        refine gs rfl rfl ?_
        refine gs rfl rfl ?_
        refine gs rfl rfl ?_
        refine gs rfl rfl ?_
        refine gs rfl rfl ?_
        refine un (a1 (v := (B true)) rfl ?_)
        refine dnil ?_
        exact Sv.weak (weak_canon [] rfl (by decide) (by decide) (fun b h => absurd h (Nat.not_lt_zero _)) (.cons rfl (avAs_free rfl) (.cons rfl (avAs_free rfl) (.cons rfl (avAs_free rfl) (.cons rfl (avAs_free rfl) (.cons rfl (avAs_free rfl) (.cons rfl (avAs_free rfl) .nil)))))) .nil) (clerestoryref4_textAt_j39_ok h hself hK4 hr)
      · replace h := ifF hc13 h
        refine gt rfl (a1 rfl ?_)
        refine gt rfl (a1 rfl ?_)
        refine gt rfl (a1 rfl ?_)
        refine gt rfl (a1 (v := (I (wi ((wi (k_ + 1)) + i_)))) rfl ?_)
        refine gt rfl (a1 rfl ?_)
        refine gt rfl (a1 rfl ?_)
        refine gt rfl (a1 (v := (I (wi ((wi (k_ + 1)) + i_)))) rfl ?_)
        refine gt rfl (a1 (v := (I (wi ((wi ((wi (k_ + 1)) + i_)) + 1)))) rfl ?_)
        obtain ⟨r_8, hx11, h⟩ := bnd h
        refine gt rfl (a1 (v := (S r_8)) (s_slStr rfl rfl rfl hx11) ?_)
        obtain ⟨r_9, hr2, h⟩ := bnd h
        refine gt rfl (ac_pure (strings_Contains_ok hr2) rfl rfl rfl ?_)
        refine gt rfl (a1 (v := (B (!r_9))) rfl ?_)
        refine un (a1 (v := (B (!r_9))) rfl ?_)
        refine dnil ?_
        exact Sv.weak (weak_canon [] rfl (by decide) (by decide) (fun b h => absurd h (Nat.not_lt_zero _)) (.cons rfl (avAs_free rfl) (.cons rfl (avAs_free rfl) (.cons rfl (avAs_free rfl) (.cons rfl (avAs_free rfl) (.cons rfl (avAs_free rfl) (.cons rfl (avAs_free rfl) .nil)))))) .nil) (clerestoryref4_textAt_j39_ok h hself hK4 hr)
  · replace h := ifF hc10 h
    refine Sv.exit ?_
    exact hK4 n_ h _ (weak_canon [] rfl (by decide) (by decide) (fun b h => absurd h (Nat.not_lt_zero _)) (.cons rfl (avAs_free rfl) (.cons rfl (avAs_free rfl) (.cons rfl (avAs_free rfl) (.cons rfl (avAs_free rfl) .nil)))) .nil)
abbrev clerestoryref4_textAt_q3 (mL : Int) (Q : AExit → St → Prop) : AExit → St → Prop := AThen (Sv Tryd.prog (GG mL) 0 a54_c5 Q) Q
abbrev clerestoryref4_textAt_q4 (mL : Int) (Q : AExit → St → Prop) : AExit → St → Prop := ABlock 1 (clerestoryref4_textAt_q3 mL Q)
abbrev clerestoryref4_textAt_q5 (mL : Int) (Q : AExit → St → Prop) : AExit → St → Prop := ABlock 3 (clerestoryref4_textAt_q4 mL Q)
noncomputable def clerestoryref4_textAt_j36 (s_ : (List UInt8)) (k_ : Int) (out : (List UInt8)) (c_1 : UInt8) (self : (List UInt8) → Int → Option ((List UInt8) × Int)) (K0_ : Unit → Option ((List UInt8) × Int)) (v52 : Bool) : Option ((List UInt8) × Int) :=
  if v52 then
    (sub? s_ (wi (k_ + 1)) (wi ((wi (k_ + 1)) + 1))).bind fun r_2 =>
    (cat? out r_2).bind fun r_3 =>
    clerestoryref4_textAt_j35 s_ self K0_ r_3 (wi (k_ + 1))
  else
    if decide ((c_1.toNat : Int) = 110) then
      (cat? out [10]).bind fun r_4 =>
      clerestoryref4_textAt_j35 s_ self K0_ r_4 (wi (k_ + 1))
    else
      if decide ((c_1.toNat : Int) = 116) then
        (cat? out [9]).bind fun r_5 =>
        clerestoryref4_textAt_j35 s_ self K0_ r_5 (wi (k_ + 1))
      else
        if decide ((c_1.toNat : Int) = 120) then
          lim fun kk => clerestoryref4_textAt_l9 s_ k_ out (fun (n_1 : Int) => 
              (cat? out (byts [(wr .u8 n_1)])).bind fun r_10 =>
              clerestoryref4_textAt_j35 s_ self K0_ r_10 (wi ((wi (k_ + 1)) + 2))) kk 0 1
        else
          some ([], (-1))
theorem clerestoryref4_textAt_j36_ok {mL : Int} {Q : AExit → St → Prop} {s_ : (List UInt8)} {k_ : Int} {out : (List UInt8)} {c_1 : UInt8} {self : (List UInt8) → Int → Option ((List UInt8) × Int)} {K0_ : Unit → Option ((List UInt8) × Int)} {v52 : Bool} {o : ((List UInt8) × Int)} (h : clerestoryref4_textAt_j36 s_ k_ out c_1 self K0_ v52 = some o)
    (hself : ∀ (out : (List UInt8)) (k_ : Int), self out k_ = some o → ∀ s, Weak 0 s ⟨(upd (upd (upd (fun _ => none) 0 (some (S s_))) 6 (some (S out))) 7 (some (I k_))), (fun _ => none), 0⟩ → (Q) .normal s)
    (hK0 : ∀ (_ : Unit), K0_ () = some o → ∀ s, Weak 0 s ⟨(fun _ => none), (fun _ => none), 0⟩ → Q (.exit 0) s)
    (hr : ∀ s, Ends a54.results 0 (clerestoryref4_textAt_post o) .ret s → Q .ret s) :
    Sv Tryd.prog (GG mL) 0 a54_c0 (clerestoryref4_textAt_q5 mL Q) ⟨(upd (upd (upd (upd (upd (fun _ => none) 0 (some (S s_))) 6 (some (S out))) 7 (some (I (wi (k_ + 1))))) 51 (some (.c (.val (.int .u8 (c_1.toNat : Int)))))) 52 (some (B v52))), (fun _ => none), 0⟩ := by
  unfold clerestoryref4_textAt_j36 at h
  refine Sv.cond (b := v52) rfl (fun hc6 => ?_) (fun hc6 => ?_)
  · replace h := ifT hc6 h
    refine Sv.region ?_
    refine un (a1 rfl ?_)
    refine un (a1 rfl ?_)
    refine un (a1 rfl ?_)
    refine un (a1 rfl ?_)
    refine un (a1 (v := (I (wi ((wi (k_ + 1)) + 1)))) rfl ?_)
    obtain ⟨r_2, hx5, h⟩ := bnd h
    refine un (a1 (v := (S r_2)) (s_slStr rfl rfl rfl hx5) ?_)
    obtain ⟨r_3, hx6, h⟩ := bnd h
    refine un (a1 (v := (S r_3)) (s_cat rfl rfl hx6) ?_)
    refine un (a1 rfl ?_)
    refine dnil ?_
    exact Sv.weak (weak_canon [] rfl (by decide) (by decide) (fun b h => absurd h (Nat.not_lt_zero _)) (.cons rfl (avAs_free rfl) (.cons rfl (avAs_free rfl) (.cons rfl (avAs_free rfl) .nil))) .nil) (clerestoryref4_textAt_j35_ok h hself hK0 hr)
  · replace h := ifF hc6 h
    refine Sv.seq ?_
    refine Sv.region ?_
    refine un (a1 (v := (B (decide ((c_1.toNat : Int) = 110)))) rfl ?_)
    refine un (a1 rfl ?_)
    refine dnil ?_
    refine Sv.cond (b := decide ((c_1.toNat : Int) = 110)) rfl (fun hc7 => ?_) (fun hc7 => ?_)
    · replace h := ifT hc7 h
      refine Sv.region ?_
      refine un (a1 rfl ?_)
      obtain ⟨r_4, hx7, h⟩ := bnd h
      refine un (a1 (v := (S r_4)) (s_cat rfl rfl hx7) ?_)
      refine un (a1 rfl ?_)
      refine dnil ?_
      exact Sv.weak (weak_canon [] rfl (by decide) (by decide) (fun b h => absurd h (Nat.not_lt_zero _)) (.cons rfl (avAs_free rfl) (.cons rfl (avAs_free rfl) (.cons rfl (avAs_free rfl) .nil))) .nil) (clerestoryref4_textAt_j35_ok h hself hK0 hr)
    · replace h := ifF hc7 h
      refine Sv.seq ?_
      refine Sv.region ?_
      refine un (a1 (v := (B (decide ((c_1.toNat : Int) = 116)))) rfl ?_)
      refine un (a1 rfl ?_)
      refine dnil ?_
      refine Sv.cond (b := decide ((c_1.toNat : Int) = 116)) rfl (fun hc8 => ?_) (fun hc8 => ?_)
      · replace h := ifT hc8 h
        refine Sv.region ?_
        refine un (a1 rfl ?_)
        obtain ⟨r_5, hx8, h⟩ := bnd h
        refine un (a1 (v := (S r_5)) (s_cat rfl rfl hx8) ?_)
        refine un (a1 rfl ?_)
        refine dnil ?_
        exact Sv.weak (weak_canon [] rfl (by decide) (by decide) (fun b h => absurd h (Nat.not_lt_zero _)) (.cons rfl (avAs_free rfl) (.cons rfl (avAs_free rfl) (.cons rfl (avAs_free rfl) .nil))) .nil) (clerestoryref4_textAt_j35_ok h hself hK0 hr)
      · replace h := ifF hc8 h
        refine Sv.seq ?_
        refine Sv.region ?_
        refine un (a1 (v := (B (decide ((c_1.toNat : Int) = 120)))) rfl ?_)
        refine un (a1 rfl ?_)
        refine dnil ?_
        refine Sv.cond (b := decide ((c_1.toNat : Int) = 120)) rfl (fun hc9 => ?_) (fun hc9 => ?_)
        · replace h := ifT hc9 h
          refine Sv.seq ?_
          refine Sv.region ?_
          refine un (a1 rfl ?_)
          refine dnil ?_
          refine Sv.seq ?_
          refine Sv.seq ?_
          refine Sv.region ?_
          refine un (a1 rfl ?_)
          refine dnil ?_
          refine Sv.block ?_
          obtain ⟨kk, h⟩ := lim_some h
          refine Sv.weak (weak_canon [] rfl (by decide) (by decide) (fun b h => absurd h (Nat.not_lt_zero _)) (.cons rfl (avAs_free rfl) (.cons rfl (avAs_free rfl) (.cons rfl (avAs_free rfl) (.cons rfl (avAs_free rfl) (.cons rfl (avAs_free rfl) .nil))))) .nil) (clerestoryref4_textAt_l9_ok h ?_ hr)
          · intro n_1 h _ hw1
            refine Sv.weak hw1 ?_
            refine Sv.seq ?_
            refine Sv.region ?_
            refine un (a1 rfl ?_)
            refine un (a1 rfl ?_)
            refine un (a1 (v := (.c (.val (.int .u8 (wr .u8 n_1))))) rfl ?_)
            refine un (a2v (v := (lstV false 0 1 [(wr .u8 n_1)].length)) (h' := upd _ 0 (lstB false 1 ([(wr .u8 n_1)].map (eK .u8)))) (n' := 1) rfl rfl (fun h => by cases h) ?_)
            refine un (a1 (v := (S (byts [(wr .u8 n_1)]))) (s_ofBytes (xs := [(wr .u8 n_1)]) rfl (slc_lst rfl (List.length_map _).symm (map_nil_of (fun h => by cases h)))) ?_)
            obtain ⟨r_10, hx12, h⟩ := bnd h
            refine un (a1 (v := (S r_10)) (s_cat rfl rfl hx12) ?_)
            refine un (a1 rfl ?_)
            refine dnil ?_
            refine Sv.region ?_
            refine un (a1 rfl ?_)
            refine un (a1 (v := (I (wi ((wi (k_ + 1)) + 2)))) rfl ?_)
            refine un (a1 rfl ?_)
            refine dnil ?_
            exact Sv.weak (weak_canon [] rfl (by decide) (by decide) (fun b h => absurd h (Nat.not_lt_zero _)) (.cons rfl (avAs_free rfl) (.cons rfl (avAs_free rfl) (.cons rfl (avAs_free rfl) .nil))) .nil) (clerestoryref4_textAt_j35_ok h hself hK0 hr)
        · replace h := ifF hc9 h
          refine Sv.seq ?_
          refine Sv.region ?_
          refine un (a1 rfl ?_)
          refine un (a1 rfl ?_)
          refine dnil ?_
          refine Sv.ret ?_
          replace h := Option.some.inj h
          subst h
          exact hr _ ⟨_, .refl _, _, rfl, ⟨upd (fun _ => none) 0 (some (.tup [(S []), (I (-1))])), (fun _ => none), 0⟩, (.tup [(S []), (I (-1))]), weak_canon [] rfl List.nodup_nil (Nat.le_refl _) (fun b h => absurd h (Nat.not_lt_zero _)) (.cons rfl (avAs_tup (.cons (avAs_free rfl) (.cons (avAs_free rfl) .nil))) .nil) .nil, rfl, rfl, rfl, rfl⟩
noncomputable def clerestoryref4_textAt_l6 (s_ : (List UInt8)) (K0_ : Unit → Option ((List UInt8) × Int)) : Nat → (List UInt8) → Int → Option ((List UInt8) × Int)
  | 0, _, _ => none
  | k + 1, out, k_ =>
    if decide (k_ < (s_.length : Int)) then
      (sub? s_ k_ (wi (k_ + 1))).bind fun r_ =>
      if decide (r_ = [34]) then
        some (out, (wi (k_ + 1)))
      else
        (at? s_ k_).bind fun c_ =>
        if decide ((c_.toNat : Int) < 32) then
          some ([], (-1))
        else
          if (!decide (r_ = [92])) then
            (cat? out r_).bind fun r_1 =>
            clerestoryref4_textAt_j35 s_ (clerestoryref4_textAt_l6 s_ K0_ k) K0_ r_1 k_
          else
            if decide ((wi (k_ + 1)) = (s_.length : Int)) then
              some ([], (-1))
            else
              (at? s_ (wi (k_ + 1))).bind fun c_1 =>
              if decide ((c_1.toNat : Int) = 34) then
                clerestoryref4_textAt_j36 s_ k_ out c_1 (clerestoryref4_textAt_l6 s_ K0_ k) K0_ (decide ((c_1.toNat : Int) = 34))
              else
                clerestoryref4_textAt_j36 s_ k_ out c_1 (clerestoryref4_textAt_l6 s_ K0_ k) K0_ (decide ((c_1.toNat : Int) = 92))
    else
      K0_ ()
theorem clerestoryref4_textAt_l6_ok {mL : Int} {Q : AExit → St → Prop} {s_ : (List UInt8)} {K0_ : Unit → Option ((List UInt8) × Int)} {k : Nat} {out : (List UInt8)} {k_ : Int} {o : ((List UInt8) × Int)} (h : clerestoryref4_textAt_l6 s_ K0_ k out k_ = some o)
    (hK0 : ∀ (_ : Unit), K0_ () = some o → ∀ s, Weak 0 s ⟨(fun _ => none), (fun _ => none), 0⟩ → Q (.exit 0) s)
    (hr : ∀ s, Ends a54.results 0 (clerestoryref4_textAt_post o) .ret s → Q .ret s) :
    Sv Tryd.prog (GG mL) 0 (.loop a54_c6) Q ⟨(upd (upd (upd (fun _ => none) 0 (some (S s_))) 6 (some (S out))) 7 (some (I k_))), (fun _ => none), 0⟩ := by
  refine Sv.loop (I := fun k s => ∃ (out : (List UInt8)), ∃ (k_ : Int), clerestoryref4_textAt_l6 s_ K0_ k out k_ = some o ∧ s = ⟨(upd (upd (upd (fun _ => none) 0 (some (S s_))) 6 (some (S out))) 7 (some (I k_))), (fun _ => none), 0⟩) (fun k s hI => ?_) ⟨out, k_, h, rfl⟩
  clear h
  clear k_ out
  obtain ⟨out, k_, h, rfl⟩ := hI
  cases k with
  | zero => cases h
  | succ k =>
  rw [clerestoryref4_textAt_l6] at h
  have hself : ∀ (out : (List UInt8)) (k_ : Int), (clerestoryref4_textAt_l6 s_ K0_ k) out k_ = some o → ∀ s, Weak 0 s ⟨(upd (upd (upd (fun _ => none) 0 (some (S s_))) 6 (some (S out))) 7 (some (I k_))), (fun _ => none), 0⟩ → (AThen (fun s' => ∃ s'' k', Weak 0 s' s'' ∧ k' < k + 1 ∧ (fun k s => ∃ (out : (List UInt8)), ∃ (k_ : Int), clerestoryref4_textAt_l6 s_ K0_ k out k_ = some o ∧ s = ⟨(upd (upd (upd (fun _ => none) 0 (some (S s_))) 6 (some (S out))) 7 (some (I k_))), (fun _ => none), 0⟩) k' s'') Q) .normal s := fun out k_ h s hw => ⟨_, k, hw, Nat.lt_succ_self k, out, k_, h, rfl⟩
  refine Sv.seq ?_
  refine Sv.seq ?_
  refine Sv.region ?_
  refine un (a1 rfl ?_)
  refine un (a1 rfl ?_)
  refine un (a1 (v := (I (s_.length : Int))) rfl ?_)
  refine un (a1 (v := (B (decide (k_ < (s_.length : Int))))) rfl ?_)
  refine dnil ?_
  refine Sv.cond (b := decide (k_ < (s_.length : Int))) rfl (fun hc1 => ?_) (fun hc1 => ?_)
  · replace h := ifT hc1 h
    refine Sv.skip ?_
    refine Sv.seq ?_
    refine Sv.block ?_
    refine Sv.seq ?_
    refine Sv.region ?_
    refine un (a1 rfl ?_)
    refine un (a1 rfl ?_)
    refine un (a1 rfl ?_)
    refine un (a1 (v := (I (wi (k_ + 1)))) rfl ?_)
    obtain ⟨r_, hx1, h⟩ := bnd h
    refine un (a1 (v := (S r_)) (s_slStr rfl rfl rfl hx1) ?_)
    refine un (a1 rfl ?_)
    refine dnil ?_
    refine Sv.seq ?_
    refine Sv.block ?_
    refine Sv.seq ?_
    refine Sv.region ?_
    refine un (a1 rfl ?_)
    refine un (a1 (v := (B (decide (r_ = [34])))) rfl ?_)
    refine un (a1 rfl ?_)
    refine dnil ?_
    refine Sv.cond (b := decide (r_ = [34])) rfl (fun hc2 => ?_) (fun hc2 => ?_)
    · replace h := ifT hc2 h
      refine Sv.seq ?_
      refine Sv.region ?_
      refine un (a1 rfl ?_)
      refine un (a1 rfl ?_)
      refine un (a1 (v := (I (wi (k_ + 1)))) rfl ?_)
      refine un (a1 rfl ?_)
      refine un (a1 rfl ?_)
      refine dnil ?_
      refine Sv.ret ?_
      replace h := Option.some.inj h
      subst h
      exact hr _ ⟨_, .refl _, _, rfl, ⟨upd (fun _ => none) 0 (some (.tup [(S out), (I (wi (k_ + 1)))])), (fun _ => none), 0⟩, (.tup [(S out), (I (wi (k_ + 1)))]), weak_canon [] rfl List.nodup_nil (Nat.le_refl _) (fun b h => absurd h (Nat.not_lt_zero _)) (.cons rfl (avAs_tup (.cons (avAs_free rfl) (.cons (avAs_free rfl) .nil))) .nil) .nil, rfl, rfl, rfl, rfl⟩
    · replace h := ifF hc2 h
      refine Sv.seq ?_
      refine Sv.region ?_
      refine un (a1 rfl ?_)
      refine un (a1 rfl ?_)
      obtain ⟨c_, hx2, h⟩ := bnd h
      refine un (a1 (v := (.c (.val (.int .u8 (c_.toNat : Int))))) (s_idxS rfl rfl hx2) ?_)
      refine un (a1 (v := (B (decide ((c_.toNat : Int) < 32)))) rfl ?_)
      refine un (a1 rfl ?_)
      refine dnil ?_
      refine Sv.cond (b := decide ((c_.toNat : Int) < 32)) rfl (fun hc3 => ?_) (fun hc3 => ?_)
      · replace h := ifT hc3 h
        refine Sv.seq ?_
        refine Sv.region ?_
        refine un (a1 rfl ?_)
        refine un (a1 rfl ?_)
        refine dnil ?_
        refine Sv.ret ?_
        replace h := Option.some.inj h
        subst h
        exact hr _ ⟨_, .refl _, _, rfl, ⟨upd (fun _ => none) 0 (some (.tup [(S []), (I (-1))])), (fun _ => none), 0⟩, (.tup [(S []), (I (-1))]), weak_canon [] rfl List.nodup_nil (Nat.le_refl _) (fun b h => absurd h (Nat.not_lt_zero _)) (.cons rfl (avAs_tup (.cons (avAs_free rfl) (.cons (avAs_free rfl) .nil))) .nil) .nil, rfl, rfl, rfl, rfl⟩
      · replace h := ifF hc3 h
        refine Sv.seq ?_
        refine Sv.region ?_
        refine un (a1 rfl ?_)
        refine un (a1 (v := (B (!decide (r_ = [92])))) rfl ?_)
        refine un (a1 rfl ?_)
        refine dnil ?_
        refine Sv.cond (b := (!decide (r_ = [92]))) rfl (fun hc4 => ?_) (fun hc4 => ?_)
        · replace h := ifT hc4 h
          refine Sv.seq ?_
          refine Sv.region ?_
          refine un (a1 rfl ?_)
          refine un (a1 rfl ?_)
          obtain ⟨r_1, hx3, h⟩ := bnd h
          refine un (a1 (v := (S r_1)) (s_cat rfl rfl hx3) ?_)
          refine un (a1 rfl ?_)
          refine dnil ?_
          refine Sv.exit ?_
          exact Sv.weak (weak_canon [] rfl (by decide) (by decide) (fun b h => absurd h (Nat.not_lt_zero _)) (.cons rfl (avAs_free rfl) (.cons rfl (avAs_free rfl) (.cons rfl (avAs_free rfl) .nil))) .nil) (clerestoryref4_textAt_j35_ok h hself hK0 hr)
        · replace h := ifF hc4 h
          refine Sv.skip ?_
          refine Sv.seq ?_
          refine Sv.region ?_
          refine un (a1 rfl ?_)
          refine un (a1 (v := (I (wi (k_ + 1)))) rfl ?_)
          refine un (a1 rfl ?_)
          refine dnil ?_
          refine Sv.seq ?_
          refine Sv.seq ?_
          refine Sv.region ?_
          refine un (a1 rfl ?_)
          refine un (a1 rfl ?_)
          refine un (a1 (v := (I (s_.length : Int))) rfl ?_)
          refine un (a1 (v := (B (decide ((wi (k_ + 1)) = (s_.length : Int))))) rfl ?_)
          refine dnil ?_
          refine Sv.cond (b := decide ((wi (k_ + 1)) = (s_.length : Int))) rfl (fun hc5 => ?_) (fun hc5 => ?_)
          · replace h := ifT hc5 h
            refine Sv.seq ?_
            refine Sv.region ?_
            refine un (a1 rfl ?_)
            refine un (a1 rfl ?_)
            refine dnil ?_
            refine Sv.ret ?_
            replace h := Option.some.inj h
            subst h
            exact hr _ ⟨_, .refl _, _, rfl, ⟨upd (fun _ => none) 0 (some (.tup [(S []), (I (-1))])), (fun _ => none), 0⟩, (.tup [(S []), (I (-1))]), weak_canon [] rfl List.nodup_nil (Nat.le_refl _) (fun b h => absurd h (Nat.not_lt_zero _)) (.cons rfl (avAs_tup (.cons (avAs_free rfl) (.cons (avAs_free rfl) .nil))) .nil) .nil, rfl, rfl, rfl, rfl⟩
          · replace h := ifF hc5 h
            refine Sv.skip ?_
            refine Sv.seq ?_
            refine Sv.region ?_
            refine un (a1 rfl ?_)
            refine un (a1 rfl ?_)
            obtain ⟨c_1, hx4, h⟩ := bnd h
            refine un (a1 (v := (.c (.val (.int .u8 (c_1.toNat : Int))))) (s_idxS rfl rfl hx4) ?_)
            refine un (a1 rfl ?_)
            refine dnil ?_
            refine Sv.seq ?_
            refine Sv.region ?_
            refine un (a1 rfl ?_)
            refine dnil ?_
            refine Sv.block ?_
            refine Sv.seq ?_
            refine Sv.seq ?_
            refine Sv.region ?_
            refine un (a1 (v := (B (decide ((c_1.toNat : Int) = 34)))) rfl ?_)
            refine un (a1 rfl ?_)
            refine dnil ?_
            refine Sv.cond (b := decide ((c_1.toNat : Int) = 34)) rfl (fun hc14 => ?_) (fun hc14 => ?_)
            · replace h := ifT hc14 h
              refine Sv.skip ?_
              exact Sv.weak (weak_canon [] rfl (by decide) (by decide) (fun b h => absurd h (Nat.not_lt_zero _)) (.cons rfl (avAs_free rfl) (.cons rfl (avAs_free rfl) (.cons rfl (avAs_free rfl) (.cons rfl (avAs_free rfl) (.cons rfl (avAs_free rfl) .nil))))) .nil) (clerestoryref4_textAt_j36_ok h hself hK0 hr)
            · replace h := ifF hc14 h
              refine Sv.region ?_
              refine un (a1 (v := (B (decide ((c_1.toNat : Int) = 92)))) rfl ?_)
              refine un (a1 rfl ?_)
              refine dnil ?_
              exact Sv.weak (weak_canon [] rfl (by decide) (by decide) (fun b h => absurd h (Nat.not_lt_zero _)) (.cons rfl (avAs_free rfl) (.cons rfl (avAs_free rfl) (.cons rfl (avAs_free rfl) (.cons rfl (avAs_free rfl) (.cons rfl (avAs_free rfl) .nil))))) .nil) (clerestoryref4_textAt_j36_ok h hself hK0 hr)
  · replace h := ifF hc1 h
    refine Sv.exit ?_
    exact hK0 () h _ (weak_canon [] rfl (by decide) (by decide) (fun b h => absurd h (Nat.not_lt_zero _)) .nil .nil)
/-- clerestory/clerestoryref4.textAt -/
noncomputable def clerestoryref4_textAt (s_ : (List UInt8)) (at_ : Int) : Option ((List UInt8) × Int) :=
  lim fun kk1 => clerestoryref4_textAt_l6 s_ (fun (_ : Unit) => 
      some ([], (-1))) kk1 [] (wi (at_ + 1))
theorem clerestoryref4_textAt_ok {mL : Int} {s_ : (List UInt8)} {at_ : Int} {r : ((List UInt8) × Int)} (h : clerestoryref4_textAt s_ at_ = some r) : CPure Tryd.prog (GG mL) 54 [(S s_), (I at_)] (.tup [(S r.1), (I r.2)]) := by
  refine acalls_of_sv hmix c54 (R := clerestoryref4_textAt_post r) ?_
  unfold clerestoryref4_textAt at h
  refine Sv.seq ?_
  refine Sv.region ?_
  refine un (a1 rfl ?_)
  refine un (a1 rfl ?_)
  refine dnil ?_
  refine Sv.seq ?_
  refine Sv.region ?_
  refine un (a1 rfl ?_)
  refine dnil ?_
  refine Sv.seq ?_
  refine Sv.seq ?_
  refine Sv.region ?_
  refine un (a1 rfl ?_)
  refine un (a1 (v := (I (wi (at_ + 1)))) rfl ?_)
  refine un (a1 rfl ?_)
  refine dnil ?_
  refine Sv.block ?_
  obtain ⟨kk1, h⟩ := lim_some h
  refine Sv.weak (weak_canon [] rfl (by decide) (by decide) (fun b h => absurd h (Nat.not_lt_zero _)) (.cons rfl (avAs_free rfl) (.cons rfl (avAs_free rfl) (.cons rfl (avAs_free rfl) .nil))) .nil) (clerestoryref4_textAt_l6_ok h ?_ (fun s hs => hs))
  · intro _ h _ hw2
    refine Sv.weak hw2 ?_
    refine Sv.seq ?_
    refine Sv.region ?_
    refine un (a1 rfl ?_)
    refine un (a1 rfl ?_)
    refine dnil ?_
    refine Sv.ret ?_
    replace h := Option.some.inj h
    subst h
    exact ⟨_, .refl _, _, rfl, ⟨upd (fun _ => none) 0 (some (.tup [(S []), (I (-1))])), (fun _ => none), 0⟩, (.tup [(S []), (I (-1))]), weak_canon [] rfl List.nodup_nil (Nat.le_refl _) (fun b h => absurd h (Nat.not_lt_zero _)) (.cons rfl (avAs_tup (.cons (avAs_free rfl) (.cons (avAs_free rfl) .nil))) .nil) .nil, rfl, rfl, rfl, rfl⟩
def a55_c0 : ACode := (.seq (.region [⟨(some 8), (.bin .lss (.tmp 7) (.tmp 6)), none⟩])
 (.seq (.cond (.tmp 8) .skip (.exit 0))
 (.seq (.block 1 (.seq (.region [⟨(some 9), (.iaddr 1 (.tmp 5) (.tmp 7)), none⟩, ⟨(some 10), (.load false 1 (.tmp 9)), none⟩, ⟨(some 4), (.mov (.tmp 10)), none⟩])
 (.seq (.region [⟨(some 11), (.mov (.tmp 0)), none⟩, ⟨(some 12), (.mov (.tmp 4)), none⟩, ⟨(some 13), (.call 50 [(.tmp 11), (.tmp 12)]), none⟩])
 (.cond (.tmp 13) (.seq (.region [⟨(some 14), (.mov (.tmp 4)), none⟩, ⟨(some 2), (.mov (.tmp 14)), none⟩])
 .ret) .skip))))
 (.region [⟨(some 15), (.bin .add (.tmp 7) (.const (.c (.val (.int .i64 1))))), none⟩, ⟨(some 7), (.mov (.tmp 15)), none⟩]))))
def a55_c1 : ACode := (.cond (.tmp 23) (.seq (.region [⟨(some 24), (.mov (.tmp 0)), none⟩, ⟨(some 25), (.slStr (.tmp 24) none (some (.const (.c (.val (.int .i64 1)))))), none⟩, ⟨(some 2), (.mov (.tmp 25)), none⟩])
 .ret) .skip)
def a55_c2 : ACode := (.seq (.region [⟨(some 2), (.mov (.const (.c (.str [])))), none⟩])
 .ret)
def a55 : AFunc := ⟨1, [(.tmp 2)], (.seq (.region [⟨(some 2), (.mov (.const (.c (.str [])))), none⟩])
 (.seq (.seq (.region [⟨(some 5), (.bslice 1 [(.str [])] 6 [(0, (.const (.c (.str [61, 61])))), (1, (.const (.c (.str [33, 61])))), (2, (.const (.c (.str [60, 61])))), (3, (.const (.c (.str [62, 61])))), (4, (.const (.c (.str [38, 38])))), (5, (.const (.c (.str [124, 124]))))]), none⟩, ⟨(some 6), (.len (.tmp 5)), none⟩, ⟨(some 7), (.mov (.const (.c (.val (.int .i64 0))))), none⟩])
 (.block 0 (.loop a55_c0)))
 (.seq (.seq (.region [⟨(some 16), (.mov (.tmp 0)), none⟩, ⟨(some 17), (.idxS (.tmp 16) (.const (.c (.val (.int .i64 0))))), none⟩, ⟨(some 18), (.bin .lss (.tmp 17) (.const (.c (.val (.int .u8 128))))), none⟩, ⟨(some 19), (.mov (.tmp 18)), none⟩, ⟨(some 20), (.mov (.tmp 0)), (some (19, true))⟩, ⟨(some 21), (.slStr (.tmp 20) none (some (.const (.c (.val (.int .i64 1)))))), (some (19, true))⟩, ⟨(some 22), (.call 98 [(.const (.c (.str [61, 33, 60, 62, 43, 45, 42, 47, 37, 40, 41, 91, 93, 123, 125, 44, 59, 58, 46, 63]))), (.tmp 21)]), (some (19, true))⟩, ⟨(some 23), (.pick (.tmp 19) (.tmp 22) (.const (.c (.val (.bool false))))), none⟩])
 a55_c1)
 a55_c2)))⟩
set_option maxRecDepth 100000 in
theorem c55 : compFunc Tryd.prog 55 = some a55 := by kernel_rfl
def clerestoryref4_signAt_post (r : (List UInt8)) : AV → Heap → Nat → Prop := fun v h' n' => v = (S r) ∧ (h' = (fun _ => none)) ∧ n' = 0
noncomputable def clerestoryref4_signAt_l0 (s_ : (List UInt8)) (K0_ : Unit → Option (List UInt8)) : Nat → Int → Option (List UInt8)
  | 0, _ => none
  | k + 1, v7 =>
    letIn (decide (v7 < (([[61, 61], [33, 61], [60, 61], [62, 61], [38, 38], [124, 124]] : List (List UInt8)).length : Int))) fun v8 : Bool =>
    if v8 then
      (at? ([[61, 61], [33, 61], [60, 61], [62, 61], [38, 38], [124, 124]] : List (List UInt8)) v7).bind fun x_ =>
      (strings_HasPrefix s_ x_).bind fun r_ =>
      if r_ then
        some x_
      else
        (clerestoryref4_signAt_l0 s_ K0_ k) (wi (v7 + 1))
    else
      K0_ ()
theorem clerestoryref4_signAt_l0_ok {mL : Int} {Q : AExit → St → Prop} {s_ : (List UInt8)} {K0_ : Unit → Option (List UInt8)} {k : Nat} {v7 : Int} {o : (List UInt8)} (h : clerestoryref4_signAt_l0 s_ K0_ k v7 = some o)
    (hK0 : ∀ (_ : Unit), K0_ () = some o → ∀ s, Weak 0 s ⟨(upd (fun _ => none) 0 (some (S s_))), (fun _ => none), 0⟩ → Q (.exit 0) s)
    (hr : ∀ s, Ends a55.results 0 (clerestoryref4_signAt_post o) .ret s → Q .ret s) :
    Sv Tryd.prog (GG mL) 0 (.loop a55_c0) Q ⟨(upd (upd (upd (upd (fun _ => none) 0 (some (S s_))) 5 (some (lstV false 0 1 ([[61, 61], [33, 61], [60, 61], [62, 61], [38, 38], [124, 124]] : List (List UInt8)).length))) 6 (some (I (([[61, 61], [33, 61], [60, 61], [62, 61], [38, 38], [124, 124]] : List (List UInt8)).length : Int)))) 7 (some (I v7))), (upd (fun _ => none) 0 (lstB false 1 (([[61, 61], [33, 61], [60, 61], [62, 61], [38, 38], [124, 124]] : List (List UInt8)).map eStr))), 1⟩ := by
  refine Sv.loop (I := fun k s => ∃ (v7 : Int), clerestoryref4_signAt_l0 s_ K0_ k v7 = some o ∧ s = ⟨(upd (upd (upd (upd (fun _ => none) 0 (some (S s_))) 5 (some (lstV false 0 1 ([[61, 61], [33, 61], [60, 61], [62, 61], [38, 38], [124, 124]] : List (List UInt8)).length))) 6 (some (I (([[61, 61], [33, 61], [60, 61], [62, 61], [38, 38], [124, 124]] : List (List UInt8)).length : Int)))) 7 (some (I v7))), (upd (fun _ => none) 0 (lstB false 1 (([[61, 61], [33, 61], [60, 61], [62, 61], [38, 38], [124, 124]] : List (List UInt8)).map eStr))), 1⟩) (fun k s hI => ?_) ⟨v7, h, rfl⟩
  clear h
  clear v7
  obtain ⟨v7, h, rfl⟩ := hI
  cases k with
  | zero => cases h
  | succ k =>
  rw [clerestoryref4_signAt_l0] at h
  have hself : ∀ (v7 : Int), (clerestoryref4_signAt_l0 s_ K0_ k) v7 = some o → ∀ s, Weak 0 s ⟨(upd (upd (upd (upd (fun _ => none) 0 (some (S s_))) 5 (some (lstV false 0 1 ([[61, 61], [33, 61], [60, 61], [62, 61], [38, 38], [124, 124]] : List (List UInt8)).length))) 6 (some (I (([[61, 61], [33, 61], [60, 61], [62, 61], [38, 38], [124, 124]] : List (List UInt8)).length : Int)))) 7 (some (I v7))), (upd (fun _ => none) 0 (lstB false 1 (([[61, 61], [33, 61], [60, 61], [62, 61], [38, 38], [124, 124]] : List (List UInt8)).map eStr))), 1⟩ → (AThen (fun s' => ∃ s'' k', Weak 0 s' s'' ∧ k' < k + 1 ∧ (fun k s => ∃ (v7 : Int), clerestoryref4_signAt_l0 s_ K0_ k v7 = some o ∧ s = ⟨(upd (upd (upd (upd (fun _ => none) 0 (some (S s_))) 5 (some (lstV false 0 1 ([[61, 61], [33, 61], [60, 61], [62, 61], [38, 38], [124, 124]] : List (List UInt8)).length))) 6 (some (I (([[61, 61], [33, 61], [60, 61], [62, 61], [38, 38], [124, 124]] : List (List UInt8)).length : Int)))) 7 (some (I v7))), (upd (fun _ => none) 0 (lstB false 1 (([[61, 61], [33, 61], [60, 61], [62, 61], [38, 38], [124, 124]] : List (List UInt8)).map eStr))), 1⟩) k' s'') Q) .normal s := fun v7 h s hw => ⟨_, k, hw, Nat.lt_succ_self k, v7, h, rfl⟩
  refine Sv.seq ?_
  refine Sv.region ?_
  obtain ⟨v8, hv8⟩ : ∃ v8 : Bool, v8 = decide (v7 < (([[61, 61], [33, 61], [60, 61], [62, 61], [38, 38], [124, 124]] : List (List UInt8)).length : Int)) := ⟨_, rfl⟩
  replace h := letAt hv8 h
  refine un (a1 (v := (B v8)) (by rw [hv8]; rfl) ?_)
  clear hv8
  refine dnil ?_
  refine Sv.seq ?_
  refine Sv.cond (b := v8) rfl (fun hc1 => ?_) (fun hc1 => ?_)
  · replace h := ifT hc1 h
    refine Sv.skip ?_
    refine Sv.seq ?_
    refine Sv.block ?_
    refine Sv.seq ?_
    refine Sv.region ?_
    obtain ⟨x_, hx1, h⟩ := bnd h
    refine un (a1 (v := (.c (.ref 0 1 v7.toNat 0))) (s_iaddrL rfl rfl (fun h => by cases h) hx1) ?_)
    refine un (a1 (v := (S x_)) (s_loadL (z := false) (e := eStr) rfl rfl (fun h => by cases h) hx1 rfl rfl) ?_)
    refine un (a1 rfl ?_)
    refine dnil ?_
    refine Sv.seq ?_
    refine Sv.region ?_
    refine un (a1 rfl ?_)
    refine un (a1 rfl ?_)
    obtain ⟨r_, hr1, h⟩ := bnd h
    refine un (ac_pure (strings_HasPrefix_ok hr1) rfl rfl rfl ?_)
    refine dnil ?_
    refine Sv.cond (b := r_) rfl (fun hc2 => ?_) (fun hc2 => ?_)
    · replace h := ifT hc2 h
      refine Sv.seq ?_
      refine Sv.region ?_
      refine un (a1 rfl ?_)
      refine un (a1 rfl ?_)
      refine dnil ?_
      refine Sv.ret ?_
      replace h := Option.some.inj h
      subst h
      exact hr _ ⟨_, .refl _, _, rfl, ⟨upd (fun _ => none) 0 (some (S x_)), (fun _ => none), 0⟩, (S x_), weak_canon [] rfl List.nodup_nil (Nat.le_refl _) (fun b h => absurd h (Nat.not_lt_zero _)) (.cons rfl (avAs_free rfl) .nil) .nil, rfl, rfl, rfl, rfl⟩
    · replace h := ifF hc2 h
      refine Sv.skip ?_
      refine Sv.region ?_
      refine un (a1 (v := (I (wi (v7 + 1)))) rfl ?_)
      refine un (a1 rfl ?_)
      refine dnil ?_
      exact hself (wi (v7 + 1)) h _ (weak_canon [0] rfl (by decide) (by decide) (fun b h => absurd h (Nat.not_lt_zero _)) (.cons rfl (avAs_free rfl) (.cons rfl (avAs_free rfl) (.cons rfl (.c (lstC_ren rfl (by decide))) (.cons rfl (avAs_free rfl) .nil)))) (.row (by decide) rfl (fr_map fun _ => rfl) .nil))
  · replace h := ifF hc1 h
    refine Sv.exit ?_
    exact hK0 () h _ (weak_canon [] rfl (by decide) (by decide) (fun b h => absurd h (Nat.not_lt_zero _)) (.cons rfl (avAs_free rfl) .nil) .nil)
abbrev clerestoryref4_signAt_q0 (mL : Int) (o : (List UInt8)) : AExit → St → Prop := AThen (Sv Tryd.prog (GG mL) 0 a55_c2 (Ends a55.results 0 (clerestoryref4_signAt_post o))) (Ends a55.results 0 (clerestoryref4_signAt_post o))
noncomputable def clerestoryref4_signAt_j1 (s_ : (List UInt8)) (v23 : Bool) : Option (List UInt8) :=
  if v23 then
    (sub? s_ 0 1).bind fun r_1 =>
    some r_1
  else
    some []
theorem clerestoryref4_signAt_j1_ok {mL : Int} {s_ : (List UInt8)} {v23 : Bool} {o : (List UInt8)} (h : clerestoryref4_signAt_j1 s_ v23 = some o) :
    Sv Tryd.prog (GG mL) 0 a55_c1 (clerestoryref4_signAt_q0 mL o) ⟨(upd (upd (fun _ => none) 0 (some (S s_))) 23 (some (B v23))), (fun _ => none), 0⟩ := by
  unfold clerestoryref4_signAt_j1 at h
  refine Sv.cond (b := v23) rfl (fun hc3 => ?_) (fun hc3 => ?_)
  · replace h := ifT hc3 h
    refine Sv.seq ?_
    refine Sv.region ?_
    refine un (a1 rfl ?_)
    obtain ⟨r_1, hx2, h⟩ := bnd h
    refine un (a1 (v := (S r_1)) (s_slStr rfl rfl rfl hx2) ?_)
    refine un (a1 rfl ?_)
    refine dnil ?_
    refine Sv.ret ?_
    replace h := Option.some.inj h
    subst h
    exact ⟨_, .refl _, _, rfl, ⟨upd (fun _ => none) 0 (some (S r_1)), (fun _ => none), 0⟩, (S r_1), weak_canon [] rfl List.nodup_nil (Nat.le_refl _) (fun b h => absurd h (Nat.not_lt_zero _)) (.cons rfl (avAs_free rfl) .nil) .nil, rfl, rfl, rfl, rfl⟩
  · replace h := ifF hc3 h
    refine Sv.skip ?_
    refine Sv.seq ?_
    refine Sv.region ?_
    refine un (a1 rfl ?_)
    refine dnil ?_
    refine Sv.ret ?_
    replace h := Option.some.inj h
    subst h
    exact ⟨_, .refl _, _, rfl, ⟨upd (fun _ => none) 0 (some (S [])), (fun _ => none), 0⟩, (S []), weak_canon [] rfl List.nodup_nil (Nat.le_refl _) (fun b h => absurd h (Nat.not_lt_zero _)) (.cons rfl (avAs_free rfl) .nil) .nil, rfl, rfl, rfl, rfl⟩
/-- clerestory/clerestoryref4.signAt -/
noncomputable def clerestoryref4_signAt (s_ : (List UInt8)) : Option (List UInt8) :=
  lim fun kk => clerestoryref4_signAt_l0 s_ (fun (_ : Unit) => 
      (at? s_ 0).bind fun c_ =>
      if decide ((c_.toNat : Int) < 128) then
        (sub? s_ 0 1).bind fun r_2 =>
        (strings_Contains [61, 33, 60, 62, 43, 45, 42, 47, 37, 40, 41, 91, 93, 123, 125, 44, 59, 58, 46, 63] r_2).bind fun r_3 =>
        clerestoryref4_signAt_j1 s_ r_3
      else
        clerestoryref4_signAt_j1 s_ false) kk 0
theorem clerestoryref4_signAt_ok {mL : Int} {s_ : (List UInt8)} {r : (List UInt8)} (h : clerestoryref4_signAt s_ = some r) : CPure Tryd.prog (GG mL) 55 [(S s_)] (S r) := by
  refine acalls_of_sv hmix c55 (R := clerestoryref4_signAt_post r) ?_
  unfold clerestoryref4_signAt at h
  refine Sv.seq ?_
  refine Sv.region ?_
  refine un (a1 rfl ?_)
  refine dnil ?_
  refine Sv.seq ?_
  refine Sv.seq ?_
  refine Sv.region ?_
  refine un (a2v (v := (lstV false 0 1 ([[61, 61], [33, 61], [60, 61], [62, 61], [38, 38], [124, 124]] : List (List UInt8)).length)) (h' := upd _ 0 (lstB false 1 (([[61, 61], [33, 61], [60, 61], [62, 61], [38, 38], [124, 124]] : List (List UInt8)).map eStr))) (n' := 1) rfl rfl (fun h => by cases h) ?_)
  refine un (a1 (v := (I (([[61, 61], [33, 61], [60, 61], [62, 61], [38, 38], [124, 124]] : List (List UInt8)).length : Int))) (s_lenL rfl (len_nil_of (fun h => by cases h))) ?_)
  refine un (a1 rfl ?_)
  refine dnil ?_
  refine Sv.block ?_
  obtain ⟨kk, h⟩ := lim_some h
  refine Sv.weak (weak_canon [0] rfl (by decide) (by decide) (fun b h => absurd h (Nat.not_lt_zero _)) (.cons rfl (avAs_free rfl) (.cons rfl (avAs_free rfl) (.cons rfl (.c (lstC_ren rfl (by decide))) (.cons rfl (avAs_free rfl) .nil)))) (.row (by decide) rfl (fr_map fun _ => rfl) .nil)) (clerestoryref4_signAt_l0_ok h ?_ (fun s hs => hs))
  · intro _ h _ hw1
    refine Sv.weak hw1 ?_
    refine Sv.seq ?_
    refine Sv.seq ?_
    refine Sv.region ?_
    refine un (a1 rfl ?_)
    obtain ⟨c_, hx3, h⟩ := bnd h
    refine un (a1 (v := (.c (.val (.int .u8 (c_.toNat : Int))))) (s_idxS rfl rfl hx3) ?_)
    refine un (a1 (v := (B (decide ((c_.toNat : Int) < 128)))) rfl ?_)
    refine un (a1 rfl ?_)
    refine split2 (fun hc4 => ?_) (fun hc4 => ?_)
    · replace h := ifT hc4 h
      refine gt rfl (a1 rfl ?_)
      obtain ⟨r_2, hx4, h⟩ := bnd h
      refine gt rfl (a1 (v := (S r_2)) (s_slStr rfl rfl rfl hx4) ?_)
      obtain ⟨r_3, hr2, h⟩ := bnd h
      refine gt rfl (ac_pure (strings_Contains_ok hr2) rfl rfl rfl ?_)
      refine un (a1 (v := (B r_3)) rfl ?_)
      refine dnil ?_
      exact Sv.weak (weak_canon [] rfl (by decide) (by decide) (fun b h => absurd h (Nat.not_lt_zero _)) (.cons rfl (avAs_free rfl) (.cons rfl (avAs_free rfl) .nil)) .nil) (clerestoryref4_signAt_j1_ok h)
    · replace h := ifF hc4 h
      refine gs rfl rfl ?_
      refine gs rfl rfl ?_
      refine gs rfl rfl ?_
      refine un (a1 (v := (B false)) rfl ?_)
      refine dnil ?_
      exact Sv.weak (weak_canon [] rfl (by decide) (by decide) (fun b h => absurd h (Nat.not_lt_zero _)) (.cons rfl (avAs_free rfl) (.cons rfl (avAs_free rfl) .nil)) .nil) (clerestoryref4_signAt_j1_ok h)
end Go.Proofs.YtagfmlkihindaaaDoorBv
