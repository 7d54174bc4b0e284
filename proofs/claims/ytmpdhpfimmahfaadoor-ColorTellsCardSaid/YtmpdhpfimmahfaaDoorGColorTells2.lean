/- Printed by a program of mine (bgen.py): plain functions, and the walks that show that the code comes to what they answer. -/
import Derived.Test.YtmpdhpfimmahfaaDoorGColorTells1
namespace Go.Proofs.YtmpdhpfimmahfaaDoorBv
open Go
set_option linter.unusedVariables false
set_option linter.unusedSimpArgs false
set_option maxRecDepth 100000
def a7_c0 : ACode := .ret
def a7 : AFunc := ⟨1, [(.tmp 2)], (.seq (.region [⟨(some 2), (.mov (.const (.c (.val (.bool false))))), none⟩])
 (.seq (.region [⟨(some 4), (.call 12 []), none⟩, ⟨(some 3), (.mov (.tmp 4)), none⟩])
 (.seq (.region [⟨(some 5), (.mov (.tmp 3)), none⟩, ⟨(some 6), (.mov (.tmp 5)), none⟩, ⟨(some 7), (.mov (.tmp 0)), (some (6, true))⟩, ⟨(some 8), (.call 19 [(.tmp 7)]), (some (6, true))⟩, ⟨(some 9), (.mov (.tmp 0)), (some (6, true))⟩, ⟨(some 10), (.call 20 [(.tmp 9)]), (some (6, true))⟩, ⟨(some 11), (.bin .eql (.tmp 8) (.tmp 10)), (some (6, true))⟩, ⟨(some 12), (.pick (.tmp 6) (.tmp 11) (.const (.c (.val (.bool false))))), none⟩, ⟨(some 2), (.mov (.tmp 12)), none⟩])
 a7_c0)))⟩
set_option maxRecDepth 100000 in
theorem c7 : compFunc Tryd.prog 7 = some a7 := by kernel_rfl
def clerestorylaw2_ColorTells_post (r : Bool) : AV → Heap → Nat → Prop := fun v h' n' => v = (B r) ∧ (h' = (fun _ => none)) ∧ n' = 0
noncomputable def clerestorylaw2_ColorTells_j1 (v2 : Bool) : Option Bool :=
  some v2
theorem clerestorylaw2_ColorTells_j1_ok {mL : Int} {v2 : Bool} {o : Bool} (h : clerestorylaw2_ColorTells_j1 v2 = some o) :
    Sv Tryd.prog (GG mL) 0 a7_c0 (Ends a7.results 0 (clerestorylaw2_ColorTells_post o)) ⟨(upd (fun _ => none) 2 (some (B v2))), (fun _ => none), 0⟩ := by
  unfold clerestorylaw2_ColorTells_j1 at h
  refine Sv.ret ?_
  replace h := Option.some.inj h
  subst h
  exact ⟨_, .refl _, _, rfl, ⟨upd (fun _ => none) 0 (some (B v2)), (fun _ => none), 0⟩, (B v2), weak_canon [] rfl List.nodup_nil (Nat.le_refl _) (fun b h => absurd h (Nat.not_lt_zero _)) (.cons rfl (avAs_free rfl) .nil) .nil, rfl, rfl, rfl, rfl⟩
/-- clerestory/clerestorylaw2.ColorTells -/
noncomputable def clerestorylaw2_ColorTells (c_ : Int) : Option Bool :=
  (clerestorylaw2_red).bind fun r_ =>
  if r_ then
    (color_Text c_).bind fun r_1 =>
    (clerestoryref2_ColorText c_).bind fun r_2 =>
    clerestorylaw2_ColorTells_j1 (decide (r_1 = r_2))
  else
    clerestorylaw2_ColorTells_j1 false
theorem clerestorylaw2_ColorTells_ok {mL : Int} {c_ : Int} {r : Bool} (h : clerestorylaw2_ColorTells c_ = some r) : CPure Tryd.prog (GG mL) 7 [(I c_)] (B r) := by
  refine acalls_of_sv hmix c7 (R := clerestorylaw2_ColorTells_post r) ?_
  unfold clerestorylaw2_ColorTells at h
  refine Sv.seq ?_
  refine Sv.region ?_
  refine un (a1 rfl ?_)
  refine dnil ?_
  refine Sv.seq ?_
  refine Sv.region ?_
  obtain ⟨r_, hr1, h⟩ := bnd h
  refine un (ac_pure (clerestorylaw2_red_ok hr1) rfl rfl rfl ?_)
  refine un (a1 rfl ?_)
  refine dnil ?_
  refine Sv.seq ?_
  refine Sv.region ?_
  refine un (a1 rfl ?_)
  refine un (a1 rfl ?_)
  refine split2 (fun hc1 => ?_) (fun hc1 => ?_)
  · replace h := ifT hc1 h
    refine gt rfl (a1 rfl ?_)
    obtain ⟨r_1, hr2, h⟩ := bnd h
    refine gt rfl (ac_pure (color_Text_ok hr2) rfl rfl rfl ?_)
    refine gt rfl (a1 rfl ?_)
    obtain ⟨r_2, hr3, h⟩ := bnd h
    refine gt rfl (ac_pure (clerestoryref2_ColorText_ok hr3) rfl rfl rfl ?_)
    refine gt rfl (a1 (v := (B (decide (r_1 = r_2)))) rfl ?_)
    refine un (a1 (v := (B (decide (r_1 = r_2)))) rfl ?_)
    refine un (a1 rfl ?_)
    refine dnil ?_
    exact Sv.weak (weak_canon [] rfl (by decide) (by decide) (fun b h => absurd h (Nat.not_lt_zero _)) (.cons rfl (avAs_free rfl) .nil) .nil) (clerestorylaw2_ColorTells_j1_ok h)
  · replace h := ifF hc1 h
    refine gs rfl rfl ?_
    refine gs rfl rfl ?_
    refine gs rfl rfl ?_
    refine gs rfl rfl ?_
    refine gs rfl rfl ?_
    refine un (a1 (v := (B false)) rfl ?_)
    refine un (a1 rfl ?_)
    refine dnil ?_
    exact Sv.weak (weak_canon [] rfl (by decide) (by decide) (fun b h => absurd h (Nat.not_lt_zero _)) (.cons rfl (avAs_free rfl) .nil) .nil) (clerestorylaw2_ColorTells_j1_ok h)
end Go.Proofs.YtmpdhpfimmahfaaDoorBv
