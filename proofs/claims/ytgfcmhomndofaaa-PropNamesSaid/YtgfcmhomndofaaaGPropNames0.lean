/- Printed by a program of mine (bgen.py): plain functions, and the walks that show that the code comes to what they answer. -/
import Derived.Test.YtgfcmhomndofaaaRows
import Derived.Test.YtgfcmhomndofaaaBv22
namespace Go.Proofs.YtgfcmhomndofaaaBv
open Go
set_option linter.unusedVariables false
set_option maxRecDepth 100000
theorem hmix : Try.prog.follows .mixedOrders = true := by kernel_rfl
structure Trow where
  f_name : (List UInt8)
  f_kinds : (List UInt8)
  f_keys : (List UInt8)
  f_auto : (List UInt8)
  f_above : Bool
def e_Trow (x : Trow) : List Cel := [.str x.f_name, .str x.f_kinds, .str x.f_keys, .str x.f_auto, cB x.f_above]
def a49 : AFunc := ⟨1, [(.tmp 2)], (.seq (.region [⟨(some 2), (.mov (.const (.c (.val (.bool false))))), none⟩])
 (.seq (.region [⟨(some 3), (.mov (.tmp 0)), none⟩, ⟨(some 4), (.bin .geq (.tmp 3) (.const (.c (.val (.int .i64 0))))), none⟩, ⟨(some 5), (.mov (.tmp 4)), none⟩, ⟨(some 6), (.mov (.tmp 0)), (some (5, true))⟩, ⟨(some 7), (.bin .lss (.tmp 6) (.const (.c (.val (.int .i64 59))))), (some (5, true))⟩, ⟨(some 8), (.pick (.tmp 5) (.tmp 7) (.const (.c (.val (.bool false))))), none⟩, ⟨(some 2), (.mov (.tmp 8)), none⟩])
 .ret))⟩
set_option maxRecDepth 100000 in
theorem c49 : compFunc Try.prog 49 = some a49 := by kernel_rfl
def prop_in_post (r : Bool) : AV → Heap → Nat → Prop := fun v h' n' => v = (B r) ∧ (h' = fun _ => none) ∧ n' = 0
/-- clerestory/prop.in -/
def prop_in (p_ : Int) : Bool :=
  ((decide (0 ≤ p_)) && (decide (p_ < 59)))
theorem prop_in_ok {Γ : Glob} (p_ : Int) : CPure Try.prog Γ 49 [(I p_)] (B (prop_in p_)) := by
  generalize h : prop_in p_ = o
  refine acalls_of_sv hmix c49 (R := prop_in_post o) ?_
  unfold prop_in at h
  refine Sv.seq ?_
  refine Sv.region ?_
  refine un (a1 rfl ?_)
  refine dnil ?_
  refine Sv.seq ?_
  refine Sv.region ?_
  refine un (a1 rfl ?_)
  refine un (a1 (v := (B (decide (0 ≤ p_)))) rfl ?_)
  refine un (a1 rfl ?_)
  refine gjoin 3 (d := 8) (v := (B ((decide (0 ≤ p_)) && (decide (p_ < 59))))) (fun X hX => ?_) ?_
  · refine split2 (fun hc1 => ?_) (fun hc1 => ?_)
    · refine gt rfl (a1 rfl ?_)
      refine gt rfl (a1 (v := (B (decide (p_ < 59)))) rfl ?_)
      refine un (a1 (v := (B (decide (p_ < 59)))) rfl ?_)
      refine dnil ?_
      exact hX _ (.putEq (by rw [hc1]; rfl) (.skip _ _ (.skip _ _ (.putEq (by rw [hc1]) (.refl _)) rfl) rfl))
    · refine gs rfl rfl ?_
      refine gs rfl rfl ?_
      refine un (a1 (v := (B false)) rfl ?_)
      refine dnil ?_
      exact hX _ (.putEq (by rw [hc1]; rfl) (.skip _ _ (.skip _ _ (.putEq (by rw [hc1]) (.refl _)) rfl) rfl))
  refine un (a1 rfl ?_)
  refine dnil ?_
  refine Sv.ret ?_
  subst h
  exact ⟨_, .refl _, _, rfl, ⟨upd (fun _ => none) 0 (some (B ((decide (0 ≤ p_)) && (decide (p_ < 59))))), fun _ => none, 0⟩, (B ((decide (0 ≤ p_)) && (decide (p_ < 59)))), weak_canon [] rfl List.nodup_nil (Nat.le_refl _) (fun b h => absurd h (Nat.not_lt_zero _)) (.cons rfl (avAs_free rfl) .nil) .nil, rfl, rfl, rfl, rfl⟩
def a72 : AFunc := ⟨1, [(.cell true 5 2)], (.seq (.region [⟨(some 2), (.box (.const (.agg [(.str []), (.str []), (.str []), (.str []), (.val (.bool false))]))), none⟩])
 (.seq (.region [⟨(some 4), (.build [(.str []), (.str []), (.str []), (.str []), (.val (.bool false))] [(0, (1, (.const (.c (.str [100, 105, 115, 112, 108, 97, 121]))))), (1, (1, (.const (.c (.str [107]))))), (2, (1, (.const (.c (.str [110, 111, 110, 101, 32, 105, 110, 108, 105, 110, 101, 32, 98, 108, 111, 99, 107, 32, 105, 110, 108, 105, 110, 101, 45, 98, 108, 111, 99, 107, 32, 102, 108, 101, 120, 32, 116, 97, 98, 108, 101, 32, 116, 97, 98, 108, 101, 45, 114, 111, 119, 32, 116, 97, 98, 108, 101, 45, 99, 101, 108, 108, 32, 108, 105, 115, 116, 45, 105, 116, 101, 109, 32, 99, 111, 110, 116, 101, 110, 116, 115]))))), (3, (1, (.const (.c (.str []))))), (4, (1, (.const (.c (.val (.bool false))))))]), none⟩, ⟨(some 5), (.build [(.str []), (.str []), (.str []), (.str []), (.val (.bool false))] [(0, (1, (.const (.c (.str [112, 111, 115, 105, 116, 105, 111, 110]))))), (1, (1, (.const (.c (.str [107]))))), (2, (1, (.const (.c (.str [115, 116, 97, 116, 105, 99, 32, 114, 101, 108, 97, 116, 105, 118, 101, 32, 97, 98, 115, 111, 108, 117, 116, 101, 32, 102, 105, 120, 101, 100]))))), (3, (1, (.const (.c (.str []))))), (4, (1, (.const (.c (.val (.bool false))))))]), none⟩, ⟨(some 6), (.build [(.str []), (.str []), (.str []), (.str []), (.val (.bool false))] [(0, (1, (.const (.c (.str [102, 108, 111, 97, 116]))))), (1, (1, (.const (.c (.str [107]))))), (2, (1, (.const (.c (.str [110, 111, 110, 101, 32, 108, 101, 102, 116, 32, 114, 105, 103, 104, 116]))))), (3, (1, (.const (.c (.str []))))), (4, (1, (.const (.c (.val (.bool false))))))]), none⟩, ⟨(some 7), (.build [(.str []), (.str []), (.str []), (.str []), (.val (.bool false))] [(0, (1, (.const (.c (.str [99, 108, 101, 97, 114]))))), (1, (1, (.const (.c (.str [107]))))), (2, (1, (.const (.c (.str [110, 111, 110, 101, 32, 108, 101, 102, 116, 32, 114, 105, 103, 104, 116, 32, 98, 111, 116, 104]))))), (3, (1, (.const (.c (.str []))))), (4, (1, (.const (.c (.val (.bool false))))))]), none⟩, ⟨(some 8), (.build [(.str []), (.str []), (.str []), (.str []), (.val (.bool false))] [(0, (1, (.const (.c (.str [98, 111, 120, 45, 115, 105, 122, 105, 110, 103]))))), (1, (1, (.const (.c (.str [107]))))), (2, (1, (.const (.c (.str [99, 111, 110, 116, 101, 110, 116, 45, 98, 111, 120, 32, 98, 111, 114, 100, 101, 114, 45, 98, 111, 120]))))), (3, (1, (.const (.c (.str []))))), (4, (1, (.const (.c (.val (.bool false))))))]), none⟩, ⟨(some 9), (.build [(.str []), (.str []), (.str []), (.str []), (.val (.bool false))] [(0, (1, (.const (.c (.str [119, 105, 100, 116, 104]))))), (1, (1, (.const (.c (.str [108, 112, 97]))))), (2, (1, (.const (.c (.str []))))), (3, (1, (.const (.c (.str [97, 117, 116, 111]))))), (4, (1, (.const (.c (.val (.bool true))))))]), none⟩, ⟨(some 10), (.build [(.str []), (.str []), (.str []), (.str []), (.val (.bool false))] [(0, (1, (.const (.c (.str [104, 101, 105, 103, 104, 116]))))), (1, (1, (.const (.c (.str [108, 112, 97]))))), (2, (1, (.const (.c (.str []))))), (3, (1, (.const (.c (.str [97, 117, 116, 111]))))), (4, (1, (.const (.c (.val (.bool true))))))]), none⟩, ⟨(some 11), (.build [(.str []), (.str []), (.str []), (.str []), (.val (.bool false))] [(0, (1, (.const (.c (.str [109, 105, 110, 45, 119, 105, 100, 116, 104]))))), (1, (1, (.const (.c (.str [108, 112, 97]))))), (2, (1, (.const (.c (.str []))))), (3, (1, (.const (.c (.str [97, 117, 116, 111]))))), (4, (1, (.const (.c (.val (.bool true))))))]), none⟩, ⟨(some 12), (.build [(.str []), (.str []), (.str []), (.str []), (.val (.bool false))] [(0, (1, (.const (.c (.str [109, 105, 110, 45, 104, 101, 105, 103, 104, 116]))))), (1, (1, (.const (.c (.str [108, 112, 97]))))), (2, (1, (.const (.c (.str []))))), (3, (1, (.const (.c (.str [97, 117, 116, 111]))))), (4, (1, (.const (.c (.val (.bool true))))))]), none⟩, ⟨(some 13), (.build [(.str []), (.str []), (.str []), (.str []), (.val (.bool false))] [(0, (1, (.const (.c (.str [109, 97, 120, 45, 119, 105, 100, 116, 104]))))), (1, (1, (.const (.c (.str [108, 112, 97]))))), (2, (1, (.const (.c (.str []))))), (3, (1, (.const (.c (.str [110, 111, 110, 101]))))), (4, (1, (.const (.c (.val (.bool true))))))]), none⟩, ⟨(some 14), (.build [(.str []), (.str []), (.str []), (.str []), (.val (.bool false))] [(0, (1, (.const (.c (.str [109, 97, 120, 45, 104, 101, 105, 103, 104, 116]))))), (1, (1, (.const (.c (.str [108, 112, 97]))))), (2, (1, (.const (.c (.str []))))), (3, (1, (.const (.c (.str [110, 111, 110, 101]))))), (4, (1, (.const (.c (.val (.bool true))))))]), none⟩, ⟨(some 15), (.build [(.str []), (.str []), (.str []), (.str []), (.val (.bool false))] [(0, (1, (.const (.c (.str [109, 97, 114, 103, 105, 110, 45, 116, 111, 112]))))), (1, (1, (.const (.c (.str [108, 112, 97]))))), (2, (1, (.const (.c (.str []))))), (3, (1, (.const (.c (.str [97, 117, 116, 111]))))), (4, (1, (.const (.c (.val (.bool false))))))]), none⟩, ⟨(some 16), (.build [(.str []), (.str []), (.str []), (.str []), (.val (.bool false))] [(0, (1, (.const (.c (.str [109, 97, 114, 103, 105, 110, 45, 114, 105, 103, 104, 116]))))), (1, (1, (.const (.c (.str [108, 112, 97]))))), (2, (1, (.const (.c (.str []))))), (3, (1, (.const (.c (.str [97, 117, 116, 111]))))), (4, (1, (.const (.c (.val (.bool false))))))]), none⟩, ⟨(some 17), (.build [(.str []), (.str []), (.str []), (.str []), (.val (.bool false))] [(0, (1, (.const (.c (.str [109, 97, 114, 103, 105, 110, 45, 98, 111, 116, 116, 111, 109]))))), (1, (1, (.const (.c (.str [108, 112, 97]))))), (2, (1, (.const (.c (.str []))))), (3, (1, (.const (.c (.str [97, 117, 116, 111]))))), (4, (1, (.const (.c (.val (.bool false))))))]), none⟩, ⟨(some 18), (.build [(.str []), (.str []), (.str []), (.str []), (.val (.bool false))] [(0, (1, (.const (.c (.str [109, 97, 114, 103, 105, 110, 45, 108, 101, 102, 116]))))), (1, (1, (.const (.c (.str [108, 112, 97]))))), (2, (1, (.const (.c (.str []))))), (3, (1, (.const (.c (.str [97, 117, 116, 111]))))), (4, (1, (.const (.c (.val (.bool false))))))]), none⟩, ⟨(some 19), (.build [(.str []), (.str []), (.str []), (.str []), (.val (.bool false))] [(0, (1, (.const (.c (.str [112, 97, 100, 100, 105, 110, 103, 45, 116, 111, 112]))))), (1, (1, (.const (.c (.str [108, 112]))))), (2, (1, (.const (.c (.str []))))), (3, (1, (.const (.c (.str []))))), (4, (1, (.const (.c (.val (.bool true))))))]), none⟩, ⟨(some 20), (.build [(.str []), (.str []), (.str []), (.str []), (.val (.bool false))] [(0, (1, (.const (.c (.str [112, 97, 100, 100, 105, 110, 103, 45, 114, 105, 103, 104, 116]))))), (1, (1, (.const (.c (.str [108, 112]))))), (2, (1, (.const (.c (.str []))))), (3, (1, (.const (.c (.str []))))), (4, (1, (.const (.c (.val (.bool true))))))]), none⟩, ⟨(some 21), (.build [(.str []), (.str []), (.str []), (.str []), (.val (.bool false))] [(0, (1, (.const (.c (.str [112, 97, 100, 100, 105, 110, 103, 45, 98, 111, 116, 116, 111, 109]))))), (1, (1, (.const (.c (.str [108, 112]))))), (2, (1, (.const (.c (.str []))))), (3, (1, (.const (.c (.str []))))), (4, (1, (.const (.c (.val (.bool true))))))]), none⟩, ⟨(some 22), (.build [(.str []), (.str []), (.str []), (.str []), (.val (.bool false))] [(0, (1, (.const (.c (.str [112, 97, 100, 100, 105, 110, 103, 45, 108, 101, 102, 116]))))), (1, (1, (.const (.c (.str [108, 112]))))), (2, (1, (.const (.c (.str []))))), (3, (1, (.const (.c (.str []))))), (4, (1, (.const (.c (.val (.bool true))))))]), none⟩, ⟨(some 23), (.build [(.str []), (.str []), (.str []), (.str []), (.val (.bool false))] [(0, (1, (.const (.c (.str [98, 111, 114, 100, 101, 114, 45, 116, 111, 112, 45, 119, 105, 100, 116, 104]))))), (1, (1, (.const (.c (.str [108]))))), (2, (1, (.const (.c (.str []))))), (3, (1, (.const (.c (.str []))))), (4, (1, (.const (.c (.val (.bool true))))))]), none⟩, ⟨(some 24), (.build [(.str []), (.str []), (.str []), (.str []), (.val (.bool false)), (.str []), (.str []), (.str []), (.str []), (.val (.bool false)), (.str []), (.str []), (.str []), (.str []), (.val (.bool false)), (.str []), (.str []), (.str []), (.str []), (.val (.bool false)), (.str []), (.str []), (.str []), (.str []), (.val (.bool false)), (.str []), (.str []), (.str []), (.str []), (.val (.bool false)), (.str []), (.str []), (.str []), (.str []), (.val (.bool false)), (.str []), (.str []), (.str []), (.str []), (.val (.bool false)), (.str []), (.str []), (.str []), (.str []), (.val (.bool false)), (.str []), (.str []), (.str []), (.str []), (.val (.bool false)), (.str []), (.str []), (.str []), (.str []), (.val (.bool false)), (.str []), (.str []), (.str []), (.str []), (.val (.bool false)), (.str []), (.str []), (.str []), (.str []), (.val (.bool false)), (.str []), (.str []), (.str []), (.str []), (.val (.bool false)), (.str []), (.str []), (.str []), (.str []), (.val (.bool false)), (.str []), (.str []), (.str []), (.str []), (.val (.bool false)), (.str []), (.str []), (.str []), (.str []), (.val (.bool false)), (.str []), (.str []), (.str []), (.str []), (.val (.bool false)), (.str []), (.str []), (.str []), (.str []), (.val (.bool false)), (.str []), (.str []), (.str []), (.str []), (.val (.bool false))] [(0, (5, (.tmp 4))), (5, (5, (.tmp 5))), (10, (5, (.tmp 6))), (15, (5, (.tmp 7))), (20, (5, (.tmp 8))), (25, (5, (.tmp 9))), (30, (5, (.tmp 10))), (35, (5, (.tmp 11))), (40, (5, (.tmp 12))), (45, (5, (.tmp 13))), (50, (5, (.tmp 14))), (55, (5, (.tmp 15))), (60, (5, (.tmp 16))), (65, (5, (.tmp 17))), (70, (5, (.tmp 18))), (75, (5, (.tmp 19))), (80, (5, (.tmp 20))), (85, (5, (.tmp 21))), (90, (5, (.tmp 22))), (95, (5, (.tmp 23)))]), none⟩, ⟨(some 3), (.box (.const (.agg [(.str []), (.str []), (.str []), (.str []), (.val (.bool false)), (.str []), (.str []), (.str []), (.str []), (.val (.bool false)), (.str []), (.str []), (.str []), (.str []), (.val (.bool false)), (.str []), (.str []), (.str []), (.str []), (.val (.bool false)), (.str []), (.str []), (.str []), (.str []), (.val (.bool false)), (.str []), (.str []), (.str []), (.str []), (.val (.bool false)), (.str []), (.str []), (.str []), (.str []), (.val (.bool false)), (.str []), (.str []), (.str []), (.str []), (.val (.bool false)), (.str []), (.str []), (.str []), (.str []), (.val (.bool false)), (.str []), (.str []), (.str []), (.str []), (.val (.bool false)), (.str []), (.str []), (.str []), (.str []), (.val (.bool false)), (.str []), (.str []), (.str []), (.str []), (.val (.bool false)), (.str []), (.str []), (.str []), (.str []), (.val (.bool false)), (.str []), (.str []), (.str []), (.str []), (.val (.bool false)), (.str []), (.str []), (.str []), (.str []), (.val (.bool false)), (.str []), (.str []), (.str []), (.str []), (.val (.bool false)), (.str []), (.str []), (.str []), (.str []), (.val (.bool false)), (.str []), (.str []), (.str []), (.str []), (.val (.bool false)), (.str []), (.str []), (.str []), (.str []), (.val (.bool false)), (.str []), (.str []), (.str []), (.str []), (.val (.bool false))]))), none⟩, ⟨none, (.store 100 (.tmp 3) (.tmp 24)), none⟩])
 (.seq (.region [⟨(some 25), (.mov (.tmp 0)), none⟩, ⟨(some 26), (.iaddrA 20 5 (.tmp 3) (.tmp 25)), none⟩, ⟨(some 27), (.load true 5 (.tmp 26)), none⟩, ⟨none, (.store 5 (.tmp 2) (.tmp 27)), none⟩])
 .ret)))⟩
set_option maxRecDepth 100000 in
theorem c72 : compFunc Try.prog 72 = some a72 := by kernel_rfl
def prop_firsts_post (r : Trow) : AV → Heap → Nat → Prop := fun v h' n' => v = (.agg [.str r.f_name, .str r.f_kinds, .str r.f_keys, .str r.f_auto, cB r.f_above]) ∧ (h' = fun _ => none) ∧ n' = 0
def prop_firsts_t0 : AV := (.agg [.str [100, 105, 115, 112, 108, 97, 121], .str [107], .str [110, 111, 110, 101, 32, 105, 110, 108, 105, 110, 101, 32, 98, 108, 111, 99, 107, 32, 105, 110, 108, 105, 110, 101, 45, 98, 108, 111, 99, 107, 32, 102, 108, 101, 120, 32, 116, 97, 98, 108, 101, 32, 116, 97, 98, 108, 101, 45, 114, 111, 119, 32, 116, 97, 98, 108, 101, 45, 99, 101, 108, 108, 32, 108, 105, 115, 116, 45, 105, 116, 101, 109, 32, 99, 111, 110, 116, 101, 110, 116, 115], .str [], cB false])
def prop_firsts_t1 : AV := (.agg [.str [112, 111, 115, 105, 116, 105, 111, 110], .str [107], .str [115, 116, 97, 116, 105, 99, 32, 114, 101, 108, 97, 116, 105, 118, 101, 32, 97, 98, 115, 111, 108, 117, 116, 101, 32, 102, 105, 120, 101, 100], .str [], cB false])
def prop_firsts_t2 : AV := (.agg [.str [98, 111, 120, 45, 115, 105, 122, 105, 110, 103], .str [107], .str [99, 111, 110, 116, 101, 110, 116, 45, 98, 111, 120, 32, 98, 111, 114, 100, 101, 114, 45, 98, 111, 120], .str [], cB false])
def prop_firsts_t3 : AV := (.agg [.str [100, 105, 115, 112, 108, 97, 121], .str [107], .str [110, 111, 110, 101, 32, 105, 110, 108, 105, 110, 101, 32, 98, 108, 111, 99, 107, 32, 105, 110, 108, 105, 110, 101, 45, 98, 108, 111, 99, 107, 32, 102, 108, 101, 120, 32, 116, 97, 98, 108, 101, 32, 116, 97, 98, 108, 101, 45, 114, 111, 119, 32, 116, 97, 98, 108, 101, 45, 99, 101, 108, 108, 32, 108, 105, 115, 116, 45, 105, 116, 101, 109, 32, 99, 111, 110, 116, 101, 110, 116, 115], .str [], cB false, .str [112, 111, 115, 105, 116, 105, 111, 110], .str [107], .str [115, 116, 97, 116, 105, 99, 32, 114, 101, 108, 97, 116, 105, 118, 101, 32, 97, 98, 115, 111, 108, 117, 116, 101, 32, 102, 105, 120, 101, 100], .str [], cB false, .str [102, 108, 111, 97, 116], .str [107], .str [110, 111, 110, 101, 32, 108, 101, 102, 116, 32, 114, 105, 103, 104, 116], .str [], cB false, .str [99, 108, 101, 97, 114], .str [107], .str [110, 111, 110, 101, 32, 108, 101, 102, 116, 32, 114, 105, 103, 104, 116, 32, 98, 111, 116, 104], .str [], cB false, .str [98, 111, 120, 45, 115, 105, 122, 105, 110, 103], .str [107], .str [99, 111, 110, 116, 101, 110, 116, 45, 98, 111, 120, 32, 98, 111, 114, 100, 101, 114, 45, 98, 111, 120], .str [], cB false, .str [119, 105, 100, 116, 104], .str [108, 112, 97], .str [], .str [97, 117, 116, 111], cB true, .str [104, 101, 105, 103, 104, 116], .str [108, 112, 97], .str [], .str [97, 117, 116, 111], cB true, .str [109, 105, 110, 45, 119, 105, 100, 116, 104], .str [108, 112, 97], .str [], .str [97, 117, 116, 111], cB true, .str [109, 105, 110, 45, 104, 101, 105, 103, 104, 116], .str [108, 112, 97], .str [], .str [97, 117, 116, 111], cB true, .str [109, 97, 120, 45, 119, 105, 100, 116, 104], .str [108, 112, 97], .str [], .str [110, 111, 110, 101], cB true, .str [109, 97, 120, 45, 104, 101, 105, 103, 104, 116], .str [108, 112, 97], .str [], .str [110, 111, 110, 101], cB true, .str [109, 97, 114, 103, 105, 110, 45, 116, 111, 112], .str [108, 112, 97], .str [], .str [97, 117, 116, 111], cB false, .str [109, 97, 114, 103, 105, 110, 45, 114, 105, 103, 104, 116], .str [108, 112, 97], .str [], .str [97, 117, 116, 111], cB false, .str [109, 97, 114, 103, 105, 110, 45, 98, 111, 116, 116, 111, 109], .str [108, 112, 97], .str [], .str [97, 117, 116, 111], cB false, .str [109, 97, 114, 103, 105, 110, 45, 108, 101, 102, 116], .str [108, 112, 97], .str [], .str [97, 117, 116, 111], cB false, .str [112, 97, 100, 100, 105, 110, 103, 45, 116, 111, 112], .str [108, 112], .str [], .str [], cB true, .str [112, 97, 100, 100, 105, 110, 103, 45, 114, 105, 103, 104, 116], .str [108, 112], .str [], .str [], cB true, .str [112, 97, 100, 100, 105, 110, 103, 45, 98, 111, 116, 116, 111, 109], .str [108, 112], .str [], .str [], cB true, .str [112, 97, 100, 100, 105, 110, 103, 45, 108, 101, 102, 116], .str [108, 112], .str [], .str [], cB true, .str [98, 111, 114, 100, 101, 114, 45, 116, 111, 112, 45, 119, 105, 100, 116, 104], .str [108], .str [], .str [], cB true])
def prop_firsts_t4 : List Trow := [(⟨[100, 105, 115, 112, 108, 97, 121], [107], [110, 111, 110, 101, 32, 105, 110, 108, 105, 110, 101, 32, 98, 108, 111, 99, 107, 32, 105, 110, 108, 105, 110, 101, 45, 98, 108, 111, 99, 107, 32, 102, 108, 101, 120, 32, 116, 97, 98, 108, 101, 32, 116, 97, 98, 108, 101, 45, 114, 111, 119, 32, 116, 97, 98, 108, 101, 45, 99, 101, 108, 108, 32, 108, 105, 115, 116, 45, 105, 116, 101, 109, 32, 99, 111, 110, 116, 101, 110, 116, 115], [], false⟩ : Trow), (⟨[112, 111, 115, 105, 116, 105, 111, 110], [107], [115, 116, 97, 116, 105, 99, 32, 114, 101, 108, 97, 116, 105, 118, 101, 32, 97, 98, 115, 111, 108, 117, 116, 101, 32, 102, 105, 120, 101, 100], [], false⟩ : Trow), (⟨[102, 108, 111, 97, 116], [107], [110, 111, 110, 101, 32, 108, 101, 102, 116, 32, 114, 105, 103, 104, 116], [], false⟩ : Trow), (⟨[99, 108, 101, 97, 114], [107], [110, 111, 110, 101, 32, 108, 101, 102, 116, 32, 114, 105, 103, 104, 116, 32, 98, 111, 116, 104], [], false⟩ : Trow), (⟨[98, 111, 120, 45, 115, 105, 122, 105, 110, 103], [107], [99, 111, 110, 116, 101, 110, 116, 45, 98, 111, 120, 32, 98, 111, 114, 100, 101, 114, 45, 98, 111, 120], [], false⟩ : Trow), (⟨[119, 105, 100, 116, 104], [108, 112, 97], [], [97, 117, 116, 111], true⟩ : Trow), (⟨[104, 101, 105, 103, 104, 116], [108, 112, 97], [], [97, 117, 116, 111], true⟩ : Trow), (⟨[109, 105, 110, 45, 119, 105, 100, 116, 104], [108, 112, 97], [], [97, 117, 116, 111], true⟩ : Trow), (⟨[109, 105, 110, 45, 104, 101, 105, 103, 104, 116], [108, 112, 97], [], [97, 117, 116, 111], true⟩ : Trow), (⟨[109, 97, 120, 45, 119, 105, 100, 116, 104], [108, 112, 97], [], [110, 111, 110, 101], true⟩ : Trow), (⟨[109, 97, 120, 45, 104, 101, 105, 103, 104, 116], [108, 112, 97], [], [110, 111, 110, 101], true⟩ : Trow), (⟨[109, 97, 114, 103, 105, 110, 45, 116, 111, 112], [108, 112, 97], [], [97, 117, 116, 111], false⟩ : Trow), (⟨[109, 97, 114, 103, 105, 110, 45, 114, 105, 103, 104, 116], [108, 112, 97], [], [97, 117, 116, 111], false⟩ : Trow), (⟨[109, 97, 114, 103, 105, 110, 45, 98, 111, 116, 116, 111, 109], [108, 112, 97], [], [97, 117, 116, 111], false⟩ : Trow), (⟨[109, 97, 114, 103, 105, 110, 45, 108, 101, 102, 116], [108, 112, 97], [], [97, 117, 116, 111], false⟩ : Trow), (⟨[112, 97, 100, 100, 105, 110, 103, 45, 116, 111, 112], [108, 112], [], [], true⟩ : Trow), (⟨[112, 97, 100, 100, 105, 110, 103, 45, 114, 105, 103, 104, 116], [108, 112], [], [], true⟩ : Trow), (⟨[112, 97, 100, 100, 105, 110, 103, 45, 98, 111, 116, 116, 111, 109], [108, 112], [], [], true⟩ : Trow), (⟨[112, 97, 100, 100, 105, 110, 103, 45, 108, 101, 102, 116], [108, 112], [], [], true⟩ : Trow), (⟨[98, 111, 114, 100, 101, 114, 45, 116, 111, 112, 45, 119, 105, 100, 116, 104], [108], [], [], true⟩ : Trow)]
/-- clerestory/prop.firsts -/
noncomputable def prop_firsts (p_ : Int) : Option Trow :=
  (at? prop_firsts_t4 p_).bind fun x_ =>
  some x_
theorem prop_firsts_ok {Γ : Glob} {p_ : Int} {r : Trow} (h : prop_firsts p_ = some r) : CPure Try.prog Γ 72 [(I p_)] (.agg [.str r.f_name, .str r.f_kinds, .str r.f_keys, .str r.f_auto, cB r.f_above]) := by
  refine acalls_of_sv hmix c72 (R := prop_firsts_post r) ?_
  unfold prop_firsts at h
  refine Sv.seq ?_
  refine Sv.region ?_
  refine un (a2v (v := (.c (.ref 0 5 0 0))) (h' := upd _ 0 (some (.cells 5 [[.str [], .str [], .str [], .str [], cB false]]))) (n' := 1) rfl rfl (fun h => by cases h) ?_)
  refine dnil ?_
  refine Sv.seq ?_
  refine Sv.region ?_
  refine un (a1 (v := prop_firsts_t0) rfl ?_)
  refine un (a1 (v := prop_firsts_t1) rfl ?_)
  refine un (a1 (v := (.agg [.str [102, 108, 111, 97, 116], .str [107], .str [110, 111, 110, 101, 32, 108, 101, 102, 116, 32, 114, 105, 103, 104, 116], .str [], cB false])) rfl ?_)
  refine un (a1 (v := (.agg [.str [99, 108, 101, 97, 114], .str [107], .str [110, 111, 110, 101, 32, 108, 101, 102, 116, 32, 114, 105, 103, 104, 116, 32, 98, 111, 116, 104], .str [], cB false])) rfl ?_)
  refine un (a1 (v := prop_firsts_t2) rfl ?_)
  refine un (a1 (v := (.agg [.str [119, 105, 100, 116, 104], .str [108, 112, 97], .str [], .str [97, 117, 116, 111], cB true])) rfl ?_)
  refine un (a1 (v := (.agg [.str [104, 101, 105, 103, 104, 116], .str [108, 112, 97], .str [], .str [97, 117, 116, 111], cB true])) rfl ?_)
  refine un (a1 (v := (.agg [.str [109, 105, 110, 45, 119, 105, 100, 116, 104], .str [108, 112, 97], .str [], .str [97, 117, 116, 111], cB true])) rfl ?_)
  refine un (a1 (v := (.agg [.str [109, 105, 110, 45, 104, 101, 105, 103, 104, 116], .str [108, 112, 97], .str [], .str [97, 117, 116, 111], cB true])) rfl ?_)
  refine un (a1 (v := (.agg [.str [109, 97, 120, 45, 119, 105, 100, 116, 104], .str [108, 112, 97], .str [], .str [110, 111, 110, 101], cB true])) rfl ?_)
  refine un (a1 (v := (.agg [.str [109, 97, 120, 45, 104, 101, 105, 103, 104, 116], .str [108, 112, 97], .str [], .str [110, 111, 110, 101], cB true])) rfl ?_)
  refine un (a1 (v := (.agg [.str [109, 97, 114, 103, 105, 110, 45, 116, 111, 112], .str [108, 112, 97], .str [], .str [97, 117, 116, 111], cB false])) rfl ?_)
  refine un (a1 (v := (.agg [.str [109, 97, 114, 103, 105, 110, 45, 114, 105, 103, 104, 116], .str [108, 112, 97], .str [], .str [97, 117, 116, 111], cB false])) rfl ?_)
  refine un (a1 (v := (.agg [.str [109, 97, 114, 103, 105, 110, 45, 98, 111, 116, 116, 111, 109], .str [108, 112, 97], .str [], .str [97, 117, 116, 111], cB false])) rfl ?_)
  refine un (a1 (v := (.agg [.str [109, 97, 114, 103, 105, 110, 45, 108, 101, 102, 116], .str [108, 112, 97], .str [], .str [97, 117, 116, 111], cB false])) rfl ?_)
  refine un (a1 (v := (.agg [.str [112, 97, 100, 100, 105, 110, 103, 45, 116, 111, 112], .str [108, 112], .str [], .str [], cB true])) rfl ?_)
  refine un (a1 (v := (.agg [.str [112, 97, 100, 100, 105, 110, 103, 45, 114, 105, 103, 104, 116], .str [108, 112], .str [], .str [], cB true])) rfl ?_)
  refine un (a1 (v := (.agg [.str [112, 97, 100, 100, 105, 110, 103, 45, 98, 111, 116, 116, 111, 109], .str [108, 112], .str [], .str [], cB true])) rfl ?_)
  refine un (a1 (v := (.agg [.str [112, 97, 100, 100, 105, 110, 103, 45, 108, 101, 102, 116], .str [108, 112], .str [], .str [], cB true])) rfl ?_)
  refine un (a1 (v := (.agg [.str [98, 111, 114, 100, 101, 114, 45, 116, 111, 112, 45, 119, 105, 100, 116, 104], .str [108], .str [], .str [], cB true])) rfl ?_)
  refine un (a1 (v := prop_firsts_t3) rfl ?_)
  refine un (a2v (v := (.c (.ref 1 100 0 0))) (h' := upd _ 1 (some (.cells 100 [[.str [], .str [], .str [], .str [], cB false, .str [], .str [], .str [], .str [], cB false, .str [], .str [], .str [], .str [], cB false, .str [], .str [], .str [], .str [], cB false, .str [], .str [], .str [], .str [], cB false, .str [], .str [], .str [], .str [], cB false, .str [], .str [], .str [], .str [], cB false, .str [], .str [], .str [], .str [], cB false, .str [], .str [], .str [], .str [], cB false, .str [], .str [], .str [], .str [], cB false, .str [], .str [], .str [], .str [], cB false, .str [], .str [], .str [], .str [], cB false, .str [], .str [], .str [], .str [], cB false, .str [], .str [], .str [], .str [], cB false, .str [], .str [], .str [], .str [], cB false, .str [], .str [], .str [], .str [], cB false, .str [], .str [], .str [], .str [], cB false, .str [], .str [], .str [], .str [], cB false, .str [], .str [], .str [], .str [], cB false, .str [], .str [], .str [], .str [], cB false]]))) (n' := 2) rfl rfl (fun h => by cases h) ?_)
  refine un (a2n (h' := upd _ 1 (some (.cells 100 [[.str [100, 105, 115, 112, 108, 97, 121], .str [107], .str [110, 111, 110, 101, 32, 105, 110, 108, 105, 110, 101, 32, 98, 108, 111, 99, 107, 32, 105, 110, 108, 105, 110, 101, 45, 98, 108, 111, 99, 107, 32, 102, 108, 101, 120, 32, 116, 97, 98, 108, 101, 32, 116, 97, 98, 108, 101, 45, 114, 111, 119, 32, 116, 97, 98, 108, 101, 45, 99, 101, 108, 108, 32, 108, 105, 115, 116, 45, 105, 116, 101, 109, 32, 99, 111, 110, 116, 101, 110, 116, 115], .str [], cB false, .str [112, 111, 115, 105, 116, 105, 111, 110], .str [107], .str [115, 116, 97, 116, 105, 99, 32, 114, 101, 108, 97, 116, 105, 118, 101, 32, 97, 98, 115, 111, 108, 117, 116, 101, 32, 102, 105, 120, 101, 100], .str [], cB false, .str [102, 108, 111, 97, 116], .str [107], .str [110, 111, 110, 101, 32, 108, 101, 102, 116, 32, 114, 105, 103, 104, 116], .str [], cB false, .str [99, 108, 101, 97, 114], .str [107], .str [110, 111, 110, 101, 32, 108, 101, 102, 116, 32, 114, 105, 103, 104, 116, 32, 98, 111, 116, 104], .str [], cB false, .str [98, 111, 120, 45, 115, 105, 122, 105, 110, 103], .str [107], .str [99, 111, 110, 116, 101, 110, 116, 45, 98, 111, 120, 32, 98, 111, 114, 100, 101, 114, 45, 98, 111, 120], .str [], cB false, .str [119, 105, 100, 116, 104], .str [108, 112, 97], .str [], .str [97, 117, 116, 111], cB true, .str [104, 101, 105, 103, 104, 116], .str [108, 112, 97], .str [], .str [97, 117, 116, 111], cB true, .str [109, 105, 110, 45, 119, 105, 100, 116, 104], .str [108, 112, 97], .str [], .str [97, 117, 116, 111], cB true, .str [109, 105, 110, 45, 104, 101, 105, 103, 104, 116], .str [108, 112, 97], .str [], .str [97, 117, 116, 111], cB true, .str [109, 97, 120, 45, 119, 105, 100, 116, 104], .str [108, 112, 97], .str [], .str [110, 111, 110, 101], cB true, .str [109, 97, 120, 45, 104, 101, 105, 103, 104, 116], .str [108, 112, 97], .str [], .str [110, 111, 110, 101], cB true, .str [109, 97, 114, 103, 105, 110, 45, 116, 111, 112], .str [108, 112, 97], .str [], .str [97, 117, 116, 111], cB false, .str [109, 97, 114, 103, 105, 110, 45, 114, 105, 103, 104, 116], .str [108, 112, 97], .str [], .str [97, 117, 116, 111], cB false, .str [109, 97, 114, 103, 105, 110, 45, 98, 111, 116, 116, 111, 109], .str [108, 112, 97], .str [], .str [97, 117, 116, 111], cB false, .str [109, 97, 114, 103, 105, 110, 45, 108, 101, 102, 116], .str [108, 112, 97], .str [], .str [97, 117, 116, 111], cB false, .str [112, 97, 100, 100, 105, 110, 103, 45, 116, 111, 112], .str [108, 112], .str [], .str [], cB true, .str [112, 97, 100, 100, 105, 110, 103, 45, 114, 105, 103, 104, 116], .str [108, 112], .str [], .str [], cB true, .str [112, 97, 100, 100, 105, 110, 103, 45, 98, 111, 116, 116, 111, 109], .str [108, 112], .str [], .str [], cB true, .str [112, 97, 100, 100, 105, 110, 103, 45, 108, 101, 102, 116], .str [108, 112], .str [], .str [], cB true, .str [98, 111, 114, 100, 101, 114, 45, 116, 111, 112, 45, 119, 105, 100, 116, 104], .str [108], .str [], .str [], cB true]]))) (n' := 2) rfl rfl (fun h => by cases h) ?_)
  refine dnil ?_
  refine Sv.seq ?_
  refine Sv.region ?_
  refine un (a1 rfl ?_)
  obtain ⟨x_, hx1, h⟩ := bnd h
  refine un (a1 (v := (.c (.ref 1 100 0 (0 + p_.toNat * 5)))) (s_iaddrA (L := prop_firsts_t4) rfl rfl rfl hx1) ?_)
  refine un (a1 (v := (.agg [.str x_.f_name, .str x_.f_kinds, .str x_.f_keys, .str x_.f_auto, cB x_.f_above])) (s_loadA (o2 := 0) (v := fun q => (.agg [.str q.f_name, .str q.f_kinds, .str q.f_keys, .str q.f_auto, cB q.f_above])) rfl rfl (.cons rfl (.cons rfl (.cons rfl (.cons rfl (.cons rfl (.cons rfl (.cons rfl (.cons rfl (.cons rfl (.cons rfl (.cons rfl (.cons rfl (.cons rfl (.cons rfl (.cons rfl (.cons rfl (.cons rfl (.cons rfl (.cons rfl (.cons rfl .nil)))))))))))))))))))) hx1) ?_)
  refine un (a2n (h' := upd _ 0 (some (.cells 5 [[.str x_.f_name, .str x_.f_kinds, .str x_.f_keys, .str x_.f_auto, cB x_.f_above]]))) (n' := 2) rfl rfl (fun h => by cases h) ?_)
  refine dnil ?_
  refine Sv.ret ?_
  replace h := Option.some.inj h
  subst h
  exact ⟨_, .refl _, _, rfl, ⟨upd (fun _ => none) 0 (some (.agg [.str x_.f_name, .str x_.f_kinds, .str x_.f_keys, .str x_.f_auto, cB x_.f_above])), fun _ => none, 0⟩, (.agg [.str x_.f_name, .str x_.f_kinds, .str x_.f_keys, .str x_.f_auto, cB x_.f_above]), weak_canon [] rfl List.nodup_nil (Nat.le_refl _) (fun b h => absurd h (Nat.not_lt_zero _)) (.cons rfl (avAs_free rfl) .nil) .nil, rfl, rfl, rfl, rfl⟩
def a73 : AFunc := ⟨1, [(.cell true 5 2)], (.seq (.region [⟨(some 2), (.box (.const (.agg [(.str []), (.str []), (.str []), (.str []), (.val (.bool false))]))), none⟩])
 (.seq (.region [⟨(some 4), (.build [(.str []), (.str []), (.str []), (.str []), (.val (.bool false))] [(0, (1, (.const (.c (.str [98, 111, 114, 100, 101, 114, 45, 114, 105, 103, 104, 116, 45, 119, 105, 100, 116, 104]))))), (1, (1, (.const (.c (.str [108]))))), (2, (1, (.const (.c (.str []))))), (3, (1, (.const (.c (.str []))))), (4, (1, (.const (.c (.val (.bool true))))))]), none⟩, ⟨(some 5), (.build [(.str []), (.str []), (.str []), (.str []), (.val (.bool false))] [(0, (1, (.const (.c (.str [98, 111, 114, 100, 101, 114, 45, 98, 111, 116, 116, 111, 109, 45, 119, 105, 100, 116, 104]))))), (1, (1, (.const (.c (.str [108]))))), (2, (1, (.const (.c (.str []))))), (3, (1, (.const (.c (.str []))))), (4, (1, (.const (.c (.val (.bool true))))))]), none⟩, ⟨(some 6), (.build [(.str []), (.str []), (.str []), (.str []), (.val (.bool false))] [(0, (1, (.const (.c (.str [98, 111, 114, 100, 101, 114, 45, 108, 101, 102, 116, 45, 119, 105, 100, 116, 104]))))), (1, (1, (.const (.c (.str [108]))))), (2, (1, (.const (.c (.str []))))), (3, (1, (.const (.c (.str []))))), (4, (1, (.const (.c (.val (.bool true))))))]), none⟩, ⟨(some 7), (.build [(.str []), (.str []), (.str []), (.str []), (.val (.bool false))] [(0, (1, (.const (.c (.str [98, 111, 114, 100, 101, 114, 45, 116, 111, 112, 45, 99, 111, 108, 111, 114]))))), (1, (1, (.const (.c (.str [99]))))), (2, (1, (.const (.c (.str []))))), (3, (1, (.const (.c (.str []))))), (4, (1, (.const (.c (.val (.bool false))))))]), none⟩, ⟨(some 8), (.build [(.str []), (.str []), (.str []), (.str []), (.val (.bool false))] [(0, (1, (.const (.c (.str [98, 111, 114, 100, 101, 114, 45, 114, 105, 103, 104, 116, 45, 99, 111, 108, 111, 114]))))), (1, (1, (.const (.c (.str [99]))))), (2, (1, (.const (.c (.str []))))), (3, (1, (.const (.c (.str []))))), (4, (1, (.const (.c (.val (.bool false))))))]), none⟩, ⟨(some 9), (.build [(.str []), (.str []), (.str []), (.str []), (.val (.bool false))] [(0, (1, (.const (.c (.str [98, 111, 114, 100, 101, 114, 45, 98, 111, 116, 116, 111, 109, 45, 99, 111, 108, 111, 114]))))), (1, (1, (.const (.c (.str [99]))))), (2, (1, (.const (.c (.str []))))), (3, (1, (.const (.c (.str []))))), (4, (1, (.const (.c (.val (.bool false))))))]), none⟩, ⟨(some 10), (.build [(.str []), (.str []), (.str []), (.str []), (.val (.bool false))] [(0, (1, (.const (.c (.str [98, 111, 114, 100, 101, 114, 45, 108, 101, 102, 116, 45, 99, 111, 108, 111, 114]))))), (1, (1, (.const (.c (.str [99]))))), (2, (1, (.const (.c (.str []))))), (3, (1, (.const (.c (.str []))))), (4, (1, (.const (.c (.val (.bool false))))))]), none⟩, ⟨(some 11), (.build [(.str []), (.str []), (.str []), (.str []), (.val (.bool false))] [(0, (1, (.const (.c (.str [116, 111, 112]))))), (1, (1, (.const (.c (.str [108, 112, 97]))))), (2, (1, (.const (.c (.str []))))), (3, (1, (.const (.c (.str [97, 117, 116, 111]))))), (4, (1, (.const (.c (.val (.bool false))))))]), none⟩, ⟨(some 12), (.build [(.str []), (.str []), (.str []), (.str []), (.val (.bool false))] [(0, (1, (.const (.c (.str [114, 105, 103, 104, 116]))))), (1, (1, (.const (.c (.str [108, 112, 97]))))), (2, (1, (.const (.c (.str []))))), (3, (1, (.const (.c (.str [97, 117, 116, 111]))))), (4, (1, (.const (.c (.val (.bool false))))))]), none⟩, ⟨(some 13), (.build [(.str []), (.str []), (.str []), (.str []), (.val (.bool false))] [(0, (1, (.const (.c (.str [98, 111, 116, 116, 111, 109]))))), (1, (1, (.const (.c (.str [108, 112, 97]))))), (2, (1, (.const (.c (.str []))))), (3, (1, (.const (.c (.str [97, 117, 116, 111]))))), (4, (1, (.const (.c (.val (.bool false))))))]), none⟩, ⟨(some 14), (.build [(.str []), (.str []), (.str []), (.str []), (.val (.bool false))] [(0, (1, (.const (.c (.str [108, 101, 102, 116]))))), (1, (1, (.const (.c (.str [108, 112, 97]))))), (2, (1, (.const (.c (.str []))))), (3, (1, (.const (.c (.str [97, 117, 116, 111]))))), (4, (1, (.const (.c (.val (.bool false))))))]), none⟩, ⟨(some 15), (.build [(.str []), (.str []), (.str []), (.str []), (.val (.bool false))] [(0, (1, (.const (.c (.str [122, 45, 105, 110, 100, 101, 120]))))), (1, (1, (.const (.c (.str [110, 97]))))), (2, (1, (.const (.c (.str []))))), (3, (1, (.const (.c (.str [97, 117, 116, 111]))))), (4, (1, (.const (.c (.val (.bool false))))))]), none⟩, ⟨(some 16), (.build [(.str []), (.str []), (.str []), (.str []), (.val (.bool false))] [(0, (1, (.const (.c (.str [111, 118, 101, 114, 102, 108, 111, 119]))))), (1, (1, (.const (.c (.str [107]))))), (2, (1, (.const (.c (.str [118, 105, 115, 105, 98, 108, 101, 32, 104, 105, 100, 100, 101, 110]))))), (3, (1, (.const (.c (.str []))))), (4, (1, (.const (.c (.val (.bool false))))))]), none⟩, ⟨(some 17), (.build [(.str []), (.str []), (.str []), (.str []), (.val (.bool false))] [(0, (1, (.const (.c (.str [118, 105, 115, 105, 98, 105, 108, 105, 116, 121]))))), (1, (1, (.const (.c (.str [107]))))), (2, (1, (.const (.c (.str [118, 105, 115, 105, 98, 108, 101, 32, 104, 105, 100, 100, 101, 110]))))), (3, (1, (.const (.c (.str []))))), (4, (1, (.const (.c (.val (.bool false))))))]), none⟩, ⟨(some 18), (.build [(.str []), (.str []), (.str []), (.str []), (.val (.bool false))] [(0, (1, (.const (.c (.str [111, 112, 97, 99, 105, 116, 121]))))), (1, (1, (.const (.c (.str [110]))))), (2, (1, (.const (.c (.str []))))), (3, (1, (.const (.c (.str []))))), (4, (1, (.const (.c (.val (.bool true))))))]), none⟩, ⟨(some 19), (.build [(.str []), (.str []), (.str []), (.str []), (.val (.bool false))] [(0, (1, (.const (.c (.str [99, 111, 108, 111, 114]))))), (1, (1, (.const (.c (.str [99]))))), (2, (1, (.const (.c (.str []))))), (3, (1, (.const (.c (.str []))))), (4, (1, (.const (.c (.val (.bool false))))))]), none⟩, ⟨(some 20), (.build [(.str []), (.str []), (.str []), (.str []), (.val (.bool false))] [(0, (1, (.const (.c (.str [98, 97, 99, 107, 103, 114, 111, 117, 110, 100, 45, 99, 111, 108, 111, 114]))))), (1, (1, (.const (.c (.str [99]))))), (2, (1, (.const (.c (.str []))))), (3, (1, (.const (.c (.str []))))), (4, (1, (.const (.c (.val (.bool false))))))]), none⟩, ⟨(some 21), (.build [(.str []), (.str []), (.str []), (.str []), (.val (.bool false))] [(0, (1, (.const (.c (.str [102, 111, 110, 116, 45, 115, 105, 122, 101]))))), (1, (1, (.const (.c (.str [108]))))), (2, (1, (.const (.c (.str []))))), (3, (1, (.const (.c (.str []))))), (4, (1, (.const (.c (.val (.bool true))))))]), none⟩, ⟨(some 22), (.build [(.str []), (.str []), (.str []), (.str []), (.val (.bool false))] [(0, (1, (.const (.c (.str [108, 105, 110, 101, 45, 104, 101, 105, 103, 104, 116]))))), (1, (1, (.const (.c (.str [108, 110, 97]))))), (2, (1, (.const (.c (.str []))))), (3, (1, (.const (.c (.str [110, 111, 114, 109, 97, 108]))))), (4, (1, (.const (.c (.val (.bool true))))))]), none⟩, ⟨(some 23), (.build [(.str []), (.str []), (.str []), (.str []), (.val (.bool false))] [(0, (1, (.const (.c (.str [116, 101, 120, 116, 45, 97, 108, 105, 103, 110]))))), (1, (1, (.const (.c (.str [107]))))), (2, (1, (.const (.c (.str [115, 116, 97, 114, 116, 32, 101, 110, 100, 32, 99, 101, 110, 116, 101, 114, 32, 106, 117, 115, 116, 105, 102, 121]))))), (3, (1, (.const (.c (.str []))))), (4, (1, (.const (.c (.val (.bool false))))))]), none⟩, ⟨(some 24), (.build [(.str []), (.str []), (.str []), (.str []), (.val (.bool false)), (.str []), (.str []), (.str []), (.str []), (.val (.bool false)), (.str []), (.str []), (.str []), (.str []), (.val (.bool false)), (.str []), (.str []), (.str []), (.str []), (.val (.bool false)), (.str []), (.str []), (.str []), (.str []), (.val (.bool false)), (.str []), (.str []), (.str []), (.str []), (.val (.bool false)), (.str []), (.str []), (.str []), (.str []), (.val (.bool false)), (.str []), (.str []), (.str []), (.str []), (.val (.bool false)), (.str []), (.str []), (.str []), (.str []), (.val (.bool false)), (.str []), (.str []), (.str []), (.str []), (.val (.bool false)), (.str []), (.str []), (.str []), (.str []), (.val (.bool false)), (.str []), (.str []), (.str []), (.str []), (.val (.bool false)), (.str []), (.str []), (.str []), (.str []), (.val (.bool false)), (.str []), (.str []), (.str []), (.str []), (.val (.bool false)), (.str []), (.str []), (.str []), (.str []), (.val (.bool false)), (.str []), (.str []), (.str []), (.str []), (.val (.bool false)), (.str []), (.str []), (.str []), (.str []), (.val (.bool false)), (.str []), (.str []), (.str []), (.str []), (.val (.bool false)), (.str []), (.str []), (.str []), (.str []), (.val (.bool false)), (.str []), (.str []), (.str []), (.str []), (.val (.bool false))] [(0, (5, (.tmp 4))), (5, (5, (.tmp 5))), (10, (5, (.tmp 6))), (15, (5, (.tmp 7))), (20, (5, (.tmp 8))), (25, (5, (.tmp 9))), (30, (5, (.tmp 10))), (35, (5, (.tmp 11))), (40, (5, (.tmp 12))), (45, (5, (.tmp 13))), (50, (5, (.tmp 14))), (55, (5, (.tmp 15))), (60, (5, (.tmp 16))), (65, (5, (.tmp 17))), (70, (5, (.tmp 18))), (75, (5, (.tmp 19))), (80, (5, (.tmp 20))), (85, (5, (.tmp 21))), (90, (5, (.tmp 22))), (95, (5, (.tmp 23)))]), none⟩, ⟨(some 3), (.box (.const (.agg [(.str []), (.str []), (.str []), (.str []), (.val (.bool false)), (.str []), (.str []), (.str []), (.str []), (.val (.bool false)), (.str []), (.str []), (.str []), (.str []), (.val (.bool false)), (.str []), (.str []), (.str []), (.str []), (.val (.bool false)), (.str []), (.str []), (.str []), (.str []), (.val (.bool false)), (.str []), (.str []), (.str []), (.str []), (.val (.bool false)), (.str []), (.str []), (.str []), (.str []), (.val (.bool false)), (.str []), (.str []), (.str []), (.str []), (.val (.bool false)), (.str []), (.str []), (.str []), (.str []), (.val (.bool false)), (.str []), (.str []), (.str []), (.str []), (.val (.bool false)), (.str []), (.str []), (.str []), (.str []), (.val (.bool false)), (.str []), (.str []), (.str []), (.str []), (.val (.bool false)), (.str []), (.str []), (.str []), (.str []), (.val (.bool false)), (.str []), (.str []), (.str []), (.str []), (.val (.bool false)), (.str []), (.str []), (.str []), (.str []), (.val (.bool false)), (.str []), (.str []), (.str []), (.str []), (.val (.bool false)), (.str []), (.str []), (.str []), (.str []), (.val (.bool false)), (.str []), (.str []), (.str []), (.str []), (.val (.bool false)), (.str []), (.str []), (.str []), (.str []), (.val (.bool false)), (.str []), (.str []), (.str []), (.str []), (.val (.bool false))]))), none⟩, ⟨none, (.store 100 (.tmp 3) (.tmp 24)), none⟩])
 (.seq (.region [⟨(some 25), (.mov (.tmp 0)), none⟩, ⟨(some 26), (.iaddrA 20 5 (.tmp 3) (.tmp 25)), none⟩, ⟨(some 27), (.load true 5 (.tmp 26)), none⟩, ⟨none, (.store 5 (.tmp 2) (.tmp 27)), none⟩])
 .ret)))⟩
set_option maxRecDepth 100000 in
theorem c73 : compFunc Try.prog 73 = some a73 := by kernel_rfl
def prop_seconds_post (r : Trow) : AV → Heap → Nat → Prop := fun v h' n' => v = (.agg [.str r.f_name, .str r.f_kinds, .str r.f_keys, .str r.f_auto, cB r.f_above]) ∧ (h' = fun _ => none) ∧ n' = 0
def prop_seconds_t0 : AV := (.agg [.str [116, 101, 120, 116, 45, 97, 108, 105, 103, 110], .str [107], .str [115, 116, 97, 114, 116, 32, 101, 110, 100, 32, 99, 101, 110, 116, 101, 114, 32, 106, 117, 115, 116, 105, 102, 121], .str [], cB false])
def prop_seconds_t1 : AV := (.agg [.str [98, 111, 114, 100, 101, 114, 45, 114, 105, 103, 104, 116, 45, 119, 105, 100, 116, 104], .str [108], .str [], .str [], cB true, .str [98, 111, 114, 100, 101, 114, 45, 98, 111, 116, 116, 111, 109, 45, 119, 105, 100, 116, 104], .str [108], .str [], .str [], cB true, .str [98, 111, 114, 100, 101, 114, 45, 108, 101, 102, 116, 45, 119, 105, 100, 116, 104], .str [108], .str [], .str [], cB true, .str [98, 111, 114, 100, 101, 114, 45, 116, 111, 112, 45, 99, 111, 108, 111, 114], .str [99], .str [], .str [], cB false, .str [98, 111, 114, 100, 101, 114, 45, 114, 105, 103, 104, 116, 45, 99, 111, 108, 111, 114], .str [99], .str [], .str [], cB false, .str [98, 111, 114, 100, 101, 114, 45, 98, 111, 116, 116, 111, 109, 45, 99, 111, 108, 111, 114], .str [99], .str [], .str [], cB false, .str [98, 111, 114, 100, 101, 114, 45, 108, 101, 102, 116, 45, 99, 111, 108, 111, 114], .str [99], .str [], .str [], cB false, .str [116, 111, 112], .str [108, 112, 97], .str [], .str [97, 117, 116, 111], cB false, .str [114, 105, 103, 104, 116], .str [108, 112, 97], .str [], .str [97, 117, 116, 111], cB false, .str [98, 111, 116, 116, 111, 109], .str [108, 112, 97], .str [], .str [97, 117, 116, 111], cB false, .str [108, 101, 102, 116], .str [108, 112, 97], .str [], .str [97, 117, 116, 111], cB false, .str [122, 45, 105, 110, 100, 101, 120], .str [110, 97], .str [], .str [97, 117, 116, 111], cB false, .str [111, 118, 101, 114, 102, 108, 111, 119], .str [107], .str [118, 105, 115, 105, 98, 108, 101, 32, 104, 105, 100, 100, 101, 110], .str [], cB false, .str [118, 105, 115, 105, 98, 105, 108, 105, 116, 121], .str [107], .str [118, 105, 115, 105, 98, 108, 101, 32, 104, 105, 100, 100, 101, 110], .str [], cB false, .str [111, 112, 97, 99, 105, 116, 121], .str [110], .str [], .str [], cB true, .str [99, 111, 108, 111, 114], .str [99], .str [], .str [], cB false, .str [98, 97, 99, 107, 103, 114, 111, 117, 110, 100, 45, 99, 111, 108, 111, 114], .str [99], .str [], .str [], cB false, .str [102, 111, 110, 116, 45, 115, 105, 122, 101], .str [108], .str [], .str [], cB true, .str [108, 105, 110, 101, 45, 104, 101, 105, 103, 104, 116], .str [108, 110, 97], .str [], .str [110, 111, 114, 109, 97, 108], cB true, .str [116, 101, 120, 116, 45, 97, 108, 105, 103, 110], .str [107], .str [115, 116, 97, 114, 116, 32, 101, 110, 100, 32, 99, 101, 110, 116, 101, 114, 32, 106, 117, 115, 116, 105, 102, 121], .str [], cB false])
def prop_seconds_t2 : List Trow := [(⟨[98, 111, 114, 100, 101, 114, 45, 114, 105, 103, 104, 116, 45, 119, 105, 100, 116, 104], [108], [], [], true⟩ : Trow), (⟨[98, 111, 114, 100, 101, 114, 45, 98, 111, 116, 116, 111, 109, 45, 119, 105, 100, 116, 104], [108], [], [], true⟩ : Trow), (⟨[98, 111, 114, 100, 101, 114, 45, 108, 101, 102, 116, 45, 119, 105, 100, 116, 104], [108], [], [], true⟩ : Trow), (⟨[98, 111, 114, 100, 101, 114, 45, 116, 111, 112, 45, 99, 111, 108, 111, 114], [99], [], [], false⟩ : Trow), (⟨[98, 111, 114, 100, 101, 114, 45, 114, 105, 103, 104, 116, 45, 99, 111, 108, 111, 114], [99], [], [], false⟩ : Trow), (⟨[98, 111, 114, 100, 101, 114, 45, 98, 111, 116, 116, 111, 109, 45, 99, 111, 108, 111, 114], [99], [], [], false⟩ : Trow), (⟨[98, 111, 114, 100, 101, 114, 45, 108, 101, 102, 116, 45, 99, 111, 108, 111, 114], [99], [], [], false⟩ : Trow), (⟨[116, 111, 112], [108, 112, 97], [], [97, 117, 116, 111], false⟩ : Trow), (⟨[114, 105, 103, 104, 116], [108, 112, 97], [], [97, 117, 116, 111], false⟩ : Trow), (⟨[98, 111, 116, 116, 111, 109], [108, 112, 97], [], [97, 117, 116, 111], false⟩ : Trow), (⟨[108, 101, 102, 116], [108, 112, 97], [], [97, 117, 116, 111], false⟩ : Trow), (⟨[122, 45, 105, 110, 100, 101, 120], [110, 97], [], [97, 117, 116, 111], false⟩ : Trow), (⟨[111, 118, 101, 114, 102, 108, 111, 119], [107], [118, 105, 115, 105, 98, 108, 101, 32, 104, 105, 100, 100, 101, 110], [], false⟩ : Trow), (⟨[118, 105, 115, 105, 98, 105, 108, 105, 116, 121], [107], [118, 105, 115, 105, 98, 108, 101, 32, 104, 105, 100, 100, 101, 110], [], false⟩ : Trow), (⟨[111, 112, 97, 99, 105, 116, 121], [110], [], [], true⟩ : Trow), (⟨[99, 111, 108, 111, 114], [99], [], [], false⟩ : Trow), (⟨[98, 97, 99, 107, 103, 114, 111, 117, 110, 100, 45, 99, 111, 108, 111, 114], [99], [], [], false⟩ : Trow), (⟨[102, 111, 110, 116, 45, 115, 105, 122, 101], [108], [], [], true⟩ : Trow), (⟨[108, 105, 110, 101, 45, 104, 101, 105, 103, 104, 116], [108, 110, 97], [], [110, 111, 114, 109, 97, 108], true⟩ : Trow), (⟨[116, 101, 120, 116, 45, 97, 108, 105, 103, 110], [107], [115, 116, 97, 114, 116, 32, 101, 110, 100, 32, 99, 101, 110, 116, 101, 114, 32, 106, 117, 115, 116, 105, 102, 121], [], false⟩ : Trow)]
/-- clerestory/prop.seconds -/
noncomputable def prop_seconds (p_ : Int) : Option Trow :=
  (at? prop_seconds_t2 p_).bind fun x_ =>
  some x_
theorem prop_seconds_ok {Γ : Glob} {p_ : Int} {r : Trow} (h : prop_seconds p_ = some r) : CPure Try.prog Γ 73 [(I p_)] (.agg [.str r.f_name, .str r.f_kinds, .str r.f_keys, .str r.f_auto, cB r.f_above]) := by
  refine acalls_of_sv hmix c73 (R := prop_seconds_post r) ?_
  unfold prop_seconds at h
  refine Sv.seq ?_
  refine Sv.region ?_
  refine un (a2v (v := (.c (.ref 0 5 0 0))) (h' := upd _ 0 (some (.cells 5 [[.str [], .str [], .str [], .str [], cB false]]))) (n' := 1) rfl rfl (fun h => by cases h) ?_)
  refine dnil ?_
  refine Sv.seq ?_
  refine Sv.region ?_
  refine un (a1 (v := (.agg [.str [98, 111, 114, 100, 101, 114, 45, 114, 105, 103, 104, 116, 45, 119, 105, 100, 116, 104], .str [108], .str [], .str [], cB true])) rfl ?_)
  refine un (a1 (v := (.agg [.str [98, 111, 114, 100, 101, 114, 45, 98, 111, 116, 116, 111, 109, 45, 119, 105, 100, 116, 104], .str [108], .str [], .str [], cB true])) rfl ?_)
  refine un (a1 (v := (.agg [.str [98, 111, 114, 100, 101, 114, 45, 108, 101, 102, 116, 45, 119, 105, 100, 116, 104], .str [108], .str [], .str [], cB true])) rfl ?_)
  refine un (a1 (v := (.agg [.str [98, 111, 114, 100, 101, 114, 45, 116, 111, 112, 45, 99, 111, 108, 111, 114], .str [99], .str [], .str [], cB false])) rfl ?_)
  refine un (a1 (v := (.agg [.str [98, 111, 114, 100, 101, 114, 45, 114, 105, 103, 104, 116, 45, 99, 111, 108, 111, 114], .str [99], .str [], .str [], cB false])) rfl ?_)
  refine un (a1 (v := (.agg [.str [98, 111, 114, 100, 101, 114, 45, 98, 111, 116, 116, 111, 109, 45, 99, 111, 108, 111, 114], .str [99], .str [], .str [], cB false])) rfl ?_)
  refine un (a1 (v := (.agg [.str [98, 111, 114, 100, 101, 114, 45, 108, 101, 102, 116, 45, 99, 111, 108, 111, 114], .str [99], .str [], .str [], cB false])) rfl ?_)
  refine un (a1 (v := (.agg [.str [116, 111, 112], .str [108, 112, 97], .str [], .str [97, 117, 116, 111], cB false])) rfl ?_)
  refine un (a1 (v := (.agg [.str [114, 105, 103, 104, 116], .str [108, 112, 97], .str [], .str [97, 117, 116, 111], cB false])) rfl ?_)
  refine un (a1 (v := (.agg [.str [98, 111, 116, 116, 111, 109], .str [108, 112, 97], .str [], .str [97, 117, 116, 111], cB false])) rfl ?_)
  refine un (a1 (v := (.agg [.str [108, 101, 102, 116], .str [108, 112, 97], .str [], .str [97, 117, 116, 111], cB false])) rfl ?_)
  refine un (a1 (v := (.agg [.str [122, 45, 105, 110, 100, 101, 120], .str [110, 97], .str [], .str [97, 117, 116, 111], cB false])) rfl ?_)
  refine un (a1 (v := (.agg [.str [111, 118, 101, 114, 102, 108, 111, 119], .str [107], .str [118, 105, 115, 105, 98, 108, 101, 32, 104, 105, 100, 100, 101, 110], .str [], cB false])) rfl ?_)
  refine un (a1 (v := (.agg [.str [118, 105, 115, 105, 98, 105, 108, 105, 116, 121], .str [107], .str [118, 105, 115, 105, 98, 108, 101, 32, 104, 105, 100, 100, 101, 110], .str [], cB false])) rfl ?_)
  refine un (a1 (v := (.agg [.str [111, 112, 97, 99, 105, 116, 121], .str [110], .str [], .str [], cB true])) rfl ?_)
  refine un (a1 (v := (.agg [.str [99, 111, 108, 111, 114], .str [99], .str [], .str [], cB false])) rfl ?_)
  refine un (a1 (v := (.agg [.str [98, 97, 99, 107, 103, 114, 111, 117, 110, 100, 45, 99, 111, 108, 111, 114], .str [99], .str [], .str [], cB false])) rfl ?_)
  refine un (a1 (v := (.agg [.str [102, 111, 110, 116, 45, 115, 105, 122, 101], .str [108], .str [], .str [], cB true])) rfl ?_)
  refine un (a1 (v := (.agg [.str [108, 105, 110, 101, 45, 104, 101, 105, 103, 104, 116], .str [108, 110, 97], .str [], .str [110, 111, 114, 109, 97, 108], cB true])) rfl ?_)
  refine un (a1 (v := prop_seconds_t0) rfl ?_)
  refine un (a1 (v := prop_seconds_t1) rfl ?_)
  refine un (a2v (v := (.c (.ref 1 100 0 0))) (h' := upd _ 1 (some (.cells 100 [[.str [], .str [], .str [], .str [], cB false, .str [], .str [], .str [], .str [], cB false, .str [], .str [], .str [], .str [], cB false, .str [], .str [], .str [], .str [], cB false, .str [], .str [], .str [], .str [], cB false, .str [], .str [], .str [], .str [], cB false, .str [], .str [], .str [], .str [], cB false, .str [], .str [], .str [], .str [], cB false, .str [], .str [], .str [], .str [], cB false, .str [], .str [], .str [], .str [], cB false, .str [], .str [], .str [], .str [], cB false, .str [], .str [], .str [], .str [], cB false, .str [], .str [], .str [], .str [], cB false, .str [], .str [], .str [], .str [], cB false, .str [], .str [], .str [], .str [], cB false, .str [], .str [], .str [], .str [], cB false, .str [], .str [], .str [], .str [], cB false, .str [], .str [], .str [], .str [], cB false, .str [], .str [], .str [], .str [], cB false, .str [], .str [], .str [], .str [], cB false]]))) (n' := 2) rfl rfl (fun h => by cases h) ?_)
  refine un (a2n (h' := upd _ 1 (some (.cells 100 [[.str [98, 111, 114, 100, 101, 114, 45, 114, 105, 103, 104, 116, 45, 119, 105, 100, 116, 104], .str [108], .str [], .str [], cB true, .str [98, 111, 114, 100, 101, 114, 45, 98, 111, 116, 116, 111, 109, 45, 119, 105, 100, 116, 104], .str [108], .str [], .str [], cB true, .str [98, 111, 114, 100, 101, 114, 45, 108, 101, 102, 116, 45, 119, 105, 100, 116, 104], .str [108], .str [], .str [], cB true, .str [98, 111, 114, 100, 101, 114, 45, 116, 111, 112, 45, 99, 111, 108, 111, 114], .str [99], .str [], .str [], cB false, .str [98, 111, 114, 100, 101, 114, 45, 114, 105, 103, 104, 116, 45, 99, 111, 108, 111, 114], .str [99], .str [], .str [], cB false, .str [98, 111, 114, 100, 101, 114, 45, 98, 111, 116, 116, 111, 109, 45, 99, 111, 108, 111, 114], .str [99], .str [], .str [], cB false, .str [98, 111, 114, 100, 101, 114, 45, 108, 101, 102, 116, 45, 99, 111, 108, 111, 114], .str [99], .str [], .str [], cB false, .str [116, 111, 112], .str [108, 112, 97], .str [], .str [97, 117, 116, 111], cB false, .str [114, 105, 103, 104, 116], .str [108, 112, 97], .str [], .str [97, 117, 116, 111], cB false, .str [98, 111, 116, 116, 111, 109], .str [108, 112, 97], .str [], .str [97, 117, 116, 111], cB false, .str [108, 101, 102, 116], .str [108, 112, 97], .str [], .str [97, 117, 116, 111], cB false, .str [122, 45, 105, 110, 100, 101, 120], .str [110, 97], .str [], .str [97, 117, 116, 111], cB false, .str [111, 118, 101, 114, 102, 108, 111, 119], .str [107], .str [118, 105, 115, 105, 98, 108, 101, 32, 104, 105, 100, 100, 101, 110], .str [], cB false, .str [118, 105, 115, 105, 98, 105, 108, 105, 116, 121], .str [107], .str [118, 105, 115, 105, 98, 108, 101, 32, 104, 105, 100, 100, 101, 110], .str [], cB false, .str [111, 112, 97, 99, 105, 116, 121], .str [110], .str [], .str [], cB true, .str [99, 111, 108, 111, 114], .str [99], .str [], .str [], cB false, .str [98, 97, 99, 107, 103, 114, 111, 117, 110, 100, 45, 99, 111, 108, 111, 114], .str [99], .str [], .str [], cB false, .str [102, 111, 110, 116, 45, 115, 105, 122, 101], .str [108], .str [], .str [], cB true, .str [108, 105, 110, 101, 45, 104, 101, 105, 103, 104, 116], .str [108, 110, 97], .str [], .str [110, 111, 114, 109, 97, 108], cB true, .str [116, 101, 120, 116, 45, 97, 108, 105, 103, 110], .str [107], .str [115, 116, 97, 114, 116, 32, 101, 110, 100, 32, 99, 101, 110, 116, 101, 114, 32, 106, 117, 115, 116, 105, 102, 121], .str [], cB false]]))) (n' := 2) rfl rfl (fun h => by cases h) ?_)
  refine dnil ?_
  refine Sv.seq ?_
  refine Sv.region ?_
  refine un (a1 rfl ?_)
  obtain ⟨x_, hx1, h⟩ := bnd h
  refine un (a1 (v := (.c (.ref 1 100 0 (0 + p_.toNat * 5)))) (s_iaddrA (L := prop_seconds_t2) rfl rfl rfl hx1) ?_)
  refine un (a1 (v := (.agg [.str x_.f_name, .str x_.f_kinds, .str x_.f_keys, .str x_.f_auto, cB x_.f_above])) (s_loadA (o2 := 0) (v := fun q => (.agg [.str q.f_name, .str q.f_kinds, .str q.f_keys, .str q.f_auto, cB q.f_above])) rfl rfl (.cons rfl (.cons rfl (.cons rfl (.cons rfl (.cons rfl (.cons rfl (.cons rfl (.cons rfl (.cons rfl (.cons rfl (.cons rfl (.cons rfl (.cons rfl (.cons rfl (.cons rfl (.cons rfl (.cons rfl (.cons rfl (.cons rfl (.cons rfl .nil)))))))))))))))))))) hx1) ?_)
  refine un (a2n (h' := upd _ 0 (some (.cells 5 [[.str x_.f_name, .str x_.f_kinds, .str x_.f_keys, .str x_.f_auto, cB x_.f_above]]))) (n' := 2) rfl rfl (fun h => by cases h) ?_)
  refine dnil ?_
  refine Sv.ret ?_
  replace h := Option.some.inj h
  subst h
  exact ⟨_, .refl _, _, rfl, ⟨upd (fun _ => none) 0 (some (.agg [.str x_.f_name, .str x_.f_kinds, .str x_.f_keys, .str x_.f_auto, cB x_.f_above])), fun _ => none, 0⟩, (.agg [.str x_.f_name, .str x_.f_kinds, .str x_.f_keys, .str x_.f_auto, cB x_.f_above]), weak_canon [] rfl List.nodup_nil (Nat.le_refl _) (fun b h => absurd h (Nat.not_lt_zero _)) (.cons rfl (avAs_free rfl) .nil) .nil, rfl, rfl, rfl, rfl⟩
def a74 : AFunc := ⟨1, [(.cell true 5 2)], (.seq (.region [⟨(some 2), (.box (.const (.agg [(.str []), (.str []), (.str []), (.str []), (.val (.bool false))]))), none⟩])
 (.seq (.region [⟨(some 4), (.build [(.str []), (.str []), (.str []), (.str []), (.val (.bool false))] [(0, (1, (.const (.c (.str [116, 101, 120, 116, 45, 105, 110, 100, 101, 110, 116]))))), (1, (1, (.const (.c (.str [108, 112]))))), (2, (1, (.const (.c (.str []))))), (3, (1, (.const (.c (.str []))))), (4, (1, (.const (.c (.val (.bool false))))))]), none⟩, ⟨(some 5), (.build [(.str []), (.str []), (.str []), (.str []), (.val (.bool false))] [(0, (1, (.const (.c (.str [119, 104, 105, 116, 101, 45, 115, 112, 97, 99, 101]))))), (1, (1, (.const (.c (.str [107]))))), (2, (1, (.const (.c (.str [110, 111, 114, 109, 97, 108, 32, 112, 114, 101, 32, 110, 111, 119, 114, 97, 112, 32, 112, 114, 101, 45, 119, 114, 97, 112]))))), (3, (1, (.const (.c (.str []))))), (4, (1, (.const (.c (.val (.bool false))))))]), none⟩, ⟨(some 6), (.build [(.str []), (.str []), (.str []), (.str []), (.val (.bool false))] [(0, (1, (.const (.c (.str [118, 101, 114, 116, 105, 99, 97, 108, 45, 97, 108, 105, 103, 110]))))), (1, (1, (.const (.c (.str [107, 108]))))), (2, (1, (.const (.c (.str [98, 97, 115, 101, 108, 105, 110, 101, 32, 116, 111, 112, 32, 109, 105, 100, 100, 108, 101, 32, 98, 111, 116, 116, 111, 109]))))), (3, (1, (.const (.c (.str []))))), (4, (1, (.const (.c (.val (.bool false))))))]), none⟩, ⟨(some 7), (.build [(.str []), (.str []), (.str []), (.str []), (.val (.bool false))] [(0, (1, (.const (.c (.str [116, 101, 120, 116, 45, 116, 114, 97, 110, 115, 102, 111, 114, 109]))))), (1, (1, (.const (.c (.str [107]))))), (2, (1, (.const (.c (.str [110, 111, 110, 101, 32, 117, 112, 112, 101, 114, 99, 97, 115, 101, 32, 108, 111, 119, 101, 114, 99, 97, 115, 101]))))), (3, (1, (.const (.c (.str []))))), (4, (1, (.const (.c (.val (.bool false))))))]), none⟩, ⟨(some 8), (.build [(.str []), (.str []), (.str []), (.str []), (.val (.bool false))] [(0, (1, (.const (.c (.str [108, 101, 116, 116, 101, 114, 45, 115, 112, 97, 99, 105, 110, 103]))))), (1, (1, (.const (.c (.str [108, 97]))))), (2, (1, (.const (.c (.str []))))), (3, (1, (.const (.c (.str [110, 111, 114, 109, 97, 108]))))), (4, (1, (.const (.c (.val (.bool false))))))]), none⟩, ⟨(some 9), (.build [(.str []), (.str []), (.str []), (.str []), (.val (.bool false))] [(0, (1, (.const (.c (.str [102, 108, 101, 120, 45, 100, 105, 114, 101, 99, 116, 105, 111, 110]))))), (1, (1, (.const (.c (.str [107]))))), (2, (1, (.const (.c (.str [114, 111, 119, 32, 114, 111, 119, 45, 114, 101, 118, 101, 114, 115, 101, 32, 99, 111, 108, 117, 109, 110, 32, 99, 111, 108, 117, 109, 110, 45, 114, 101, 118, 101, 114, 115, 101]))))), (3, (1, (.const (.c (.str []))))), (4, (1, (.const (.c (.val (.bool false))))))]), none⟩, ⟨(some 10), (.build [(.str []), (.str []), (.str []), (.str []), (.val (.bool false))] [(0, (1, (.const (.c (.str [102, 108, 101, 120, 45, 119, 114, 97, 112]))))), (1, (1, (.const (.c (.str [107]))))), (2, (1, (.const (.c (.str [110, 111, 119, 114, 97, 112, 32, 119, 114, 97, 112]))))), (3, (1, (.const (.c (.str []))))), (4, (1, (.const (.c (.val (.bool false))))))]), none⟩, ⟨(some 11), (.build [(.str []), (.str []), (.str []), (.str []), (.val (.bool false))] [(0, (1, (.const (.c (.str [106, 117, 115, 116, 105, 102, 121, 45, 99, 111, 110, 116, 101, 110, 116]))))), (1, (1, (.const (.c (.str [107]))))), (2, (1, (.const (.c (.str [102, 108, 101, 120, 45, 115, 116, 97, 114, 116, 32, 102, 108, 101, 120, 45, 101, 110, 100, 32, 99, 101, 110, 116, 101, 114, 32, 45, 32, 115, 112, 97, 99, 101, 45, 98, 101, 116, 119, 101, 101, 110, 32, 115, 112, 97, 99, 101, 45, 97, 114, 111, 117, 110, 100]))))), (3, (1, (.const (.c (.str []))))), (4, (1, (.const (.c (.val (.bool false))))))]), none⟩, ⟨(some 12), (.build [(.str []), (.str []), (.str []), (.str []), (.val (.bool false))] [(0, (1, (.const (.c (.str [97, 108, 105, 103, 110, 45, 105, 116, 101, 109, 115]))))), (1, (1, (.const (.c (.str [107]))))), (2, (1, (.const (.c (.str [102, 108, 101, 120, 45, 115, 116, 97, 114, 116, 32, 102, 108, 101, 120, 45, 101, 110, 100, 32, 99, 101, 110, 116, 101, 114, 32, 45, 32, 45, 32, 45, 32, 115, 116, 114, 101, 116, 99, 104]))))), (3, (1, (.const (.c (.str []))))), (4, (1, (.const (.c (.val (.bool false))))))]), none⟩, ⟨(some 13), (.build [(.str []), (.str []), (.str []), (.str []), (.val (.bool false))] [(0, (1, (.const (.c (.str [97, 108, 105, 103, 110, 45, 115, 101, 108, 102]))))), (1, (1, (.const (.c (.str [107, 97]))))), (2, (1, (.const (.c (.str [102, 108, 101, 120, 45, 115, 116, 97, 114, 116, 32, 102, 108, 101, 120, 45, 101, 110, 100, 32, 99, 101, 110, 116, 101, 114, 32, 45, 32, 45, 32, 45, 32, 115, 116, 114, 101, 116, 99, 104]))))), (3, (1, (.const (.c (.str [97, 117, 116, 111]))))), (4, (1, (.const (.c (.val (.bool false))))))]), none⟩, ⟨(some 14), (.build [(.str []), (.str []), (.str []), (.str []), (.val (.bool false))] [(0, (1, (.const (.c (.str [102, 108, 101, 120, 45, 103, 114, 111, 119]))))), (1, (1, (.const (.c (.str [110]))))), (2, (1, (.const (.c (.str []))))), (3, (1, (.const (.c (.str []))))), (4, (1, (.const (.c (.val (.bool true))))))]), none⟩, ⟨(some 15), (.build [(.str []), (.str []), (.str []), (.str []), (.val (.bool false))] [(0, (1, (.const (.c (.str [102, 108, 101, 120, 45, 115, 104, 114, 105, 110, 107]))))), (1, (1, (.const (.c (.str [110]))))), (2, (1, (.const (.c (.str []))))), (3, (1, (.const (.c (.str []))))), (4, (1, (.const (.c (.val (.bool true))))))]), none⟩, ⟨(some 16), (.build [(.str []), (.str []), (.str []), (.str []), (.val (.bool false))] [(0, (1, (.const (.c (.str [102, 108, 101, 120, 45, 98, 97, 115, 105, 115]))))), (1, (1, (.const (.c (.str [108, 112, 97]))))), (2, (1, (.const (.c (.str []))))), (3, (1, (.const (.c (.str [97, 117, 116, 111]))))), (4, (1, (.const (.c (.val (.bool true))))))]), none⟩, ⟨(some 17), (.build [(.str []), (.str []), (.str []), (.str []), (.val (.bool false))] [(0, (1, (.const (.c (.str [111, 114, 100, 101, 114]))))), (1, (1, (.const (.c (.str [110]))))), (2, (1, (.const (.c (.str []))))), (3, (1, (.const (.c (.str []))))), (4, (1, (.const (.c (.val (.bool false))))))]), none⟩, ⟨(some 18), (.build [(.str []), (.str []), (.str []), (.str []), (.val (.bool false))] [(0, (1, (.const (.c (.str [103, 97, 112]))))), (1, (1, (.const (.c (.str [108]))))), (2, (1, (.const (.c (.str []))))), (3, (1, (.const (.c (.str []))))), (4, (1, (.const (.c (.val (.bool true))))))]), none⟩, ⟨(some 19), (.build [(.str []), (.str []), (.str []), (.str []), (.val (.bool false))] [(0, (1, (.const (.c (.str [116, 97, 98, 108, 101, 45, 108, 97, 121, 111, 117, 116]))))), (1, (1, (.const (.c (.str [107]))))), (2, (1, (.const (.c (.str [97, 117, 116, 111, 32, 102, 105, 120, 101, 100]))))), (3, (1, (.const (.c (.str []))))), (4, (1, (.const (.c (.val (.bool false))))))]), none⟩, ⟨(some 20), (.build [(.str []), (.str []), (.str []), (.str []), (.val (.bool false))] [(0, (1, (.const (.c (.str [98, 111, 114, 100, 101, 114, 45, 115, 112, 97, 99, 105, 110, 103]))))), (1, (1, (.const (.c (.str [108]))))), (2, (1, (.const (.c (.str []))))), (3, (1, (.const (.c (.str []))))), (4, (1, (.const (.c (.val (.bool true))))))]), none⟩, ⟨(some 21), (.build [(.str []), (.str []), (.str []), (.str []), (.val (.bool false))] [(0, (1, (.const (.c (.str [108, 105, 115, 116, 45, 115, 116, 121, 108, 101, 45, 116, 121, 112, 101]))))), (1, (1, (.const (.c (.str [107]))))), (2, (1, (.const (.c (.str [110, 111, 110, 101, 32, 100, 105, 115, 99, 32, 100, 101, 99, 105, 109, 97, 108]))))), (3, (1, (.const (.c (.str []))))), (4, (1, (.const (.c (.val (.bool false))))))]), none⟩, ⟨(some 22), (.build [(.str []), (.str []), (.str []), (.str []), (.val (.bool false))] [(0, (1, (.const (.c (.str [112, 111, 105, 110, 116, 101, 114, 45, 101, 118, 101, 110, 116, 115]))))), (1, (1, (.const (.c (.str [107]))))), (2, (1, (.const (.c (.str [97, 117, 116, 111, 32, 110, 111, 110, 101]))))), (3, (1, (.const (.c (.str []))))), (4, (1, (.const (.c (.val (.bool false))))))]), none⟩, ⟨(some 23), (.build [(.str []), (.str []), (.str []), (.str []), (.val (.bool false)), (.str []), (.str []), (.str []), (.str []), (.val (.bool false)), (.str []), (.str []), (.str []), (.str []), (.val (.bool false)), (.str []), (.str []), (.str []), (.str []), (.val (.bool false)), (.str []), (.str []), (.str []), (.str []), (.val (.bool false)), (.str []), (.str []), (.str []), (.str []), (.val (.bool false)), (.str []), (.str []), (.str []), (.str []), (.val (.bool false)), (.str []), (.str []), (.str []), (.str []), (.val (.bool false)), (.str []), (.str []), (.str []), (.str []), (.val (.bool false)), (.str []), (.str []), (.str []), (.str []), (.val (.bool false)), (.str []), (.str []), (.str []), (.str []), (.val (.bool false)), (.str []), (.str []), (.str []), (.str []), (.val (.bool false)), (.str []), (.str []), (.str []), (.str []), (.val (.bool false)), (.str []), (.str []), (.str []), (.str []), (.val (.bool false)), (.str []), (.str []), (.str []), (.str []), (.val (.bool false)), (.str []), (.str []), (.str []), (.str []), (.val (.bool false)), (.str []), (.str []), (.str []), (.str []), (.val (.bool false)), (.str []), (.str []), (.str []), (.str []), (.val (.bool false)), (.str []), (.str []), (.str []), (.str []), (.val (.bool false))] [(0, (5, (.tmp 4))), (5, (5, (.tmp 5))), (10, (5, (.tmp 6))), (15, (5, (.tmp 7))), (20, (5, (.tmp 8))), (25, (5, (.tmp 9))), (30, (5, (.tmp 10))), (35, (5, (.tmp 11))), (40, (5, (.tmp 12))), (45, (5, (.tmp 13))), (50, (5, (.tmp 14))), (55, (5, (.tmp 15))), (60, (5, (.tmp 16))), (65, (5, (.tmp 17))), (70, (5, (.tmp 18))), (75, (5, (.tmp 19))), (80, (5, (.tmp 20))), (85, (5, (.tmp 21))), (90, (5, (.tmp 22)))]), none⟩, ⟨(some 3), (.box (.const (.agg [(.str []), (.str []), (.str []), (.str []), (.val (.bool false)), (.str []), (.str []), (.str []), (.str []), (.val (.bool false)), (.str []), (.str []), (.str []), (.str []), (.val (.bool false)), (.str []), (.str []), (.str []), (.str []), (.val (.bool false)), (.str []), (.str []), (.str []), (.str []), (.val (.bool false)), (.str []), (.str []), (.str []), (.str []), (.val (.bool false)), (.str []), (.str []), (.str []), (.str []), (.val (.bool false)), (.str []), (.str []), (.str []), (.str []), (.val (.bool false)), (.str []), (.str []), (.str []), (.str []), (.val (.bool false)), (.str []), (.str []), (.str []), (.str []), (.val (.bool false)), (.str []), (.str []), (.str []), (.str []), (.val (.bool false)), (.str []), (.str []), (.str []), (.str []), (.val (.bool false)), (.str []), (.str []), (.str []), (.str []), (.val (.bool false)), (.str []), (.str []), (.str []), (.str []), (.val (.bool false)), (.str []), (.str []), (.str []), (.str []), (.val (.bool false)), (.str []), (.str []), (.str []), (.str []), (.val (.bool false)), (.str []), (.str []), (.str []), (.str []), (.val (.bool false)), (.str []), (.str []), (.str []), (.str []), (.val (.bool false)), (.str []), (.str []), (.str []), (.str []), (.val (.bool false))]))), none⟩, ⟨none, (.store 95 (.tmp 3) (.tmp 23)), none⟩])
 (.seq (.region [⟨(some 24), (.mov (.tmp 0)), none⟩, ⟨(some 25), (.iaddrA 19 5 (.tmp 3) (.tmp 24)), none⟩, ⟨(some 26), (.load true 5 (.tmp 25)), none⟩, ⟨none, (.store 5 (.tmp 2) (.tmp 26)), none⟩])
 .ret)))⟩
set_option maxRecDepth 100000 in
theorem c74 : compFunc Try.prog 74 = some a74 := by kernel_rfl
def prop_thirds_post (r : Trow) : AV → Heap → Nat → Prop := fun v h' n' => v = (.agg [.str r.f_name, .str r.f_kinds, .str r.f_keys, .str r.f_auto, cB r.f_above]) ∧ (h' = fun _ => none) ∧ n' = 0
def prop_thirds_t0 : AV := (.agg [.str [119, 104, 105, 116, 101, 45, 115, 112, 97, 99, 101], .str [107], .str [110, 111, 114, 109, 97, 108, 32, 112, 114, 101, 32, 110, 111, 119, 114, 97, 112, 32, 112, 114, 101, 45, 119, 114, 97, 112], .str [], cB false])
def prop_thirds_t1 : AV := (.agg [.str [118, 101, 114, 116, 105, 99, 97, 108, 45, 97, 108, 105, 103, 110], .str [107, 108], .str [98, 97, 115, 101, 108, 105, 110, 101, 32, 116, 111, 112, 32, 109, 105, 100, 100, 108, 101, 32, 98, 111, 116, 116, 111, 109], .str [], cB false])
def prop_thirds_t2 : AV := (.agg [.str [116, 101, 120, 116, 45, 116, 114, 97, 110, 115, 102, 111, 114, 109], .str [107], .str [110, 111, 110, 101, 32, 117, 112, 112, 101, 114, 99, 97, 115, 101, 32, 108, 111, 119, 101, 114, 99, 97, 115, 101], .str [], cB false])
def prop_thirds_t3 : AV := (.agg [.str [102, 108, 101, 120, 45, 100, 105, 114, 101, 99, 116, 105, 111, 110], .str [107], .str [114, 111, 119, 32, 114, 111, 119, 45, 114, 101, 118, 101, 114, 115, 101, 32, 99, 111, 108, 117, 109, 110, 32, 99, 111, 108, 117, 109, 110, 45, 114, 101, 118, 101, 114, 115, 101], .str [], cB false])
def prop_thirds_t4 : AV := (.agg [.str [106, 117, 115, 116, 105, 102, 121, 45, 99, 111, 110, 116, 101, 110, 116], .str [107], .str [102, 108, 101, 120, 45, 115, 116, 97, 114, 116, 32, 102, 108, 101, 120, 45, 101, 110, 100, 32, 99, 101, 110, 116, 101, 114, 32, 45, 32, 115, 112, 97, 99, 101, 45, 98, 101, 116, 119, 101, 101, 110, 32, 115, 112, 97, 99, 101, 45, 97, 114, 111, 117, 110, 100], .str [], cB false])
def prop_thirds_t5 : AV := (.agg [.str [97, 108, 105, 103, 110, 45, 105, 116, 101, 109, 115], .str [107], .str [102, 108, 101, 120, 45, 115, 116, 97, 114, 116, 32, 102, 108, 101, 120, 45, 101, 110, 100, 32, 99, 101, 110, 116, 101, 114, 32, 45, 32, 45, 32, 45, 32, 115, 116, 114, 101, 116, 99, 104], .str [], cB false])
def prop_thirds_t6 : AV := (.agg [.str [97, 108, 105, 103, 110, 45, 115, 101, 108, 102], .str [107, 97], .str [102, 108, 101, 120, 45, 115, 116, 97, 114, 116, 32, 102, 108, 101, 120, 45, 101, 110, 100, 32, 99, 101, 110, 116, 101, 114, 32, 45, 32, 45, 32, 45, 32, 115, 116, 114, 101, 116, 99, 104], .str [97, 117, 116, 111], cB false])
def prop_thirds_t7 : AV := (.agg [.str [108, 105, 115, 116, 45, 115, 116, 121, 108, 101, 45, 116, 121, 112, 101], .str [107], .str [110, 111, 110, 101, 32, 100, 105, 115, 99, 32, 100, 101, 99, 105, 109, 97, 108], .str [], cB false])
def prop_thirds_t8 : AV := (.agg [.str [116, 101, 120, 116, 45, 105, 110, 100, 101, 110, 116], .str [108, 112], .str [], .str [], cB false, .str [119, 104, 105, 116, 101, 45, 115, 112, 97, 99, 101], .str [107], .str [110, 111, 114, 109, 97, 108, 32, 112, 114, 101, 32, 110, 111, 119, 114, 97, 112, 32, 112, 114, 101, 45, 119, 114, 97, 112], .str [], cB false, .str [118, 101, 114, 116, 105, 99, 97, 108, 45, 97, 108, 105, 103, 110], .str [107, 108], .str [98, 97, 115, 101, 108, 105, 110, 101, 32, 116, 111, 112, 32, 109, 105, 100, 100, 108, 101, 32, 98, 111, 116, 116, 111, 109], .str [], cB false, .str [116, 101, 120, 116, 45, 116, 114, 97, 110, 115, 102, 111, 114, 109], .str [107], .str [110, 111, 110, 101, 32, 117, 112, 112, 101, 114, 99, 97, 115, 101, 32, 108, 111, 119, 101, 114, 99, 97, 115, 101], .str [], cB false, .str [108, 101, 116, 116, 101, 114, 45, 115, 112, 97, 99, 105, 110, 103], .str [108, 97], .str [], .str [110, 111, 114, 109, 97, 108], cB false, .str [102, 108, 101, 120, 45, 100, 105, 114, 101, 99, 116, 105, 111, 110], .str [107], .str [114, 111, 119, 32, 114, 111, 119, 45, 114, 101, 118, 101, 114, 115, 101, 32, 99, 111, 108, 117, 109, 110, 32, 99, 111, 108, 117, 109, 110, 45, 114, 101, 118, 101, 114, 115, 101], .str [], cB false, .str [102, 108, 101, 120, 45, 119, 114, 97, 112], .str [107], .str [110, 111, 119, 114, 97, 112, 32, 119, 114, 97, 112], .str [], cB false, .str [106, 117, 115, 116, 105, 102, 121, 45, 99, 111, 110, 116, 101, 110, 116], .str [107], .str [102, 108, 101, 120, 45, 115, 116, 97, 114, 116, 32, 102, 108, 101, 120, 45, 101, 110, 100, 32, 99, 101, 110, 116, 101, 114, 32, 45, 32, 115, 112, 97, 99, 101, 45, 98, 101, 116, 119, 101, 101, 110, 32, 115, 112, 97, 99, 101, 45, 97, 114, 111, 117, 110, 100], .str [], cB false, .str [97, 108, 105, 103, 110, 45, 105, 116, 101, 109, 115], .str [107], .str [102, 108, 101, 120, 45, 115, 116, 97, 114, 116, 32, 102, 108, 101, 120, 45, 101, 110, 100, 32, 99, 101, 110, 116, 101, 114, 32, 45, 32, 45, 32, 45, 32, 115, 116, 114, 101, 116, 99, 104], .str [], cB false, .str [97, 108, 105, 103, 110, 45, 115, 101, 108, 102], .str [107, 97], .str [102, 108, 101, 120, 45, 115, 116, 97, 114, 116, 32, 102, 108, 101, 120, 45, 101, 110, 100, 32, 99, 101, 110, 116, 101, 114, 32, 45, 32, 45, 32, 45, 32, 115, 116, 114, 101, 116, 99, 104], .str [97, 117, 116, 111], cB false, .str [102, 108, 101, 120, 45, 103, 114, 111, 119], .str [110], .str [], .str [], cB true, .str [102, 108, 101, 120, 45, 115, 104, 114, 105, 110, 107], .str [110], .str [], .str [], cB true, .str [102, 108, 101, 120, 45, 98, 97, 115, 105, 115], .str [108, 112, 97], .str [], .str [97, 117, 116, 111], cB true, .str [111, 114, 100, 101, 114], .str [110], .str [], .str [], cB false, .str [103, 97, 112], .str [108], .str [], .str [], cB true, .str [116, 97, 98, 108, 101, 45, 108, 97, 121, 111, 117, 116], .str [107], .str [97, 117, 116, 111, 32, 102, 105, 120, 101, 100], .str [], cB false, .str [98, 111, 114, 100, 101, 114, 45, 115, 112, 97, 99, 105, 110, 103], .str [108], .str [], .str [], cB true, .str [108, 105, 115, 116, 45, 115, 116, 121, 108, 101, 45, 116, 121, 112, 101], .str [107], .str [110, 111, 110, 101, 32, 100, 105, 115, 99, 32, 100, 101, 99, 105, 109, 97, 108], .str [], cB false, .str [112, 111, 105, 110, 116, 101, 114, 45, 101, 118, 101, 110, 116, 115], .str [107], .str [97, 117, 116, 111, 32, 110, 111, 110, 101], .str [], cB false])
def prop_thirds_t9 : List Trow := [(⟨[116, 101, 120, 116, 45, 105, 110, 100, 101, 110, 116], [108, 112], [], [], false⟩ : Trow), (⟨[119, 104, 105, 116, 101, 45, 115, 112, 97, 99, 101], [107], [110, 111, 114, 109, 97, 108, 32, 112, 114, 101, 32, 110, 111, 119, 114, 97, 112, 32, 112, 114, 101, 45, 119, 114, 97, 112], [], false⟩ : Trow), (⟨[118, 101, 114, 116, 105, 99, 97, 108, 45, 97, 108, 105, 103, 110], [107, 108], [98, 97, 115, 101, 108, 105, 110, 101, 32, 116, 111, 112, 32, 109, 105, 100, 100, 108, 101, 32, 98, 111, 116, 116, 111, 109], [], false⟩ : Trow), (⟨[116, 101, 120, 116, 45, 116, 114, 97, 110, 115, 102, 111, 114, 109], [107], [110, 111, 110, 101, 32, 117, 112, 112, 101, 114, 99, 97, 115, 101, 32, 108, 111, 119, 101, 114, 99, 97, 115, 101], [], false⟩ : Trow), (⟨[108, 101, 116, 116, 101, 114, 45, 115, 112, 97, 99, 105, 110, 103], [108, 97], [], [110, 111, 114, 109, 97, 108], false⟩ : Trow), (⟨[102, 108, 101, 120, 45, 100, 105, 114, 101, 99, 116, 105, 111, 110], [107], [114, 111, 119, 32, 114, 111, 119, 45, 114, 101, 118, 101, 114, 115, 101, 32, 99, 111, 108, 117, 109, 110, 32, 99, 111, 108, 117, 109, 110, 45, 114, 101, 118, 101, 114, 115, 101], [], false⟩ : Trow), (⟨[102, 108, 101, 120, 45, 119, 114, 97, 112], [107], [110, 111, 119, 114, 97, 112, 32, 119, 114, 97, 112], [], false⟩ : Trow), (⟨[106, 117, 115, 116, 105, 102, 121, 45, 99, 111, 110, 116, 101, 110, 116], [107], [102, 108, 101, 120, 45, 115, 116, 97, 114, 116, 32, 102, 108, 101, 120, 45, 101, 110, 100, 32, 99, 101, 110, 116, 101, 114, 32, 45, 32, 115, 112, 97, 99, 101, 45, 98, 101, 116, 119, 101, 101, 110, 32, 115, 112, 97, 99, 101, 45, 97, 114, 111, 117, 110, 100], [], false⟩ : Trow), (⟨[97, 108, 105, 103, 110, 45, 105, 116, 101, 109, 115], [107], [102, 108, 101, 120, 45, 115, 116, 97, 114, 116, 32, 102, 108, 101, 120, 45, 101, 110, 100, 32, 99, 101, 110, 116, 101, 114, 32, 45, 32, 45, 32, 45, 32, 115, 116, 114, 101, 116, 99, 104], [], false⟩ : Trow), (⟨[97, 108, 105, 103, 110, 45, 115, 101, 108, 102], [107, 97], [102, 108, 101, 120, 45, 115, 116, 97, 114, 116, 32, 102, 108, 101, 120, 45, 101, 110, 100, 32, 99, 101, 110, 116, 101, 114, 32, 45, 32, 45, 32, 45, 32, 115, 116, 114, 101, 116, 99, 104], [97, 117, 116, 111], false⟩ : Trow), (⟨[102, 108, 101, 120, 45, 103, 114, 111, 119], [110], [], [], true⟩ : Trow), (⟨[102, 108, 101, 120, 45, 115, 104, 114, 105, 110, 107], [110], [], [], true⟩ : Trow), (⟨[102, 108, 101, 120, 45, 98, 97, 115, 105, 115], [108, 112, 97], [], [97, 117, 116, 111], true⟩ : Trow), (⟨[111, 114, 100, 101, 114], [110], [], [], false⟩ : Trow), (⟨[103, 97, 112], [108], [], [], true⟩ : Trow), (⟨[116, 97, 98, 108, 101, 45, 108, 97, 121, 111, 117, 116], [107], [97, 117, 116, 111, 32, 102, 105, 120, 101, 100], [], false⟩ : Trow), (⟨[98, 111, 114, 100, 101, 114, 45, 115, 112, 97, 99, 105, 110, 103], [108], [], [], true⟩ : Trow), (⟨[108, 105, 115, 116, 45, 115, 116, 121, 108, 101, 45, 116, 121, 112, 101], [107], [110, 111, 110, 101, 32, 100, 105, 115, 99, 32, 100, 101, 99, 105, 109, 97, 108], [], false⟩ : Trow), (⟨[112, 111, 105, 110, 116, 101, 114, 45, 101, 118, 101, 110, 116, 115], [107], [97, 117, 116, 111, 32, 110, 111, 110, 101], [], false⟩ : Trow)]
/-- clerestory/prop.thirds -/
noncomputable def prop_thirds (p_ : Int) : Option Trow :=
  (at? prop_thirds_t9 p_).bind fun x_ =>
  some x_
theorem prop_thirds_ok {Γ : Glob} {p_ : Int} {r : Trow} (h : prop_thirds p_ = some r) : CPure Try.prog Γ 74 [(I p_)] (.agg [.str r.f_name, .str r.f_kinds, .str r.f_keys, .str r.f_auto, cB r.f_above]) := by
  refine acalls_of_sv hmix c74 (R := prop_thirds_post r) ?_
  unfold prop_thirds at h
  refine Sv.seq ?_
  refine Sv.region ?_
  refine un (a2v (v := (.c (.ref 0 5 0 0))) (h' := upd _ 0 (some (.cells 5 [[.str [], .str [], .str [], .str [], cB false]]))) (n' := 1) rfl rfl (fun h => by cases h) ?_)
  refine dnil ?_
  refine Sv.seq ?_
  refine Sv.region ?_
  refine un (a1 (v := (.agg [.str [116, 101, 120, 116, 45, 105, 110, 100, 101, 110, 116], .str [108, 112], .str [], .str [], cB false])) rfl ?_)
  refine un (a1 (v := prop_thirds_t0) rfl ?_)
  refine un (a1 (v := prop_thirds_t1) rfl ?_)
  refine un (a1 (v := prop_thirds_t2) rfl ?_)
  refine un (a1 (v := (.agg [.str [108, 101, 116, 116, 101, 114, 45, 115, 112, 97, 99, 105, 110, 103], .str [108, 97], .str [], .str [110, 111, 114, 109, 97, 108], cB false])) rfl ?_)
  refine un (a1 (v := prop_thirds_t3) rfl ?_)
  refine un (a1 (v := (.agg [.str [102, 108, 101, 120, 45, 119, 114, 97, 112], .str [107], .str [110, 111, 119, 114, 97, 112, 32, 119, 114, 97, 112], .str [], cB false])) rfl ?_)
  refine un (a1 (v := prop_thirds_t4) rfl ?_)
  refine un (a1 (v := prop_thirds_t5) rfl ?_)
  refine un (a1 (v := prop_thirds_t6) rfl ?_)
  refine un (a1 (v := (.agg [.str [102, 108, 101, 120, 45, 103, 114, 111, 119], .str [110], .str [], .str [], cB true])) rfl ?_)
  refine un (a1 (v := (.agg [.str [102, 108, 101, 120, 45, 115, 104, 114, 105, 110, 107], .str [110], .str [], .str [], cB true])) rfl ?_)
  refine un (a1 (v := (.agg [.str [102, 108, 101, 120, 45, 98, 97, 115, 105, 115], .str [108, 112, 97], .str [], .str [97, 117, 116, 111], cB true])) rfl ?_)
  refine un (a1 (v := (.agg [.str [111, 114, 100, 101, 114], .str [110], .str [], .str [], cB false])) rfl ?_)
  refine un (a1 (v := (.agg [.str [103, 97, 112], .str [108], .str [], .str [], cB true])) rfl ?_)
  refine un (a1 (v := (.agg [.str [116, 97, 98, 108, 101, 45, 108, 97, 121, 111, 117, 116], .str [107], .str [97, 117, 116, 111, 32, 102, 105, 120, 101, 100], .str [], cB false])) rfl ?_)
  refine un (a1 (v := (.agg [.str [98, 111, 114, 100, 101, 114, 45, 115, 112, 97, 99, 105, 110, 103], .str [108], .str [], .str [], cB true])) rfl ?_)
  refine un (a1 (v := prop_thirds_t7) rfl ?_)
  refine un (a1 (v := (.agg [.str [112, 111, 105, 110, 116, 101, 114, 45, 101, 118, 101, 110, 116, 115], .str [107], .str [97, 117, 116, 111, 32, 110, 111, 110, 101], .str [], cB false])) rfl ?_)
  refine un (a1 (v := prop_thirds_t8) rfl ?_)
  refine un (a2v (v := (.c (.ref 1 95 0 0))) (h' := upd _ 1 (some (.cells 95 [[.str [], .str [], .str [], .str [], cB false, .str [], .str [], .str [], .str [], cB false, .str [], .str [], .str [], .str [], cB false, .str [], .str [], .str [], .str [], cB false, .str [], .str [], .str [], .str [], cB false, .str [], .str [], .str [], .str [], cB false, .str [], .str [], .str [], .str [], cB false, .str [], .str [], .str [], .str [], cB false, .str [], .str [], .str [], .str [], cB false, .str [], .str [], .str [], .str [], cB false, .str [], .str [], .str [], .str [], cB false, .str [], .str [], .str [], .str [], cB false, .str [], .str [], .str [], .str [], cB false, .str [], .str [], .str [], .str [], cB false, .str [], .str [], .str [], .str [], cB false, .str [], .str [], .str [], .str [], cB false, .str [], .str [], .str [], .str [], cB false, .str [], .str [], .str [], .str [], cB false, .str [], .str [], .str [], .str [], cB false]]))) (n' := 2) rfl rfl (fun h => by cases h) ?_)
  refine un (a2n (h' := upd _ 1 (some (.cells 95 [[.str [116, 101, 120, 116, 45, 105, 110, 100, 101, 110, 116], .str [108, 112], .str [], .str [], cB false, .str [119, 104, 105, 116, 101, 45, 115, 112, 97, 99, 101], .str [107], .str [110, 111, 114, 109, 97, 108, 32, 112, 114, 101, 32, 110, 111, 119, 114, 97, 112, 32, 112, 114, 101, 45, 119, 114, 97, 112], .str [], cB false, .str [118, 101, 114, 116, 105, 99, 97, 108, 45, 97, 108, 105, 103, 110], .str [107, 108], .str [98, 97, 115, 101, 108, 105, 110, 101, 32, 116, 111, 112, 32, 109, 105, 100, 100, 108, 101, 32, 98, 111, 116, 116, 111, 109], .str [], cB false, .str [116, 101, 120, 116, 45, 116, 114, 97, 110, 115, 102, 111, 114, 109], .str [107], .str [110, 111, 110, 101, 32, 117, 112, 112, 101, 114, 99, 97, 115, 101, 32, 108, 111, 119, 101, 114, 99, 97, 115, 101], .str [], cB false, .str [108, 101, 116, 116, 101, 114, 45, 115, 112, 97, 99, 105, 110, 103], .str [108, 97], .str [], .str [110, 111, 114, 109, 97, 108], cB false, .str [102, 108, 101, 120, 45, 100, 105, 114, 101, 99, 116, 105, 111, 110], .str [107], .str [114, 111, 119, 32, 114, 111, 119, 45, 114, 101, 118, 101, 114, 115, 101, 32, 99, 111, 108, 117, 109, 110, 32, 99, 111, 108, 117, 109, 110, 45, 114, 101, 118, 101, 114, 115, 101], .str [], cB false, .str [102, 108, 101, 120, 45, 119, 114, 97, 112], .str [107], .str [110, 111, 119, 114, 97, 112, 32, 119, 114, 97, 112], .str [], cB false, .str [106, 117, 115, 116, 105, 102, 121, 45, 99, 111, 110, 116, 101, 110, 116], .str [107], .str [102, 108, 101, 120, 45, 115, 116, 97, 114, 116, 32, 102, 108, 101, 120, 45, 101, 110, 100, 32, 99, 101, 110, 116, 101, 114, 32, 45, 32, 115, 112, 97, 99, 101, 45, 98, 101, 116, 119, 101, 101, 110, 32, 115, 112, 97, 99, 101, 45, 97, 114, 111, 117, 110, 100], .str [], cB false, .str [97, 108, 105, 103, 110, 45, 105, 116, 101, 109, 115], .str [107], .str [102, 108, 101, 120, 45, 115, 116, 97, 114, 116, 32, 102, 108, 101, 120, 45, 101, 110, 100, 32, 99, 101, 110, 116, 101, 114, 32, 45, 32, 45, 32, 45, 32, 115, 116, 114, 101, 116, 99, 104], .str [], cB false, .str [97, 108, 105, 103, 110, 45, 115, 101, 108, 102], .str [107, 97], .str [102, 108, 101, 120, 45, 115, 116, 97, 114, 116, 32, 102, 108, 101, 120, 45, 101, 110, 100, 32, 99, 101, 110, 116, 101, 114, 32, 45, 32, 45, 32, 45, 32, 115, 116, 114, 101, 116, 99, 104], .str [97, 117, 116, 111], cB false, .str [102, 108, 101, 120, 45, 103, 114, 111, 119], .str [110], .str [], .str [], cB true, .str [102, 108, 101, 120, 45, 115, 104, 114, 105, 110, 107], .str [110], .str [], .str [], cB true, .str [102, 108, 101, 120, 45, 98, 97, 115, 105, 115], .str [108, 112, 97], .str [], .str [97, 117, 116, 111], cB true, .str [111, 114, 100, 101, 114], .str [110], .str [], .str [], cB false, .str [103, 97, 112], .str [108], .str [], .str [], cB true, .str [116, 97, 98, 108, 101, 45, 108, 97, 121, 111, 117, 116], .str [107], .str [97, 117, 116, 111, 32, 102, 105, 120, 101, 100], .str [], cB false, .str [98, 111, 114, 100, 101, 114, 45, 115, 112, 97, 99, 105, 110, 103], .str [108], .str [], .str [], cB true, .str [108, 105, 115, 116, 45, 115, 116, 121, 108, 101, 45, 116, 121, 112, 101], .str [107], .str [110, 111, 110, 101, 32, 100, 105, 115, 99, 32, 100, 101, 99, 105, 109, 97, 108], .str [], cB false, .str [112, 111, 105, 110, 116, 101, 114, 45, 101, 118, 101, 110, 116, 115], .str [107], .str [97, 117, 116, 111, 32, 110, 111, 110, 101], .str [], cB false]]))) (n' := 2) rfl rfl (fun h => by cases h) ?_)
  refine dnil ?_
  refine Sv.seq ?_
  refine Sv.region ?_
  refine un (a1 rfl ?_)
  obtain ⟨x_, hx1, h⟩ := bnd h
  refine un (a1 (v := (.c (.ref 1 95 0 (0 + p_.toNat * 5)))) (s_iaddrA (L := prop_thirds_t9) rfl rfl rfl hx1) ?_)
  refine un (a1 (v := (.agg [.str x_.f_name, .str x_.f_kinds, .str x_.f_keys, .str x_.f_auto, cB x_.f_above])) (s_loadA (o2 := 0) (v := fun q => (.agg [.str q.f_name, .str q.f_kinds, .str q.f_keys, .str q.f_auto, cB q.f_above])) rfl rfl (.cons rfl (.cons rfl (.cons rfl (.cons rfl (.cons rfl (.cons rfl (.cons rfl (.cons rfl (.cons rfl (.cons rfl (.cons rfl (.cons rfl (.cons rfl (.cons rfl (.cons rfl (.cons rfl (.cons rfl (.cons rfl (.cons rfl .nil))))))))))))))))))) hx1) ?_)
  refine un (a2n (h' := upd _ 0 (some (.cells 5 [[.str x_.f_name, .str x_.f_kinds, .str x_.f_keys, .str x_.f_auto, cB x_.f_above]]))) (n' := 2) rfl rfl (fun h => by cases h) ?_)
  refine dnil ?_
  refine Sv.ret ?_
  replace h := Option.some.inj h
  subst h
  exact ⟨_, .refl _, _, rfl, ⟨upd (fun _ => none) 0 (some (.agg [.str x_.f_name, .str x_.f_kinds, .str x_.f_keys, .str x_.f_auto, cB x_.f_above])), fun _ => none, 0⟩, (.agg [.str x_.f_name, .str x_.f_kinds, .str x_.f_keys, .str x_.f_auto, cB x_.f_above]), weak_canon [] rfl List.nodup_nil (Nat.le_refl _) (fun b h => absurd h (Nat.not_lt_zero _)) (.cons rfl (avAs_free rfl) .nil) .nil, rfl, rfl, rfl, rfl⟩
def a50 : AFunc := ⟨1, [(.cell true 5 2)], (.seq (.region [⟨(some 2), (.box (.const (.agg [(.str []), (.str []), (.str []), (.str []), (.val (.bool false))]))), none⟩])
 (.seq (.block 0 (.seq (.region [⟨(some 4), (.mov (.tmp 0)), none⟩, ⟨(some 5), (.bin .lss (.tmp 4) (.const (.c (.val (.int .i64 20))))), none⟩, ⟨(some 3), (.mov (.tmp 5)), none⟩])
 (.cond (.tmp 3) (.seq (.region [⟨(some 6), (.mov (.tmp 0)), none⟩, ⟨(some 7), (.call 72 [(.tmp 6)]), none⟩, ⟨none, (.store 5 (.tmp 2) (.tmp 7)), none⟩])
 .ret) (.seq (.region [⟨(some 9), (.mov (.tmp 0)), none⟩, ⟨(some 10), (.bin .lss (.tmp 9) (.const (.c (.val (.int .i64 40))))), none⟩, ⟨(some 8), (.mov (.tmp 10)), none⟩])
 (.cond (.tmp 8) (.seq (.region [⟨(some 11), (.mov (.tmp 0)), none⟩, ⟨(some 12), (.bin .sub (.tmp 11) (.const (.c (.val (.int .i64 20))))), none⟩, ⟨(some 13), (.call 73 [(.tmp 12)]), none⟩, ⟨none, (.store 5 (.tmp 2) (.tmp 13)), none⟩])
 .ret) .skip)))))
 (.seq (.region [⟨(some 14), (.mov (.tmp 0)), none⟩, ⟨(some 15), (.bin .sub (.tmp 14) (.const (.c (.val (.int .i64 40))))), none⟩, ⟨(some 16), (.call 74 [(.tmp 15)]), none⟩, ⟨none, (.store 5 (.tmp 2) (.tmp 16)), none⟩])
 .ret)))⟩
set_option maxRecDepth 100000 in
theorem c50 : compFunc Try.prog 50 = some a50 := by kernel_rfl
def prop_at_post (r : Trow) : AV → Heap → Nat → Prop := fun v h' n' => v = (.agg [.str r.f_name, .str r.f_kinds, .str r.f_keys, .str r.f_auto, cB r.f_above]) ∧ (h' = fun _ => none) ∧ n' = 0
/-- clerestory/prop.at -/
noncomputable def prop_at (p_ : Int) : Option Trow :=
  if decide (p_ < 20) then
    (prop_firsts p_).bind fun r_ =>
    some r_
  else
    if decide (p_ < 40) then
      (prop_seconds (wi (p_ - 20))).bind fun r_1 =>
      some r_1
    else
      (prop_thirds (wi (p_ - 40))).bind fun r_2 =>
      some r_2
theorem prop_at_ok {Γ : Glob} {p_ : Int} {r : Trow} (h : prop_at p_ = some r) : CPure Try.prog Γ 50 [(I p_)] (.agg [.str r.f_name, .str r.f_kinds, .str r.f_keys, .str r.f_auto, cB r.f_above]) := by
  refine acalls_of_sv hmix c50 (R := prop_at_post r) ?_
  unfold prop_at at h
  refine Sv.seq ?_
  refine Sv.region ?_
  refine un (a2v (v := (.c (.ref 0 5 0 0))) (h' := upd _ 0 (some (.cells 5 [[.str [], .str [], .str [], .str [], cB false]]))) (n' := 1) rfl rfl (fun h => by cases h) ?_)
  refine dnil ?_
  refine Sv.seq ?_
  refine Sv.block ?_
  refine Sv.seq ?_
  refine Sv.region ?_
  refine un (a1 rfl ?_)
  refine un (a1 (v := (B (decide (p_ < 20)))) rfl ?_)
  refine un (a1 rfl ?_)
  refine dnil ?_
  refine Sv.cond (b := decide (p_ < 20)) rfl (fun hc1 => ?_) (fun hc1 => ?_)
  · replace h := ifT hc1 h
    refine Sv.seq ?_
    refine Sv.region ?_
    refine un (a1 rfl ?_)
    obtain ⟨r_, hr1, h⟩ := bnd h
    refine un (ac_pure (prop_firsts_ok hr1) rfl rfl rfl ?_)
    refine un (a2n (h' := upd _ 0 (some (.cells 5 [[.str r_.f_name, .str r_.f_kinds, .str r_.f_keys, .str r_.f_auto, cB r_.f_above]]))) (n' := 1) rfl rfl (fun h => by cases h) ?_)
    refine dnil ?_
    refine Sv.ret ?_
    replace h := Option.some.inj h
    subst h
    exact ⟨_, .refl _, _, rfl, ⟨upd (fun _ => none) 0 (some (.agg [.str r_.f_name, .str r_.f_kinds, .str r_.f_keys, .str r_.f_auto, cB r_.f_above])), fun _ => none, 0⟩, (.agg [.str r_.f_name, .str r_.f_kinds, .str r_.f_keys, .str r_.f_auto, cB r_.f_above]), weak_canon [] rfl List.nodup_nil (Nat.le_refl _) (fun b h => absurd h (Nat.not_lt_zero _)) (.cons rfl (avAs_free rfl) .nil) .nil, rfl, rfl, rfl, rfl⟩
  · replace h := ifF hc1 h
    refine Sv.seq ?_
    refine Sv.region ?_
    refine un (a1 rfl ?_)
    refine un (a1 (v := (B (decide (p_ < 40)))) rfl ?_)
    refine un (a1 rfl ?_)
    refine dnil ?_
    refine Sv.cond (b := decide (p_ < 40)) rfl (fun hc2 => ?_) (fun hc2 => ?_)
    · replace h := ifT hc2 h
      refine Sv.seq ?_
      refine Sv.region ?_
      refine un (a1 rfl ?_)
      refine un (a1 (v := (I (wi (p_ - 20)))) rfl ?_)
      obtain ⟨r_1, hr2, h⟩ := bnd h
      refine un (ac_pure (prop_seconds_ok hr2) rfl rfl rfl ?_)
      refine un (a2n (h' := upd _ 0 (some (.cells 5 [[.str r_1.f_name, .str r_1.f_kinds, .str r_1.f_keys, .str r_1.f_auto, cB r_1.f_above]]))) (n' := 1) rfl rfl (fun h => by cases h) ?_)
      refine dnil ?_
      refine Sv.ret ?_
      replace h := Option.some.inj h
      subst h
      exact ⟨_, .refl _, _, rfl, ⟨upd (fun _ => none) 0 (some (.agg [.str r_1.f_name, .str r_1.f_kinds, .str r_1.f_keys, .str r_1.f_auto, cB r_1.f_above])), fun _ => none, 0⟩, (.agg [.str r_1.f_name, .str r_1.f_kinds, .str r_1.f_keys, .str r_1.f_auto, cB r_1.f_above]), weak_canon [] rfl List.nodup_nil (Nat.le_refl _) (fun b h => absurd h (Nat.not_lt_zero _)) (.cons rfl (avAs_free rfl) .nil) .nil, rfl, rfl, rfl, rfl⟩
    · replace h := ifF hc2 h
      refine Sv.skip ?_
      refine Sv.seq ?_
      refine Sv.region ?_
      refine un (a1 rfl ?_)
      refine un (a1 (v := (I (wi (p_ - 40)))) rfl ?_)
      obtain ⟨r_2, hr3, h⟩ := bnd h
      refine un (ac_pure (prop_thirds_ok hr3) rfl rfl rfl ?_)
      refine un (a2n (h' := upd _ 0 (some (.cells 5 [[.str r_2.f_name, .str r_2.f_kinds, .str r_2.f_keys, .str r_2.f_auto, cB r_2.f_above]]))) (n' := 1) rfl rfl (fun h => by cases h) ?_)
      refine dnil ?_
      refine Sv.ret ?_
      replace h := Option.some.inj h
      subst h
      exact ⟨_, .refl _, _, rfl, ⟨upd (fun _ => none) 0 (some (.agg [.str r_2.f_name, .str r_2.f_kinds, .str r_2.f_keys, .str r_2.f_auto, cB r_2.f_above])), fun _ => none, 0⟩, (.agg [.str r_2.f_name, .str r_2.f_kinds, .str r_2.f_keys, .str r_2.f_auto, cB r_2.f_above]), weak_canon [] rfl List.nodup_nil (Nat.le_refl _) (fun b h => absurd h (Nat.not_lt_zero _)) (.cons rfl (avAs_free rfl) .nil) .nil, rfl, rfl, rfl, rfl⟩
def a25 : AFunc := ⟨1, [(.tmp 2)], (.seq (.region [⟨(some 2), (.mov (.const (.c (.str [])))), none⟩])
 (.seq (.seq (.region [⟨(some 3), (.mov (.tmp 0)), none⟩, ⟨(some 4), (.call 49 [(.tmp 3)]), none⟩, ⟨(some 5), (.un .not (.tmp 4)), none⟩])
 (.cond (.tmp 5) (.seq (.region [⟨(some 2), (.mov (.const (.c (.str [])))), none⟩])
 .ret) .skip))
 (.seq (.region [⟨(some 6), (.mov (.tmp 0)), none⟩, ⟨(some 7), (.call 50 [(.tmp 6)]), none⟩, ⟨(some 8), (.fld false 0 1 (.tmp 7)), none⟩, ⟨(some 2), (.mov (.tmp 8)), none⟩])
 .ret)))⟩
set_option maxRecDepth 100000 in
theorem c25 : compFunc Try.prog 25 = some a25 := by kernel_rfl
def prop_Name_post (r : (List UInt8)) : AV → Heap → Nat → Prop := fun v h' n' => v = (S r) ∧ (h' = fun _ => none) ∧ n' = 0
/-- clerestory/prop.Name -/
noncomputable def prop_Name (p_ : Int) : Option (List UInt8) :=
  if (!(prop_in p_)) then
    some []
  else
    (prop_at p_).bind fun r_ =>
    some r_.f_name
theorem prop_Name_ok {Γ : Glob} {p_ : Int} {r : (List UInt8)} (h : prop_Name p_ = some r) : CPure Try.prog Γ 25 [(I p_)] (S r) := by
  refine acalls_of_sv hmix c25 (R := prop_Name_post r) ?_
  unfold prop_Name at h
  refine Sv.seq ?_
  refine Sv.region ?_
  refine un (a1 rfl ?_)
  refine dnil ?_
  refine Sv.seq ?_
  refine Sv.seq ?_
  refine Sv.region ?_
  refine un (a1 rfl ?_)
  refine un (ac_pure (prop_in_ok (Γ := Γ) p_) rfl rfl rfl ?_)
  refine un (a1 (v := (B (!(prop_in p_)))) rfl ?_)
  refine dnil ?_
  refine Sv.cond (b := (!(prop_in p_))) rfl (fun hc1 => ?_) (fun hc1 => ?_)
  · replace h := ifT hc1 h
    refine Sv.seq ?_
    refine Sv.region ?_
    refine un (a1 rfl ?_)
    refine dnil ?_
    refine Sv.ret ?_
    replace h := Option.some.inj h
    subst h
    exact ⟨_, .refl _, _, rfl, ⟨upd (fun _ => none) 0 (some (S [])), fun _ => none, 0⟩, (S []), weak_canon [] rfl List.nodup_nil (Nat.le_refl _) (fun b h => absurd h (Nat.not_lt_zero _)) (.cons rfl (avAs_free rfl) .nil) .nil, rfl, rfl, rfl, rfl⟩
  · replace h := ifF hc1 h
    refine Sv.skip ?_
    refine Sv.seq ?_
    refine Sv.region ?_
    refine un (a1 rfl ?_)
    obtain ⟨r_, hr1, h⟩ := bnd h
    refine un (ac_pure (prop_at_ok hr1) rfl rfl rfl ?_)
    refine un (a1 (v := (S r_.f_name)) rfl ?_)
    refine un (a1 rfl ?_)
    refine dnil ?_
    refine Sv.ret ?_
    replace h := Option.some.inj h
    subst h
    exact ⟨_, .refl _, _, rfl, ⟨upd (fun _ => none) 0 (some (S r_.f_name)), fun _ => none, 0⟩, (S r_.f_name), weak_canon [] rfl List.nodup_nil (Nat.le_refl _) (fun b h => absurd h (Nat.not_lt_zero _)) (.cons rfl (avAs_free rfl) .nil) .nil, rfl, rfl, rfl, rfl⟩
def a26 : AFunc := ⟨0, [(.tmp 0)], (.seq (.region [⟨(some 0), (.mov (.const (.c (.ro true 1 [])))), none⟩])
 (.seq (.region [⟨(some 1), (.bslice 1 [(.str [])] 59 [(0, (.const (.c (.str [100, 105, 115, 112, 108, 97, 121])))), (1, (.const (.c (.str [112, 111, 115, 105, 116, 105, 111, 110])))), (2, (.const (.c (.str [102, 108, 111, 97, 116])))), (3, (.const (.c (.str [99, 108, 101, 97, 114])))), (4, (.const (.c (.str [98, 111, 120, 45, 115, 105, 122, 105, 110, 103])))), (5, (.const (.c (.str [119, 105, 100, 116, 104])))), (6, (.const (.c (.str [104, 101, 105, 103, 104, 116])))), (7, (.const (.c (.str [109, 105, 110, 45, 119, 105, 100, 116, 104])))), (8, (.const (.c (.str [109, 105, 110, 45, 104, 101, 105, 103, 104, 116])))), (9, (.const (.c (.str [109, 97, 120, 45, 119, 105, 100, 116, 104])))), (10, (.const (.c (.str [109, 97, 120, 45, 104, 101, 105, 103, 104, 116])))), (11, (.const (.c (.str [109, 97, 114, 103, 105, 110, 45, 116, 111, 112])))), (12, (.const (.c (.str [109, 97, 114, 103, 105, 110, 45, 114, 105, 103, 104, 116])))), (13, (.const (.c (.str [109, 97, 114, 103, 105, 110, 45, 98, 111, 116, 116, 111, 109])))), (14, (.const (.c (.str [109, 97, 114, 103, 105, 110, 45, 108, 101, 102, 116])))), (15, (.const (.c (.str [112, 97, 100, 100, 105, 110, 103, 45, 116, 111, 112])))), (16, (.const (.c (.str [112, 97, 100, 100, 105, 110, 103, 45, 114, 105, 103, 104, 116])))), (17, (.const (.c (.str [112, 97, 100, 100, 105, 110, 103, 45, 98, 111, 116, 116, 111, 109])))), (18, (.const (.c (.str [112, 97, 100, 100, 105, 110, 103, 45, 108, 101, 102, 116])))), (19, (.const (.c (.str [98, 111, 114, 100, 101, 114, 45, 116, 111, 112, 45, 119, 105, 100, 116, 104])))), (20, (.const (.c (.str [98, 111, 114, 100, 101, 114, 45, 114, 105, 103, 104, 116, 45, 119, 105, 100, 116, 104])))), (21, (.const (.c (.str [98, 111, 114, 100, 101, 114, 45, 98, 111, 116, 116, 111, 109, 45, 119, 105, 100, 116, 104])))), (22, (.const (.c (.str [98, 111, 114, 100, 101, 114, 45, 108, 101, 102, 116, 45, 119, 105, 100, 116, 104])))), (23, (.const (.c (.str [98, 111, 114, 100, 101, 114, 45, 116, 111, 112, 45, 99, 111, 108, 111, 114])))), (24, (.const (.c (.str [98, 111, 114, 100, 101, 114, 45, 114, 105, 103, 104, 116, 45, 99, 111, 108, 111, 114])))), (25, (.const (.c (.str [98, 111, 114, 100, 101, 114, 45, 98, 111, 116, 116, 111, 109, 45, 99, 111, 108, 111, 114])))), (26, (.const (.c (.str [98, 111, 114, 100, 101, 114, 45, 108, 101, 102, 116, 45, 99, 111, 108, 111, 114])))), (27, (.const (.c (.str [116, 111, 112])))), (28, (.const (.c (.str [114, 105, 103, 104, 116])))), (29, (.const (.c (.str [98, 111, 116, 116, 111, 109])))), (30, (.const (.c (.str [108, 101, 102, 116])))), (31, (.const (.c (.str [122, 45, 105, 110, 100, 101, 120])))), (32, (.const (.c (.str [111, 118, 101, 114, 102, 108, 111, 119])))), (33, (.const (.c (.str [118, 105, 115, 105, 98, 105, 108, 105, 116, 121])))), (34, (.const (.c (.str [111, 112, 97, 99, 105, 116, 121])))), (35, (.const (.c (.str [99, 111, 108, 111, 114])))), (36, (.const (.c (.str [98, 97, 99, 107, 103, 114, 111, 117, 110, 100, 45, 99, 111, 108, 111, 114])))), (37, (.const (.c (.str [102, 111, 110, 116, 45, 115, 105, 122, 101])))), (38, (.const (.c (.str [108, 105, 110, 101, 45, 104, 101, 105, 103, 104, 116])))), (39, (.const (.c (.str [116, 101, 120, 116, 45, 97, 108, 105, 103, 110])))), (40, (.const (.c (.str [116, 101, 120, 116, 45, 105, 110, 100, 101, 110, 116])))), (41, (.const (.c (.str [119, 104, 105, 116, 101, 45, 115, 112, 97, 99, 101])))), (42, (.const (.c (.str [118, 101, 114, 116, 105, 99, 97, 108, 45, 97, 108, 105, 103, 110])))), (43, (.const (.c (.str [116, 101, 120, 116, 45, 116, 114, 97, 110, 115, 102, 111, 114, 109])))), (44, (.const (.c (.str [108, 101, 116, 116, 101, 114, 45, 115, 112, 97, 99, 105, 110, 103])))), (45, (.const (.c (.str [102, 108, 101, 120, 45, 100, 105, 114, 101, 99, 116, 105, 111, 110])))), (46, (.const (.c (.str [102, 108, 101, 120, 45, 119, 114, 97, 112])))), (47, (.const (.c (.str [106, 117, 115, 116, 105, 102, 121, 45, 99, 111, 110, 116, 101, 110, 116])))), (48, (.const (.c (.str [97, 108, 105, 103, 110, 45, 105, 116, 101, 109, 115])))), (49, (.const (.c (.str [97, 108, 105, 103, 110, 45, 115, 101, 108, 102])))), (50, (.const (.c (.str [102, 108, 101, 120, 45, 103, 114, 111, 119])))), (51, (.const (.c (.str [102, 108, 101, 120, 45, 115, 104, 114, 105, 110, 107])))), (52, (.const (.c (.str [102, 108, 101, 120, 45, 98, 97, 115, 105, 115])))), (53, (.const (.c (.str [111, 114, 100, 101, 114])))), (54, (.const (.c (.str [103, 97, 112])))), (55, (.const (.c (.str [116, 97, 98, 108, 101, 45, 108, 97, 121, 111, 117, 116])))), (56, (.const (.c (.str [98, 111, 114, 100, 101, 114, 45, 115, 112, 97, 99, 105, 110, 103])))), (57, (.const (.c (.str [108, 105, 115, 116, 45, 115, 116, 121, 108, 101, 45, 116, 121, 112, 101])))), (58, (.const (.c (.str [112, 111, 105, 110, 116, 101, 114, 45, 101, 118, 101, 110, 116, 115]))))]), none⟩, ⟨(some 0), (.mov (.tmp 1)), none⟩])
 .ret))⟩
set_option maxRecDepth 100000 in
theorem c26 : compFunc Try.prog 26 = some a26 := by kernel_rfl
def clerestoryref2_PropNames_post (r : (List (List UInt8))) : AV → Heap → Nat → Prop := fun v h' n' => v = (.c (.ro false 1 (r.map eStr))) ∧ (h' = fun _ => none) ∧ n' = 0
def clerestoryref2_PropNames_t0 : List (List UInt8) := [[100, 105, 115, 112, 108, 97, 121], [112, 111, 115, 105, 116, 105, 111, 110], [102, 108, 111, 97, 116], [99, 108, 101, 97, 114], [98, 111, 120, 45, 115, 105, 122, 105, 110, 103], [119, 105, 100, 116, 104], [104, 101, 105, 103, 104, 116], [109, 105, 110, 45, 119, 105, 100, 116, 104], [109, 105, 110, 45, 104, 101, 105, 103, 104, 116], [109, 97, 120, 45, 119, 105, 100, 116, 104], [109, 97, 120, 45, 104, 101, 105, 103, 104, 116], [109, 97, 114, 103, 105, 110, 45, 116, 111, 112], [109, 97, 114, 103, 105, 110, 45, 114, 105, 103, 104, 116], [109, 97, 114, 103, 105, 110, 45, 98, 111, 116, 116, 111, 109], [109, 97, 114, 103, 105, 110, 45, 108, 101, 102, 116], [112, 97, 100, 100, 105, 110, 103, 45, 116, 111, 112], [112, 97, 100, 100, 105, 110, 103, 45, 114, 105, 103, 104, 116], [112, 97, 100, 100, 105, 110, 103, 45, 98, 111, 116, 116, 111, 109], [112, 97, 100, 100, 105, 110, 103, 45, 108, 101, 102, 116], [98, 111, 114, 100, 101, 114, 45, 116, 111, 112, 45, 119, 105, 100, 116, 104], [98, 111, 114, 100, 101, 114, 45, 114, 105, 103, 104, 116, 45, 119, 105, 100, 116, 104], [98, 111, 114, 100, 101, 114, 45, 98, 111, 116, 116, 111, 109, 45, 119, 105, 100, 116, 104], [98, 111, 114, 100, 101, 114, 45, 108, 101, 102, 116, 45, 119, 105, 100, 116, 104], [98, 111, 114, 100, 101, 114, 45, 116, 111, 112, 45, 99, 111, 108, 111, 114], [98, 111, 114, 100, 101, 114, 45, 114, 105, 103, 104, 116, 45, 99, 111, 108, 111, 114], [98, 111, 114, 100, 101, 114, 45, 98, 111, 116, 116, 111, 109, 45, 99, 111, 108, 111, 114], [98, 111, 114, 100, 101, 114, 45, 108, 101, 102, 116, 45, 99, 111, 108, 111, 114], [116, 111, 112], [114, 105, 103, 104, 116], [98, 111, 116, 116, 111, 109], [108, 101, 102, 116], [122, 45, 105, 110, 100, 101, 120], [111, 118, 101, 114, 102, 108, 111, 119], [118, 105, 115, 105, 98, 105, 108, 105, 116, 121], [111, 112, 97, 99, 105, 116, 121], [99, 111, 108, 111, 114], [98, 97, 99, 107, 103, 114, 111, 117, 110, 100, 45, 99, 111, 108, 111, 114], [102, 111, 110, 116, 45, 115, 105, 122, 101], [108, 105, 110, 101, 45, 104, 101, 105, 103, 104, 116], [116, 101, 120, 116, 45, 97, 108, 105, 103, 110], [116, 101, 120, 116, 45, 105, 110, 100, 101, 110, 116], [119, 104, 105, 116, 101, 45, 115, 112, 97, 99, 101], [118, 101, 114, 116, 105, 99, 97, 108, 45, 97, 108, 105, 103, 110], [116, 101, 120, 116, 45, 116, 114, 97, 110, 115, 102, 111, 114, 109], [108, 101, 116, 116, 101, 114, 45, 115, 112, 97, 99, 105, 110, 103], [102, 108, 101, 120, 45, 100, 105, 114, 101, 99, 116, 105, 111, 110], [102, 108, 101, 120, 45, 119, 114, 97, 112], [106, 117, 115, 116, 105, 102, 121, 45, 99, 111, 110, 116, 101, 110, 116], [97, 108, 105, 103, 110, 45, 105, 116, 101, 109, 115], [97, 108, 105, 103, 110, 45, 115, 101, 108, 102], [102, 108, 101, 120, 45, 103, 114, 111, 119], [102, 108, 101, 120, 45, 115, 104, 114, 105, 110, 107], [102, 108, 101, 120, 45, 98, 97, 115, 105, 115], [111, 114, 100, 101, 114], [103, 97, 112], [116, 97, 98, 108, 101, 45, 108, 97, 121, 111, 117, 116], [98, 111, 114, 100, 101, 114, 45, 115, 112, 97, 99, 105, 110, 103], [108, 105, 115, 116, 45, 115, 116, 121, 108, 101, 45, 116, 121, 112, 101], [112, 111, 105, 110, 116, 101, 114, 45, 101, 118, 101, 110, 116, 115]]
/-- clerestory/clerestoryref2.PropNames -/
def clerestoryref2_PropNames : (List (List UInt8)) :=
  clerestoryref2_PropNames_t0
theorem clerestoryref2_PropNames_ok {Γ : Glob} : CPure Try.prog Γ 26 [] (.c (.ro false 1 (clerestoryref2_PropNames.map eStr))) := by
  generalize h : clerestoryref2_PropNames = o
  refine acalls_of_sv hmix c26 (R := clerestoryref2_PropNames_post o) ?_
  unfold clerestoryref2_PropNames at h
  refine Sv.seq ?_
  refine Sv.region ?_
  refine un (a1 rfl ?_)
  refine dnil ?_
  refine Sv.seq ?_
  refine Sv.region ?_
  refine un (a2v (v := (lstV false 0 1 clerestoryref2_PropNames_t0.length)) (h' := upd _ 0 (lstB false 1 (clerestoryref2_PropNames_t0.map eStr))) (n' := 1) rfl rfl (fun h => by cases h) ?_)
  refine un (a1 rfl ?_)
  refine dnil ?_
  refine Sv.ret ?_
  subst h
  exact ⟨_, .refl _, _, rfl, ⟨upd (fun _ => none) 0 (some (.c (.ro false 1 (clerestoryref2_PropNames_t0.map eStr)))), fun _ => none, 0⟩, (.c (.ro false 1 (clerestoryref2_PropNames_t0.map eStr))), weak_canon [] rfl List.nodup_nil (Nat.le_refl _) (fun b h => absurd h (Nat.not_lt_zero _)) (.cons rfl (.c (lstC_ro (es := List.map eStr clerestoryref2_PropNames_t0) rfl (List.length_map eStr).symm (map_nil_of (fun h => by cases h)) (fun b x hx => not_in (bs := []) rfl b (((.nil) : HLt _ _) b x hx)) (fr_map fun _ => rfl))) .nil) .nil, rfl, rfl, rfl, rfl⟩
def a27_c0 : ACode := (.seq (.region [⟨(some 6), (.bin .lss (.tmp 5) (.const (.c (.val (.int .i64 59))))), none⟩])
 (.seq (.cond (.tmp 6) .skip (.exit 0))
 (.seq (.block 1 (.seq (.region [⟨(some 7), (.mov (.tmp 5)), none⟩, ⟨(some 4), (.mov (.tmp 7)), none⟩])
 (.seq (.region [⟨(some 8), (.mov (.tmp 4)), none⟩, ⟨(some 9), (.call 50 [(.tmp 8)]), none⟩, ⟨(some 10), (.fld false 0 1 (.tmp 9)), none⟩, ⟨(some 11), (.mov (.tmp 0)), none⟩, ⟨(some 12), (.bin .eql (.tmp 10) (.tmp 11)), none⟩])
 (.cond (.tmp 12) (.seq (.region [⟨(some 13), (.mov (.tmp 4)), none⟩, ⟨(some 2), (.mov (.tmp 13)), none⟩, ⟨(some 3), (.mov (.const (.c (.val (.bool true))))), none⟩])
 .ret) .skip))))
 (.region [⟨(some 14), (.bin .add (.tmp 5) (.const (.c (.val (.int .i64 1))))), none⟩, ⟨(some 5), (.mov (.tmp 14)), none⟩]))))
def a27 : AFunc := ⟨1, [(.tmp 2), (.tmp 3)], (.seq (.region [⟨(some 2), (.mov (.const (.c (.val (.int .i64 0))))), none⟩, ⟨(some 3), (.mov (.const (.c (.val (.bool false))))), none⟩])
 (.seq (.seq (.region [⟨(some 5), (.mov (.const (.c (.val (.int .i64 0))))), none⟩])
 (.block 0 (.loop a27_c0)))
 (.seq (.region [⟨(some 2), (.mov (.const (.c (.val (.int .i64 0))))), none⟩, ⟨(some 3), (.mov (.const (.c (.val (.bool false))))), none⟩])
 .ret)))⟩
set_option maxRecDepth 100000 in
theorem c27 : compFunc Try.prog 27 = some a27 := by kernel_rfl
def prop_Number_post (r : (Int × Bool)) : AV → Heap → Nat → Prop := fun v h' n' => v = (.tup [(I r.1), (B r.2)]) ∧ (h' = fun _ => none) ∧ n' = 0
noncomputable def prop_Number_l0 (name : (List UInt8)) (K0_ : Unit → Option (Int × Bool)) : Nat → Int → Option (Int × Bool)
  | 0, _ => none
  | k + 1, v5 =>
    if decide (v5 < 59) then
      (prop_at v5).bind fun r_ =>
      if decide (r_.f_name = name) then
        some (v5, true)
      else
        (prop_Number_l0 name K0_ k) (wi (v5 + 1))
    else
      K0_ ()
theorem prop_Number_l0_ok {Γ : Glob} {Q : AExit → St → Prop} {name : (List UInt8)} {K0_ : Unit → Option (Int × Bool)} {k : Nat} {v5 : Int} {o : (Int × Bool)} (h : prop_Number_l0 name K0_ k v5 = some o)
    (hK0 : ∀ (_ : Unit), K0_ () = some o → ∀ s, Weak 0 s ⟨(fun _ => none), (fun _ => none), 0⟩ → Q (.exit 0) s)
    (hr : ∀ s, Ends a27.results 0 (prop_Number_post o) .ret s → Q .ret s) :
    Sv Try.prog Γ 0 (.loop a27_c0) Q ⟨(upd (upd (fun _ => none) 0 (some (S name))) 5 (some (I v5))), (fun _ => none), 0⟩ := by
  refine Sv.loop (I := fun k s => ∃ (v5 : Int), prop_Number_l0 name K0_ k v5 = some o ∧ s = ⟨(upd (upd (fun _ => none) 0 (some (S name))) 5 (some (I v5))), (fun _ => none), 0⟩) (fun k s hI => ?_) ⟨v5, h, rfl⟩
  clear h
  clear v5
  obtain ⟨v5, h, rfl⟩ := hI
  cases k with
  | zero => cases h
  | succ k =>
  rw [prop_Number_l0] at h
  have hself : ∀ (v5 : Int), (prop_Number_l0 name K0_ k) v5 = some o → ∀ s, Weak 0 s ⟨(upd (upd (fun _ => none) 0 (some (S name))) 5 (some (I v5))), (fun _ => none), 0⟩ → (AThen (fun s' => ∃ s'' k', Weak 0 s' s'' ∧ k' < k + 1 ∧ (fun k s => ∃ (v5 : Int), prop_Number_l0 name K0_ k v5 = some o ∧ s = ⟨(upd (upd (fun _ => none) 0 (some (S name))) 5 (some (I v5))), (fun _ => none), 0⟩) k' s'') Q) .normal s := fun v5 h s hw => ⟨_, k, hw, Nat.lt_succ_self k, v5, h, rfl⟩
  refine Sv.seq ?_
  refine Sv.region ?_
  refine un (a1 (v := (B (decide (v5 < 59)))) rfl ?_)
  refine dnil ?_
  refine Sv.seq ?_
  refine Sv.cond (b := decide (v5 < 59)) rfl (fun hc1 => ?_) (fun hc1 => ?_)
  · replace h := ifT hc1 h
    refine Sv.skip ?_
    refine Sv.seq ?_
    refine Sv.block ?_
    refine Sv.seq ?_
    refine Sv.region ?_
    refine un (a1 rfl ?_)
    refine un (a1 rfl ?_)
    refine dnil ?_
    refine Sv.seq ?_
    refine Sv.region ?_
    refine un (a1 rfl ?_)
    obtain ⟨r_, hr1, h⟩ := bnd h
    refine un (ac_pure (prop_at_ok hr1) rfl rfl rfl ?_)
    refine un (a1 (v := (S r_.f_name)) rfl ?_)
    refine un (a1 rfl ?_)
    refine un (a1 (v := (B (decide (r_.f_name = name)))) rfl ?_)
    refine dnil ?_
    refine Sv.cond (b := decide (r_.f_name = name)) rfl (fun hc2 => ?_) (fun hc2 => ?_)
    · replace h := ifT hc2 h
      refine Sv.seq ?_
      refine Sv.region ?_
      refine un (a1 rfl ?_)
      refine un (a1 rfl ?_)
      refine un (a1 rfl ?_)
      refine dnil ?_
      refine Sv.ret ?_
      replace h := Option.some.inj h
      subst h
      exact hr _ ⟨_, .refl _, _, rfl, ⟨upd (fun _ => none) 0 (some (.tup [(I v5), (B true)])), fun _ => none, 0⟩, (.tup [(I v5), (B true)]), weak_canon [] rfl List.nodup_nil (Nat.le_refl _) (fun b h => absurd h (Nat.not_lt_zero _)) (.cons rfl (avAs_tup (.cons (avAs_free rfl) (.cons (avAs_free rfl) .nil))) .nil) .nil, rfl, rfl, rfl, rfl⟩
    · replace h := ifF hc2 h
      refine Sv.skip ?_
      refine Sv.region ?_
      refine un (a1 (v := (I (wi (v5 + 1)))) rfl ?_)
      refine un (a1 rfl ?_)
      refine dnil ?_
      exact hself (wi (v5 + 1)) h _ (weak_canon [] rfl (by decide) (by decide) (fun b h => absurd h (Nat.not_lt_zero _)) (.cons rfl (avAs_free rfl) (.cons rfl (avAs_free rfl) .nil)) .nil)
  · replace h := ifF hc1 h
    refine Sv.exit ?_
    exact hK0 () h _ (weak_canon [] rfl (by decide) (by decide) (fun b h => absurd h (Nat.not_lt_zero _)) .nil .nil)
/-- clerestory/prop.Number -/
noncomputable def prop_Number (name : (List UInt8)) : Option (Int × Bool) :=
  lim fun kk => prop_Number_l0 name (fun (_ : Unit) => 
      some (0, false)) kk 0
theorem prop_Number_ok {Γ : Glob} {name : (List UInt8)} {r : (Int × Bool)} (h : prop_Number name = some r) : CPure Try.prog Γ 27 [(S name)] (.tup [(I r.1), (B r.2)]) := by
  refine acalls_of_sv hmix c27 (R := prop_Number_post r) ?_
  unfold prop_Number at h
  refine Sv.seq ?_
  refine Sv.region ?_
  refine un (a1 rfl ?_)
  refine un (a1 rfl ?_)
  refine dnil ?_
  refine Sv.seq ?_
  refine Sv.seq ?_
  refine Sv.region ?_
  refine un (a1 rfl ?_)
  refine dnil ?_
  refine Sv.block ?_
  obtain ⟨kk, h⟩ := lim_some h
  refine Sv.weak (weak_canon [] rfl (by decide) (by decide) (fun b h => absurd h (Nat.not_lt_zero _)) (.cons rfl (avAs_free rfl) (.cons rfl (avAs_free rfl) .nil)) .nil) (prop_Number_l0_ok h ?_ (fun s hs => hs))
  · intro _ h _ hw1
    refine Sv.weak hw1 ?_
    refine Sv.seq ?_
    refine Sv.region ?_
    refine un (a1 rfl ?_)
    refine un (a1 rfl ?_)
    refine dnil ?_
    refine Sv.ret ?_
    replace h := Option.some.inj h
    subst h
    exact ⟨_, .refl _, _, rfl, ⟨upd (fun _ => none) 0 (some (.tup [(I 0), (B false)])), fun _ => none, 0⟩, (.tup [(I 0), (B false)]), weak_canon [] rfl List.nodup_nil (Nat.le_refl _) (fun b h => absurd h (Nat.not_lt_zero _)) (.cons rfl (avAs_tup (.cons (avAs_free rfl) (.cons (avAs_free rfl) .nil))) .nil) .nil, rfl, rfl, rfl, rfl⟩
def a28_c0 : ACode := (.seq (.seq (.region [⟨(some 6), (.mov (.tmp 5)), none⟩, ⟨(some 7), (.mov (.tmp 0)), none⟩, ⟨(some 8), (.len (.tmp 7)), none⟩, ⟨(some 9), (.bin .lss (.tmp 6) (.tmp 8)), none⟩])
 (.cond (.tmp 9) .skip (.exit 0)))
 (.seq (.block 1 (.seq (.region [⟨(some 12), (.mov (.tmp 0)), none⟩, ⟨(some 13), (.mov (.tmp 5)), none⟩, ⟨(some 14), (.iaddr 1 (.tmp 12) (.tmp 13)), none⟩, ⟨(some 15), (.load false 1 (.tmp 14)), none⟩, ⟨(some 16), (.mov (.tmp 1)), none⟩, ⟨(some 17), (.bin .eql (.tmp 15) (.tmp 16)), none⟩])
 (.cond (.tmp 17) (.seq (.region [⟨(some 4), (.mov (.const (.c (.val (.bool true))))), none⟩])
 .ret) .skip)))
 (.region [⟨(some 10), (.mov (.tmp 5)), none⟩, ⟨(some 11), (.bin .add (.tmp 10) (.const (.c (.val (.int .i64 1))))), none⟩, ⟨(some 5), (.mov (.tmp 11)), none⟩])))
def a28 : AFunc := ⟨2, [(.tmp 4)], (.seq (.region [⟨(some 4), (.mov (.const (.c (.val (.bool false))))), none⟩])
 (.seq (.seq (.region [⟨(some 5), (.mov (.const (.c (.val (.int .i64 0))))), none⟩])
 (.block 0 (.loop a28_c0)))
 (.seq (.region [⟨(some 4), (.mov (.const (.c (.val (.bool false))))), none⟩])
 .ret)))⟩
set_option maxRecDepth 100000 in
theorem c28 : compFunc Try.prog 28 = some a28 := by kernel_rfl
def clerestoryref2_In_post (r : Bool) : AV → Heap → Nat → Prop := fun v h' n' => v = (B r) ∧ (h' = fun _ => none) ∧ n' = 0
noncomputable def clerestoryref2_In_l0 (l_ : (List (List UInt8))) (s_ : (List UInt8)) (K0_ : Unit → Option Bool) : Nat → Int → Option Bool
  | 0, _ => none
  | k + 1, i_ =>
    if decide (i_ < (l_.length : Int)) then
      (at? l_ i_).bind fun x_ =>
      if decide (x_ = s_) then
        some true
      else
        (clerestoryref2_In_l0 l_ s_ K0_ k) (wi (i_ + 1))
    else
      K0_ ()
theorem clerestoryref2_In_l0_ok {Γ : Glob} {Q : AExit → St → Prop} {l_ : (List (List UInt8))} {s_ : (List UInt8)} {K0_ : Unit → Option Bool} {k : Nat} {i_ : Int} {o : Bool} (h : clerestoryref2_In_l0 l_ s_ K0_ k i_ = some o)
    (hK0 : ∀ (_ : Unit), K0_ () = some o → ∀ s, Weak 0 s ⟨(fun _ => none), (fun _ => none), 0⟩ → Q (.exit 0) s)
    (hr : ∀ s, Ends a28.results 0 (clerestoryref2_In_post o) .ret s → Q .ret s) :
    Sv Try.prog Γ 0 (.loop a28_c0) Q ⟨(upd (upd (upd (fun _ => none) 0 (some (.c (.ro false 1 (l_.map eStr))))) 1 (some (S s_))) 5 (some (I i_))), (fun _ => none), 0⟩ := by
  refine Sv.loop (I := fun k s => ∃ (i_ : Int), clerestoryref2_In_l0 l_ s_ K0_ k i_ = some o ∧ s = ⟨(upd (upd (upd (fun _ => none) 0 (some (.c (.ro false 1 (l_.map eStr))))) 1 (some (S s_))) 5 (some (I i_))), (fun _ => none), 0⟩) (fun k s hI => ?_) ⟨i_, h, rfl⟩
  clear h
  clear i_
  obtain ⟨i_, h, rfl⟩ := hI
  cases k with
  | zero => cases h
  | succ k =>
  rw [clerestoryref2_In_l0] at h
  have hself : ∀ (i_ : Int), (clerestoryref2_In_l0 l_ s_ K0_ k) i_ = some o → ∀ s, Weak 0 s ⟨(upd (upd (upd (fun _ => none) 0 (some (.c (.ro false 1 (l_.map eStr))))) 1 (some (S s_))) 5 (some (I i_))), (fun _ => none), 0⟩ → (AThen (fun s' => ∃ s'' k', Weak 0 s' s'' ∧ k' < k + 1 ∧ (fun k s => ∃ (i_ : Int), clerestoryref2_In_l0 l_ s_ K0_ k i_ = some o ∧ s = ⟨(upd (upd (upd (fun _ => none) 0 (some (.c (.ro false 1 (l_.map eStr))))) 1 (some (S s_))) 5 (some (I i_))), (fun _ => none), 0⟩) k' s'') Q) .normal s := fun i_ h s hw => ⟨_, k, hw, Nat.lt_succ_self k, i_, h, rfl⟩
  refine Sv.seq ?_
  refine Sv.seq ?_
  refine Sv.region ?_
  refine un (a1 rfl ?_)
  refine un (a1 rfl ?_)
  refine un (a1 (v := (I (l_.length : Int))) (s_len (e := eStr) (xs := l_) rfl) ?_)
  refine un (a1 (v := (B (decide (i_ < (l_.length : Int))))) rfl ?_)
  refine dnil ?_
  refine Sv.cond (b := decide (i_ < (l_.length : Int))) rfl (fun hc1 => ?_) (fun hc1 => ?_)
  · replace h := ifT hc1 h
    refine Sv.skip ?_
    refine Sv.seq ?_
    refine Sv.block ?_
    refine Sv.seq ?_
    refine Sv.region ?_
    refine un (a1 rfl ?_)
    refine un (a1 rfl ?_)
    obtain ⟨x_, hx1, h⟩ := bnd h
    refine un (a1 (v := (.c (.rop [.str x_]))) (s_iaddr (e := eStr) (xs := l_) rfl rfl hx1) ?_)
    refine un (a1 (v := (S x_)) rfl ?_)
    refine un (a1 rfl ?_)
    refine un (a1 (v := (B (decide (x_ = s_)))) rfl ?_)
    refine dnil ?_
    refine Sv.cond (b := decide (x_ = s_)) rfl (fun hc2 => ?_) (fun hc2 => ?_)
    · replace h := ifT hc2 h
      refine Sv.seq ?_
      refine Sv.region ?_
      refine un (a1 rfl ?_)
      refine dnil ?_
      refine Sv.ret ?_
      replace h := Option.some.inj h
      subst h
      exact hr _ ⟨_, .refl _, _, rfl, ⟨upd (fun _ => none) 0 (some (B true)), fun _ => none, 0⟩, (B true), weak_canon [] rfl List.nodup_nil (Nat.le_refl _) (fun b h => absurd h (Nat.not_lt_zero _)) (.cons rfl (avAs_free rfl) .nil) .nil, rfl, rfl, rfl, rfl⟩
    · replace h := ifF hc2 h
      refine Sv.skip ?_
      refine Sv.region ?_
      refine un (a1 rfl ?_)
      refine un (a1 (v := (I (wi (i_ + 1)))) rfl ?_)
      refine un (a1 rfl ?_)
      refine dnil ?_
      exact hself (wi (i_ + 1)) h _ (weak_canon [] rfl (by decide) (by decide) (fun b h => absurd h (Nat.not_lt_zero _)) (.cons rfl (avAs_free rfl) (.cons rfl (avAs_free rfl) (.cons rfl (avAs_free rfl) .nil))) .nil)
  · replace h := ifF hc1 h
    refine Sv.exit ?_
    exact hK0 () h _ (weak_canon [] rfl (by decide) (by decide) (fun b h => absurd h (Nat.not_lt_zero _)) .nil .nil)
/-- clerestory/clerestoryref2.In -/
noncomputable def clerestoryref2_In (l_ : (List (List UInt8))) (s_ : (List UInt8)) : Option Bool :=
  lim fun kk => clerestoryref2_In_l0 l_ s_ (fun (_ : Unit) => 
      some false) kk 0
theorem clerestoryref2_In_ok {Γ : Glob} {l_ : (List (List UInt8))} {s_ : (List UInt8)} {r : Bool} (h : clerestoryref2_In l_ s_ = some r) : CPure Try.prog Γ 28 [(.c (.ro false 1 (l_.map eStr))), (S s_)] (B r) := by
  refine acalls_of_sv hmix c28 (R := clerestoryref2_In_post r) ?_
  unfold clerestoryref2_In at h
  refine Sv.seq ?_
  refine Sv.region ?_
  refine un (a1 rfl ?_)
  refine dnil ?_
  refine Sv.seq ?_
  refine Sv.seq ?_
  refine Sv.region ?_
  refine un (a1 rfl ?_)
  refine dnil ?_
  refine Sv.block ?_
  obtain ⟨kk, h⟩ := lim_some h
  refine Sv.weak (weak_canon [] rfl (by decide) (by decide) (fun b h => absurd h (Nat.not_lt_zero _)) (.cons rfl (avAs_free rfl) (.cons rfl (avAs_free rfl) (.cons rfl (avAs_free rfl) .nil))) .nil) (clerestoryref2_In_l0_ok h ?_ (fun s hs => hs))
  · intro _ h _ hw1
    refine Sv.weak hw1 ?_
    refine Sv.seq ?_
    refine Sv.region ?_
    refine un (a1 rfl ?_)
    refine dnil ?_
    refine Sv.ret ?_
    replace h := Option.some.inj h
    subst h
    exact ⟨_, .refl _, _, rfl, ⟨upd (fun _ => none) 0 (some (B false)), fun _ => none, 0⟩, (B false), weak_canon [] rfl List.nodup_nil (Nat.le_refl _) (fun b h => absurd h (Nat.not_lt_zero _)) (.cons rfl (avAs_free rfl) .nil) .nil, rfl, rfl, rfl, rfl⟩
def a8_c1 : ACode := (.region [⟨(some 36), (.mov (.tmp 11)), none⟩, ⟨(some 37), (.bin .add (.tmp 36) (.const (.c (.val (.int .i64 1))))), none⟩, ⟨(some 11), (.mov (.tmp 37)), none⟩])
def a8_c2 : ACode := (.seq (.seq (.region [⟨(some 32), (.mov (.tmp 11)), none⟩, ⟨(some 33), (.mov (.tmp 6)), none⟩, ⟨(some 34), (.len (.tmp 33)), none⟩, ⟨(some 35), (.bin .lss (.tmp 32) (.tmp 34)), none⟩])
 (.cond (.tmp 35) .skip (.exit 0)))
 (.seq (.block 1 (.seq (.region [⟨(some 38), (.mov (.tmp 6)), none⟩, ⟨(some 39), (.mov (.tmp 11)), none⟩, ⟨(some 40), (.iaddr 1 (.tmp 38) (.tmp 39)), none⟩, ⟨(some 41), (.load false 1 (.tmp 40)), none⟩, ⟨(some 42), (.mov (.tmp 1)), none⟩, ⟨(some 43), (.bin .eql (.tmp 41) (.tmp 42)), none⟩])
 (.cond (.tmp 43) (.region [⟨(some 44), (.mov (.tmp 11)), none⟩, ⟨(some 10), (.mov (.tmp 44)), none⟩]) .skip)))
 a8_c1))
def a8_c3 : ACode := .ret
def a8_c0 : ACode := (.seq (.region [⟨(some 28), (.mov (.tmp 1)), none⟩, ⟨(some 29), (.call 27 [(.tmp 28)]), none⟩, ⟨(some 27), (.mov (.tmp 29)), none⟩, ⟨(some 30), (.ext (.tmp 27) 0), none⟩, ⟨(some 31), (.ext (.tmp 27) 1), none⟩, ⟨(some 8), (.mov (.tmp 30)), none⟩, ⟨(some 9), (.mov (.tmp 31)), none⟩])
 (.seq (.region [⟨(some 10), (.mov (.const (.c (.val (.int .i64 0))))), none⟩])
 (.seq (.seq (.region [⟨(some 11), (.mov (.const (.c (.val (.int .i64 0))))), none⟩])
 (.block 0 (.loop a8_c2)))
 (.seq (.region [⟨(some 45), (.mov (.tmp 5)), none⟩, ⟨(some 46), (.mov (.tmp 45)), none⟩, ⟨(some 47), (.mov (.tmp 0)), (some (46, true))⟩, ⟨(some 48), (.call 25 [(.tmp 47)]), (some (46, true))⟩, ⟨(some 49), (.mov (.tmp 7)), (some (46, true))⟩, ⟨(some 50), (.bin .eql (.tmp 48) (.tmp 49)), (some (46, true))⟩, ⟨(some 51), (.pick (.tmp 46) (.tmp 50) (.const (.c (.val (.bool false))))), none⟩, ⟨(some 52), (.mov (.tmp 51)), none⟩, ⟨(some 53), (.mov (.tmp 8)), (some (52, true))⟩, ⟨(some 54), (.mov (.tmp 10)), (some (52, true))⟩, ⟨(some 55), (.bin .eql (.tmp 53) (.tmp 54)), (some (52, true))⟩, ⟨(some 56), (.pick (.tmp 52) (.tmp 55) (.const (.c (.val (.bool false))))), none⟩, ⟨(some 57), (.mov (.tmp 56)), none⟩, ⟨(some 58), (.mov (.tmp 9)), (some (57, true))⟩, ⟨(some 59), (.mov (.tmp 6)), (some (57, true))⟩, ⟨(some 60), (.mov (.tmp 1)), (some (57, true))⟩, ⟨(some 61), (.call 28 [(.tmp 59), (.tmp 60)]), (some (57, true))⟩, ⟨(some 62), (.eqs false false [.b] (.tmp 58) (.tmp 61)), (some (57, true))⟩, ⟨(some 63), (.pick (.tmp 57) (.tmp 62) (.const (.c (.val (.bool false))))), none⟩, ⟨(some 4), (.mov (.tmp 63)), none⟩])
 a8_c3))))
def a8 : AFunc := ⟨2, [(.tmp 4)], (.seq (.region [⟨(some 4), (.mov (.const (.c (.val (.bool false))))), none⟩])
 (.seq (.region [⟨(some 12), (.call 25 [(.const (.c (.val (.int .i64 31))))]), none⟩, ⟨(some 13), (.bin .eql (.tmp 12) (.const (.c (.str [122, 45, 105, 110, 100, 101, 120])))), none⟩, ⟨(some 5), (.mov (.tmp 13)), none⟩])
 (.seq (.region [⟨(some 14), (.call 26 []), none⟩, ⟨(some 6), (.mov (.tmp 14)), none⟩])
 (.seq (.region [⟨(some 7), (.mov (.const (.c (.str [])))), none⟩])
 (.seq (.seq (.region [⟨(some 15), (.mov (.tmp 0)), none⟩, ⟨(some 16), (.bin .geq (.tmp 15) (.const (.c (.val (.int .i64 0))))), none⟩, ⟨(some 17), (.mov (.tmp 16)), none⟩, ⟨(some 18), (.mov (.tmp 0)), (some (17, true))⟩, ⟨(some 19), (.mov (.tmp 6)), (some (17, true))⟩, ⟨(some 20), (.len (.tmp 19)), (some (17, true))⟩, ⟨(some 21), (.bin .lss (.tmp 18) (.tmp 20)), (some (17, true))⟩, ⟨(some 22), (.pick (.tmp 17) (.tmp 21) (.const (.c (.val (.bool false))))), none⟩])
 (.cond (.tmp 22) (.region [⟨(some 23), (.mov (.tmp 6)), none⟩, ⟨(some 24), (.mov (.tmp 0)), none⟩, ⟨(some 25), (.iaddr 1 (.tmp 23) (.tmp 24)), none⟩, ⟨(some 26), (.load false 1 (.tmp 25)), none⟩, ⟨(some 7), (.mov (.tmp 26)), none⟩]) .skip))
 a8_c0)))))⟩
set_option maxRecDepth 100000 in
theorem c8 : compFunc Try.prog 8 = some a8 := by kernel_rfl
def clerestorylaw2_PropNames_post (r : Bool) : AV → Heap → Nat → Prop := fun v h' n' => v = (B r) ∧ (h' = fun _ => none) ∧ n' = 0
noncomputable def clerestorylaw2_PropNames_j5 (i_ : Int) (p_ : Int) (s_ : (List UInt8)) (r_ : (List UInt8)) (want : (List UInt8)) (r_1 : (Int × Bool)) (self : Int → Int → Option Bool) (K0_ : Int → Option Bool) (at_2 : Int) : Option Bool :=
  self at_2 (wi (i_ + 1))
theorem clerestorylaw2_PropNames_j5_ok {Γ : Glob} {Q : AExit → St → Prop} {i_ : Int} {p_ : Int} {s_ : (List UInt8)} {r_ : (List UInt8)} {want : (List UInt8)} {r_1 : (Int × Bool)} {self : Int → Int → Option Bool} {K0_ : Int → Option Bool} {at_2 : Int} {o : Bool} (h : clerestorylaw2_PropNames_j5 i_ p_ s_ r_ want r_1 self K0_ at_2 = some o)
    (hself : ∀ (at_ : Int) (i_ : Int), self at_ i_ = some o → ∀ s, Weak 0 s ⟨(upd (upd (upd (upd (upd (upd (upd (upd (upd (fun _ => none) 0 (some (I p_))) 1 (some (S s_))) 5 (some (B (decide (r_ = [122, 45, 105, 110, 100, 101, 120]))))) 6 (some (.c (.ro false 1 (clerestoryref2_PropNames.map eStr))))) 7 (some (S want))) 8 (some (I r_1.1))) 9 (some (B r_1.2))) 10 (some (I at_))) 11 (some (I i_))), (fun _ => none), 0⟩ → (Q) .normal s)
    (hK0 : ∀ (at_1 : Int), K0_ at_1 = some o → ∀ s, Weak 0 s ⟨(upd (upd (upd (upd (upd (upd (upd (upd (fun _ => none) 0 (some (I p_))) 1 (some (S s_))) 5 (some (B (decide (r_ = [122, 45, 105, 110, 100, 101, 120]))))) 6 (some (.c (.ro false 1 (clerestoryref2_PropNames.map eStr))))) 7 (some (S want))) 8 (some (I r_1.1))) 9 (some (B r_1.2))) 10 (some (I at_1))), (fun _ => none), 0⟩ → Q (.exit 0) s)
    (hr : ∀ s, Ends a8.results 0 (clerestorylaw2_PropNames_post o) .ret s → Q .ret s) :
    Sv Try.prog Γ 0 a8_c1 Q ⟨(upd (upd (upd (upd (upd (upd (upd (upd (upd (fun _ => none) 0 (some (I p_))) 1 (some (S s_))) 5 (some (B (decide (r_ = [122, 45, 105, 110, 100, 101, 120]))))) 6 (some (.c (.ro false 1 (clerestoryref2_PropNames.map eStr))))) 7 (some (S want))) 8 (some (I r_1.1))) 9 (some (B r_1.2))) 10 (some (I at_2))) 11 (some (I i_))), (fun _ => none), 0⟩ := by
  unfold clerestorylaw2_PropNames_j5 at h
  refine Sv.region ?_
  refine un (a1 rfl ?_)
  refine un (a1 (v := (I (wi (i_ + 1)))) rfl ?_)
  refine un (a1 rfl ?_)
  refine dnil ?_
  exact hself at_2 (wi (i_ + 1)) h _ (weak_canon [] rfl (by decide) (by decide) (fun b h => absurd h (Nat.not_lt_zero _)) (.cons rfl (avAs_free rfl) (.cons rfl (avAs_free rfl) (.cons rfl (avAs_free rfl) (.cons rfl (avAs_free rfl) (.cons rfl (avAs_free rfl) (.cons rfl (avAs_free rfl) (.cons rfl (avAs_free rfl) (.cons rfl (avAs_free rfl) (.cons rfl (avAs_free rfl) .nil))))))))) .nil)
noncomputable def clerestorylaw2_PropNames_l0 (s_ : (List UInt8)) (p_ : Int) (r_ : (List UInt8)) (want : (List UInt8)) (r_1 : (Int × Bool)) (K0_ : Int → Option Bool) : Nat → Int → Int → Option Bool
  | 0, _, _ => none
  | k + 1, at_, i_ =>
    if decide (i_ < (clerestoryref2_PropNames.length : Int)) then
      (at? clerestoryref2_PropNames i_).bind fun x_ =>
      if decide (x_ = s_) then
        clerestorylaw2_PropNames_j5 i_ p_ s_ r_ want r_1 (clerestorylaw2_PropNames_l0 s_ p_ r_ want r_1 K0_ k) K0_ i_
      else
        clerestorylaw2_PropNames_j5 i_ p_ s_ r_ want r_1 (clerestorylaw2_PropNames_l0 s_ p_ r_ want r_1 K0_ k) K0_ at_
    else
      K0_ at_
theorem clerestorylaw2_PropNames_l0_ok {Γ : Glob} {Q : AExit → St → Prop} {s_ : (List UInt8)} {p_ : Int} {r_ : (List UInt8)} {want : (List UInt8)} {r_1 : (Int × Bool)} {K0_ : Int → Option Bool} {k : Nat} {at_ : Int} {i_ : Int} {o : Bool} (h : clerestorylaw2_PropNames_l0 s_ p_ r_ want r_1 K0_ k at_ i_ = some o)
    (hK0 : ∀ (at_1 : Int), K0_ at_1 = some o → ∀ s, Weak 0 s ⟨(upd (upd (upd (upd (upd (upd (upd (upd (fun _ => none) 0 (some (I p_))) 1 (some (S s_))) 5 (some (B (decide (r_ = [122, 45, 105, 110, 100, 101, 120]))))) 6 (some (.c (.ro false 1 (clerestoryref2_PropNames.map eStr))))) 7 (some (S want))) 8 (some (I r_1.1))) 9 (some (B r_1.2))) 10 (some (I at_1))), (fun _ => none), 0⟩ → Q (.exit 0) s)
    (hr : ∀ s, Ends a8.results 0 (clerestorylaw2_PropNames_post o) .ret s → Q .ret s) :
    Sv Try.prog Γ 0 (.loop a8_c2) Q ⟨(upd (upd (upd (upd (upd (upd (upd (upd (upd (fun _ => none) 0 (some (I p_))) 1 (some (S s_))) 5 (some (B (decide (r_ = [122, 45, 105, 110, 100, 101, 120]))))) 6 (some (.c (.ro false 1 (clerestoryref2_PropNames.map eStr))))) 7 (some (S want))) 8 (some (I r_1.1))) 9 (some (B r_1.2))) 10 (some (I at_))) 11 (some (I i_))), (fun _ => none), 0⟩ := by
  refine Sv.loop (I := fun k s => ∃ (at_ : Int), ∃ (i_ : Int), clerestorylaw2_PropNames_l0 s_ p_ r_ want r_1 K0_ k at_ i_ = some o ∧ s = ⟨(upd (upd (upd (upd (upd (upd (upd (upd (upd (fun _ => none) 0 (some (I p_))) 1 (some (S s_))) 5 (some (B (decide (r_ = [122, 45, 105, 110, 100, 101, 120]))))) 6 (some (.c (.ro false 1 (clerestoryref2_PropNames.map eStr))))) 7 (some (S want))) 8 (some (I r_1.1))) 9 (some (B r_1.2))) 10 (some (I at_))) 11 (some (I i_))), (fun _ => none), 0⟩) (fun k s hI => ?_) ⟨at_, i_, h, rfl⟩
  clear h
  clear i_ at_
  obtain ⟨at_, i_, h, rfl⟩ := hI
  cases k with
  | zero => cases h
  | succ k =>
  rw [clerestorylaw2_PropNames_l0] at h
  have hself : ∀ (at_ : Int) (i_ : Int), (clerestorylaw2_PropNames_l0 s_ p_ r_ want r_1 K0_ k) at_ i_ = some o → ∀ s, Weak 0 s ⟨(upd (upd (upd (upd (upd (upd (upd (upd (upd (fun _ => none) 0 (some (I p_))) 1 (some (S s_))) 5 (some (B (decide (r_ = [122, 45, 105, 110, 100, 101, 120]))))) 6 (some (.c (.ro false 1 (clerestoryref2_PropNames.map eStr))))) 7 (some (S want))) 8 (some (I r_1.1))) 9 (some (B r_1.2))) 10 (some (I at_))) 11 (some (I i_))), (fun _ => none), 0⟩ → (AThen (fun s' => ∃ s'' k', Weak 0 s' s'' ∧ k' < k + 1 ∧ (fun k s => ∃ (at_ : Int), ∃ (i_ : Int), clerestorylaw2_PropNames_l0 s_ p_ r_ want r_1 K0_ k at_ i_ = some o ∧ s = ⟨(upd (upd (upd (upd (upd (upd (upd (upd (upd (fun _ => none) 0 (some (I p_))) 1 (some (S s_))) 5 (some (B (decide (r_ = [122, 45, 105, 110, 100, 101, 120]))))) 6 (some (.c (.ro false 1 (clerestoryref2_PropNames.map eStr))))) 7 (some (S want))) 8 (some (I r_1.1))) 9 (some (B r_1.2))) 10 (some (I at_))) 11 (some (I i_))), (fun _ => none), 0⟩) k' s'') Q) .normal s := fun at_ i_ h s hw => ⟨_, k, hw, Nat.lt_succ_self k, at_, i_, h, rfl⟩
  refine Sv.seq ?_
  refine Sv.seq ?_
  refine Sv.region ?_
  refine un (a1 rfl ?_)
  refine un (a1 rfl ?_)
  refine un (a1 (v := (I (clerestoryref2_PropNames.length : Int))) (s_len (e := eStr) (xs := clerestoryref2_PropNames) rfl) ?_)
  refine un (a1 (v := (B (decide (i_ < (clerestoryref2_PropNames.length : Int))))) rfl ?_)
  refine dnil ?_
  refine Sv.cond (b := decide (i_ < (clerestoryref2_PropNames.length : Int))) rfl (fun hc1 => ?_) (fun hc1 => ?_)
  · replace h := ifT hc1 h
    refine Sv.skip ?_
    refine Sv.seq ?_
    refine Sv.block ?_
    refine Sv.seq ?_
    refine Sv.region ?_
    refine un (a1 rfl ?_)
    refine un (a1 rfl ?_)
    obtain ⟨x_, hx1, h⟩ := bnd h
    refine un (a1 (v := (.c (.rop [.str x_]))) (s_iaddr (e := eStr) (xs := clerestoryref2_PropNames) rfl rfl hx1) ?_)
    refine un (a1 (v := (S x_)) rfl ?_)
    refine un (a1 rfl ?_)
    refine un (a1 (v := (B (decide (x_ = s_)))) rfl ?_)
    refine dnil ?_
    refine Sv.cond (b := decide (x_ = s_)) rfl (fun hc2 => ?_) (fun hc2 => ?_)
    · replace h := ifT hc2 h
      refine Sv.region ?_
      refine un (a1 rfl ?_)
      refine un (a1 rfl ?_)
      refine dnil ?_
      exact Sv.weak (weak_canon [] rfl (by decide) (by decide) (fun b h => absurd h (Nat.not_lt_zero _)) (.cons rfl (avAs_free rfl) (.cons rfl (avAs_free rfl) (.cons rfl (avAs_free rfl) (.cons rfl (avAs_free rfl) (.cons rfl (avAs_free rfl) (.cons rfl (avAs_free rfl) (.cons rfl (avAs_free rfl) (.cons rfl (avAs_free rfl) (.cons rfl (avAs_free rfl) .nil))))))))) .nil) (clerestorylaw2_PropNames_j5_ok h hself hK0 hr)
    · replace h := ifF hc2 h
      refine Sv.skip ?_
      exact Sv.weak (weak_canon [] rfl (by decide) (by decide) (fun b h => absurd h (Nat.not_lt_zero _)) (.cons rfl (avAs_free rfl) (.cons rfl (avAs_free rfl) (.cons rfl (avAs_free rfl) (.cons rfl (avAs_free rfl) (.cons rfl (avAs_free rfl) (.cons rfl (avAs_free rfl) (.cons rfl (avAs_free rfl) (.cons rfl (avAs_free rfl) (.cons rfl (avAs_free rfl) .nil))))))))) .nil) (clerestorylaw2_PropNames_j5_ok h hself hK0 hr)
  · replace h := ifF hc1 h
    refine Sv.exit ?_
    exact hK0 at_ h _ (weak_canon [] rfl (by decide) (by decide) (fun b h => absurd h (Nat.not_lt_zero _)) (.cons rfl (avAs_free rfl) (.cons rfl (avAs_free rfl) (.cons rfl (avAs_free rfl) (.cons rfl (avAs_free rfl) (.cons rfl (avAs_free rfl) (.cons rfl (avAs_free rfl) (.cons rfl (avAs_free rfl) (.cons rfl (avAs_free rfl) .nil)))))))) .nil)
noncomputable def clerestorylaw2_PropNames_j6 (v4 : Bool) : Option Bool :=
  some v4
theorem clerestorylaw2_PropNames_j6_ok {Γ : Glob} {v4 : Bool} {o : Bool} (h : clerestorylaw2_PropNames_j6 v4 = some o) :
    Sv Try.prog Γ 0 a8_c3 (Ends a8.results 0 (clerestorylaw2_PropNames_post o)) ⟨(upd (fun _ => none) 4 (some (B v4))), (fun _ => none), 0⟩ := by
  unfold clerestorylaw2_PropNames_j6 at h
  refine Sv.ret ?_
  replace h := Option.some.inj h
  subst h
  exact ⟨_, .refl _, _, rfl, ⟨upd (fun _ => none) 0 (some (B v4)), fun _ => none, 0⟩, (B v4), weak_canon [] rfl List.nodup_nil (Nat.le_refl _) (fun b h => absurd h (Nat.not_lt_zero _)) (.cons rfl (avAs_free rfl) .nil) .nil, rfl, rfl, rfl, rfl⟩
noncomputable def clerestorylaw2_PropNames_j1 (s_ : (List UInt8)) (p_ : Int) (r_ : (List UInt8)) (want : (List UInt8)) : Option Bool :=
  (prop_Number s_).bind fun r_1 =>
  lim fun kk => clerestorylaw2_PropNames_l0 s_ p_ r_ want r_1 (fun (at_1 : Int) => 
      if decide (r_ = [122, 45, 105, 110, 100, 101, 120]) then
        (prop_Name p_).bind fun r_2 =>
        if ((decide (r_2 = want)) && (decide (r_1.1 = at_1))) then
          (clerestoryref2_In clerestoryref2_PropNames s_).bind fun r_3 =>
          clerestorylaw2_PropNames_j6 ((r_1.2 == r_3) && true)
        else
          clerestorylaw2_PropNames_j6 false
      else
        clerestorylaw2_PropNames_j6 false) kk 0 0
theorem clerestorylaw2_PropNames_j1_ok {Γ : Glob} {s_ : (List UInt8)} {p_ : Int} {r_ : (List UInt8)} {want : (List UInt8)} {o : Bool} (h : clerestorylaw2_PropNames_j1 s_ p_ r_ want = some o) :
    Sv Try.prog Γ 0 a8_c0 (Ends a8.results 0 (clerestorylaw2_PropNames_post o)) ⟨(upd (upd (upd (upd (upd (fun _ => none) 0 (some (I p_))) 1 (some (S s_))) 5 (some (B (decide (r_ = [122, 45, 105, 110, 100, 101, 120]))))) 6 (some (.c (.ro false 1 (clerestoryref2_PropNames.map eStr))))) 7 (some (S want))), (fun _ => none), 0⟩ := by
  unfold clerestorylaw2_PropNames_j1 at h
  refine Sv.seq ?_
  refine Sv.region ?_
  refine un (a1 rfl ?_)
  obtain ⟨r_1, hr2, h⟩ := bnd h
  refine un (ac_pure (prop_Number_ok hr2) rfl rfl rfl ?_)
  refine un (a1 rfl ?_)
  refine un (a1 (v := (I r_1.1)) rfl ?_)
  refine un (a1 (v := (B r_1.2)) rfl ?_)
  refine un (a1 rfl ?_)
  refine un (a1 rfl ?_)
  refine dnil ?_
  refine Sv.seq ?_
  refine Sv.region ?_
  refine un (a1 rfl ?_)
  refine dnil ?_
  refine Sv.seq ?_
  refine Sv.seq ?_
  refine Sv.region ?_
  refine un (a1 rfl ?_)
  refine dnil ?_
  refine Sv.block ?_
  obtain ⟨kk, h⟩ := lim_some h
  refine Sv.weak (weak_canon [] rfl (by decide) (by decide) (fun b h => absurd h (Nat.not_lt_zero _)) (.cons rfl (avAs_free rfl) (.cons rfl (avAs_free rfl) (.cons rfl (avAs_free rfl) (.cons rfl (avAs_free rfl) (.cons rfl (avAs_free rfl) (.cons rfl (avAs_free rfl) (.cons rfl (avAs_free rfl) (.cons rfl (avAs_free rfl) (.cons rfl (avAs_free rfl) .nil))))))))) .nil) (clerestorylaw2_PropNames_l0_ok h ?_ (fun s hs => hs))
  · intro at_1 h _ hw1
    refine Sv.weak hw1 ?_
    refine Sv.seq ?_
    refine Sv.region ?_
    refine un (a1 rfl ?_)
    refine un (a1 rfl ?_)
    refine split2 (fun hc3 => ?_) (fun hc3 => ?_)
    · replace h := ifT hc3 h
      refine gt rfl (a1 rfl ?_)
      obtain ⟨r_2, hr3, h⟩ := bnd h
      refine gt rfl (ac_pure (prop_Name_ok hr3) rfl rfl rfl ?_)
      refine gt rfl (a1 rfl ?_)
      refine gt rfl (a1 (v := (B (decide (r_2 = want)))) rfl ?_)
      refine un (a1 (v := (B (decide (r_2 = want)))) rfl ?_)
      refine un (a1 rfl ?_)
      refine gjoin 4 (d := 56) (v := (B ((decide (r_2 = want)) && (decide (r_1.1 = at_1))))) (fun X hX => ?_) ?_
      · refine split2 (fun hc4 => ?_) (fun hc4 => ?_)
        · refine gt rfl (a1 rfl ?_)
          refine gt rfl (a1 rfl ?_)
          refine gt rfl (a1 (v := (B (decide (r_1.1 = at_1)))) rfl ?_)
          refine un (a1 (v := (B (decide (r_1.1 = at_1)))) rfl ?_)
          refine dnil ?_
          exact hX _ (.putEq (by rw [hc4]; rfl) (.skip _ _ (.skip _ _ (.skip _ _ (.putEq (by rw [hc4]) (.refl _)) rfl) rfl) rfl))
        · refine gs rfl rfl ?_
          refine gs rfl rfl ?_
          refine gs rfl rfl ?_
          refine un (a1 (v := (B false)) rfl ?_)
          refine dnil ?_
          exact hX _ (.putEq (by rw [hc4]; rfl) (.skip _ _ (.skip _ _ (.skip _ _ (.putEq (by rw [hc4]) (.refl _)) rfl) rfl) rfl))
      refine un (a1 rfl ?_)
      refine split2 (fun hc5 => ?_) (fun hc5 => ?_)
      · replace h := ifT hc5 h
        refine gt rfl (a1 rfl ?_)
        refine gt rfl (a1 rfl ?_)
        refine gt rfl (a1 rfl ?_)
        obtain ⟨r_3, hr4, h⟩ := bnd h
        refine gt rfl (ac_pure (clerestoryref2_In_ok hr4) rfl rfl rfl ?_)
        refine gt rfl (a1 (v := (B ((r_1.2 == r_3) && true))) rfl ?_)
        refine un (a1 (v := (B ((r_1.2 == r_3) && true))) rfl ?_)
        refine un (a1 rfl ?_)
        refine dnil ?_
        exact Sv.weak (weak_canon [] rfl (by decide) (by decide) (fun b h => absurd h (Nat.not_lt_zero _)) (.cons rfl (avAs_free rfl) .nil) .nil) (clerestorylaw2_PropNames_j6_ok h)
      · replace h := ifF hc5 h
        refine gs rfl rfl ?_
        refine gs rfl rfl ?_
        refine gs rfl rfl ?_
        refine gs rfl rfl ?_
        refine gs rfl rfl ?_
        refine un (a1 (v := (B false)) rfl ?_)
        refine un (a1 rfl ?_)
        refine dnil ?_
        exact Sv.weak (weak_canon [] rfl (by decide) (by decide) (fun b h => absurd h (Nat.not_lt_zero _)) (.cons rfl (avAs_free rfl) .nil) .nil) (clerestorylaw2_PropNames_j6_ok h)
    · replace h := ifF hc3 h
      refine gs rfl rfl ?_
      refine gs rfl rfl ?_
      refine gs rfl rfl ?_
      refine gs rfl rfl ?_
      refine un (a1 (v := (B false)) rfl ?_)
      refine un (a1 rfl ?_)
      refine gs rfl rfl ?_
      refine gs rfl rfl ?_
      refine gs rfl rfl ?_
      refine un (a1 (v := (B false)) rfl ?_)
      refine un (a1 rfl ?_)
      refine gs rfl rfl ?_
      refine gs rfl rfl ?_
      refine gs rfl rfl ?_
      refine gs rfl rfl ?_
      refine gs rfl rfl ?_
      refine un (a1 (v := (B false)) rfl ?_)
      refine un (a1 rfl ?_)
      refine dnil ?_
      exact Sv.weak (weak_canon [] rfl (by decide) (by decide) (fun b h => absurd h (Nat.not_lt_zero _)) (.cons rfl (avAs_free rfl) .nil) .nil) (clerestorylaw2_PropNames_j6_ok h)
/-- clerestory/clerestorylaw2.PropNames -/
noncomputable def clerestorylaw2_PropNames (p_ : Int) (s_ : (List UInt8)) : Option Bool :=
  (prop_Name 31).bind fun r_ =>
  if ((decide (0 ≤ p_)) && (decide (p_ < (clerestoryref2_PropNames.length : Int)))) then
    (at? clerestoryref2_PropNames p_).bind fun x_1 =>
    clerestorylaw2_PropNames_j1 s_ p_ r_ x_1
  else
    clerestorylaw2_PropNames_j1 s_ p_ r_ []
theorem clerestorylaw2_PropNames_ok {Γ : Glob} {p_ : Int} {s_ : (List UInt8)} {r : Bool} (h : clerestorylaw2_PropNames p_ s_ = some r) : CPure Try.prog Γ 8 [(I p_), (S s_)] (B r) := by
  refine acalls_of_sv hmix c8 (R := clerestorylaw2_PropNames_post r) ?_
  unfold clerestorylaw2_PropNames at h
  refine Sv.seq ?_
  refine Sv.region ?_
  refine un (a1 rfl ?_)
  refine dnil ?_
  refine Sv.seq ?_
  refine Sv.region ?_
  obtain ⟨r_, hr1, h⟩ := bnd h
  refine un (ac_pure (prop_Name_ok hr1) rfl rfl rfl ?_)
  refine un (a1 (v := (B (decide (r_ = [122, 45, 105, 110, 100, 101, 120])))) rfl ?_)
  refine un (a1 rfl ?_)
  refine dnil ?_
  refine Sv.seq ?_
  refine Sv.region ?_
  refine un (ac_pure (clerestoryref2_PropNames_ok (Γ := Γ)) rfl rfl rfl ?_)
  refine un (a1 rfl ?_)
  refine dnil ?_
  refine Sv.seq ?_
  refine Sv.region ?_
  refine un (a1 rfl ?_)
  refine dnil ?_
  refine Sv.seq ?_
  refine Sv.seq ?_
  refine Sv.region ?_
  refine un (a1 rfl ?_)
  refine un (a1 (v := (B (decide (0 ≤ p_)))) rfl ?_)
  refine un (a1 rfl ?_)
  refine gjoin 5 (d := 22) (v := (B ((decide (0 ≤ p_)) && (decide (p_ < (clerestoryref2_PropNames.length : Int)))))) (fun X hX => ?_) ?_
  · refine split2 (fun hc6 => ?_) (fun hc6 => ?_)
    · refine gt rfl (a1 rfl ?_)
      refine gt rfl (a1 rfl ?_)
      refine gt rfl (a1 (v := (I (clerestoryref2_PropNames.length : Int))) (s_len (e := eStr) (xs := clerestoryref2_PropNames) rfl) ?_)
      refine gt rfl (a1 (v := (B (decide (p_ < (clerestoryref2_PropNames.length : Int))))) rfl ?_)
      refine un (a1 (v := (B (decide (p_ < (clerestoryref2_PropNames.length : Int))))) rfl ?_)
      refine dnil ?_
      exact hX _ (.putEq (by rw [hc6]; rfl) (.skip _ _ (.skip _ _ (.skip _ _ (.skip _ _ (.putEq (by rw [hc6]) (.refl _)) rfl) rfl) rfl) rfl))
    · refine gs rfl rfl ?_
      refine gs rfl rfl ?_
      refine gs rfl rfl ?_
      refine gs rfl rfl ?_
      refine un (a1 (v := (B false)) rfl ?_)
      refine dnil ?_
      exact hX _ (.putEq (by rw [hc6]; rfl) (.skip _ _ (.skip _ _ (.skip _ _ (.skip _ _ (.putEq (by rw [hc6]) (.refl _)) rfl) rfl) rfl) rfl))
  refine dnil ?_
  refine Sv.cond (b := ((decide (0 ≤ p_)) && (decide (p_ < (clerestoryref2_PropNames.length : Int))))) rfl (fun hc7 => ?_) (fun hc7 => ?_)
  · replace h := ifT hc7 h
    refine Sv.region ?_
    refine un (a1 rfl ?_)
    refine un (a1 rfl ?_)
    obtain ⟨x_1, hx2, h⟩ := bnd h
    refine un (a1 (v := (.c (.rop [.str x_1]))) (s_iaddr (e := eStr) (xs := clerestoryref2_PropNames) rfl rfl hx2) ?_)
    refine un (a1 (v := (S x_1)) rfl ?_)
    refine un (a1 rfl ?_)
    refine dnil ?_
    exact Sv.weak (weak_canon [] rfl (by decide) (by decide) (fun b h => absurd h (Nat.not_lt_zero _)) (.cons rfl (avAs_free rfl) (.cons rfl (avAs_free rfl) (.cons rfl (avAs_free rfl) (.cons rfl (avAs_free rfl) (.cons rfl (avAs_free rfl) .nil))))) .nil) (clerestorylaw2_PropNames_j1_ok h)
  · replace h := ifF hc7 h
    refine Sv.skip ?_
    exact Sv.weak (weak_canon [] rfl (by decide) (by decide) (fun b h => absurd h (Nat.not_lt_zero _)) (.cons rfl (avAs_free rfl) (.cons rfl (avAs_free rfl) (.cons rfl (avAs_free rfl) (.cons rfl (avAs_free rfl) (.cons rfl (avAs_free rfl) .nil))))) .nil) (clerestorylaw2_PropNames_j1_ok h)
end Go.Proofs.YtgfcmhomndofaaaBv
